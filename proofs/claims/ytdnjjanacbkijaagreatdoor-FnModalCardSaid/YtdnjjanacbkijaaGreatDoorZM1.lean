/-
  Texts joined in one file: Lib, Lib2, TrG, Harn, Open, HarnN, NumP, SplitP, HarnT, HarnT2, Rel, Terms, AreV, LabP, Dec, Src, LabB, HarnS, Cells, HarnE, OrdS, LabSp, LabSn, LabSv, LabSq, LabSw, LabI, DecQ, Tree, TreeW, Ops, Post, Fold, Value, FoldW, FoldS, OpenB, Draw, Canon, CanonW, CanonV, Forms, Vals, Eval, EvalS, StkG, Lib3, HarnW, Lib4, BlkB, Lib5, HarnL, DecL, EqEd, IdxI, R8, R8V, DrA, Long.
-/
import Derived.WalkKit
import Derived.WalkSpells
import Derived.WalkLawsBesides
import Derived.WalkSmall
import Derived.Lib.Hide
import Derived.Deep.AppendLies
import Derived.Test.YtdnjjanacbkijaaGreatDoorRows
import Derived.Deep.QuietTactic
import Derived.BigQuiet
import Derived.ProofKit
import Derived.OpenShut
import Derived.ShutString
import Derived.ChangeOld
import Derived.Below
import Derived.Deep.Slices
import Derived.Test.YtdnjjanacbkijaaGreatDoorProg
import Derived.Lib.ItoaNum
import Derived.Lib.ItoaMem
import Derived.Lib.ParseIntB
import Derived.Lib.Split
import Derived.Lib.Join
import Derived.Lib.Strings
import Derived.Deep.RegionHeld3
import Derived.Deep.RegionWith
import Derived.Laws.IdiomStrings
import Derived.Laws.Bits64b
import Derived.Deep.RegionLaw
import Derived.Deep.MidRow
import Derived.Lib.SliceRun
import Derived.Laws.StructEq
/-
  Readings of slices with footprints, their frame rules, and worlds that differ in new blocks and given old blocks alone: a library for the walks, over any program.
-/
namespace Go.Proofs.YtdnjjanacbkijaaGreatDoor
open Go.RowKit

/-- w' is w with new blocks, and with writes to the old blocks of f alone. -/
structure Upd (f : List Nat) (w w' : World) : Prop where
  os : w'.os = w.os
  tape : w'.tape = w.tape
  output : w'.output = w.output
  size : w.heap.size ≤ w'.heap.size
  block : ∀ k, k < w.heap.size → k ∉ f → w'.heap[k]? = w.heap[k]?

namespace Upd
variable {f g : List Nat} {w w1 w2 : World}
theorem refl (f : List Nat) (w : World) : Upd f w w := ⟨rfl, rfl, rfl, Nat.le_refl _, fun _ _ _ => rfl⟩
theorem trans (h : Upd f w w1) (k : Upd f w1 w2) : Upd f w w2 :=
  ⟨k.os.trans h.os, k.tape.trans h.tape, k.output.trans h.output, Nat.le_trans h.size k.size,
   fun i hi hf => (k.block i (Nat.lt_of_lt_of_le hi h.size) hf).trans (h.block i hi hf)⟩
theorem mono (h : Upd f w w1) (hs : ∀ b ∈ f, b ∈ g) : Upd g w w1 :=
  ⟨h.os, h.tape, h.output, h.size, fun k hk hf => h.block k hk (fun hm => hf (hs k hm))⟩
/-- what is written is new since w. -/
theorem fresh (h : Upd g w w1) (k : Upd f w1 w2) (hf : ∀ b ∈ f, w.heap.size ≤ b ∨ b ∈ g) : Upd g w w2 :=
  ⟨k.os.trans h.os, k.tape.trans h.tape, k.output.trans h.output, Nat.le_trans h.size k.size,
   fun i hi hg => (k.block i (Nat.lt_of_lt_of_le hi h.size) (fun hm => by rcases hf i hm with h' | h'; · omega
                                                                          · exact hg h')).trans (h.block i hi hg)⟩
theorem drew (h : Upd f w w1) : Upd f w w1.drew := ⟨h.os, h.tape, h.output, h.size, h.block⟩
theorem drewN (h : Upd f w w1) (n : Nat) : Upd f w (w1.drewN n) := by
  have e : (w1.drewN n).heap = w1.heap := by simp
  refine ⟨?_, ?_, ?_, ?_, ?_⟩
  · exact h.os
  · exact h.tape
  · exact h.output
  · exact h.size
  · exact h.block
theorem alloc (h : Upd f w w1) (o : Obj) : Upd f w (w1.alloc o) :=
  h.trans ⟨rfl, rfl, rfl, by simp, fun k hk _ => Below.heap_alloc _ _ _ (by omega)⟩
theorem setCell (h : Upd f w w1) {p : Addr} (hp : w.heap.size ≤ p.block ∨ p.block ∈ f) (u : Value) : Upd f w (w1.setCell p u) :=
  h.fresh (f := [p.block]) ⟨rfl, rfl, rfl, by simp [World.setCell], fun k hk hf => Below.heap_setCell _ _ _ _ (by simpa using hf)⟩ (by simpa using hp)
theorem grown {row : Option Nat} (h : Upd f w w1) (hg : w1.grownBy w2 row) (hr : ∀ k, row = some k → w.heap.size ≤ k ∨ k ∈ f) : Upd f w w2 :=
  h.fresh (f := row.toList) ⟨hg.os, hg.tape, hg.output, hg.size, fun k hk hf => hg.block k hk (fun e => hf (by simp [← e]))⟩
    (fun b hb => hr b (by simpa using hb))
theorem below (h : Upd [] w w1) : Below w.heap.size w w1 := ⟨h.os, h.tape, h.output, h.size, fun k hk => h.block k hk (by simp)⟩
theorem ofBelow (h : Below w.heap.size w w1) : Upd [] w w1 := ⟨h.os, h.tape, h.output, h.size, fun k hk _ => h.block k hk⟩
end Upd

/-- v is a slice of k elements of n cells each; its cells, one behind the other, are cs; the block that it lies in is fp. -/
def Flat (fp : List Nat) (w : World) (v : Value) (n k : Nat) (cs : List Value) : Prop :=
  ∃ a cap, v = .slice a k cap ∧ k ≤ cap ∧ cap ≤ maxLen ∧ cs.length = k * n ∧
    ((k = 0 ∧ fp = []) ∨ ∃ b off, a = some ⟨b, off, none⟩ ∧ fp = [b] ∧ b < w.heap.size ∧ ∀ j u, cs[j]? = some u → w.cell? ⟨b, off + j, none⟩ = some u)

theorem Flat.lt {fp : List Nat} {w : World} {v : Value} {n k : Nat} {cs : List Value} (h : Flat fp w v n k cs) : ∀ b ∈ fp, b < w.heap.size := by
  obtain ⟨a, cap, -, -, -, -, ⟨-, rfl⟩ | ⟨b, off, -, rfl, hb, -⟩⟩ := h <;> simp_all

theorem Flat.frame {fp : List Nat} {w w' : World} {v : Value} {n k : Nat} {cs : List Value} (h : Flat fp w v n k cs)
    (hs : w.heap.size ≤ w'.heap.size) (hb : ∀ b ∈ fp, w'.heap[b]? = w.heap[b]?) : Flat fp w' v n k cs := by
  obtain ⟨a, cap, rfl, h1, h2, h3, h4⟩ := h
  refine ⟨a, cap, rfl, h1, h2, h3, ?_⟩
  rcases h4 with h4 | ⟨b, off, rfl, rfl, hbl, hc⟩
  · exact Or.inl h4
  · exact Or.inr ⟨b, off, rfl, rfl, by omega, fun j u hu => by
      rw [World.cell?_of_block (w := w) (hb b (by simp))]; exact hc j u hu⟩

theorem Flat.upd {fp f : List Nat} {w w' : World} {v : Value} {n k : Nat} {cs : List Value} (h : Flat fp w v n k cs)
    (hu : Upd f w w') (hd : ∀ b ∈ fp, b ∉ f) : Flat fp w' v n k cs :=
  h.frame hu.size fun b hb => hu.block b (h.lt b hb) (hd b hb)

/-- The blocks of fp are different rows of cells, none of which is frozen. -/
def Own (fp : List Nat) (w : World) : Prop := fp.Nodup ∧ ∀ b ∈ fp, ∃ c t, w.heap[b]? = some (.cells c t (0, 0))

theorem Own.nil (w : World) : Own [] w := ⟨List.nodup_nil, by simp⟩
theorem Own.frame {fp : List Nat} {w w' : World} (h : Own fp w) (hb : ∀ b ∈ fp, w'.heap[b]? = w.heap[b]?) : Own fp w' :=
  ⟨h.1, fun b hm => by rw [hb b hm]; exact h.2 b hm⟩
theorem Own.lt {fp : List Nat} {w : World} (h : Own fp w) : ∀ b ∈ fp, b < w.heap.size := fun b hb => by
  obtain ⟨c, t, hc⟩ := h.2 b hb; exact (Array.getElem?_eq_some_iff.1 hc).1
theorem Own.upd {fp f : List Nat} {w w' : World} (h : Own fp w) (hu : Upd f w w') (hd : ∀ b ∈ fp, b ∉ f) : Own fp w' :=
  h.frame fun b hb => hu.block b (h.lt b hb) (hd b hb)
theorem Own.frozen {fp : List Nat} {w : World} (h : Own fp w) {b : Nat} (hb : b ∈ fp) (o : Nat) : w.frozen? ⟨b, o, none⟩ = false := by
  obtain ⟨c, t, hc⟩ := h.2 b hb; simp [World.frozen?, hc]
theorem Own.setCell {fp : List Nat} {w : World} (h : Own fp w) (p : Addr) (u : Value) : Own fp (w.setCell p u) :=
  ⟨h.1, fun b hb => by
    obtain ⟨c, t, hc⟩ := h.2 b hb
    by_cases e : b = p.block
    · subst e; refine ⟨if p.spot.isSome then c else c.setIfInBounds p.off u, t, ?_⟩; simp [World.setCell, Array.getElem?_modify, hc]
    · exact ⟨c, t, by rw [Below.heap_setCell _ _ _ _ e]; exact hc⟩⟩

/-- A store into a flat slice that is owned. -/
theorem Flat.set {fp : List Nat} {w : World} {b off cap n k : Nat} {cs : List Value} (h : Flat fp w (.slice (some ⟨b, off, none⟩) k cap) n k cs)
    {j : Nat} (hj : j < k * n) (u : Value) : Flat fp (w.setCell ⟨b, off + j, none⟩ u) (.slice (some ⟨b, off, none⟩) k cap) n k (cs.set j u) := by
  obtain ⟨a, cap', hv, h1, h2, h3, h4⟩ := h
  simp only [Value.slice.injEq, true_and] at hv
  obtain ⟨rfl, rfl⟩ := hv
  refine ⟨_, _, rfl, h1, h2, by simpa using h3, ?_⟩
  rcases h4 with ⟨rfl, rfl⟩ | ⟨b', off', hb', rfl, hbl, hc⟩
  · simp at hj
  · simp only [Option.some.injEq, Addr.mk.injEq, and_true] at hb'
    obtain ⟨rfl, rfl⟩ := hb'
    refine Or.inr ⟨b, off, rfl, rfl, by simpa [World.setCell] using hbl, fun i x hx => ?_⟩
    rw [List.getElem?_set] at hx
    by_cases hij : j = i
    · subst hij
      rw [if_pos rfl, if_pos (by omega)] at hx
      cases hx
      exact World.cell?_setCell_same _ _ _ (hc j cs[j] (by simp))
    · rw [if_neg hij] at hx
      rw [World.cell?_setCell_other _ _ _ _ (by simp)]
      exact hc i x hx

theorem Flat.ofOwns {w : World} {base : Nat} {e : TypeId} {size : Nat} {v : Value} {n : Nat} {xs : List Value} (h : w.ownsRow base e size v n xs) :
    ∃ fp, Flat fp w v size n xs ∧ Own fp w ∧ (∀ b ∈ fp, base ≤ b) ∧ (∀ b ∈ fp, v.ownBlock = some b) := by
  obtain ⟨hl, ⟨rfl, rfl⟩ | ⟨g, cap, cur, rfl, hg, hh, hn, hm, hc, ht⟩⟩ := h
  · exact ⟨[], ⟨none, 0, rfl, Nat.le_refl _, by simp [maxLen], hl, Or.inl ⟨rfl, rfl⟩⟩, Own.nil _, by simp, by simp⟩
  · refine ⟨[g], ⟨_, cap, rfl, hn, hm, hl, Or.inr ⟨g, 0, rfl, rfl, (Array.getElem?_eq_some_iff.1 hh).1, fun j u hu => ?_⟩⟩, ⟨by simp, by simpa using ⟨cur, e, hh⟩⟩, by simpa using hg, by simp [Value.ownBlock]⟩
    have hj : j < n * size := by rw [← hl]; exact (List.getElem?_eq_some_iff.1 hu).1
    rw [← ht, List.getElem?_take, if_pos hj] at hu
    simpa [World.cell?, hh] using hu

/-- A reading: its footprint, the world, the cells, what they read as. -/
abbrev Rp (α : Type) := List Nat → World → List Value → α → Prop

/-- A slice whose elements hold no memory: enc gives an element's n cells. -/
def slF {α : Type} (n : Nat) (enc : α → List Value) : Rp (List α) := fun fp w cs xs => ∃ v, cs = [v] ∧ Flat fp w v n xs.length (xs.flatMap enc)

/-- A slice whose elements are one cell each, and hold memory of their own. -/
def slP {α : Type} (R : Rp α) : Rp (List α) := fun fp w cs xs =>
  ∃ v us fb fps, cs = [v] ∧ Flat fb w v 1 xs.length us ∧ List.length fps = xs.length ∧ fp = fb ++ List.flatten fps ∧
    ∀ i (h : i < xs.length) u (f : List Nat), us[i]? = some u → fps[i]? = some f → R f w [u] xs[i]

/-- What holds of a reading: it is kept where its blocks are. -/
structure Kept {α : Type} (R : Rp α) : Prop where
  lt : ∀ {fp w cs x}, R fp w cs x → ∀ b ∈ fp, b < w.heap.size
  frame : ∀ {fp w w' cs x}, R fp w cs x → w.heap.size ≤ w'.heap.size → (∀ b ∈ fp, w'.heap[b]? = w.heap[b]?) → R fp w' cs x

theorem Kept.upd {α : Type} {R : Rp α} (K : Kept R) {fp f w w' cs x} (h : R fp w cs x) (hu : Upd f w w') (hd : ∀ b ∈ fp, b ∉ f) : R fp w' cs x :=
  K.frame h hu.size fun b hb => hu.block b (K.lt h b hb) (hd b hb)

theorem slF_kept {α : Type} (n : Nat) (enc : α → List Value) : Kept (slF n enc) :=
  ⟨fun ⟨_, _, h⟩ => h.lt, fun ⟨v, e, h⟩ hs hb => ⟨v, e, h.frame hs hb⟩⟩

theorem slP_kept {α : Type} {R : Rp α} (K : Kept R) : Kept (slP R) := by
  constructor
  · rintro fp w cs x ⟨v, us, fb, fps, rfl, hf, hl, rfl, hr⟩ b hb
    rcases List.mem_append.1 hb with hb | hb
    · exact hf.lt b hb
    · obtain ⟨f, hfm, hbf⟩ := List.mem_flatten.1 hb
      obtain ⟨i, hi, rfl⟩ := List.mem_iff_getElem.1 hfm
      have hus : us.length = x.length := by obtain ⟨_, _, _, _, _, h3, _⟩ := hf; simpa using h3
      exact K.lt (hr i (by omega) us[i] fps[i] (by simp) (by simp)) b hbf
  · rintro fp w w' cs x ⟨v, us, fb, fps, rfl, hf, hl, rfl, hr⟩ hs hb
    refine ⟨v, us, fb, fps, rfl, hf.frame hs (fun b h => hb b (by simp [h])), hl, rfl, fun i h u f hu hf' => ?_⟩
    refine K.frame (hr i h u f hu hf') hs fun b hbf => hb b ?_
    exact List.mem_append_right _ (List.mem_flatten.2 ⟨f, List.mem_of_getElem? hf', hbf⟩)

theorem flatMap_single {α β : Type} (f : α → β) (xs : List α) : xs.flatMap (fun x => [f x]) = xs.map f := by
  induction xs with
  | nil => rfl
  | cons a l ih => rw [List.flatMap_cons, ih]; rfl

/-- an element of a slice whose elements are one cell each and hold no memory. -/
theorem slF1_open {α : Type} {enc : α → Value} {fp : List Nat} {w : World} {v : Value} {xs : List α} (h : slF 1 (fun x => [enc x]) fp w [v] xs) :
    ∃ a cap, v = .slice a xs.length cap ∧ xs.length ≤ cap ∧ cap ≤ maxLen ∧
      ∀ i (h : i < xs.length), ∃ b off, a = some ⟨b, off, none⟩ ∧ fp = [b] ∧ b < w.heap.size ∧ w.cell? ⟨b, off + i, none⟩ = some (enc xs[i]) := by
  obtain ⟨v', hv, a, cap, rfl, h1, h2, h3, h4⟩ := h
  cases hv
  refine ⟨a, cap, rfl, h1, h2, fun i hi => ?_⟩
  rcases h4 with ⟨h0, -⟩ | ⟨b, off, rfl, rfl, hbl, hc⟩
  · omega
  · refine ⟨b, off, rfl, rfl, hbl, hc i _ ?_⟩
    rw [flatMap_single]; simp [hi]

/-- What a call makes anew reads so, and is its own. -/
def New {α : Type} (R : Rp α) (w w' : World) (v : Value) (x : α) : Prop :=
  ∃ fp, R fp w' [v] x ∧ Own fp w' ∧ ∀ b ∈ fp, w.heap.size ≤ b

theorem New.ofOwns {α : Type} {enc : α → Value} {w w' : World} {e : TypeId} {v : Value} {xs : List α}
    (h : w'.ownsRow w.heap.size e 1 v xs.length (xs.map enc)) : New (slF 1 (fun x => [enc x])) w w' v xs := by
  obtain ⟨fp, h1, h2, h3, -⟩ := Flat.ofOwns h
  exact ⟨fp, ⟨v, rfl, by rw [flatMap_single]; exact h1⟩, h2, h3⟩

theorem set_fill {α β : Type} (f : α → β) (z : β) (xs : List α) (k : Nat) (hk : k < xs.length) :
    ((xs.take k).map f ++ List.replicate (xs.length - k) z).set k (f xs[k]) = (xs.take (k + 1)).map f ++ List.replicate (xs.length - (k + 1)) z := by
  have hl : ((xs.take k).map f).length = k := by simp; omega
  rw [List.set_append_right _ _ (by omega), hl, Nat.sub_self, show xs.length - k = (xs.length - (k + 1)) + 1 from by omega, List.replicate_succ, List.set_cons_zero,
    List.take_succ_eq_append_getElem hk, List.map_append]
  simp

theorem made_one (z : Value) (hz : z.cells = #[z]) (n : Nat) : (madeCells z.cells (n * 1)).toList = List.replicate n z := by
  rw [hz, Nat.mul_one, toList_madeCells_one]

/-- the numbers from k on, n of them. -/
def upFrom (k : Int) : Nat → List Int
  | 0 => []
  | n + 1 => k :: upFrom (k + 1) n

@[simp] theorem upFrom_length (k : Int) (n : Nat) : (upFrom k n).length = n := by
  induction n generalizing k with
  | zero => rfl
  | succ n ih => simp [upFrom, ih]

theorem upFrom_get (k : Int) (n i : Nat) (h : i < n) : (upFrom k n)[i]? = some (k + i) := by
  induction n generalizing k i with
  | zero => omega
  | succ n ih =>
    cases i with
    | zero => simp [upFrom]
    | succ i => simp only [upFrom, List.getElem?_cons_succ]; rw [ih _ _ (by omega)]; congr 1; omega

theorem drewN_add (w : World) (a b : Nat) : (w.drewN a).drewN b = w.drewN (a + b) := by
  simp [World.drewN, Nat.add_assoc]

theorem Kept.drewN {α : Type} {R : Rp α} (K : Kept R) {fp w cs x} (h : R fp w cs x) (n : Nat) : R fp (w.drewN n) cs x :=
  K.frame h (Nat.le_refl _) (fun _ _ => rfl)

theorem Kept.new {α : Type} {R : Rp α} (K : Kept R) {w w1 w2 : World} {v : Value} {x : α} {f : List Nat} (h : New R w w1 v x) (hu : Upd f w1 w2) (hf : ∀ b ∈ f, b < w.heap.size) : New R w w2 v x := by
  obtain ⟨fp, h1, h2, h3⟩ := h
  have hd : ∀ b ∈ fp, b ∉ f := fun b hb hm => by have := hf b hm; have := h3 b hb; omega
  exact ⟨fp, K.upd h1 hu hd, h2.upd hu hd, h3⟩

theorem slP_open {α : Type} {R : Rp α} {fp : List Nat} {w : World} {v : Value} {xs : List α} (h : slP R fp w [v] xs) :
    ∃ a cap, v = .slice a xs.length cap ∧ xs.length ≤ cap ∧ cap ≤ maxLen ∧
      ∀ i (h : i < xs.length), ∃ b off u f, a = some ⟨b, off, none⟩ ∧ b ∈ fp ∧ b < w.heap.size ∧ w.cell? ⟨b, off + i, none⟩ = some u ∧ (∀ c ∈ f, c ∈ fp) ∧ R f w [u] xs[i] := by
  obtain ⟨v', us, fb, fps, hv, ⟨a, cap, rfl, h1, h2, h3, h4⟩, hl, rfl, hr⟩ := h
  cases hv
  refine ⟨a, cap, rfl, h1, h2, fun i hi => ?_⟩
  rcases h4 with ⟨h0, -⟩ | ⟨b, off, rfl, rfl, hbl, hc⟩
  · omega
  · have hu : us[i]? = some us[i] := by simp
    have hf : fps[i]? = some fps[i] := by simp
    exact ⟨b, off, us[i], fps[i], rfl, by simp, hbl, hc i _ hu, fun c hc => List.mem_append_right _ (List.mem_flatten.2 ⟨_, List.mem_of_getElem? hf, hc⟩), hr i hi _ _ hu hf⟩

/-- Elements of one cell each, with memory of their own, from block base on and apart from the blocks ob. -/
def Rows {α : Type} (R : Rp α) (base : Nat) (ob : List Nat) (w : World) (us : List Value) (xs : List α) : Prop :=
  ∃ fps : List (List Nat), fps.length = xs.length ∧ us.length = xs.length ∧ Own fps.flatten w ∧ (∀ b ∈ fps.flatten, base ≤ b ∧ b ∉ ob) ∧
    ∀ i (h : i < xs.length) u (f : List Nat), us[i]? = some u → fps[i]? = some f → R f w [u] xs[i]

namespace Rows
variable {α : Type} {R : Rp α} {base : Nat} {ob : List Nat} {w w1 : World} {us : List Value} {xs : List α}

theorem nil (R : Rp α) (base : Nat) (ob : List Nat) (w : World) : Rows R base ob w [] [] := ⟨[], rfl, rfl, Own.nil w, by simp, by simp⟩

theorem length (h : Rows R base ob w us xs) : us.length = xs.length := by obtain ⟨_, _, h, _⟩ := h; exact h

theorem upd (K : Kept R) (h : Rows R base ob w us xs) {f : List Nat} (hu : Upd f w w1) (hf : ∀ b ∈ f, b ∈ ob ∨ b < base) : Rows R base ob w1 us xs := by
  obtain ⟨fps, h1, h2, h3, h4, h5⟩ := h
  have hd : ∀ b ∈ fps.flatten, b ∉ f := fun b hb hm => by
    rcases hf b hm with h | h
    · exact (h4 b hb).2 h
    · have := (h4 b hb).1; omega
  refine ⟨fps, h1, h2, h3.upd hu hd, h4, fun i hi u f' hu' hf' => K.upd (h5 i hi u f' hu' hf') hu fun b hb => hd b (List.mem_flatten.2 ⟨_, List.mem_of_getElem? hf', hb⟩)⟩

theorem ob' (h : Rows R base ob w us xs) {ob2 : List Nat} (hb : ∀ b ∈ ob2, b ∈ ob ∨ b < base ∨ w.heap.size ≤ b) : Rows R base ob2 w us xs := by
  obtain ⟨fps, h1, h2, h3, h4, h5⟩ := h
  refine ⟨fps, h1, h2, h3, fun b hb' => ⟨(h4 b hb').1, fun hm => ?_⟩, h5⟩
  rcases hb b hm with h | h | h
  · exact (h4 b hb').2 h
  · have := (h4 b hb').1; omega
  · have := h3.lt b hb'; omega

theorem push (K : Kept R) (h : Rows R base ob w us xs) {u : Value} {x : α} (hu : Upd [] w w1) (hn : New R w w1 u x) (hb : base ≤ w.heap.size) (hob : ∀ b ∈ ob, b < w.heap.size) :
    Rows R base ob w1 (us ++ [u]) (xs ++ [x]) := by
  obtain ⟨fps, h1, h2, h3, h4, h5⟩ := h.upd K hu (by simp)
  obtain ⟨fps', h1', h2', h3', h4', h5'⟩ := h
  obtain ⟨fp, g1, g2, g3⟩ := hn
  have hlt : ∀ b ∈ fps'.flatten, b < w.heap.size := h3'.lt
  refine ⟨fps' ++ [fp], by simp [h1'], by simp [h2], ⟨?_, ?_⟩, ?_, ?_⟩
  · rw [List.flatten_append, List.nodup_append]
    refine ⟨h3'.1, by simpa using g2.1, fun a ha b hb' e => ?_⟩
    subst e
    have := hlt a ha
    have := g3 a (by simpa using hb')
    omega
  · intro b hb'
    rw [List.flatten_append] at hb'
    rcases List.mem_append.1 hb' with hb' | hb'
    · exact (h3'.upd hu (by simp)).2 b hb'
    · exact g2.2 b (by simpa using hb')
  · intro b hb'
    rw [List.flatten_append] at hb'
    rcases List.mem_append.1 hb' with hb' | hb'
    · exact h4' b hb'
    · have := g3 b (by simpa using hb')
      exact ⟨by omega, fun hm => by have := hob b hm; omega⟩
  · intro i hi u' f' hu' hf'
    by_cases e : i < xs.length
    · rw [List.getElem?_append_left (by omega)] at hu' hf'
      rw [List.getElem_append_left e]
      exact K.upd (h5' i e u' f' hu' hf') hu (by simp)
    · have ei : i = xs.length := by simp at hi; omega
      subst ei
      rw [List.getElem?_append_right (by omega)] at hu' hf'
      rw [h2, Nat.sub_self] at hu'
      rw [h1', Nat.sub_self] at hf'
      simp at hu' hf'
      subst hu' hf'
      simpa using g1

theorem new (h : Rows R base ob w us xs) {w0 : World} {e : TypeId} {v : Value} (ho : w.ownsRow w0.heap.size e 1 v xs.length us) (hob : ∀ b, v.ownBlock = some b → b ∈ ob) (hb : w0.heap.size ≤ base) :
    New (slP R) w0 w v xs := by
  obtain ⟨fps, h1, h2, h3, h4, h5⟩ := h
  obtain ⟨fb, g1, g2, g3, g4⟩ := Flat.ofOwns ho
  refine ⟨fb ++ fps.flatten, ⟨v, us, fb, fps, rfl, g1, h1, rfl, h5⟩, ⟨?_, ?_⟩, ?_⟩
  · rw [List.nodup_append]
    refine ⟨g2.1, h3.1, fun a ha b hb' e => ?_⟩
    subst e
    exact (h4 a hb').2 (hob a (g4 a ha))
  · intro b hb'
    rcases List.mem_append.1 hb' with hb' | hb'
    · exact g2.2 b hb'
    · exact h3.2 b hb'
  · intro b hb'
    rcases List.mem_append.1 hb' with hb' | hb'
    · exact g3 b hb'
    · have := (h4 b hb').1; omega
end Rows

section
variable {P : Program} (w : World)

/-- append, with where the result lies: where it was, or in a new block. -/
theorem run_append_tight (base : Nat) (t ty e : TypeId) (i : TypeInfo) (z : Value) (size bytes : Nat) (ht : P.underlying t = some (.slice e)) (hi : P.info? e = some i) (hz : i.zero = some z)
    (hsize : i.size = size) (hby : i.bytes = bytes) (hzs : z.cells.size = size) (hsz : 0 < size)
    (v : Value) (n : Nat) (xs : List Value) (hown : w.ownsRow base e size v n xs)
    (a : Addr) (m c : Nat) (news : List Value) (hl : news.length = m * size) (hnews : ∀ j u, news[j]? = some u → w.cell? (a.add j) = some u) (h1 : ∀ u ∈ news, u.oneCell' = true)
    (h63 : n + m ≤ maxLen) (hbytes : (n + m) * bytes ≤ 140737488355328) (hbase : base ≤ w.heap.size) :
    ∃ v' w', (Builtin.append_ #[t, t] ty #[v, .slice (some a) m c]).run P w = .ok v' w' ∧ w'.ownsRow base e size v' (n + m) (xs ++ news) ∧ w.grownBy w' v.ownBlock ∧
      (∀ b, v'.ownBlock = some b → v.ownBlock = some b ∨ w.heap.size ≤ b) := by
  obtain ⟨v', w', hr, h2, h3, -⟩ := run_append_own (P := P) w base t ty e i z size bytes ht hi hz hsize hby hzs hsz v n xs hown a m c news hl hnews h1 h63 hbytes hbase
  refine ⟨v', w', hr, h2, h3, fun b hb => ?_⟩
  subst hsize
  subst hby
  have hsmall : n + m ≤ 9223372036854775807 := by simp only [maxLen] at h63; omega
  rcases hown.2 with ⟨rfl, rfl⟩ | ⟨g, cap, cur, rfl, hbg, hg, hnc, hcm, hcs, htake⟩
  · have hx : xs = [] := List.eq_nil_of_length_eq_zero (by simpa using hown.1)
    subst hx
    obtain ⟨v2, w2, hr2, h22, -, -⟩ := run_append_own (P := P) w w.heap.size t ty e i z _ _ ht hi hz rfl rfl hzs hsz _ 0 [] (World.ownsRow_nil w _ e i.size) a m c news hl hnews h1 h63 hbytes (Nat.le_refl _)
    rw [hr] at hr2
    cases hr2
    rcases h22.2 with ⟨rfl, -⟩ | ⟨g, cap, cur, rfl, hbg, -⟩
    · simp [Value.ownBlock] at hb
    · simp [Value.ownBlock] at hb; omega
  · by_cases hroom : n + m ≤ cap
    · have hfit : n * i.size + news.length ≤ cur.size := by rw [hl, hcs, ← Nat.add_mul]; exact Nat.mul_le_mul_right _ hroom
      have hr2 := run_append_room (P := P) w t ty e i ht hi g n cap cur hg a m c news hl hnews h1 hroom hfit
      rw [hr] at hr2
      cases hr2
      exact Or.inl hb
    · have holds : ∀ j u, xs[j]? = some u → w.cell? ((⟨g, 0, none⟩ : Addr).add j) = some u := hown.cells (g := g) rfl
      have hr2 := run_append_grow (P := P) w t ty e i z ht hi hz ⟨g, 0, none⟩ n cap xs hown.1 holds a m c news hl hnews (by omega) (by omega) (growslice_fits (by omega) hbytes)
      rw [hr] at hr2
      cases hr2
      simp [Value.ownBlock] at hb; omega

theorem wpList_append_tight {ops : Array Oper} {rest : List Oper} {o : Oper} {a : Act} {Q : Exit → Act → World → Prop} (hgd : o.guard = none) (s x : Operand) (t : TypeId)
    (ho : o.op = .call { callee := .builtin .append, args := #[s, x], argTypes := #[t, t] })
    (base : Nat) (e : TypeId) (i : TypeInfo) (z : Value) (size bytes : Nat) (ht : P.underlying t = some (.slice e)) (hi : P.info? e = some i) (hz : i.zero = some z)
    (hsize : i.size = size) (hby : i.bytes = bytes) (hzs : z.cells.size = size) (hsz : 0 < size)
    (v : Value) (n : Nat) (xs : List Value) (hs : a.eval s = v) (hown : w.ownsRow base e size v n xs)
    (ad : Addr) (m c : Nat) (news : List Value) (hx : a.eval x = .slice (some ad) m c) (hl : news.length = m * size) (hnews : ∀ j u, news[j]? = some u → w.cell? (ad.add j) = some u) (h1 : ∀ u ∈ news, u.oneCell' = true)
    (h63 : n + m ≤ maxLen) (hbytes : (n + m) * bytes ≤ 140737488355328) (hbase : base ≤ w.heap.size)
    (h : ∀ v' w', w'.ownsRow base e size v' (n + m) (xs ++ news) → w.grownBy w' v.ownBlock → (∀ b, v'.ownBlock = some b → v.ownBlock = some b ∨ w.heap.size ≤ b) → wpList P ops Q rest (a.put o.dst v') w') : wpList P ops Q (o :: rest) a w := by
  refine wpList_plain hgd fun _ hK => ?_
  obtain ⟨v', w', hr, h2, h3, h4⟩ := run_append_tight (P := P) w base t o.type e i z size bytes ht hi hz hsize hby hzs hsz v n xs hown ad m c news hl hnews h1 h63 hbytes hbase
  unfold Oper.wp execOp
  simp only [ho, resolve, invoke, builtin, Sem.run_bind, Sem.run_pure, Result.andThen_ok, List.map_toArray, List.map_cons, List.map_nil, hs, hx, hr]
  exact hK _ _ (h v' w' h2 h3 h4)
end

theorem New.form {α : Type} {enc : α → List Value} {n : Nat} {w w' : World} {v : Value} {x : List α} (h : New (slF n enc) w w' v x) : ∃ a cap, v = .slice a x.length cap := by
  obtain ⟨fp, ⟨v', hv, a, cap, rfl, -⟩, -⟩ := h
  cases hv; exact ⟨_, _, rfl⟩
/-- A slice of one-cell elements with memory of their own that a call collects by append: e is the element's type. -/
def Acc {α : Type} (R : Rp α) (w0 : World) (e : TypeId) (w : World) (v : Value) (xs : List α) : Prop :=
  ∃ us, w.ownsRow w0.heap.size e 1 v xs.length us ∧ Rows R w0.heap.size v.ownBlock.toList w us xs

namespace Acc
variable {α : Type} {R : Rp α} {w0 w w1 w2 : World} {e : TypeId} {v : Value} {xs : List α}

theorem nil (R : Rp α) (w0 : World) (e : TypeId) (w : World) : Acc R w0 e w (.slice none 0 0) [] := ⟨[], World.ownsRow_nil _ _ _ _, Rows.nil _ _ _ _⟩

theorem upd (K : Kept R) (h : Acc R w0 e w v xs) (hu : Upd [] w w1) : Acc R w0 e w1 v xs := by
  obtain ⟨us, h1, h2⟩ := h
  exact ⟨us, h1.kept (row := none) ⟨hu.os, hu.tape, hu.output, hu.size, fun k hk _ => hu.block k hk (by simp)⟩ (by cases v.ownBlock <;> simp), h2.upd K hu (by simp)⟩

theorem new (h : Acc R w0 e w v xs) : New (slP R) w0 w v xs := by
  obtain ⟨us, h1, h2⟩ := h
  exact h2.new h1 (fun b hb => by simp [hb]) (Nat.le_refl _)

/-- Behind an append of one element u, made between w and w1, boxed in a new block: what the append's law leaves. -/
theorem push (K : Kept R) {us : List Value} (hown : w.ownsRow w0.heap.size e 1 v xs.length us) (hrows : Rows R w0.heap.size v.ownBlock.toList w us xs) (hs : w0.heap.size ≤ w.heap.size) {u : Value} {x : α} (hu : Upd [] w w1) (hn : New R w w1 u x) (o : Obj) {v2 : Value}
    (h2 : w2.ownsRow w0.heap.size e 1 v2 (xs.length + 1) (us ++ [u])) (hg : (w1.alloc o).grownBy w2 v.ownBlock)
    (ht : ∀ b, v2.ownBlock = some b → v.ownBlock = some b ∨ (w1.alloc o).heap.size ≤ b) : Acc R w0 e w2 v2 (xs ++ [x]) := by
  refine ⟨us ++ [u], by simpa using h2, ?_⟩
  have hob : ∀ b ∈ v.ownBlock.toList, b < w.heap.size := fun b hb => (hown.lt b (by simpa using hb)).2
  have hr1 := hrows.push K hu hn hs hob
  have hu2 : Upd [] w1 (w1.alloc o) := (Upd.refl _ _).alloc o
  have hr2 := hr1.upd K hu2 (by simp)
  have hu3 : Upd v.ownBlock.toList (w1.alloc o) w2 := (Upd.refl _ _).grown hg (fun k hk => Or.inr (by simp [hk]))
  have hr3 := Rows.ob' hr2 (ob2 := v.ownBlock.toList ++ v2.ownBlock.toList) (by
    intro b hb
    rcases List.mem_append.1 hb with hb | hb
    · exact Or.inl hb
    · rcases ht b (by simpa using hb) with h | h
      · exact Or.inl (by simp [h])
      · exact Or.inr (Or.inr h))
  have hr4 := hr3.upd K hu3 (fun b hb => Or.inl (List.mem_append_left _ hb))
  exact hr4.ob' (fun b hb => Or.inl (List.mem_append_right _ hb))
end Acc

theorem new_lit {α : Type} {enc : α → Value} (w : World) (e : TypeId) (xs : List α) (hl : xs.length ≤ maxLen) :
    New (slF 1 (fun x => [enc x])) w (w.alloc (.cells (xs.map enc).toArray e)) (.slice (some ⟨w.heap.size, 0, none⟩) xs.length xs.length) xs :=
  New.ofOwns (e := e) (by simpa using World.ownsRow_lit (base := w.heap.size) (e := e) (size := 1) w (xs.map enc).toArray xs.length (Nat.le_refl _) hl (by simp))

theorem New.nilF {α : Type} (n : Nat) (enc : α → List Value) (w w' : World) : New (slF n enc) w w' (.slice none 0 0) [] :=
  ⟨[], ⟨_, rfl, none, 0, rfl, Nat.le_refl _, by simp [maxLen], by simp, Or.inl ⟨rfl, rfl⟩⟩, Own.nil _, by simp⟩
theorem Kept.drew {α : Type} {R : Rp α} (K : Kept R) {fp w cs x} (h : R fp w cs x) : R fp w.drew cs x := K.frame h (Nat.le_refl _) (fun _ _ => rfl)
theorem Own.drew {fp : List Nat} {w : World} (h : Own fp w) : Own fp w.drew := h

/-- One element of an owned slice of one-cell elements is read, or written. -/
theorem slF1_cell {α : Type} {enc : α → Value} {fp : List Nat} {w : World} {v : Value} {xs : List α} (h : slF 1 (fun x => [enc x]) fp w [v] xs) (j : Nat) (hj : j < xs.length) :
    ∃ b off cap, v = .slice (some ⟨b, off, none⟩) xs.length cap ∧ xs.length ≤ cap ∧ cap ≤ maxLen ∧ fp = [b] ∧ b < w.heap.size ∧ w.cell? ⟨b, off + j, none⟩ = some (enc xs[j]) ∧
      ∀ x, slF 1 (fun x => [enc x]) fp (w.setCell ⟨b, off + j, none⟩ (enc x)) [v] (xs.set j x) := by
  obtain ⟨a, cap, rfl, h1, h2, hc⟩ := slF1_open h
  obtain ⟨b, off, rfl, rfl, hb, hcell⟩ := hc j hj
  refine ⟨b, off, cap, rfl, h1, h2, rfl, hb, hcell, fun x => ⟨_, rfl, ?_⟩⟩
  obtain ⟨v', hv, hF⟩ := h
  cases hv
  have := hF.set (j := j) (by omega) (enc x)
  rw [flatMap_single] at this ⊢
  rw [← List.map_set] at this
  simpa using this

theorem Upd.keep {w w1 : World} {p : Addr} {v : Value} (hu : Upd [] w w1) (h : w.cell? p = some v) : w1.cell? p = some v :=
  (hu.below.cell (World.block_lt_of_cell? w p h)).trans h

theorem Acc.other {α : Type} {R : Rp α} (K : Kept R) {w0 w w1 : World} {e : TypeId} {v : Value} {xs : List α} (h : Acc R w0 e w v xs) {b : Nat} (hu : Upd [b] w w1) (hb : b < w0.heap.size) : Acc R w0 e w1 v xs := by
  obtain ⟨us, h1, h2⟩ := h
  refine ⟨us, h1.kept (row := some b) ⟨hu.os, hu.tape, hu.output, hu.size, fun k hk hne => hu.block k hk (by simpa using hne)⟩ ?_, h2.upd K hu (by simp; omega)⟩
  cases hv : v.ownBlock with
  | none => exact Or.inl rfl
  | some g =>
    right
    have := (h1.lt g hv).1
    intro e; cases e; omega

theorem ownsRow_form {w : World} {base : Nat} {e : TypeId} {size : Nat} {v : Value} {n : Nat} {xs : List Value} (h : w.ownsRow base e size v n xs) : ∃ a c, v = .slice a n c := by
  rcases h.2 with ⟨rfl, rfl⟩ | ⟨g, cap, cur, rfl, -⟩
  · exact ⟨_, _, rfl⟩
  · exact ⟨_, _, rfl⟩

theorem ownsRow_upd {w w1 : World} {base : Nat} {e : TypeId} {size : Nat} {v : Value} {n : Nat} {xs : List Value} (h : w.ownsRow base e size v n xs) (hu : Upd [] w w1) : w1.ownsRow base e size v n xs :=
  h.kept (row := none) ⟨hu.os, hu.tape, hu.output, hu.size, fun k hk _ => hu.block k hk (by simp)⟩ (by cases v.ownBlock <;> simp)

theorem New.mono {α : Type} {R : Rp α} {w0 w w' : World} {v : Value} {x : α} (h : New R w w' v x) (hs : w0.heap.size ≤ w.heap.size) : New R w0 w' v x := by
  obtain ⟨fp, h1, h2, h3⟩ := h
  exact ⟨fp, h1, h2, fun b hb => Nat.le_trans hs (h3 b hb)⟩

end Go.Proofs.YtdnjjanacbkijaaGreatDoor

/-
  More of the library: parts of slices, append behind a full slice expression, rows of a stack that is cut.
-/
namespace Go.Proofs.YtdnjjanacbkijaaGreatDoor
open Go.RowKit

theorem addr_add (b off j : Nat) : (⟨b, off, none⟩ : Addr).add j = ⟨b, off + j, none⟩ := by simp only [Addr.add]; split <;> simp_all

theorem slP_nilv {α : Type} (R : Rp α) (w : World) : slP R [] w [.slice none 0 0] [] := ⟨_, [], [], [], rfl, flatNil w 1, rfl, rfl, by simp⟩
where flatNil (w : World) (n : Nat) : Flat [] w (.slice none 0 0) n 0 [] := ⟨none, 0, rfl, Nat.le_refl _, by simp [maxLen], by simp, Or.inl ⟨rfl, rfl⟩⟩

section
variable {P : Program} (w : World)

end

theorem ownsRow_take {w : World} {base : Nat} {e : TypeId} {size g n cap : Nat} {xs : List Value} (h : w.ownsRow base e size (.slice (some ⟨g, 0, none⟩) n cap) n xs) (m : Nat) (hm : m ≤ n) :
    w.ownsRow base e size (.slice (some ⟨g, 0, none⟩) m cap) m (xs.take (m * size)) := by
  have hle : m * size ≤ n * size := Nat.mul_le_mul_right _ hm
  refine ⟨by rw [List.length_take, h.1]; omega, ?_⟩
  rcases h.2 with ⟨h0, -⟩ | ⟨g', cap', cur, hv, h1, h2, h3, h4, h5, h6⟩
  · cases h0
  · cases hv
    exact Or.inr ⟨g, cap, cur, rfl, h1, h2, by omega, h4, h5, by rw [← h6, List.take_take, Nat.min_eq_left hle]⟩

theorem Rows.take {α : Type} {R : Rp α} {base : Nat} {ob : List Nat} {w : World} {us : List Value} {xs : List α} (h : Rows R base ob w us xs) (m : Nat) : Rows R base ob w (us.take m) (xs.take m) := by
  obtain ⟨fps, h1, h2, h3, h4, h5⟩ := h
  have hs : (fps.take m).flatten.Sublist fps.flatten := by
    conv => rhs; rw [← List.take_append_drop m fps, List.flatten_append]
    exact List.sublist_append_left _ _
  refine ⟨fps.take m, by simp [h1], by simp [h2], ⟨h3.1.sublist hs, fun b hb => h3.2 b (hs.subset hb)⟩, fun b hb => h4 b (hs.subset hb), fun i hi u f hu hf => ?_⟩
  simp at hi
  rw [List.getElem?_take, if_pos (by omega)] at hu hf
  simpa using h5 i (by omega) u f hu hf

theorem Acc.take {α : Type} {R : Rp α} {w0 w : World} {e : TypeId} {g n cap : Nat} {xs : List α} (h : Acc R w0 e w (.slice (some ⟨g, 0, none⟩) n cap) xs) (m : Nat) (hm : m ≤ xs.length) :
    n = xs.length ∧ Acc R w0 e w (.slice (some ⟨g, 0, none⟩) m cap) (xs.take m) := by
  obtain ⟨us, h1, h2⟩ := h
  have hn : n = xs.length := by
    rcases h1.2 with ⟨h0, -⟩ | ⟨g', cap', cur, hv, -⟩
    · cases h0
    · cases hv; rfl
  subst hn
  refine ⟨rfl, us.take m, ?_, ?_⟩
  · have := ownsRow_take h1 m hm
    rw [Nat.mul_one] at this
    rw [List.length_take, Nat.min_eq_left hm]; exact this
  · simpa [Value.ownBlock] using h2.take m


/-- a slice that is not empty, as the source of an append. -/
theorem slF_src {α : Type} {n : Nat} {enc : α → List Value} {fp : List Nat} {w : World} {v : Value} {xs : List α} (h : slF n enc fp w [v] xs) (h0 : 0 < xs.length) :
    ∃ b off cap, v = .slice (some ⟨b, off, none⟩) xs.length cap ∧ xs.length ≤ cap ∧ cap ≤ maxLen ∧ (xs.flatMap enc).length = xs.length * n ∧ ∀ j u, (xs.flatMap enc)[j]? = some u → w.cell? ((⟨b, off, none⟩ : Addr).add j) = some u := by
  obtain ⟨v', hv, a, cap, rfl, h1, h2, h3, h4⟩ := h
  cases hv
  rcases h4 with ⟨h0', -⟩ | ⟨b, off, rfl, -, -, hc⟩
  · omega
  · exact ⟨b, off, cap, rfl, h1, h2, h3, fun j u hu => by rw [addr_add]; exact hc j u hu⟩

theorem Acc.cap {α : Type} {R : Rp α} {w0 w : World} {e : TypeId} {g n cap : Nat} {xs : List α} (h : Acc R w0 e w (.slice (some ⟨g, 0, none⟩) n cap) xs) :
    n = xs.length ∧ n ≤ cap ∧ cap ≤ maxLen := by
  obtain ⟨us, h1, h2⟩ := h
  generalize hx : xs.length = m at h1
  rcases h1.2 with ⟨h0, -⟩ | ⟨g', cap', cur, hv, -, -, h3, h4, -⟩
  · cases h0
  · cases hv; exact ⟨rfl, h3, h4⟩


/-- A slice of one-cell elements that a call collects by append; the elements' memory may be older, its blocks are of G. -/
def Got {α : Type} (R : Rp α) (base : Nat) (G : Nat → Prop) (e : TypeId) (w : World) (v : Value) (xs : List α) : Prop :=
  ∃ us fps, w.ownsRow base e 1 v xs.length us ∧ List.length fps = xs.length ∧ (∀ b ∈ List.flatten fps, v.ownBlock ≠ some b ∧ G b) ∧
    ∀ i (h : i < xs.length) u (f : List Nat), us[i]? = some u → fps[i]? = some f → R f w [u] xs[i]

namespace Got
variable {α : Type} {R : Rp α} {base : Nat} {G : Nat → Prop} {e : TypeId} {w w1 w2 : World} {v : Value} {xs : List α}

theorem nil (R : Rp α) (base : Nat) (G : Nat → Prop) (e : TypeId) (w : World) : Got R base G e w (.slice none 0 0) [] :=
  ⟨[], [], World.ownsRow_nil _ _ _ _, rfl, by simp, by simp⟩

theorem own (h : Got R base G e w v xs) : ∃ us, w.ownsRow base e 1 v xs.length us := by obtain ⟨us, _, h, _⟩ := h; exact ⟨us, h⟩

theorem upd (K : Kept R) (h : Got R base G e w v xs) {f : List Nat} (hu : Upd f w w1) (hf : ∀ b ∈ f, b < base ∧ ¬ G b) : Got R base G e w1 v xs := by
  obtain ⟨us, fps, h1, h2, h3, h4⟩ := h
  refine ⟨us, fps, ?_, h2, h3, fun i hi u g hu' hg => K.upd (h4 i hi u g hu' hg) hu fun b hb hm => (hf b hm).2 (h3 b (List.mem_flatten.2 ⟨_, List.mem_of_getElem? hg, hb⟩)).2⟩
  obtain ⟨g1, g2⟩ := h1
  refine ⟨g1, ?_⟩
  rcases g2 with g2 | ⟨g, cap, cur, hv, hb, hh, q1, q2, q3, q4⟩
  · exact Or.inl g2
  · refine Or.inr ⟨g, cap, cur, hv, hb, ?_, q1, q2, q3, q4⟩
    rw [hu.block g (Array.getElem?_eq_some_iff.1 hh).1 (fun hm => by have := (hf g hm).1; omega)]; exact hh

theorem slP (h : Got R base G e w v xs) : ∃ fp, slP R fp w [v] xs ∧ ∀ b ∈ fp, base ≤ b ∨ G b := by
  obtain ⟨us, fps, h1, h2, h3, h4⟩ := h
  obtain ⟨fb, g1, g2, g3, g4⟩ := Flat.ofOwns h1
  refine ⟨fb ++ fps.flatten, ⟨v, us, fb, fps, rfl, g1, h2, rfl, h4⟩, fun b hb => ?_⟩
  rcases List.mem_append.1 hb with hb | hb
  · exact Or.inl (g3 b hb)
  · exact Or.inr (h3 b hb).2

/-- behind an append of one element u, boxed in a new block. -/
theorem push (K : Kept R) (h : Got R base G e w v xs) {us : List Value} (hus : w.ownsRow base e 1 v xs.length us) {u : Value} {x : α} {g : List Nat} (hx : R g w [u] x) (hg : ∀ b ∈ g, v.ownBlock ≠ some b ∧ G b) (o : Obj) {v2 : Value}
    (h2 : w2.ownsRow base e 1 v2 (xs.length + 1) (us ++ [u])) (hgr : (w.alloc o).grownBy w2 v.ownBlock)
    (ht : ∀ b, v2.ownBlock = some b → v.ownBlock = some b ∨ (w.alloc o).heap.size ≤ b) : Got R base G e w2 v2 (xs ++ [x]) := by
  obtain ⟨us', fps, h1, q2, q3, q4⟩ := h
  have hu3 : Upd v.ownBlock.toList w w2 := ((Upd.refl _ _).alloc o).grown hgr (fun k hk => Or.inr (by simp [hk]))
  have hsame : us' = us := by
    rcases h1.2 with ⟨hv, h0⟩ | ⟨b, cap, cur, hv, hb, hh, r1, r2, r3, r4⟩
    · have e1 : us' = [] := List.eq_nil_of_length_eq_zero (by have := h1.1; rw [h0] at this; simpa using this)
      have e2 : us = [] := List.eq_nil_of_length_eq_zero (by have := hus.1; rw [h0] at this; simpa using this)
      rw [e1, e2]
    · subst hv
      rcases hus.2 with ⟨hv', _⟩ | ⟨b', cap', cur', hv', hb', hh', r1', r2', r3', r4'⟩
      · cases hv'
      · simp only [Value.slice.injEq, Option.some.injEq, Addr.mk.injEq, and_true] at hv'
        obtain ⟨rfl, _, rfl⟩ := hv'
        rw [hh] at hh'
        cases hh'
        rw [← r4, ← r4']
  subst hsame
  have hul : us'.length = xs.length := by rw [h1.1, Nat.mul_one]
  have hlt : ∀ b ∈ fps.flatten, b < w.heap.size := by
    intro b hb
    obtain ⟨f, hf, hbf⟩ := List.mem_flatten.1 hb
    obtain ⟨i, hi, rfl⟩ := List.mem_iff_getElem.1 hf
    exact K.lt (q4 i (by omega) us'[i] fps[i] (by simp) (by simp)) b hbf
  have hnot : ∀ b, v.ownBlock ≠ some b → b < w.heap.size → v2.ownBlock ≠ some b := by
    intro b hb hl he
    rcases ht b he with h | h
    · exact hb h
    · simp at h; omega
  refine ⟨us' ++ [u], fps ++ [g], by simpa using h2, by simp [q2], ?_, ?_⟩
  · intro b hb
    rw [List.flatten_append] at hb
    rcases List.mem_append.1 hb with hb | hb
    · exact ⟨hnot b (q3 b hb).1 (hlt b hb), (q3 b hb).2⟩
    · have hb' : b ∈ g := by simpa using hb
      exact ⟨hnot b (hg b hb').1 (K.lt hx b hb'), (hg b hb').2⟩
  · intro i hi u' f hu' hf'
    by_cases hlt' : i < xs.length
    · rw [List.getElem?_append_left (by omega)] at hu' hf'
      rw [List.getElem_append_left hlt']
      exact K.upd (q4 i hlt' u' f hu' hf') hu3 (fun b hb hm => (q3 b (List.mem_flatten.2 ⟨_, List.mem_of_getElem? hf', hb⟩)).1 (by simpa using hm))
    · have ei : i = xs.length := by simp at hi; omega
      subst ei
      rw [List.getElem?_append_right (by omega)] at hu' hf'
      rw [hul, Nat.sub_self] at hu'
      rw [q2, Nat.sub_self] at hf'
      simp at hu' hf'
      subst hu' hf'
      simpa using K.upd hx hu3 (fun b hb hm => (hg b hb).1 (by simpa using hm))
end Got

theorem own_new (w : World) (cs : Array Value) (T : TypeId) : Own [w.heap.size] (w.alloc (.cells cs T)) := by
  refine ⟨by simp, fun b hb => ?_⟩
  obtain rfl : b = w.heap.size := by simpa using hb
  exact ⟨_, _, heap_alloc_new w _⟩

theorem cell_new (w : World) (cs : Array Value) (T : TypeId) (B : Nat) (hB : w.heap.size = B) (j : Nat) (u : Value) (h : cs[j]? = some u) : (w.alloc (.cells cs T)).cell? ⟨B, j, none⟩ = some u := by
  subst hB
  rw [cell_of_row _ _ _ _ _ _ (heap_alloc_new w _)]; exact h

/-- a call of a Go function at a step of a region that draws. -/
theorem step_call {P : Program} {ops : Array Oper} {o : Oper} {a : Act} {w : World} {K : Act → World → Prop} {Q : Exit → Act → World → Prop} {E : Prop} (hgd : o.guard = none) (f : FuncId) (args : Array Value)
    (hx : (execOp a.eval o).run P w = .ok (.enter f args) w) (h : Calls P f args w (fun e w' => ∃ v, e = .returned v ∧ K (a.put o.dst v) w')) :
    if Region.wanted o (yielded ops a.tmps) = true then Oper.wp P o a w K Q else E := by
  have hw : Region.wanted o (yielded ops a.tmps) = true := by simp [Region.wanted, hgd]
  rw [if_pos hw]
  unfold Oper.wp
  rw [hx]
  simp only [Oper.upon]
  exact h.mono fun e w' ⟨v, he, hk⟩ => by subst he; exact hk

end Go.Proofs.YtdnjjanacbkijaaGreatDoor

/-
  Trees of any nodes: how a tree lies in memory; the nodes of a tree in order; the forest of a list of nodes.
-/
namespace Go.Proofs.YtdnjjanacbkijaaGreatDoor
open Go.RowKit

inductive Tr (α : Type) where
  | mk (t : α) (args : List (Tr α))

mutual
def RT {α : Type} (enc : α → List Value) : Tr α → List Nat → World → List Value → Prop
  | .mk t args, fp, w, cs => ∃ b s fa us fb fps, cs = [.pointer (some ⟨b, 0, none⟩)] ∧ fp = b :: fa ∧ b < w.heap.size ∧ (∀ j u, (enc t ++ [s])[j]? = some u → w.cell? ⟨b, j, none⟩ = some u) ∧
      Flat fb w s 1 args.length us ∧ List.length fps = args.length ∧ fa = fb ++ List.flatten fps ∧ RTs enc args fps w us
def RTs {α : Type} (enc : α → List Value) : List (Tr α) → List (List Nat) → World → List Value → Prop
  | [], _, _, _ => True
  | x :: xs, fps, w, us => ∃ f fs u vs, fps = f :: fs ∧ us = u :: vs ∧ RT enc x f w [u] ∧ RTs enc xs fs w vs
end

mutual
def flatT {α : Type} : Tr α → List α
  | .mk t args => t :: flatTs args
def flatTs {α : Type} : List (Tr α) → List α
  | [] => []
  | x :: xs => flatT x ++ flatTs xs
end

mutual
def okT {α : Type} (ar : α → Int) : Tr α → Bool
  | .mk t args => decide ((args.length : Int) = ar t) && okTs ar args
def okTs {α : Type} (ar : α → Int) : List (Tr α) → Bool
  | [] => true
  | x :: xs => okT ar x && okTs ar xs
end

abbrev R_T {α : Type} (enc : α → List Value) : Rp (Tr α) := fun fp w cs x => RT enc x fp w cs

theorem RTs_get {α : Type} {enc : α → List Value} : ∀ (xs : List (Tr α)) (fps : List (List Nat)) (w : World) (us : List Value), RTs enc xs fps w us → ∀ i (h : i < xs.length) u (f : List Nat), us[i]? = some u → fps[i]? = some f → RT enc xs[i] f w [u]
  | [], _, _, _, _, i, h, _, _, _, _ => by simp at h
  | x :: xs, fps, w, us, hr, i, h, u, f, hu, hf => by
    obtain ⟨f0, fs, u0, vs, rfl, rfl, h1, h2⟩ := hr
    cases i with
    | zero => simp at hu hf; subst hu hf; exact h1
    | succ i => exact RTs_get xs fs w vs h2 i (by simpa using h) u f (by simpa using hu) (by simpa using hf)

theorem RTs_mk {α : Type} {enc : α → List Value} : ∀ (xs : List (Tr α)) (fps : List (List Nat)) (w : World) (us : List Value), fps.length = xs.length → us.length = xs.length →
    (∀ i (h : i < xs.length) u (f : List Nat), us[i]? = some u → fps[i]? = some f → RT enc xs[i] f w [u]) → RTs enc xs fps w us
  | [], _, _, _, _, _, _ => trivial
  | x :: xs, fps, w, us, h1, h2, h => by
    match fps, us, h1, h2 with
    | f :: fs, u :: vs, h1, h2 =>
      exact ⟨f, fs, u, vs, rfl, rfl, h 0 (by simp) u f rfl rfl, RTs_mk xs fs w vs (by simpa using h1) (by simpa using h2) (fun i hi u' f' hu hf => h (i + 1) (by simpa using hi) u' f' (by simpa using hu) (by simpa using hf))⟩

theorem R_T_open {α : Type} {enc : α → List Value} {fp : List Nat} {w : World} {v : Value} {t : α} {args : List (Tr α)} (h : R_T enc fp w [v] (.mk t args)) :
    ∃ b s fa, v = .pointer (some ⟨b, 0, none⟩) ∧ fp = b :: fa ∧ b < w.heap.size ∧ (∀ j u, (enc t ++ [s])[j]? = some u → w.cell? ⟨b, j, none⟩ = some u) ∧ slP (R_T enc) fa w [s] args := by
  simp only [R_T, RT] at h
  obtain ⟨b, s, fa, us, fb, fps, hv, rfl, h0, h1, h4, h5, rfl, h6⟩ := h
  simp at hv
  exact ⟨b, s, _, hv, rfl, h0, h1, s, us, fb, fps, rfl, h4, h5, rfl, RTs_get _ _ _ _ h6⟩

theorem R_T_mk {α : Type} {enc : α → List Value} {w : World} {t : α} {args : List (Tr α)} {b : Nat} {s : Value} {fa : List Nat} (h0 : b < w.heap.size) (h1 : ∀ j u, (enc t ++ [s])[j]? = some u → w.cell? ⟨b, j, none⟩ = some u)
    (h : slP (R_T enc) fa w [s] args) : R_T enc (b :: fa) w [.pointer (some ⟨b, 0, none⟩)] (.mk t args) := by
  obtain ⟨v, us, fb, fps, hv, h4, h5, rfl, h6⟩ := h
  cases hv
  have hl : us.length = args.length := by obtain ⟨_, _, _, _, _, h, _⟩ := h4; simpa using h
  simp only [R_T, RT]
  exact ⟨b, s, _, us, fb, fps, rfl, rfl, h0, h1, h4, h5, rfl, RTs_mk _ _ _ _ h5 hl h6⟩

theorem R_T_form {α : Type} {enc : α → List Value} {fp : List Nat} {w : World} {v : Value} {x : Tr α} (h : R_T enc fp w [v] x) : ∃ b, v = .pointer (some ⟨b, 0, none⟩) := by
  obtain ⟨t, args⟩ := x
  obtain ⟨b, -, -, rfl, -⟩ := R_T_open h
  exact ⟨b, rfl⟩

mutual
theorem RT_lt {α : Type} {enc : α → List Value} : ∀ (x : Tr α) (fp : List Nat) (w : World) (cs : List Value), RT enc x fp w cs → ∀ b ∈ fp, b < w.heap.size
  | .mk t args, fp, w, cs, h, b, hb => by
    simp only [RT] at h
    obtain ⟨b0, s, fa, us, fb, fps, -, rfl, h0, -, h4, h5, rfl, h6⟩ := h
    rcases List.mem_cons.1 hb with rfl | hb
    · exact h0
    · rcases List.mem_append.1 hb with hb | hb
      · exact h4.lt b hb
      · exact RTs_lt args fps w us h5 h6 b hb
theorem RTs_lt {α : Type} {enc : α → List Value} : ∀ (xs : List (Tr α)) (fps : List (List Nat)) (w : World) (us : List Value), fps.length = xs.length → RTs enc xs fps w us → ∀ b ∈ fps.flatten, b < w.heap.size
  | [], fps, _, _, h, _, b, hb => by simp at h; subst h; simp at hb
  | x :: xs, fps, w, us, hl, h, b, hb => by
    simp only [RTs] at h
    obtain ⟨f, fs, u, vs, rfl, rfl, h1, h2⟩ := h
    rw [List.flatten_cons] at hb
    rcases List.mem_append.1 hb with hb | hb
    · exact RT_lt x f w [u] h1 b hb
    · exact RTs_lt xs fs w vs (by simpa using hl) h2 b hb
end

mutual
theorem RT_frame {α : Type} {enc : α → List Value} : ∀ (x : Tr α) (fp : List Nat) (w w' : World) (cs : List Value), RT enc x fp w cs → w.heap.size ≤ w'.heap.size → (∀ b ∈ fp, w'.heap[b]? = w.heap[b]?) → RT enc x fp w' cs
  | .mk t args, fp, w, w', cs, h, hs, hb => by
    simp only [RT] at h ⊢
    obtain ⟨b0, s, fa, us, fb, fps, rfl, rfl, h0, h1, h4, h5, rfl, h6⟩ := h
    have hb0 := hb b0 (by simp)
    refine ⟨b0, s, _, us, fb, fps, rfl, rfl, by omega, fun j u hj => ?_, h4.frame hs (fun b h => hb b (by simp [h])), h5, rfl, RTs_frame args fps w w' us h6 hs (fun b h => hb b (by simp only [List.mem_cons, List.mem_append]; exact Or.inr (Or.inr h)))⟩
    rw [World.cell?_of_block (w := w) hb0]; exact h1 j u hj
theorem RTs_frame {α : Type} {enc : α → List Value} : ∀ (xs : List (Tr α)) (fps : List (List Nat)) (w w' : World) (us : List Value), RTs enc xs fps w us → w.heap.size ≤ w'.heap.size → (∀ b ∈ fps.flatten, w'.heap[b]? = w.heap[b]?) → RTs enc xs fps w' us
  | [], _, _, _, _, _, _, _ => trivial
  | x :: xs, fps, w, w', us, h, hs, hb => by
    simp only [RTs] at h ⊢
    obtain ⟨f, fs, u, vs, rfl, rfl, h1, h2⟩ := h
    exact ⟨f, fs, u, vs, rfl, rfl, RT_frame x f w w' [u] h1 hs (fun b h => hb b (by rw [List.flatten_cons]; exact List.mem_append_left _ h)), RTs_frame xs fs w w' vs h2 hs (fun b h => hb b (by rw [List.flatten_cons]; exact List.mem_append_right _ h))⟩
end

theorem R_Tk {α : Type} (enc : α → List Value) : Kept (R_T enc) := ⟨fun h => RT_lt _ _ _ _ h, fun h hs hb => RT_frame _ _ _ _ _ h hs hb⟩

section
variable {α : Type} {ar : α → Int}
theorem flatTs_append (xs ys : List (Tr α)) : flatTs (xs ++ ys) = flatTs xs ++ flatTs ys := by
  induction xs with
  | nil => rfl
  | cons x xs ih => simp [flatTs, ih]
theorem okTs_append (xs ys : List (Tr α)) : okTs ar (xs ++ ys) = (okTs ar xs && okTs ar ys) := by
  induction xs with
  | nil => simp [okTs]
  | cons x xs ih => simp [okTs, ih, Bool.and_assoc]
theorem okTs_all (xs : List (Tr α)) : okTs ar xs = xs.all (okT ar) := by
  induction xs with
  | nil => rfl
  | cons x xs ih => rw [okTs, List.all_cons, ih]
theorem flatT_pos (x : Tr α) : 1 ≤ (flatT x).length := by cases x; simp [flatT]
theorem flatTs_take (xs : List (Tr α)) (k : Nat) (h : k < xs.length) : flatTs (xs.take (k + 1)) = flatTs (xs.take k) ++ flatT xs[k] := by
  rw [List.take_succ_eq_append_getElem h, flatTs_append]; simp [flatTs]
theorem flatTs_take_le (xs : List (Tr α)) (k : Nat) : (flatTs (xs.take k)).length ≤ (flatTs xs).length := by
  conv => rhs; rw [← List.take_append_drop k xs, flatTs_append, List.length_append]
  omega
theorem flatT_arg_le (args : List (Tr α)) (k : Nat) (h : k < args.length) : (flatT args[k]).length ≤ (flatTs args).length := by
  have e1 : flatTs args = flatTs (args.take k) ++ (flatT args[k] ++ flatTs (args.drop (k + 1))) := by
    conv => lhs; rw [← List.take_append_drop k args, flatTs_append, List.drop_eq_getElem_cons h]
    rfl
  rw [e1, List.length_append, List.length_append]; omega
theorem flatTs_mem {xs : List (Tr α)} {x : Tr α} (hx : x ∈ xs) : ∀ t ∈ flatT x, t ∈ flatTs xs := by
  induction xs with
  | nil => cases hx
  | cons y ys ih =>
    intro t ht
    rw [flatTs, List.mem_append]
    rcases List.mem_cons.1 hx with rfl | h
    · exact Or.inl ht
    · exact Or.inr (ih h t ht)

/-- m trees are still to come, and the nodes are exactly those. -/
def shapeG (ar : α → Int) : Int → List α → Bool
  | m, [] => m == 0
  | m, n :: l => if m = 0 then false else shapeG ar (m + ar n - 1) l
/-- the forest of nodes: each node takes the first trees behind it. -/
def forestT (ar : α → Int) : List α → List (Tr α)
  | [] => []
  | t :: l => .mk t ((forestT ar l).take (ar t).toNat) :: (forestT ar l).drop (ar t).toNat
theorem forestT_ok (h0 : ∀ t, 0 ≤ ar t) : ∀ (l : List α) (m : Int), 0 ≤ m → shapeG ar m l = true → ((forestT ar l).length : Int) = m ∧ okTs ar (forestT ar l) = true ∧ flatTs (forestT ar l) = l
  | [], m, _, h => by
    have : m = 0 := by simpa [shapeG] using h
    subst this; exact ⟨rfl, rfl, rfl⟩
  | t :: l, m, hm, h => by
    rw [shapeG] at h
    split at h
    · cases h
    · next hne =>
      have ht := h0 t
      obtain ⟨h1, h2, h3⟩ := forestT_ok h0 l _ (by omega) h
      have hle : (ar t).toNat ≤ (forestT ar l).length := by omega
      have hsp : okTs ar ((forestT ar l).take (ar t).toNat) = true ∧ okTs ar ((forestT ar l).drop (ar t).toNat) = true := by
        have := h2; rw [← List.take_append_drop (ar t).toNat (forestT ar l), okTs_append, Bool.and_eq_true] at this; exact this
      refine ⟨?_, ?_, ?_⟩
      · rw [forestT, List.length_cons, List.length_drop]; omega
      · simp only [forestT, okTs, okT, hsp.1, hsp.2, Bool.and_true, decide_eq_true_eq, List.length_take]
        omega
      · rw [forestT, flatTs, flatT, List.cons_append, ← flatTs_append, List.take_append_drop, h3]
/-- the tree of a valid list. -/
theorem forestT_one (h0 : ∀ t, 0 ≤ ar t) {l : List α} (h : shapeG ar 1 l = true) : ∃ x : Tr α, forestT ar l = [x] ∧ okT ar x = true ∧ flatT x = l := by
  obtain ⟨h1, h2, h3⟩ := forestT_ok h0 l 1 (by omega) h
  match hx : forestT ar l, h1 with
  | [x], _ =>
    rw [hx] at h2 h3
    exact ⟨x, rfl, by simpa [okTs] using h2, by simpa [flatTs] using h3⟩
  | [], h => simp at h
  | _ :: _ :: _, h => simp at h; omega
end

end Go.Proofs.YtdnjjanacbkijaaGreatDoor

/-
  The laws' helper functions over lists of numbers: what each call returns and makes.
-/
namespace Go.Proofs.YtdnjjanacbkijaaGreatDoor
open Go.RowKit

abbrev ei (n : Int) : Value := .int .i64 n
abbrev R1 : Rp (List Int) := slF 1 (fun n => [ei n])
theorem Tryz.info2 : (Tryz.prog.info? 2).map (fun i => (i.zero, i.size, i.bytes)) = some (some (.int .i64 0), 1, 8) := by kernel_rfl
theorem R1k : Kept R1 := slF_kept _ _
/-- the rows of a matrix, numbered through. -/
def mk2 : Int → List (List Int) → List (List Int)
  | _, [] => []
  | k, r :: rs => upFrom k r.length :: mk2 (k + r.length) rs
def tot (xss : List (List Int)) : Int := (xss.map (fun r => (r.length : Int))).sum
@[simp] theorem mk2_length (k : Int) (xss : List (List Int)) : (mk2 k xss).length = xss.length := by
  induction xss generalizing k with
  | nil => rfl
  | cons r rs ih => simp [mk2, ih]
theorem tot_nonneg (xss : List (List Int)) : 0 ≤ tot xss := by
  unfold tot; induction xss with
  | nil => simp
  | cons r rs ih => simp only [List.map_cons, List.sum_cons]; omega
end Go.Proofs.YtdnjjanacbkijaaGreatDoor

/-
  From the form's own reading of an argument to the readings of Lib: slices, and slices of slices, of whatever elements.
-/
namespace Go.Proofs.YtdnjjanacbkijaaGreatDoor
open Go.RowKit Go.ChangeShapes Go.WideShapes Go.Deep

/-- What the form reads at type t reads by R, with a fact on the value. -/
def Opens {α : Type} (P : Program) (t : TypeId) (R : Rp α) (φ : α → Prop) : Prop :=
  ∀ {H : Type} {enc : TypeId × Value → H} {w : World} {fuel : Nat} {cs : List Value} {x : DataW H × List MemPlace},
    DataW.trod enc P w 0 (fun _ => true) true fuel t cs = some x → ∃ a fp, R fp w cs a ∧ φ a

theorem list_choice {α : Type} (Q : Nat → α → Prop) : ∀ n, (∀ i, i < n → ∃ a, Q i a) → ∃ l : List α, l.length = n ∧ ∀ i a, l[i]? = some a → Q i a
  | 0, _ => ⟨[], rfl, by simp⟩
  | n + 1, h => by
    obtain ⟨l, hl, hq⟩ := list_choice Q n (fun i hi => h i (by omega))
    obtain ⟨a, ha⟩ := h n (by omega)
    refine ⟨l ++ [a], by simp [hl], fun i b hb => ?_⟩
    by_cases hi : i < n
    · rw [List.getElem?_append_left (by omega)] at hb; exact hq i b hb
    · by_cases he : i = n
      · subst he
        rw [List.getElem?_append_right (by omega), hl, Nat.sub_self] at hb
        simp at hb; subst hb; exact ha
      · rw [List.getElem?_eq_none (by simp [hl]; omega)] at hb; cases hb

theorem flat_of_cells {w : World} {a : Addr} {len cap : Nat} {us : List Value} (hl : us.length = len) (h1 : len ≤ cap) (h2 : cap ≤ maxLen) (h : ∀ i u, us[i]? = some u → w.cell? (a.add i) = some u) :
    ∃ fb, Flat fb w (.slice (some a) len cap) 1 len us := by
  by_cases h0 : len = 0
  · exact ⟨[], _, cap, rfl, h1, h2, by simpa using hl, Or.inl ⟨h0, rfl⟩⟩
  · have hc := h 0 us[0] (by simp)
    have hs : a.spot = none := by simpa [Addr.add] using World.cell?_spot hc
    obtain ⟨b, off, spot⟩ := a
    simp at hs
    subst hs
    refine ⟨[b], _, cap, rfl, h1, h2, by simpa using hl, Or.inr ⟨b, off, rfl, rfl, ?_, fun j u hu => ?_⟩⟩
    · exact World.block_lt_of_cell? w ⟨b, off, none⟩ (by simpa [Addr.add] using hc)
    · have := h j u hu
      by_cases hj : j = 0
      · subst hj; simpa [Addr.add] using this
      · simpa [Addr.add, hj] using this

theorem flat_nil (w : World) (n : Nat) : Flat [] w (.slice none 0 0) n 0 [] := ⟨none, 0, rfl, Nat.le_refl _, by simp [maxLen], by simp, Or.inl ⟨rfl, rfl⟩⟩

/-- slices of one-cell values that hold no memory. -/
theorem opens_slF1 {α : Type} {P : Program} {t e : TypeId} {encv : α → Value} {φ : α → Prop} (ht : P.underlying t = some (.slice e)) (hc : P.cellsOf e = 1)
    (h : ∀ {H : Type} {enc : TypeId × Value → H} {w : World} {fuel : Nat} {v : Value} {x : DataW H × List MemPlace}, DataW.trod enc P w 0 (fun _ => true) true fuel e [v] = some x → ∃ a, v = encv a ∧ φ a) :
    Opens P t (slF 1 (fun x => [encv x])) (fun xs => ∀ x ∈ xs, φ x) := by
  intro H enc w fuel cs x hx
  rcases open_slice1 ht hc hx with ⟨rfl, -⟩ | ⟨a, len, cap, m, n, V, D, Pl, rfl, -, hl, hm, hmm, -, hel⟩
  · exact ⟨[], [], ⟨_, rfl, flat_nil w 1⟩, by simp⟩
  · have hlm : len ≤ m := by subst hmm; simpa using hl
    obtain ⟨l, hll, hlq⟩ := list_choice (fun i (y : α) => V i = encv y ∧ φ y) len (fun i hi => h (hel i (by omega)).2)
    obtain ⟨fb, hfb⟩ := flat_of_cells (w := w) (a := a) (len := len) (cap := cap) (us := l.map encv) (by simpa using hll) hl hm (by
      intro i u hu
      rw [List.getElem?_map] at hu
      cases hli : l[i]? with
      | none => simp [hli] at hu
      | some y =>
        simp [hli] at hu
        subst hu
        have hi : i < len := by rw [← hll]; exact (List.getElem?_eq_some_iff.1 hli).1
        rw [(hel i (by omega)).1, (hlq i y hli).1])
    refine ⟨l, fb, ⟨_, rfl, by rw [flatMap_single, hll]; exact hfb⟩, fun x hx => ?_⟩
    obtain ⟨i, hi, rfl⟩ := List.mem_iff_getElem.1 hx
    exact (hlq i _ (by simp)).2

theorem opens_ints {P : Program} {t e : TypeId} {k : IntKind} (ht : P.underlying t = some (.slice e)) (he : P.underlying e = some (.int k)) (hc : P.cellsOf e = 1) :
    Opens P t (slF 1 (fun x => [Value.int k x])) (fun xs => ∀ x ∈ xs, (Lit.int k x).wf = true) :=
  opens_slF1 ht hc (by
    intro H enc w fuel v x hx
    obtain ⟨a, e0, rfl, wa⟩ := DataW.trod_int he hx
    simp at e0
    exact ⟨a, e0, wa⟩)

theorem Opens.of {α : Type} {P : Program} {t : TypeId} {R : Rp α} {φ : α → Prop} (h : Opens P t R φ) {H : Type} {enc : TypeId × Value → H} {w : World} {v : Value} {d : DataW H} {ps : List MemPlace}
    (hv : v.cells = #[v]) (hd : DataW.Trod enc P w 0 (fun _ => true) true t v d ps) : ∃ a fp, R fp w [v] a ∧ φ a := by
  obtain ⟨fuel, hf⟩ := hd
  rw [hv] at hf
  exact h hf

end Go.Proofs.YtdnjjanacbkijaaGreatDoor

/-
  The helper functions over []int64 and [][]int64 under one scheme of names: sz, to, eq, mark, held.
-/
namespace Go.Proofs.YtdnjjanacbkijaaGreatDoor
open Go.RowKit

end Go.Proofs.YtdnjjanacbkijaaGreatDoor

/-
  Numbers in decimal, plainly: what is read back is what was written, and nothing else is read.
-/
namespace Go.Proofs.YtdnjjanacbkijaaGreatDoor

def isDig (b : UInt8) : Bool := decide (48 ≤ b.toNat ∧ b.toNat ≤ 57)
/-- the number that digits spell, behind others. -/
def valD (acc : Nat) (l : List UInt8) : Nat := l.foldl (fun a b => a * 10 + (b.toNat - 48)) acc
theorem valD_nil (acc : Nat) : valD acc [] = acc := by rw [valD, List.foldl_nil]
theorem valD_cons (acc : Nat) (b : UInt8) (r : List UInt8) : valD acc (b :: r) = valD (acc * 10 + (b.toNat - 48)) r := by rw [valD, List.foldl_cons, valD]

theorem valD_append (acc : Nat) (a b : List UInt8) : valD acc (a ++ b) = valD (valD acc a) b := by rw [valD, List.foldl_append, valD, valD]
theorem dig_nat {k : Nat} (h : k < 10) : (UInt8.ofNat (48 + k)).toNat = 48 + k := by
  rw [UInt8.toNat_ofNat', Nat.mod_eq_of_lt (by omega)]
theorem isDig_nat {k : Nat} (h : k < 10) : isDig (UInt8.ofNat (48 + k)) = true := by
  unfold isDig; rw [dig_nat h]; simp; omega

theorem valD_dec (u : Nat) : valD 0 (Lib.decDigits u) = u := by
  induction u using Nat.strongRecOn with
  | _ u ih =>
    rw [Lib.decDigits]
    split
    · rename_i h
      simp only [valD_cons, valD_nil]; rw [dig_nat h]; omega
    · rename_i h
      rw [valD_append, ih (u / 10) (by omega)]
      simp only [valD_cons, valD_nil]; rw [dig_nat (Nat.mod_lt _ (by omega))]; omega
theorem dec_digits (u : Nat) : (Lib.decDigits u).all isDig = true := by
  induction u using Nat.strongRecOn with
  | _ u ih =>
    rw [Lib.decDigits]
    split
    · rename_i h; simp only [List.all_cons, List.all_nil, Bool.and_true]; exact isDig_nat h
    · rename_i h
      rw [List.all_append, ih (u / 10) (by omega)]
      simp only [List.all_cons, List.all_nil, Bool.and_true, Bool.true_and]; exact isDig_nat (Nat.mod_lt u (by omega))
theorem dec_ne (u : Nat) : Lib.decDigits u ≠ [] := by
  intro h
  have := Lib.decDigits_length u
  rw [h] at this
  have := Lib.nDigits_pos u
  simp at *; omega
/-- no leading zero, but at 0 itself. -/
theorem dec_head (u : Nat) (h : 0 < u) : ∃ b r, Lib.decDigits u = b :: r ∧ b.toNat ≠ 48 := by
  induction u using Nat.strongRecOn with
  | _ u ih =>
    rw [Lib.decDigits]
    split
    · rename_i h1; exact ⟨_, [], rfl, by rw [dig_nat h1]; omega⟩
    · rename_i h1
      obtain ⟨b, r, e, hb⟩ := ih (u / 10) (by omega) (by omega)
      exact ⟨b, r ++ [UInt8.ofNat (48 + u % 10)], by rw [e]; rfl, hb⟩

theorem valD_ge (acc : Nat) (l : List UInt8) : acc ≤ valD acc l := by
  induction l generalizing acc with
  | nil => rw [valD_nil]; exact Nat.le_refl _
  | cons b l ih => rw [valD_cons]; have := ih (acc * 10 + (b.toNat - 48)); omega
theorem valD_lt (acc : Nat) (l : List UInt8) (h : l.all isDig = true) : valD acc l < (acc + 1) * 10 ^ l.length := by
  induction l generalizing acc with
  | nil => simp [valD_nil]
  | cons b l ih =>
    rw [List.all_cons, Bool.and_eq_true] at h
    have hb : 48 ≤ b.toNat ∧ b.toNat ≤ 57 := by have := h.1; unfold isDig at this; simpa using this
    have := ih (acc * 10 + (b.toNat - 48)) h.2
    simp only [valD_cons, List.length_cons, Nat.pow_succ]
    refine Nat.lt_of_lt_of_le this ?_
    rw [Nat.mul_comm (10 ^ l.length) 10, ← Nat.mul_assoc]
    exact Nat.mul_le_mul_right _ (by omega)

/-- digits behind a number are the digits of what they spell. -/
theorem dec_valD (acc : Nat) (h0 : 0 < acc) (l : List UInt8) (h : l.all isDig = true) : Lib.decDigits (valD acc l) = Lib.decDigits acc ++ l := by
  induction l generalizing acc with
  | nil => simp [valD_nil]
  | cons b l ih =>
    rw [List.all_cons, Bool.and_eq_true] at h
    have hb : 48 ≤ b.toNat ∧ b.toNat ≤ 57 := by have := h.1; unfold isDig at this; simpa using this
    rw [valD_cons, ih _ (by omega) h.2]
    have hd : Lib.decDigits (acc * 10 + (b.toNat - 48)) = Lib.decDigits acc ++ [b] := by
      conv => lhs; rw [Lib.decDigits]
      rw [dif_neg (by omega)]
      have e1 : (acc * 10 + (b.toNat - 48)) / 10 = acc := by omega
      have e2 : (acc * 10 + (b.toNat - 48)) % 10 = b.toNat - 48 := by omega
      have e3 : 48 + (b.toNat - 48) = b.toNat := by omega
      rw [e1, e2, e3, UInt8.ofNat_toNat]
    rw [hd, List.append_assoc]; rfl

theorem dec_of {b : UInt8} {l : List UInt8} (h : (b :: l).all isDig = true) (h0 : b.toNat ≠ 48 ∨ l = []) : Lib.decDigits (valD 0 (b :: l)) = b :: l := by
  rw [List.all_cons, Bool.and_eq_true] at h
  have hb : 48 ≤ b.toNat ∧ b.toNat ≤ 57 := by have := h.1; unfold isDig at this; simpa using this
  have hone : Lib.decDigits (b.toNat - 48) = [b] := by
    rw [Lib.decDigits_one (by omega)]
    have e3 : 48 + (b.toNat - 48) = b.toNat := by omega
    rw [e3, UInt8.ofNat_toNat]
  rw [valD_cons, Nat.zero_mul, Nat.zero_add]
  rcases h0 with h0 | rfl
  · rw [dec_valD _ (by omega) _ h.2, hone]; rfl
  · simpa [valD_nil] using hone

/-- the sign and the digits of a text. -/
def negL (l : List UInt8) : Bool := match l with | [] => false | b :: _ => b == 45
def digL (l : List UInt8) : List UInt8 := if negL l then l.tail else l
/-- the number with a decimal form of at most 18 digits. -/
def numF (l : List UInt8) : Option Int :=
  if digL l = [] ∨ 18 < (digL l).length ∨ ((digL l).head? = some 48 ∧ 1 < l.length) ∨ (digL l).all isDig = false then none
  else some (if negL l then -(valD 0 (digL l) : Int) else (valD 0 (digL l) : Int))

theorem itoa_shape (v : Int) : (0 ≤ v ∧ negL (Lib.itoa v) = false ∧ digL (Lib.itoa v) = Lib.decDigits v.toNat) ∨ (v < 0 ∧ negL (Lib.itoa v) = true ∧ digL (Lib.itoa v) = Lib.decDigits v.natAbs) := by
  by_cases h : v < 0
  · refine Or.inr ⟨h, ?_, ?_⟩ <;> simp [Lib.itoa, h, negL, digL]
  · refine Or.inl ⟨by omega, ?_⟩
    have hi : Lib.itoa v = Lib.decDigits v.toNat := by simp [Lib.itoa, h]
    rw [hi]
    have hn : negL (Lib.decDigits v.toNat) = false := by
      have := dec_digits v.toNat
      match hd : Lib.decDigits v.toNat with
      | [] => rfl
      | b :: r =>
        rw [hd, List.all_cons, Bool.and_eq_true] at this
        have hb : 48 ≤ b.toNat ∧ b.toNat ≤ 57 := by have := this.1; unfold isDig at this; simpa using this
        simp only [negL, beq_eq_false_iff_ne, ne_eq]
        intro e; rw [e] at hb; simp at hb
    exact ⟨hn, by simp [digL, hn]⟩

theorem numF_itoa (v : Int) (h : (digL (Lib.itoa v)).length ≤ 18) : numF (Lib.itoa v) = some v := by
  rcases itoa_shape v with ⟨h0, h1, h2⟩ | ⟨h0, h1, h2⟩
  · unfold numF
    rw [h2] at h ⊢
    rw [h1, if_neg]
    · rw [valD_dec]; simp; omega
    · rintro (h3 | h3 | ⟨h3, h4⟩ | h3)
      · exact dec_ne _ h3
      · omega
      · by_cases hz : v = 0
        · subst hz; simp [Lib.itoa, Lib.decDigits] at h4
        · obtain ⟨b, r, e, hb⟩ := dec_head v.toNat (by omega)
          rw [e] at h3
          simp at h3; rw [h3] at hb; simp at hb
      · rw [dec_digits] at h3; cases h3
  · unfold numF
    rw [h2] at h ⊢
    rw [h1, if_neg]
    · rw [valD_dec]; simp; omega
    · rintro (h3 | h3 | ⟨h3, h4⟩ | h3)
      · exact dec_ne _ h3
      · omega
      · obtain ⟨b, r, e, hb⟩ := dec_head v.natAbs (by omega)
        rw [e] at h3
        simp at h3; rw [h3] at hb; simp at hb
      · rw [dec_digits] at h3; cases h3

theorem numF_some {l : List UInt8} {n : Int} (h : numF l = some n) : l = Lib.itoa n ∧ (digL l).length ≤ 18 ∧ n.natAbs < 10 ^ 18 := by
  unfold numF at h
  split at h
  · cases h
  · rename_i hc
    simp only [not_or, Bool.not_eq_false] at hc
    obtain ⟨h1, h2, h3, h4⟩ := hc
    simp only [Option.some.injEq] at h
    have hlt : valD 0 (digL l) < 10 ^ 18 := by
      have := valD_lt 0 (digL l) h4
      have hp : 10 ^ (digL l).length ≤ 10 ^ 18 := Nat.pow_le_pow_right (by omega) (by omega)
      omega
    refine ⟨?_, by omega, by subst h; split <;> omega⟩
    cases l with
    | nil => simp [digL, negL] at h1
    | cons b r =>
      have hnb : negL (b :: r) = (b == 45) := rfl
      by_cases hb : b = 45
      · subst hb
        have hl : negL (45 :: r) = true := rfl
        have hd : digL (45 :: r) = r := by simp [digL, hl]
        rw [hd] at h h1 h3 h4 hlt
        rw [hl] at h
        simp only [if_true] at h
        subst h
        cases r with
        | nil => exact absurd rfl h1
        | cons c r' =>
          have hc : c.toNat ≠ 48 := by
            intro e
            refine h3 ⟨?_, by simp⟩
            have : c = 48 := UInt8.toNat_inj.1 (by rw [e]; rfl)
            simp [this]
          have hdec := dec_of (b := c) (l := r') h4 (Or.inl hc)
          have hpos : 1 ≤ valD 0 (c :: r') := by
            rw [List.all_cons, Bool.and_eq_true] at h4
            have hb : 48 ≤ c.toNat ∧ c.toNat ≤ 57 := by have := h4.1; unfold isDig at this; simpa using this
            have := valD_ge (0 * 10 + (c.toNat - 48)) r'
            rw [valD_cons]; omega
          rw [Lib.itoa_neg _ hpos, hdec]
      · have hl : negL (b :: r) = false := by rw [hnb]; simpa using hb
        have hd : digL (b :: r) = b :: r := by simp [digL, hl]
        rw [hd] at h h1 h3 h4 hlt
        rw [hl] at h
        simp only [Bool.false_eq_true, if_false] at h
        subst h
        have hc : b.toNat ≠ 48 ∨ r = [] := by
          by_cases hr : r = []
          · exact Or.inr hr
          · left
            intro e
            refine h3 ⟨?_, ?_⟩
            · have : b = 48 := UInt8.toNat_inj.1 (by rw [e]; rfl)
              simp [this]
            · cases r with
              | nil => exact absurd rfl hr
              | cons c r => simp
        rw [Lib.itoa_nonneg, dec_of h4 hc]

theorem parseUintM_dec (M acc : Nat) (l : List UInt8) (h : l.all isDig = true) (hM : valD acc l ≤ M) (hM2 : valD acc l < 10 ^ 18) : Lib.parseUintM M acc l = .ok (valD acc l) := by
  induction l generalizing acc with
  | nil => rw [valD_nil]; rfl
  | cons b l ih =>
    rw [List.all_cons, Bool.and_eq_true] at h
    have hb : 48 ≤ b.toNat ∧ b.toNat ≤ 57 := by have := h.1; unfold isDig at this; simpa using this
    rw [valD_cons] at hM hM2 ⊢
    have hge := valD_ge (acc * 10 + (b.toNat - 48)) l
    rw [Lib.parseUintM, if_pos hb, if_neg (by omega), if_neg (by omega)]
    exact ih _ h.2 hM hM2

theorem parse_itoa (v : Int) (h : v.natAbs < 10 ^ 18) : Lib.parseIntB 64 (Lib.itoa v) = .ok v := by
  by_cases hv : v < 0
  · have e : Lib.itoa v = 45 :: Lib.decDigits v.natAbs := by simp [Lib.itoa, hv]
    rw [e]
    have hp := parseUintM_dec (2 ^ 64 - 1) 0 (Lib.decDigits v.natAbs) (dec_digits _) (by rw [valD_dec]; omega) (by rw [valD_dec]; exact h)
    rw [valD_dec] at hp
    have e45 : UInt8.toNat 45 = 45 := rfl
    simp only [Lib.parseIntB, Lib.parseUintB, e45, or_true, if_true, if_neg (dec_ne _), hp, not_true, false_and, if_false, true_and]
    rw [if_neg (by omega)]
    congr 1; omega
  · have e : Lib.itoa v = Lib.decDigits v.toNat := by simp [Lib.itoa, hv]
    rw [e]
    have hp := parseUintM_dec (2 ^ 64 - 1) 0 (Lib.decDigits v.toNat) (dec_digits _) (by rw [valD_dec]; omega) (by rw [valD_dec]; omega)
    rw [valD_dec] at hp
    have hd := dec_digits v.toNat
    have hne := dec_ne v.toNat
    match hl : Lib.decDigits v.toNat, hne with
    | b :: r, _ =>
      rw [hl] at hp hd
      rw [List.all_cons, Bool.and_eq_true] at hd
      have hb : 48 ≤ b.toNat ∧ b.toNat ≤ 57 := by have := hd.1; unfold isDig at this; simpa using this
      simp only [Lib.parseIntB, Lib.parseUintB]
      have h43 : ¬ (b.toNat = 43 ∨ b.toNat = 45) := by omega
      have h45 : ¬ b.toNat = 45 := by omega
      rw [if_neg h43, if_neg (by simp), hp]
      simp only [h45, not_false_eq_true, true_and, false_and, if_false]
      rw [if_neg (by omega)]
      congr 1; omega

end Go.Proofs.YtdnjjanacbkijaaGreatDoor

/-
  Texts cut at a byte, plainly.
-/
namespace Go.Proofs.YtdnjjanacbkijaaGreatDoor

/-- a text cut at each byte c. -/
def splitC (c : UInt8) : List UInt8 → List (List UInt8)
  | [] => [[]]
  | b :: l => if b = c then [] :: splitC c l else (b :: (splitC c l).headD []) :: (splitC c l).tail

theorem splitC_ne (c : UInt8) (l : List UInt8) : splitC c l ≠ [] := by
  cases l with
  | nil => simp [splitC]
  | cons b l => rw [splitC]; split <;> simp
theorem splitC_cons (c b : UInt8) (l : List UInt8) (h : b ≠ c) : ∃ p ps, splitC c l = p :: ps ∧ splitC c (b :: l) = (b :: p) :: ps := by
  cases hs : splitC c l with
  | nil => exact absurd hs (splitC_ne c l)
  | cons p ps => exact ⟨p, ps, rfl, by rw [splitC, if_neg h, hs]; rfl⟩

theorem index_one (c : UInt8) (b : UInt8) (l : List UInt8) : Lib.index (b :: l) [c] = if b = c then 0 else if Lib.index l [c] = -1 then -1 else Lib.index l [c] + 1 := by
  rw [Lib.index]
  by_cases h : b = c
  · subst h; simp [List.isPrefixOf]
  · have h' : (c == b) = false := by simp; exact fun e => h e.symm
    simp [List.isPrefixOf, h, h']
theorem index_nil (c : UInt8) : Lib.index [] [c] = -1 := by simp [Lib.index]

/-- where the byte is first. -/
theorem index_cut (c : UInt8) : ∀ l : List UInt8, (Lib.index l [c] = -1 ∧ c ∉ l ∧ splitC c l = [l]) ∨
    (∃ i : Nat, Lib.index l [c] = i ∧ i < l.length ∧ l[i]? = some c ∧ c ∉ l.take i ∧ splitC c l = l.take i :: splitC c (l.drop (i + 1)))
  | [] => Or.inl ⟨index_nil c, by simp, rfl⟩
  | b :: l => by
    rw [index_one]
    by_cases h : b = c
    · subst h
      exact Or.inr ⟨0, by simp, by simp, by simp, by simp, by simp [splitC]⟩
    · rw [if_neg h]
      obtain ⟨p, ps, e1, e2⟩ := splitC_cons c b l h
      rcases index_cut c l with ⟨h1, h2, h3⟩ | ⟨i, h1, h2, h3, h4, h5⟩
      · refine Or.inl ⟨by rw [if_pos h1], by simp [h2]; exact fun e => h e.symm, ?_⟩
        rw [e2]; rw [h3] at e1; cases e1; rfl
      · refine Or.inr ⟨i + 1, by rw [h1, if_neg (by omega)]; omega, by simpa using h2, by simpa using h3, by simp [h4]; exact fun e => h e.symm, ?_⟩
        rw [e2]; rw [h5] at e1; cases e1; rfl

theorem split_eq (c : UInt8) : ∀ (fuel : Nat) (l : List UInt8), l.length < fuel → Lib.splitK [c] 0 (Lib.countFrom [c] fuel l) l = splitC c l
  | 0, l, h => by omega
  | fuel + 1, l, h => by
    rw [Lib.countFrom]
    rcases index_cut c l with ⟨h1, h2, h3⟩ | ⟨i, h1, h2, h3, h4, h5⟩
    · rw [h1, h3]; rfl
    · rw [h1, if_neg (by simp), Nat.add_comm, Lib.splitK, h1, if_neg (by simp)]
      have e : ((i : Int).toNat) = i := by omega
      rw [e, Nat.add_zero, h5]
      have := split_eq c fuel (l.drop (i + 1)) (by rw [List.length_drop]; omega)
      simp only [List.length_cons, List.length_nil, Nat.zero_add]
      rw [this]
theorem split_lib (c : UInt8) (l : List UInt8) : Lib.split l [c] = splitC c l := split_eq c _ l (by omega)

/-- texts with a byte between two. -/
def joinC (c : UInt8) : List (List UInt8) → List UInt8
  | [] => []
  | [p] => p
  | p :: q :: ps => p ++ c :: joinC c (q :: ps)
theorem join_lib (c : UInt8) : ∀ ps : List (List UInt8), Lib.join ps [c] = joinC c ps
  | [] => rfl
  | [p] => by simp [Lib.join, joinC, List.intercalate, List.intersperse]
  | p :: q :: ps => by
    have := join_lib c (q :: ps)
    simp only [Lib.join, List.intercalate] at this ⊢
    rw [List.intersperse_cons_cons, List.flatten_cons, List.flatten_cons, this, joinC]; rfl

theorem split_none (c : UInt8) (l : List UInt8) (h : c ∉ l) : splitC c l = [l] := by
  rcases index_cut c l with ⟨-, -, h3⟩ | ⟨i, -, -, h3, -, -⟩
  · exact h3
  · exact absurd (List.mem_of_getElem? h3) h
theorem split_app (c : UInt8) (p l : List UInt8) (h : c ∉ p) : splitC c (p ++ c :: l) = p :: splitC c l := by
  induction p with
  | nil => simp [splitC]
  | cons b p ih =>
    simp only [List.mem_cons, not_or] at h
    rw [List.cons_append, splitC, if_neg (fun e => h.1 e.symm), ih h.2]; rfl
theorem split_join (c : UInt8) : ∀ ps : List (List UInt8), ps ≠ [] → (∀ p ∈ ps, c ∉ p) → splitC c (joinC c ps) = ps
  | [], h, _ => absurd rfl h
  | [p], _, h => split_none c p (h p (by simp))
  | p :: q :: ps, _, h => by
    rw [joinC, split_app c p _ (h p (by simp)), split_join c (q :: ps) (by simp) (fun x hx => h x (List.mem_cons_of_mem _ hx))]

/-- the numbers that texts spell, where each spells one. -/
def numsF : List (List UInt8) → Option (List Int)
  | [] => some []
  | p :: ps => match numF p with
    | none => none
    | some n => match numsF ps with
      | none => none
      | some ns => some (n :: ns)

theorem numsF_itoa : ∀ ns : List Int, (∀ n ∈ ns, (digL (Lib.itoa n)).length ≤ 18) → numsF (ns.map Lib.itoa) = some ns
  | [], _ => rfl
  | n :: ns, h => by
    rw [List.map_cons, numsF, numF_itoa n (h n (by simp)), numsF_itoa ns (fun x hx => h x (List.mem_cons_of_mem _ hx))]

theorem dec_no (u : Nat) (c : UInt8) (h : isDig c = false) : c ∉ Lib.decDigits u := fun hm => by
  have := List.all_eq_true.1 (dec_digits u) c hm
  rw [h] at this; cases this
theorem itoa_no (n : Int) (c : UInt8) (h : isDig c = false) (h2 : c ≠ 45) : c ∉ Lib.itoa n := by
  unfold Lib.itoa
  split
  · rw [List.mem_cons, not_or]; exact ⟨h2, dec_no _ c h⟩
  · exact dec_no _ c h

end Go.Proofs.YtdnjjanacbkijaaGreatDoor

/-
  The laws' helper functions over terms (a kind and a value) and lists of terms.
-/
namespace Go.Proofs.YtdnjjanacbkijaaGreatDoor
open Go.RowKit Go.ChangeShapes

abbrev Tm := Int × Int
def mkF_T1 (x : List Tm) : Int := 2 * x.length
/-- the terms numbered through from k0 on. -/
def upT (k0 : Int) : Nat → List Tm
  | 0 => []
  | n + 1 => (k0, k0 + 1) :: upT (k0 + 2) n
@[simp] theorem upT_length (k0 : Int) (n : Nat) : (upT k0 n).length = n := by
  induction n generalizing k0 with
  | zero => rfl
  | succ n ih => simp [upT, ih]
theorem upT_snoc (k0 : Int) (n : Nat) : upT k0 (n + 1) = upT k0 n ++ [(k0 + 2 * n, k0 + 2 * n + 1)] := by
  induction n generalizing k0 with
  | zero => simp [upT]
  | succ n ih =>
    rw [upT, ih, upT, List.cons_append, show k0 + 2 + 2 * (n : Int) = k0 + 2 * ((n + 1 : Nat) : Int) from by omega]
end Go.Proofs.YtdnjjanacbkijaaGreatDoor

/-
  The laws' helper functions over slices of slices (T2): what each call returns and makes.
-/
namespace Go.Proofs.YtdnjjanacbkijaaGreatDoor
open Go.RowKit

def mkF_T2 (xss : List (List Tm)) : Int := (xss.map mkF_T1).sum
def mkd_T2 : Int → List (List Tm) → List (List Tm)
  | _, [] => []
  | k, r :: rs => (fun (k : Int) (r : List Tm) => upT k r.length) k r :: mkd_T2 (k + mkF_T1 r) rs
@[simp] theorem mkd_T2_length (k : Int) (xss : List (List Tm)) : (mkd_T2 k xss).length = xss.length := by
  induction xss generalizing k with
  | nil => rfl
  | cons r rs ih => simp [mkd_T2, ih]
theorem mkd_T2_append (k : Int) (xs ys : List (List Tm)) : mkd_T2 k (xs ++ ys) = mkd_T2 k xs ++ mkd_T2 (k + mkF_T2 xs) ys := by
  induction xs generalizing k with
  | nil => simp [mkd_T2, mkF_T2]
  | cons r rs ih => simp only [List.cons_append, mkd_T2, ih, mkF_T2, List.map_cons, List.sum_cons, Int.add_assoc]
end Go.Proofs.YtdnjjanacbkijaaGreatDoor

/-
  The functions over relations: what each call returns and makes.
-/
namespace Go.Proofs.YtdnjjanacbkijaaGreatDoor
open Go.RowKit

def inB (a lo hi : Int) : Bool := decide (lo ≤ a) && decide (a ≤ hi)
theorem inB_true {a lo hi : Int} (h : inB a lo hi = true) : lo ≤ a ∧ a ≤ hi := by simpa [inB] using h
theorem inB_mk {a lo hi : Int} (h : lo ≤ a ∧ a ≤ hi) : inB a lo hi = true := by simpa [inB] using h
theorem inB_no {a lo hi : Int} (h : ¬ (lo ≤ a ∧ a ≤ hi)) : inB a lo hi = false := by
  cases e : inB a lo hi
  · rfl
  · exact absurd (inB_true e) h

set_option maxHeartbeats 400000 in
theorem within (a b c : Int) (w : World) :
    Calls Tryz.prog 31 #[.int .i64 a, .int .i64 b, .int .i64 c] w fun e w' => e = .returned (.bool (inB a b c)) ∧ w = w' := by
  by_cases h1 : b ≤ a
  · go_enter Tryz.func31, Tryz.ntmps31
    go_wp2
    go_ret
    exact ⟨by simp [inB, h1], rfl⟩
  · have e : inB a b c = false := inB_no (by omega)
    go_enter Tryz.func31, Tryz.ntmps31
    go_wp2
    go_ret
    exact ⟨rfl, rfl⟩

end Go.Proofs.YtdnjjanacbkijaaGreatDoor

/-
  Terms: arity, validity, the count of operands still wanted; both sides' functions on them.
-/
namespace Go.Proofs.YtdnjjanacbkijaaGreatDoor
open Go.RowKit

def arity (t : Tm) : Int := if t.1 = 2 then 2 else if t.1 = 3 then 1 else 0
def tOk (t : Tm) (nv : Int) : Bool :=
  if t.1 = 0 then inB t.2 0 63 else if t.1 = 1 then inB t.2 0 (nv - 1) else if t.1 = 2 then inB t.2 0 8 else if t.1 = 3 then t.2 == 0 else false
/-- how many operands are wanted behind terms, n before them; none where a term is out of place or wrong. -/
def run (nv : Int) : List Tm → Int → Option Int
  | [], n => some n
  | t :: ts, n => if n = 0 then none else if tOk t nv then run nv ts (n + (arity t - 1)) else none
set_option maxHeartbeats 400000 in
theorem isValue (a : Int) (w : World) : Calls Tryz.prog 101 #[.int .i64 a] w fun e w' => e = .returned (.bool (inB a 0 63)) ∧ w = w' := by
  go_enter Tryz.func101, Tryz.ntmps101
  go_wp2_with (go_at_call 31; refine (within _ _ _ _).mono ?_; rintro e w' ⟨rfl, rfl⟩)
  go_ret
  exact ⟨rfl, rfl⟩

end Go.Proofs.YtdnjjanacbkijaaGreatDoor

/-
  Lists of values.
-/
namespace Go.Proofs.YtdnjjanacbkijaaGreatDoor
open Go.RowKit

def isV (n : Int) : Bool := inB n 0 63

theorem areValues1 (n : Int) (w : World) : Calls Tryz.prog 100 #[.int .i64 n] w fun e w' => e = .returned (.bool (!isV n)) ∧ w = w' := by
  have S1 := Lib.hid (isValue n w)
  go_enter Tryz.func100, Tryz.ntmps100
  go_wp2_with fail
  refine S1.out.mono ?_
  rintro e w1 ⟨rfl, rfl⟩
  obtain ⟨bb, hbb⟩ : ∃ bb, bb = inB n 0 63 := ⟨_, rfl⟩
  have HB := Lib.hid (show isV n = bb from hbb.symm)
  rw [← hbb]
  clear hbb S1
  go_wp2_with fail
  go_ret
  exact ⟨by rw [HB.out]; rfl, rfl⟩

def IdxV (xs : List Int) (w : World) (e : Ending) (w' : World) : Prop := (∃ q : Int, e = .returned (.int .i64 q) ∧ -1 ≤ q ∧ q ≤ 9223372036854775807 ∧ decide (0 ≤ q) = xs.any (fun n => !isV n)) ∧ w = w'

set_option maxRecDepth 20000 in
set_option maxHeartbeats 1000000 in
theorem indexFuncV (v : Value) (xs : List Int) (w : World) (fp : List Nat) (hR : R1 fp w [v] xs) :
    Calls Tryz.prog 114 #[v, .func (.func 100) #[] #[]] w (IdxV xs w) := by
  obtain ⟨a1, c1, rfl, hl1, hm1, hc1⟩ := slF1_open hR
  unfold maxLen at hm1
  clear hR
  go_enter Tryz.func114, Tryz.ntmps114
  go_wp2_with fail
  go_loop [8] (fun i => ∃ k : Nat, k ≤ xs.length ∧ i = .int .i64 k ∧ (xs.drop k).any (fun n => !isV n) = xs.any (fun n => !isV n)) (fun i => xs.length - (intOf i).toNat)
  case atStart => exact ⟨0, Nat.zero_le _, rfl, rfl⟩
  case round =>
    obtain ⟨k, hk, rfl, hF⟩ := hrel
    by_cases hlt : k < xs.length
    · obtain ⟨b1, o1, rfl, -, -, p1⟩ := hc1 k hlt
      rw [List.drop_eq_getElem_cons hlt, List.any_cons] at hF
      have HF := Lib.hid hF
      clear hF hc1
      generalize xs[k] = x at *
      have S1 := Lib.hid (areValues1 x w)
      obtain ⟨bb, hbb⟩ : ∃ bb, bb = (!isV x) := ⟨_, rfl⟩
      rw [← hbb] at S1 HF
      clear hbb
      go_wp2_with fail
      refine S1.out.mono ?_
      rintro e w1 ⟨rfl, rfl⟩
      clear S1
      cases bb
      · go_wp2_with fail
        go_round
        case rel => exact ⟨k + 1, by omega, by go_num, by rw [← HF.out]; rfl⟩
        case measure => simp [intOf]; omega
      · go_wp2_with fail
        go_ret
        exact ⟨⟨k, rfl, by omega, by omega, by rw [← HF.out]; simp⟩, rfl⟩
    · rw [List.drop_of_length_le (by omega)] at hF
      have HF := Lib.hid hF
      clear hF hc1
      go_wp2_with fail
      go_ret
      exact ⟨⟨-1, rfl, by omega, by omega, by rw [← HF.out]; rfl⟩, rfl⟩

set_option maxRecDepth 20000 in
theorem areValues (v : Value) (xs : List Int) (w : World) (fp : List Nat) (hR : R1 fp w [v] xs) :
    Calls Tryz.prog 88 #[v] w fun e w' => e = .returned (.bool (xs.all isV)) ∧ w = w' := by
  have S2 := Lib.hid (indexFuncV v xs w fp hR)
  have hall : xs.all isV = !(xs.any (fun n => !isV n)) := by simp [List.all_eq_not_any_not]
  have HA := Lib.hid hall
  have S3 : Hid (Calls Tryz.prog 99 #[v, .func (.func 100) #[] #[]] w fun e w' => e = .returned (.bool (xs.any (fun n => !isV n))) ∧ w = w') := Lib.hid (by
    clear hall HA
    go_enter Tryz.func99, Tryz.ntmps99
    go_wp2_with fail
    refine S2.out.mono ?_
    rintro e w1 ⟨⟨q, rfl, h1, h2, h3⟩, rfl⟩
    have H3 := Lib.hid h3
    clear h3
    go_wp2_with fail
    go_ret
    exact ⟨by rw [← H3.out]; rfl, rfl⟩)
  clear hall S2
  generalize xs.any (fun n => !isV n) = bb at *
  go_enter Tryz.func88, Tryz.ntmps88
  go_wp2_with fail
  refine S3.out.mono ?_
  rintro e w1 ⟨rfl, rfl⟩
  go_wp2_with fail
  go_ret
  exact ⟨by rw [HA.out]; rfl, rfl⟩

end Go.Proofs.YtdnjjanacbkijaaGreatDoor

/-
  Names and labels, plainly; both sides' ways to read a label agree; what is made is read back.
-/
namespace Go.Proofs.YtdnjjanacbkijaaGreatDoor

def sml (b : UInt8) : Bool := decide (97 ≤ b.toNat ∧ b.toNat ≤ 122)
def nameF (l : List UInt8) : Bool := decide (1 ≤ l.length) && decide (l.length ≤ 10) && sml (l.headD 0) && l.all (fun c => sml c || isDig c)
def tauL : List UInt8 := [116, 97, 117]
def actF (l : List UInt8) : Bool := nameF l && (l != tauL)
def txtV (vs : List Int) : List UInt8 := joinC 44 (vs.map Lib.itoa)
/-- the label with a name and values, if there is one. -/
def labT (name : List UInt8) (vs : List Int) : Option (List UInt8) :=
  if name = tauL then (if vs = [] then some tauL else none)
  else if actF name && decide (vs.length ≤ 2) && vs.all isV then some (if vs = [] then name else ((name ++ [40]) ++ txtV vs) ++ [41]) else none
/-- the name and the values of a label, read by the program. -/
def readF (s : List UInt8) : Option (List UInt8 × List Int) :=
  if (Lib.cut s [40]).2.2 then
    match numsF (splitC 44 (Lib.trimSuffix (Lib.cut s [40]).2.1 [41])) with
    | none => none
    | some vs => if labT (Lib.cut s [40]).1 vs = some s then some ((Lib.cut s [40]).1, vs) else none
  else if labT s [] = some s then some (s, []) else none

theorem name_char {l : List UInt8} (h : nameF l = true) (c : UInt8) (hc : sml c = false) (hd : isDig c = false) : c ∉ l := fun hm => by
  unfold nameF at h
  simp only [Bool.and_eq_true] at h
  have := List.all_eq_true.1 h.2 c hm
  rw [hc, hd] at this; cases this
theorem actF_name {l : List UInt8} (h : actF l = true) : nameF l = true ∧ l ≠ tauL := by
  unfold actF at h
  rw [Bool.and_eq_true] at h
  exact ⟨h.1, by simpa using h.2⟩

theorem cut_none {s : List UInt8} (h : (40 : UInt8) ∉ s) : Lib.cut s [40] = (s, [], false) := by
  rcases index_cut 40 s with ⟨h1, -, -⟩ | ⟨i, -, -, h3, -, -⟩
  · simp [Lib.cut, h1]
  · exact absurd (List.mem_of_getElem? h3) h
theorem cut_at {p r : List UInt8} (h : (40 : UInt8) ∉ p) : Lib.cut (p ++ 40 :: r) [40] = (p, r, true) := by
  rcases index_cut 40 (p ++ 40 :: r) with ⟨-, h2, -⟩ | ⟨i, h1, h2, h3, h4, -⟩
  · exact absurd (by simp) h2
  · have hi : i = p.length := by
      rcases Nat.lt_trichotomy i p.length with h9 | h9 | h9
      · rw [List.getElem?_append_left h9] at h3
        exact absurd (List.mem_of_getElem? h3) h
      · exact h9
      · refine absurd ?_ h4
        rw [List.take_append, List.mem_append]
        right
        rw [show i - p.length = (i - p.length - 1) + 1 by omega, List.take_succ_cons]
        simp
    subst hi
    simp [Lib.cut, h1]

theorem trim_at (r : List UInt8) : Lib.trimSuffix (r ++ [41]) [41] = r := by
  simp [Lib.trimSuffix, Lib.hasSuffix]

theorem itoa_len64 {n : Int} (h : isV n = true) : (digL (Lib.itoa n)).length ≤ 18 := by
  have hb := inB_true h
  rcases itoa_shape n with ⟨h0, h1, h2⟩ | ⟨h0, h1, h2⟩
  · rw [h2]
    by_cases h9 : n.toNat < 10
    · rw [Lib.decDigits_one h9]; simp
    · rw [Lib.decDigits_two h9 (by omega)]; simp
  · omega

theorem readF_labT {name : List UInt8} {vs : List Int} {s : List UInt8} (h : labT name vs = some s) : readF s = some (name, vs) := by
  have hs := h
  unfold labT at h
  split at h
  · rename_i ht
    split at h
    · rename_i hv
      subst ht hv
      cases h
      have hc : (40 : UInt8) ∉ tauL := by decide
      simp only [readF, cut_none hc, Bool.false_eq_true, if_false, hs, if_true]
    · cases h
  · rename_i ht
    split at h
    · rename_i hc
      simp only [Bool.and_eq_true, decide_eq_true_eq] at hc
      obtain ⟨⟨ha, hl⟩, hv⟩ := hc
      have hno := name_char (actF_name ha).1 40 (by decide) (by decide)
      split at h
      · rename_i hve
        subst hve
        cases h
        simp only [readF, cut_none hno, Bool.false_eq_true, if_false, hs, if_true]
      · rename_i hve
        cases h
        have e : ((name ++ [40]) ++ txtV vs) ++ [41] = name ++ 40 :: (txtV vs ++ [41]) := by simp
        have hsp : splitC 44 (txtV vs) = vs.map Lib.itoa := by
          refine split_join 44 _ (by simpa using hve) (fun p hp => ?_)
          obtain ⟨n, -, rfl⟩ := List.mem_map.1 hp
          exact itoa_no n 44 (by decide) (by decide)
        have hnum := numsF_itoa vs (fun n hn => itoa_len64 (List.all_eq_true.1 hv n hn))
        unfold readF
        rw [e, cut_at hno]
        simp only [if_true, trim_at, hsp, hnum]
        rw [← e, if_pos hs]
    · cases h

end Go.Proofs.YtdnjjanacbkijaaGreatDoor

/-
  A number in decimal: the reference's digits.
-/
namespace Go.Proofs.YtdnjjanacbkijaaGreatDoor
open Go.RowKit

abbrev es (l : List UInt8) : Value := .string ⟨l.toArray⟩
end Go.Proofs.YtdnjjanacbkijaaGreatDoor

/-
  The source of choices of the reference: what its calls return, and what they leave.
-/
namespace Go.Proofs.YtdnjjanacbkijaaGreatDoor
open Go.RowKit

abbrev R_B : Rp (List Int) := slF 1 (fun n => [Value.int .u8 n])
theorem R_Bk : Kept R_B := slF_kept _ _
def bytesOk (xs : List Int) : Prop := ∀ x ∈ xs, 0 ≤ x ∧ x ≤ 255

/-- the source at block p, behind at most N choices. -/
def IsSrc (N p : Nat) (w : World) : Prop := ∃ (cv : Value) (code : List Int) (fc : List Nat) (at' seed : Int), w.cell? ⟨p, 0, none⟩ = some cv ∧ w.cell? ⟨p, 1, none⟩ = some (ei at') ∧ w.cell? ⟨p, 2, none⟩ = some (.int .u64 seed) ∧
  R_B fc w [cv] code ∧ bytesOk code ∧ code.length ≤ 1048576 ∧ 0 ≤ at' ∧ at' ≤ N ∧ 0 ≤ seed ∧ seed ≤ 18446744073709551615 ∧ Own [p] w ∧ ∀ c ∈ fc, c < p

theorem IsSrc.mono {N M p : Nat} {w : World} (h : IsSrc N p w) (hNM : N ≤ M) : IsSrc M p w := by
  obtain ⟨cv, code, fc, a, s, h1, h2, h3, h4, h5, h6, h7, h8, h9⟩ := h
  exact ⟨cv, code, fc, a, s, h1, h2, h3, h4, h5, h6, h7, by omega, h9⟩
theorem IsSrc.lt {N p : Nat} {w : World} (h : IsSrc N p w) : p < w.heap.size := by
  obtain ⟨cv, code, fc, a, s, h1, -⟩ := h; exact World.block_lt_of_cell? w _ h1
theorem IsSrc.upd {N p : Nat} {w w1 : World} (h : IsSrc N p w) (hu : Upd [] w w1) : IsSrc N p w1 := by
  obtain ⟨cv, code, fc, a, s, h1, h2, h3, h4, h5, h6, h7, h8, h9, h10, h11, h12⟩ := h
  exact ⟨cv, code, fc, a, s, hu.keep h1, hu.keep h2, hu.keep h3, R_Bk.upd h4 hu (by simp), h5, h6, h7, h8, h9, h10, h11.upd hu (by simp), h12⟩

/-- the source is kept where newer blocks are written. -/
theorem IsSrc.other {N p : Nat} {w w1 : World} {f : List Nat} (h : IsSrc N p w) (hu : Upd f w w1) (hf : ∀ b ∈ f, p < b) : IsSrc N p w1 := by
  have hpf : p ∉ f := fun hm => by have := hf p hm; omega
  obtain ⟨cv, code, fc, a, s, h1, h2, h3, h4, h5, h6, h7, h8, h9, h10, h11, h12⟩ := h
  have hb := hu.block p (World.block_lt_of_cell? w _ h1) hpf
  exact ⟨cv, code, fc, a, s, (World.cell?_of_block (a := ⟨p, 0, none⟩) hb).trans h1, (World.cell?_of_block (a := ⟨p, 1, none⟩) hb).trans h2, (World.cell?_of_block (a := ⟨p, 2, none⟩) hb).trans h3,
    R_Bk.upd h4 hu (fun b hb hm => by have := hf b hm; have := h12 b hb; omega), h5, h6, h7, h8, h9, h10, h11.upd hu (by simpa using hpf), h12⟩

theorem wrap_u64_bd (n : Int) : 0 ≤ IntKind.u64.wrap n ∧ IntKind.u64.wrap n ≤ 18446744073709551615 := by rw [IntKind.wrap_u64]; omega

theorem and255 (Z : Int) (h : 0 ≤ Z ∧ Z ≤ 18446744073709551615) : 0 ≤ wrap64 (bits BinOp.and IntKind.u64 (Z / 1099511627776) 255) ∧ wrap64 (bits BinOp.and IntKind.u64 (Z / 1099511627776) 255) ≤ 255 := by
  obtain ⟨n, hn⟩ : ∃ n : Nat, Z / 1099511627776 = n := ⟨(Z / 1099511627776).toNat, by omega⟩
  have e := bits_and_u64_nat n 255 (by omega) (by omega)
  rw [hn, show (255 : Int) = ((255 : Nat) : Int) from rfl, e]
  have h2 : n &&& 255 ≤ 255 := Nat.and_le_right
  rw [IntWalk.wrap64_in _ (by omega)]
  omega

theorem srcSet {p : Nat} {w : World} {cv : Value} {code : List Int} {fc : List Nat} {at' seed : Int} (hown : Own [p] w) (hpf0 : ∀ c ∈ fc, c < p) (hcode : R_B fc w [cv] code) (hbs : bytesOk code) (hcl : code.length ≤ 1048576)
    (c0 : w.cell? ⟨p, 0, none⟩ = some cv) (c1 : w.cell? ⟨p, 1, none⟩ = some (ei at')) (c2 : w.cell? ⟨p, 2, none⟩ = some (.int .u64 seed)) (_hs0 : 0 ≤ seed) (_hs1 : seed ≤ 18446744073709551615)
    (N q : Nat) (hq : q ≤ N) (Z : Int) (hZ : 0 ≤ Z ∧ Z ≤ 18446744073709551615) (n : Nat) :
    IsSrc (N + 1) p ((((w.drewN n).setCell ⟨p, 1, none⟩ (.int .i64 ((q : Int) + 1))).setCell ⟨p, 2, none⟩ (.int .u64 Z))) ∧ Upd [p] w ((((w.drewN n).setCell ⟨p, 1, none⟩ (.int .i64 ((q : Int) + 1))).setCell ⟨p, 2, none⟩ (.int .u64 Z))) := by
  have hu : Upd [p] w ((((w.drewN n).setCell ⟨p, 1, none⟩ (.int .i64 ((q : Int) + 1))).setCell ⟨p, 2, none⟩ (.int .u64 Z))) := (((Upd.refl [p] w).drewN n).setCell (by simp) _).setCell (by simp) _
  refine ⟨⟨cv, code, fc, (q : Int) + 1, Z, ?_, ?_, ?_, R_Bk.upd hcode hu (fun b hb hm => by simp at hm; subst hm; have := hpf0 _ hb; omega), hbs, hcl, by omega, by omega, hZ.1, hZ.2, ?_, hpf0⟩, hu⟩
  · rw [World.cell?_setCell_other _ _ _ _ (by simp), World.cell?_setCell_other _ _ _ _ (by simp)]; exact c0
  · rw [World.cell?_setCell_other _ _ _ _ (by simp)]; exact World.cell?_setCell_same _ _ _ (show (w.drewN n).cell? ⟨p, 1, none⟩ = some (ei at') from c1)
  · exact World.cell?_setCell_same _ _ _ (show ((w.drewN n).setCell ⟨p, 1, none⟩ (.int .i64 ((q : Int) + 1))).cell? ⟨p, 2, none⟩ = some (.int .u64 seed) from by
      rw [World.cell?_setCell_other _ _ _ _ (by simp)]; exact c2)
  · exact ((show Own [p] (w.drewN n) from hown).setCell _ _).setCell _ _

set_option maxRecDepth 20000 in
set_option maxHeartbeats 2000000 in
theorem srcNext (N p : Nat) (w : World) (hN : N ≤ 1000000000) (h : IsSrc N p w) :
    Calls Tryz.prog 50 #[.pointer (some ⟨p, 0, none⟩)] w fun e w' => (∃ x : Int, e = .returned (.int .i64 x) ∧ 0 ≤ x ∧ x ≤ 255) ∧ IsSrc (N + 1) p w' ∧ Upd [p] w w' := by
  obtain ⟨cv, code, fc, at', seed, c0, c1, c2, hcode, hbs, hcl, ha0, ha1, hs0, hs1, hown, hpf0⟩ := h
  have hpf : p ∉ fc := fun hm => by have := hpf0 p hm; omega
  obtain ⟨a, cap, rfl, h1, h2, hc⟩ := slF1_open hcode
  unfold maxLen at h2
  obtain ⟨q, rfl⟩ : ∃ q : Nat, at' = q := ⟨at'.toNat, by omega⟩
  have hfz : w.frozen? ⟨p, 1, none⟩ = false := hown.frozen (by simp) _
  have hfz2 : w.frozen? ⟨p, 2, none⟩ = false := hown.frozen (by simp) _
  by_cases hlt : q < code.length
  · obtain ⟨cb, off, rfl, hfc, hbl, hcell⟩ := hc q hlt
    have hb := hbs code[q] (by simp)
    have hne : cb ≠ p := by intro h; subst h; exact hpf (by simp [hfc])
    have HB := Lib.hid hbs
    have HC := Lib.hid hcode
    have HO := Lib.hid hown
    generalize code[q] = x at *
    clear hc hbs hcode hown
    go_enter Tryz.func50, Tryz.ntmps50
    go_wp2_with fail
    go_quiet (fail)
    go_wp2_with fail
    go_quiet (fail)
    go_wp2_with fail
    obtain ⟨Z, hZ⟩ : ∃ Z, Z = IntKind.u64.wrap (IntKind.u64.wrap (IntKind.u64.wrap (seed * 6364136223846793005) + x) + 1442695040888963407) := ⟨_, rfl⟩
    have hZb := wrap_u64_bd (IntKind.u64.wrap (IntKind.u64.wrap (seed * 6364136223846793005) + x) + 1442695040888963407)
    rw [← hZ] at hZb ⊢
    have HS := srcSet HO.out hpf0 HC.out HB.out hcl c0 c1 c2 hs0 hs1 N q (by omega) Z hZb
    have HSS := Lib.hid HS
    clear hZ HS
    go_quiet (fail)
    go_wp2_with fail
    go_ret
    exact ⟨⟨x, rfl, hb.1, hb.2⟩, (HSS.out _).1.upd ((Upd.refl _ _).drewN _), (HSS.out _).2.drewN _⟩
  · have hge : code.length ≤ q := by omega
    have HB := Lib.hid hbs
    have HC := Lib.hid hcode
    have HO := Lib.hid hown
    clear hc hbs hcode hown
    go_enter Tryz.func50, Tryz.ntmps50
    go_wp2_with fail
    go_quiet (fail)
    go_wp2_with fail
    obtain ⟨Z, hZ⟩ : ∃ Z, Z = IntKind.u64.wrap (IntKind.u64.wrap (IntKind.u64.wrap (seed * 6364136223846793005)) + 1442695040888963407) := ⟨_, rfl⟩
    have hZb := wrap_u64_bd (IntKind.u64.wrap (IntKind.u64.wrap (seed * 6364136223846793005)) + 1442695040888963407)
    rw [← hZ] at hZb ⊢
    have HS := srcSet HO.out hpf0 HC.out HB.out hcl c0 c1 c2 hs0 hs1 N q (by omega) Z hZb
    have HSS := Lib.hid HS
    clear hZ HS
    go_quiet (fail)
    go_wp2_with fail
    go_ret
    exact ⟨⟨_, rfl, and255 Z hZb⟩, (HSS.out _).1.upd ((Upd.refl _ _).drewN _), (HSS.out _).2.drewN _⟩

/-- what a call of the source leaves: N' more choices at most. -/
def SrcAt (N p : Nat) (w : World) (P : Int → Prop) (e : Ending) (w' : World) : Prop := (∃ x : Int, e = .returned (.int .i64 x) ∧ P x) ∧ IsSrc N p w' ∧ Upd [p] w w'

set_option maxRecDepth 20000 in
set_option maxHeartbeats 2000000 in
theorem srcPick (N p : Nat) (n : Int) (w : World) (hN : N ≤ 900000000) (h : IsSrc N p w) (hn : n ≤ 1000000) (hn0 : -1000000 ≤ n) :
    Calls Tryz.prog 28 #[.pointer (some ⟨p, 0, none⟩), .int .i64 n] w (SrcAt (N + 2) p w (fun x => 0 ≤ x ∧ (x < n ∨ (x = 0 ∧ n ≤ 1)))) := by
  by_cases h1 : n ≤ 1
  · have HS := Lib.hid (h.mono (show N ≤ N + 2 by omega))
    clear h
    go_enter Tryz.func28, Tryz.ntmps28
    go_wp2_with fail
    go_ret
    exact ⟨⟨0, rfl, by omega, Or.inr ⟨rfl, h1⟩⟩, HS.out, Upd.refl _ _⟩
  · have S1 := Lib.hid (srcNext N p w (by omega) h)
    clear h
    by_cases h2 : n > 200
    · go_enter Tryz.func28, Tryz.ntmps28
      go_wp2_with fail
      refine S1.out.mono ?_
      rintro e w1 ⟨⟨x, rfl, hx0, hx1⟩, hs1, hu1⟩
      have S2 := Lib.hid (srcNext (N + 1) p w1 (by omega) hs1)
      clear hs1 S1
      go_wp2_with fail
      refine S2.out.mono ?_
      rintro e w2 ⟨⟨y, rfl, hy0, hy1⟩, hs2, hu2⟩
      have HS := Lib.hid (And.intro hs2 (hu1.trans hu2))
      clear hs2 hu1 hu2 S2
      go_wp2_with fail
      go_ret
      exact ⟨⟨_, rfl, Int.emod_nonneg _ (by omega), Or.inl (Int.emod_lt_of_pos _ (by omega))⟩, HS.out.1, HS.out.2⟩
    · go_enter Tryz.func28, Tryz.ntmps28
      go_wp2_with fail
      refine S1.out.mono ?_
      rintro e w1 ⟨⟨x, rfl, hx0, hx1⟩, hs1, hu1⟩
      have HS := Lib.hid (And.intro (hs1.mono (show N + 1 ≤ N + 2 by omega)) hu1)
      clear hs1 hu1 S1
      go_wp2_with fail
      go_ret
      exact ⟨⟨_, rfl, Int.emod_nonneg _ (by omega), Or.inl (Int.emod_lt_of_pos _ (by omega))⟩, HS.out.1, HS.out.2⟩

set_option maxRecDepth 20000 in
theorem srcOne (N p : Nat) (n : Int) (w : World) (hN : N ≤ 900000000) (h : IsSrc N p w) (hn : n ≤ 1000000) (hn0 : -1000000 ≤ n) :
    Calls Tryz.prog 27 #[.pointer (some ⟨p, 0, none⟩), .int .i64 n] w fun e w' => (∃ b : Bool, e = .returned (.bool b)) ∧ IsSrc (N + 2) p w' ∧ Upd [p] w w' := by
  have S1 := Lib.hid (srcPick N p n w hN h hn hn0)
  clear h
  go_enter Tryz.func27, Tryz.ntmps27
  go_wp2_with fail
  refine S1.out.mono ?_
  rintro e w1 ⟨⟨x, rfl, -⟩, hs1, hu1⟩
  have HS := Lib.hid (And.intro hs1 hu1)
  clear hs1 hu1 S1
  go_wp2_with fail
  go_ret
  exact ⟨⟨_, rfl⟩, HS.out.1, HS.out.2⟩

set_option maxRecDepth 20000 in
theorem srcFrom (v : Value) (code : List Int) (w : World) (fc : List Nat) (hR : R_B fc w [v] code) (hb : bytesOk code) (hl : code.length ≤ 1048576) :
    Calls Tryz.prog 14 #[v] w fun e w' => (∃ p, e = .returned (.pointer (some ⟨p, 0, none⟩)) ∧ IsSrc 0 p w' ∧ w.heap.size ≤ p) ∧ Upd [] w w' := by
  obtain ⟨a, cap, rfl, h1, h2, -⟩ := slF1_open hR
  have hs : IsSrc 0 w.heap.size (w.alloc (.cells #[.slice a code.length cap, ei 0, .int .u64 0] 61)) :=
    ⟨_, code, fc, 0, 0, cell_new _ _ _ _ rfl _ _ rfl, cell_new _ _ _ _ rfl _ _ rfl, cell_new _ _ _ _ rfl _ _ rfl, R_Bk.upd hR ((Upd.refl [] w).alloc _) (by simp), hb, hl, by omega, by omega, by omega, by omega, own_new _ _ _, fun c hc => R_Bk.lt hR c hc⟩
  have HS := Lib.hid hs
  clear hs hR
  go_enter Tryz.func14, Tryz.ntmps14
  go_wp2_with fail
  go_ret
  exact ⟨⟨_, rfl, HS.out, Nat.le_refl _⟩, (Upd.refl _ _).alloc _⟩

end Go.Proofs.YtdnjjanacbkijaaGreatDoor

/-
  Lists of texts in memory.
-/
namespace Go.Proofs.YtdnjjanacbkijaaGreatDoor
open Go.RowKit

abbrev RS : Rp (List (List UInt8)) := slF 1 (fun s => [es s])
theorem RSk : Kept RS := slF_kept _ _

theorem joinC_le (c : UInt8) (L : Nat) : ∀ ps : List (List UInt8), (∀ p ∈ ps, p.length ≤ L) → (joinC c ps).length ≤ ps.length * (L + 1)
  | [], _ => by simp [joinC]
  | [p], h => by have := h p (by simp); simp [joinC]; omega
  | p :: q :: ps, h => by
    have h1 := h p (by simp)
    have h2 := joinC_le c L (q :: ps) (fun x hx => h x (List.mem_cons_of_mem _ hx))
    have e : (p :: q :: ps).length * (L + 1) = (q :: ps).length * (L + 1) + (L + 1) := by rw [List.length_cons (a := p), Nat.add_mul]; omega
    rw [e]
    simp only [joinC, List.length_append, List.length_cons]
    simp only [List.length_cons] at h2
    omega

theorem rowCellS {fo : List Nat} {w : World} {b m cap : Nat} {l : List (List UInt8)} (h : RS fo w [.slice (some ⟨b, 0, none⟩) m cap] l) (hO : Own fo w) (hm : l.length = m) (j : Nat) (hj : j < m) :
    b < w.heap.size ∧ w.cell? ⟨b, j, none⟩ = some (es (l[j]'(by omega))) ∧ w.frozen? ⟨b, j, none⟩ = false ∧
      ∀ x, RS fo (w.setCell ⟨b, j, none⟩ (es x)) [.slice (some ⟨b, 0, none⟩) m cap] (l.set j x) ∧ Own fo (w.setCell ⟨b, j, none⟩ (es x)) := by
  subst hm
  obtain ⟨_, _, _, hv, -, -, hof, hbl, hoc, hos⟩ := slF1_cell h j hj
  simp only [Value.slice.injEq, Option.some.injEq, Addr.mk.injEq, and_true, true_and] at hv
  obtain ⟨⟨rfl, rfl⟩, rfl⟩ := hv
  rw [Nat.zero_add] at hoc hos
  exact ⟨hbl, hoc, hO.frozen (by rw [hof]; simp) _, fun x => ⟨hos x, hO.setCell _ _⟩⟩

theorem Tryz.info9 : (Tryz.prog.info? 9).map (fun i => (i.zero, i.size, i.bytes)) = some (some (.string ⟨#[]⟩), 1, 16) := by kernel_rfl

theorem numsF_cons (p : List UInt8) (ps : List (List UInt8)) : numsF (p :: ps) = (numF p).bind fun n => (numsF ps).map (n :: ·) := by
  rw [numsF]
  cases numF p with
  | none => rfl
  | some n => cases numsF ps <;> rfl

theorem new_nil (w w' : World) : New R1 w w' (.slice none 0 0) [] :=
  ⟨[], ⟨_, rfl, none, 0, rfl, Nat.le_refl _, by simp [maxLen], by simp, Or.inl ⟨rfl, rfl⟩⟩, Own.nil _, by simp⟩

end Go.Proofs.YtdnjjanacbkijaaGreatDoor

/-
  The laws' helper functions over lists of texts.
-/
namespace Go.Proofs.YtdnjjanacbkijaaGreatDoor
open Go.RowKit

abbrev R_S1 : Rp (List (List UInt8)) := RS
theorem R_S1k : Kept R_S1 := RSk
/-- the text that marks the number k. -/
def mtx (k : Int) : List UInt8 := 109 :: Lib.decDigits k.toNat

/-- n marks from k on. -/
def mkS (k : Int) (n : Nat) : List (List UInt8) := (upFrom k n).map mtx
@[simp] theorem mkS_length (k : Int) (n : Nat) : (mkS k n).length = n := by simp [mkS]
theorem mkS_get (k : Int) (n i : Nat) (h : i < n) : (mkS k n)[i]? = some (mtx (k + i)) := by
  unfold mkS; rw [List.getElem?_map, upFrom_get k n i h]; rfl
end Go.Proofs.YtdnjjanacbkijaaGreatDoor

/-
  Slices of elements of three or four plain cells each.
-/
namespace Go.Proofs.YtdnjjanacbkijaaGreatDoor
open Go.RowKit

theorem flatMap_three_get {α : Type} (e1 e2 e3 : α → Value) (xs : List α) (i : Nat) (h : i < xs.length) :
    (xs.flatMap fun x => [e1 x, e2 x, e3 x])[i * 3]? = some (e1 xs[i]) ∧ (xs.flatMap fun x => [e1 x, e2 x, e3 x])[i * 3 + 1]? = some (e2 xs[i]) ∧ (xs.flatMap fun x => [e1 x, e2 x, e3 x])[i * 3 + 2]? = some (e3 xs[i]) := by
  induction xs generalizing i with
  | nil => simp at h
  | cons x xs ih =>
    cases i with
    | zero => simp
    | succ i =>
      have h' : i < xs.length := by simpa using h
      have hh := ih i h'
      rw [show (i + 1) * 3 = i * 3 + 1 + 1 + 1 from by omega]
      simp only [List.flatMap_cons, List.cons_append, List.nil_append, List.getElem?_cons_succ, List.getElem_cons_succ]
      exact hh
theorem slF3_open {α : Type} {e1 e2 e3 : α → Value} {fp : List Nat} {w : World} {v : Value} {xs : List α} (h : slF 3 (fun x => [e1 x, e2 x, e3 x]) fp w [v] xs) :
    ∃ a cap, v = .slice a xs.length cap ∧ xs.length ≤ cap ∧ cap ≤ maxLen ∧
      ∀ i (h : i < xs.length), ∃ b off, a = some ⟨b, off, none⟩ ∧ fp = [b] ∧ b < w.heap.size ∧ w.cell? ⟨b, off + i * 3, none⟩ = some (e1 xs[i]) ∧ w.cell? ⟨b, off + i * 3 + 1, none⟩ = some (e2 xs[i]) ∧ w.cell? ⟨b, off + i * 3 + 2, none⟩ = some (e3 xs[i]) := by
  obtain ⟨v', hv, a, cap, rfl, h1, h2, h3, h4⟩ := h
  cases hv
  refine ⟨a, cap, rfl, h1, h2, fun i hi => ?_⟩
  rcases h4 with ⟨h0, -⟩ | ⟨b, off, rfl, rfl, hbl, hc⟩
  · omega
  · have g := flatMap_three_get e1 e2 e3 xs i hi
    refine ⟨b, off, rfl, rfl, hbl, ?_, ?_, ?_⟩
    · exact hc _ _ g.1
    · have := hc _ _ g.2.1; rwa [← Nat.add_assoc] at this
    · have := hc _ _ g.2.2; rwa [← Nat.add_assoc] at this
theorem flatMap_four_get {α : Type} (e1 e2 e3 e4 : α → Value) (xs : List α) (i : Nat) (h : i < xs.length) :
    (xs.flatMap fun x => [e1 x, e2 x, e3 x, e4 x])[i * 4]? = some (e1 xs[i]) ∧ (xs.flatMap fun x => [e1 x, e2 x, e3 x, e4 x])[i * 4 + 1]? = some (e2 xs[i]) ∧ (xs.flatMap fun x => [e1 x, e2 x, e3 x, e4 x])[i * 4 + 2]? = some (e3 xs[i]) ∧ (xs.flatMap fun x => [e1 x, e2 x, e3 x, e4 x])[i * 4 + 3]? = some (e4 xs[i]) := by
  induction xs generalizing i with
  | nil => simp at h
  | cons x xs ih =>
    cases i with
    | zero => simp
    | succ i =>
      have h' : i < xs.length := by simpa using h
      have hh := ih i h'
      rw [show (i + 1) * 4 = i * 4 + 1 + 1 + 1 + 1 from by omega]
      simp only [List.flatMap_cons, List.cons_append, List.nil_append, List.getElem?_cons_succ, List.getElem_cons_succ]
      exact hh
theorem slF4_open {α : Type} {e1 e2 e3 e4 : α → Value} {fp : List Nat} {w : World} {v : Value} {xs : List α} (h : slF 4 (fun x => [e1 x, e2 x, e3 x, e4 x]) fp w [v] xs) :
    ∃ a cap, v = .slice a xs.length cap ∧ xs.length ≤ cap ∧ cap ≤ maxLen ∧
      ∀ i (h : i < xs.length), ∃ b off, a = some ⟨b, off, none⟩ ∧ fp = [b] ∧ b < w.heap.size ∧ w.cell? ⟨b, off + i * 4, none⟩ = some (e1 xs[i]) ∧ w.cell? ⟨b, off + i * 4 + 1, none⟩ = some (e2 xs[i]) ∧ w.cell? ⟨b, off + i * 4 + 2, none⟩ = some (e3 xs[i]) ∧ w.cell? ⟨b, off + i * 4 + 3, none⟩ = some (e4 xs[i]) := by
  obtain ⟨v', hv, a, cap, rfl, h1, h2, h3, h4⟩ := h
  cases hv
  refine ⟨a, cap, rfl, h1, h2, fun i hi => ?_⟩
  rcases h4 with ⟨h0, -⟩ | ⟨b, off, rfl, rfl, hbl, hc⟩
  · omega
  · have g := flatMap_four_get e1 e2 e3 e4 xs i hi
    refine ⟨b, off, rfl, rfl, hbl, ?_, ?_, ?_, ?_⟩
    · exact hc _ _ g.1
    · have := hc _ _ g.2.1; rwa [← Nat.add_assoc] at this
    · have := hc _ _ g.2.2.1; rwa [← Nat.add_assoc] at this
    · have := hc _ _ g.2.2.2; rwa [← Nat.add_assoc] at this
end Go.Proofs.YtdnjjanacbkijaaGreatDoor

/-
  The laws' helper functions over edges, and over systems of states and edges.
-/
namespace Go.Proofs.YtdnjjanacbkijaaGreatDoor
open Go.RowKit Go.ChangeShapes

/-- an edge: from, label, to. -/
structure Ed where
  fr : Int
  lb : Int
  to : Int
deriving DecidableEq
abbrev R_E1 : Rp (List Ed) := slF 3 (fun t => [ei t.fr, ei t.lb, ei t.to])
theorem R_E1k : Kept R_E1 := slF_kept _ _
theorem Tryz.infoEd : (Tryz.prog.info? 63).map (fun i => (i.zero, i.size, i.bytes)) = some (some (.agg #[.int .i64 0, .int .i64 0, .int .i64 0]), 3, 24) := by kernel_rfl

/-- a system of states and edges. -/
structure Sys where
  st : Int
  ini : Int
  labs : List (List UInt8)
  eds : List Ed
deriving DecidableEq
end Go.Proofs.YtdnjjanacbkijaaGreatDoor

/-
  The order of texts.
-/
namespace Go.Proofs.YtdnjjanacbkijaaGreatDoor
open Go.RowKit

def bl (a b : List UInt8) : Bool := Op.bytesLess a b
theorem bl_total : ∀ a b : List UInt8, (bl a b || a == b) = !bl b a
  | [], [] => rfl
  | [], _ :: _ => rfl
  | _ :: _, [] => rfl
  | a :: x, b :: y => by
    have ih := bl_total x y
    unfold bl at ih ⊢
    simp only [Op.bytesLess]
    rcases Nat.lt_trichotomy a.toNat b.toNat with h | h | h
    · have h1 : a < b := UInt8.lt_iff_toNat_lt.2 h
      have h2 : ¬ b < a := fun h2 => by have := UInt8.lt_iff_toNat_lt.1 h2; omega
      have h3 : ¬ b = a := fun e => by rw [e] at h; omega
      simp [h1, h2, h3]
    · have e : a = b := UInt8.toNat_inj.1 h
      subst e
      have h2 : ¬ a < a := fun h2 => by have := UInt8.lt_iff_toNat_lt.1 h2; omega
      simp only [h2, decide_false, Bool.false_or, beq_self_eq_true, Bool.true_and]
      rw [← ih]
      simp
    · have h1 : b < a := UInt8.lt_iff_toNat_lt.2 h
      have h2 : ¬ a < b := fun h2 => by have := UInt8.lt_iff_toNat_lt.1 h2; omega
      have h3 : ¬ a = b := fun e => by rw [e] at h; omega
      simp [h1, h2, h3]

end Go.Proofs.YtdnjjanacbkijaaGreatDoor

/-
  Names and labels by the reference: what its calls return.
-/
namespace Go.Proofs.YtdnjjanacbkijaaGreatDoor
open Go.RowKit

/-- the place of the first "(" of a text, or its length. -/
def openAt (s : List UInt8) : Nat := (s.takeWhile (fun b => b != 40)).length

theorem tw_all : ∀ s : List UInt8, (∀ x ∈ s, x ≠ 40) → s.takeWhile (fun b => b != 40) = s
  | [], _ => rfl
  | b :: s, h => by
    have h1 : b ≠ 40 := h b (by simp)
    rw [List.takeWhile_cons, if_pos (by simpa using h1), tw_all s (fun x hx => h x (List.mem_cons_of_mem _ hx))]

theorem openAt_none {s : List UInt8} : ∀ k, (∀ j (_ : j < k) (hj2 : j < s.length), s[j] ≠ 40) → k = s.length → openAt s = s.length := by
  intro k h hk
  unfold openAt
  rw [tw_all]
  intro x hx
  obtain ⟨j, hj, rfl⟩ := List.mem_iff_getElem.1 hx
  exact h j (by omega) hj
theorem openAt_at : ∀ {s : List UInt8} (k : Nat) (hk : k < s.length), (∀ j (_ : j < k) (hj2 : j < s.length), s[j] ≠ 40) → s[k] = 40 → openAt s = k
  | [], k, hk, _, _ => by simp at hk
  | b :: s, 0, hk, _, h0 => by
    have : b = 40 := by simpa using h0
    simp [openAt, this]
  | b :: s, k + 1, hk, h, h0 => by
    have h1 : b ≠ 40 := h 0 (by omega) (by omega)
    have h2 := openAt_at (s := s) k (by simpa using hk) (fun j hj hj2 => h (j + 1) (by omega) (by simpa using hj2)) (by simpa using h0)
    unfold openAt at h2 ⊢
    rw [List.takeWhile_cons, if_pos (by simpa using h1), List.length_cons, h2]

set_option maxRecDepth 20000 in
set_option maxHeartbeats 2000000 in
theorem openS (l : List UInt8) (w : World) (hl : l.length ≤ 2000000) : Calls Tryz.prog 81 #[es l] w fun e w' => e = .returned (.int .i64 (openAt l)) ∧ w = w' := by
  go_enter Tryz.func81, Tryz.ntmps81
  go_wp2_with fail
  go_loop [3] (fun i => ∃ k : Nat, k ≤ l.length ∧ i = .int .i64 k ∧ Hid (∀ j (hj : j < k) (hj2 : j < l.length), l[j] ≠ 40)) (fun i => l.length - (intOf i).toNat)
  case atStart => exact ⟨0, Nat.zero_le _, rfl, Lib.hid (fun j hj => by omega)⟩
  case round =>
    obtain ⟨k, hk, rfl, HF⟩ := hrel
    by_cases hlt : k < l.length
    · obtain ⟨b, hb⟩ : ∃ b, l[k] = b := ⟨_, rfl⟩
      have hix : (⟨l.toArray⟩ : ByteArray)[k]'(by simpa [ByteArray.size] using hlt) = b := by rw [← hb]; simp [ByteArray.getElem_eq_getElem_data]
      by_cases h4 : b = 40
      · have HR := Lib.hid (openAt_at k hlt HF.out (by rw [hb, h4]))
        subst h4
        clear HF hb
        go_wp2_with fail
        go_ret
        exact ⟨by rw [HR.out]; rfl, rfl⟩
      · have HQ := Lib.hid (show ∀ j (hj : j < k + 1) (hj2 : j < l.length), l[j] ≠ 40 from fun j hj hj2 => by
          by_cases e : j = k
          · subst e; rw [hb]; exact h4
          · exact HF.out j (by omega) hj2)
        have h5 : ((b.toNat : Int) == 40) = false := by
          simp; intro h; apply h4; exact UInt8.toNat_inj.1 (by simpa using (by omega : b.toNat = 40))
        clear HF hb h4
        go_wp2_with fail
        go_round
        case rel => exact ⟨k + 1, by omega, by go_num, HQ⟩
        case measure => simp [intOf]; omega
    · obtain rfl : k = l.length := by omega
      have HR := Lib.hid (openAt_none _ HF.out rfl)
      clear HF
      go_wp2_with fail
      go_ret
      exact ⟨by rw [HR.out]; rfl, rfl⟩

end Go.Proofs.YtdnjjanacbkijaaGreatDoor

/-
  A number in decimal, read by the reference. (Printed by gennum.py: the two signs alike.)
-/
namespace Go.Proofs.YtdnjjanacbkijaaGreatDoor
open Go.RowKit

end Go.Proofs.YtdnjjanacbkijaaGreatDoor

/-
  The values of a label, as the reference reads them, are those that the program reads.
-/
namespace Go.Proofs.YtdnjjanacbkijaaGreatDoor
open Go.RowKit

end Go.Proofs.YtdnjjanacbkijaaGreatDoor

/-
  A text divided at each byte by the reference.
-/
namespace Go.Proofs.YtdnjjanacbkijaaGreatDoor
open Go.RowKit

theorem extract_list (l : List UInt8) (a b : Nat) : (⟨l.toArray⟩ : ByteArray).extract a b = ⟨((l.drop a).take (b - a)).toArray⟩ := by
  apply ByteArray.ext
  apply Array.ext'
  simp [ByteArray.data_extract, List.take_drop]
  first | done | (rw [List.drop_take]) | skip

end Go.Proofs.YtdnjjanacbkijaaGreatDoor

/-
  The values of a label, read by the reference.
-/
namespace Go.Proofs.YtdnjjanacbkijaaGreatDoor
open Go.RowKit

end Go.Proofs.YtdnjjanacbkijaaGreatDoor

/-
  Names and labels: what the program's calls return.
-/
namespace Go.Proofs.YtdnjjanacbkijaaGreatDoor
open Go.RowKit

theorem isDigitI (b : UInt8) (w : World) : Calls Tryz.prog 91 #[.int .u8 (b.toNat : Int)] w fun e w' => e = .returned (.bool (isDig b)) ∧ w = w' := by
  by_cases h1 : 48 ≤ b.toNat
  · by_cases h2 : b.toNat ≤ 57
    · have HR := Lib.hid (show isDig b = true by simp [isDig]; omega)
      have g1 : (48 : Int) ≤ (b.toNat : Int) := by omega
      have g2 : (b.toNat : Int) ≤ 57 := by omega
      go_enter Tryz.func91, Tryz.ntmps91
      go_wp2_with fail
      go_ret
      exact ⟨by rw [HR.out]; rfl, rfl⟩
    · have HR := Lib.hid (show isDig b = false by simp [isDig]; omega)
      have g1 : (48 : Int) ≤ (b.toNat : Int) := by omega
      have g2 : ¬ (b.toNat : Int) ≤ 57 := by omega
      go_enter Tryz.func91, Tryz.ntmps91
      go_wp2_with fail
      go_ret
      exact ⟨by rw [HR.out]; rfl, rfl⟩
  · have HR := Lib.hid (show isDig b = false by simp [isDig]; omega)
    have g1 : ¬ (48 : Int) ≤ (b.toNat : Int) := by omega
    go_enter Tryz.func91, Tryz.ntmps91
    go_wp2_with fail
    go_ret
    exact ⟨by rw [HR.out]; rfl, rfl⟩

set_option maxRecDepth 20000 in
set_option maxHeartbeats 2000000 in
theorem isNameI (l : List UInt8) (w : World) (hl : l.length ≤ 2000000) : Calls Tryz.prog 83 #[es l] w fun e w' => e = .returned (.bool (nameF l)) ∧ w = w' := by
  go_enter Tryz.func83, Tryz.ntmps83
  go_wp2_with fail
  go_loop [7] (fun i => ∃ k : Nat, k ≤ l.length ∧ i = .int .i64 k ∧ Hid (∀ j (hj : j < k) (hj2 : j < l.length), (sml l[j] || (decide (0 < j) && isDig l[j])) = true)) (fun i => l.length - (intOf i).toNat)
  case atStart => exact ⟨0, Nat.zero_le _, rfl, Lib.hid (fun j hj => by omega)⟩
  case round =>
    obtain ⟨k, hk, rfl, HQ⟩ := hrel
    by_cases hlt : k < l.length
    · obtain ⟨b, hb⟩ : ∃ b, l[k] = b := ⟨_, rfl⟩
      have hix : (⟨l.toArray⟩ : ByteArray)[k]'(by simpa [ByteArray.size] using hlt) = b := by rw [← hb]; simp [ByteArray.getElem_eq_getElem_data]
      have HB := Lib.hid hb
      have S1 := Lib.hid (isDigitI b w)
      clear hb
      have hno : (sml b || (decide (0 < k) && isDig b)) = false → nameF l = false := by
        intro h
        cases hn : nameF l with
        | false => rfl
        | true =>
          exfalso
          have hn' := hn
          unfold nameF at hn'
          simp only [Bool.and_eq_true] at hn'
          rw [Bool.or_eq_false_iff] at h
          by_cases h0 : k = 0
          · subst h0
            have e0 : l.headD 0 = b := by rw [← HB.out]; cases l with
              | nil => simp at hlt
              | cons x l => rfl
            have := hn'.1.2
            rw [e0, h.1] at this; cases this
          · have := List.all_eq_true.1 hn'.2 b (by rw [← HB.out]; exact List.getElem_mem hlt)
            rw [h.1] at this
            have h3 := h.2
            rw [decide_eq_true (by omega : 0 < k)] at h3
            simp at h3 this
            rw [h3] at this; cases this
      have HNO := Lib.hid hno
      have hstep : (sml b || (decide (0 < k) && isDig b)) = true → ∀ j (hj : j < k + 1) (hj2 : j < l.length), (sml l[j] || (decide (0 < j) && isDig l[j])) = true := by
        intro h j hj hj2
        by_cases e : j = k
        · subst e; rw [HB.out]; exact h
        · exact HQ.out j (by omega) hj2
      have HST := Lib.hid hstep
      clear hno hstep HQ HB
      by_cases hs : sml b = true
      · have hs' : 97 ≤ b.toNat ∧ b.toNat ≤ 122 := by simpa [sml] using hs
        have g1 : (97 : Int) ≤ (b.toNat : Int) := by omega
        have g2 : (b.toNat : Int) ≤ 122 := by omega
        have g3 : ¬ (122 : Int) < (b.toNat : Int) := by omega
        have HR := Lib.hid (HST.out (by rw [hs]; rfl))
        clear S1 HNO HST hs hs'
        go_wp2_with fail
        go_round
        case rel => exact ⟨k + 1, by omega, by go_num, HR⟩
        case measure => simp [intOf]; omega
      · have hs0 : sml b = false := by simpa using hs
        have HS0 := Lib.hid hs0
        have hs' : ¬ (97 ≤ b.toNat ∧ b.toNat ≤ 122) := by simpa [sml] using hs
        clear hs hs0
        by_cases h0 : k = 0
        · subst h0
          have HR := Lib.hid (HNO.out (by rw [HS0.out]; rfl))
          clear S1 HNO HST
          by_cases g1 : (97 : Int) ≤ (b.toNat : Int)
          · have g2 : ¬ (b.toNat : Int) ≤ 122 := by omega
            have g3 : (122 : Int) < (b.toNat : Int) := by omega
            clear hs'
            go_wp2_with fail
            go_ret
            exact ⟨by rw [HR.out]; rfl, rfl⟩
          · clear hs'
            go_wp2_with fail
            go_ret
            exact ⟨by rw [HR.out]; rfl, rfl⟩
        · have h0' : ((k : Int) == 0) = false := by simp; omega
          cases hd : isDig b with
          | true =>
            have HR := Lib.hid (HST.out (by rw [HS0.out, hd, decide_eq_true (by omega : 0 < k)]; rfl))
            rw [hd] at S1
            clear HNO HST hd
            by_cases g1 : (97 : Int) ≤ (b.toNat : Int)
            · have g2 : ¬ (b.toNat : Int) ≤ 122 := by omega
              have g3 : (122 : Int) < (b.toNat : Int) := by omega
              clear hs'
              go_wp2_with fail
              refine S1.out.mono ?_
              rintro e w1 ⟨rfl, rfl⟩
              go_wp2_with fail
              go_round
              case rel => exact ⟨k + 1, by omega, by go_num, HR⟩
              case measure => simp [intOf]; omega
            · clear hs'
              go_wp2_with fail
              refine S1.out.mono ?_
              rintro e w1 ⟨rfl, rfl⟩
              go_wp2_with fail
              go_round
              case rel => exact ⟨k + 1, by omega, by go_num, HR⟩
              case measure => simp [intOf]; omega
          | false =>
            have HR := Lib.hid (HNO.out (by rw [HS0.out, hd]; simp))
            rw [hd] at S1
            clear HNO HST hd
            by_cases g1 : (97 : Int) ≤ (b.toNat : Int)
            · have g2 : ¬ (b.toNat : Int) ≤ 122 := by omega
              have g3 : (122 : Int) < (b.toNat : Int) := by omega
              clear hs'
              go_wp2_with fail
              refine S1.out.mono ?_
              rintro e w1 ⟨rfl, rfl⟩
              go_wp2_with fail
              go_ret
              exact ⟨by rw [HR.out]; rfl, rfl⟩
            · clear hs'
              go_wp2_with fail
              refine S1.out.mono ?_
              rintro e w1 ⟨rfl, rfl⟩
              go_wp2_with fail
              go_ret
              exact ⟨by rw [HR.out]; rfl, rfl⟩
    · obtain rfl : k = l.length := by omega
      have hfin : nameF l = (decide (1 ≤ l.length) && decide (l.length ≤ 10)) := by
        have hq := HQ.out
        unfold nameF
        by_cases h1 : 1 ≤ l.length
        · have e0 : l.headD 0 = l[0] := by cases l with
            | nil => simp at h1
            | cons x l => rfl
          have q0 := hq 0 (by omega) (by omega)
          simp only [Nat.lt_irrefl, decide_false, Bool.false_and, Bool.or_false] at q0
          have hall : l.all (fun c => sml c || isDig c) = true := by
            rw [List.all_eq_true]
            intro x hx
            obtain ⟨j, hj, rfl⟩ := List.mem_iff_getElem.1 hx
            have := hq j hj hj
            revert this
            cases sml l[j] <;> cases isDig l[j] <;> simp
          rw [e0, q0, hall]; simp
        · rw [decide_eq_false h1]; simp
      have HF := Lib.hid hfin
      clear hfin HQ
      by_cases h1 : 1 ≤ l.length
      · have g1 : (1 : Int) ≤ (l.length : Int) := by omega
        by_cases h2 : l.length ≤ 10
        · have HR := Lib.hid (show nameF l = true by rw [HF.out, decide_eq_true h1, decide_eq_true h2]; rfl)
          have g2 : (l.length : Int) ≤ 10 := by omega
          go_wp2_with fail
          go_ret
          exact ⟨by rw [HR.out]; rfl, rfl⟩
        · have HR := Lib.hid (show nameF l = false by rw [HF.out, decide_eq_true h1, decide_eq_false h2]; rfl)
          have g2 : ¬ (l.length : Int) ≤ 10 := by omega
          go_wp2_with fail
          go_ret
          exact ⟨by rw [HR.out]; rfl, rfl⟩
      · have HR := Lib.hid (show nameF l = false by rw [HF.out, decide_eq_false h1]; rfl)
        have g1 : ¬ (1 : Int) ≤ (l.length : Int) := by omega
        go_wp2_with fail
        go_ret
        exact ⟨by rw [HR.out]; rfl, rfl⟩

end Go.Proofs.YtdnjjanacbkijaaGreatDoor

/-
  Reading numbers, texts and edges, plainly: a reader of a given number of bytes a number.
-/
namespace Go.Proofs.YtdnjjanacbkijaaGreatDoor
open Go.RowKit

end Go.Proofs.YtdnjjanacbkijaaGreatDoor

/-
  Expressions as trees: how a tree lies in memory; the terms of a tree in order; a valid list of terms is one tree's.
-/
namespace Go.Proofs.YtdnjjanacbkijaaGreatDoor
open Go.RowKit

end Go.Proofs.YtdnjjanacbkijaaGreatDoor

/-
  The terms of a tree in order; a tree out of terms: what each call returns and makes.
-/
namespace Go.Proofs.YtdnjjanacbkijaaGreatDoor
open Go.RowKit

end Go.Proofs.YtdnjjanacbkijaaGreatDoor

/-
  OperandsOf, both sides.
-/
namespace Go.Proofs.YtdnjjanacbkijaaGreatDoor
open Go.RowKit

end Go.Proofs.YtdnjjanacbkijaaGreatDoor

/-
  Postfix form: the stack of trees, plainly.
-/
namespace Go.Proofs.YtdnjjanacbkijaaGreatDoor

end Go.Proofs.YtdnjjanacbkijaaGreatDoor

/-
  Values of trees, and folding, plainly.
-/
namespace Go.Proofs.YtdnjjanacbkijaaGreatDoor

end Go.Proofs.YtdnjjanacbkijaaGreatDoor

/-
  Values of operations and of trees: what the calls return.
-/
namespace Go.Proofs.YtdnjjanacbkijaaGreatDoor
open Go.RowKit

end Go.Proofs.YtdnjjanacbkijaaGreatDoor

/-
  Folding, the program's side.
-/
namespace Go.Proofs.YtdnjjanacbkijaaGreatDoor
open Go.RowKit

end Go.Proofs.YtdnjjanacbkijaaGreatDoor

/-
  Folding, the reference's side.
-/
namespace Go.Proofs.YtdnjjanacbkijaaGreatDoor
open Go.RowKit

end Go.Proofs.YtdnjjanacbkijaaGreatDoor

/-
  The form's reading of bytes.
-/
namespace Go.Proofs.YtdnjjanacbkijaaGreatDoor
open Go.RowKit

theorem opens_B1 : Opens Tryz.prog 22 R_B (fun xs => ∀ n ∈ xs, (Lit.int .u8 n).wf = true) := opens_ints Tryz.underlying22 Tryz.underlying5 (by kernel_rfl)
theorem bytes_of {xs : List Int} (h : ∀ n ∈ xs, (Lit.int .u8 n).wf = true) : bytesOk xs := by
  intro x hx
  have := h x hx
  simp [Lit.wf, IntKind.min, IntKind.max, IntKind.signed, IntKind.bits] at this
  omega

end Go.Proofs.YtdnjjanacbkijaaGreatDoor

/-
  The expressions that the reference draws.
-/
namespace Go.Proofs.YtdnjjanacbkijaaGreatDoor
open Go.RowKit

end Go.Proofs.YtdnjjanacbkijaaGreatDoor

/-
  Canonical forms, plainly; forests of the rest of a valid list of terms.
-/
namespace Go.Proofs.YtdnjjanacbkijaaGreatDoor

end Go.Proofs.YtdnjjanacbkijaaGreatDoor

/-
  Comparing terms, small calls of Go's library, and canonical forms, the program's side.
-/
namespace Go.Proofs.YtdnjjanacbkijaaGreatDoor
open Go.RowKit

end Go.Proofs.YtdnjjanacbkijaaGreatDoor

/-
  Canonical forms, the program's side.
-/
namespace Go.Proofs.YtdnjjanacbkijaaGreatDoor
open Go.RowKit

end Go.Proofs.YtdnjjanacbkijaaGreatDoor

/-
  What the laws FnForms and FnTerms need: drawn expressions, expressions held against each other, postfix form.
-/
namespace Go.Proofs.YtdnjjanacbkijaaGreatDoor
open Go.RowKit

end Go.Proofs.YtdnjjanacbkijaaGreatDoor

/-
  Lists of values, and whether all variables of an expression have one.
-/
namespace Go.Proofs.YtdnjjanacbkijaaGreatDoor
open Go.RowKit

end Go.Proofs.YtdnjjanacbkijaaGreatDoor

/-
  Evaluate: what the calls return for a valid expression and values for all its variables.
-/
namespace Go.Proofs.YtdnjjanacbkijaaGreatDoor
open Go.RowKit

end Go.Proofs.YtdnjjanacbkijaaGreatDoor

/-
  Evaluate, the reference's side.
-/
namespace Go.Proofs.YtdnjjanacbkijaaGreatDoor
open Go.RowKit

end Go.Proofs.YtdnjjanacbkijaaGreatDoor

/-
  Two rows that a call appends to in turn, of texts and of numbers, over any items.
-/
namespace Go.Proofs.YtdnjjanacbkijaaGreatDoor
open Go.RowKit

theorem ownsRow_grownX {w w1 : World} {base : Nat} {e : TypeId} {size : Nat} {v : Value} {n : Nat} {xs : List Value} (h : w.ownsRow base e size v n xs) {row : Option Nat} (hg : w.grownBy w1 row) (hd : ∀ b, v.ownBlock = some b → row ≠ some b) : w1.ownsRow base e size v n xs := by
  refine h.kept (row := row) hg ?_
  cases hv : v.ownBlock with
  | none => exact Or.inl rfl
  | some b => exact Or.inr (fun e => hd b hv e.symm)

section
variable {β : Type} {ft : β → List UInt8} {fl : β → Int}
def txG (ft : β → List UInt8) (xs : List β) : List Value := xs.reverse.map fun x => es (ft x)
def lvG (fl : β → Int) (xs : List β) : List Value := xs.reverse.map fun x => .int .i64 (fl x)
theorem txG_cons (x : β) (xs : List β) : txG ft (x :: xs) = txG ft xs ++ [es (ft x)] := by simp [txG]
theorem lvG_cons (x : β) (xs : List β) : lvG fl (x :: xs) = lvG fl xs ++ [.int .i64 (fl x)] := by simp [lvG]
/-- the two stacks, apart. -/
structure StkG (ft : β → List UInt8) (fl : β → Int) (w0 w : World) (tv lv : Value) (xs : List β) : Prop where
  t : w.ownsRow w0.heap.size 9 1 tv xs.length (txG ft xs)
  l : w.ownsRow w0.heap.size 2 1 lv xs.length (lvG fl xs)
  apart : ∀ b, tv.ownBlock = some b → lv.ownBlock ≠ some b
theorem StkG.upd {w0 w w1 : World} {tv lv : Value} {xs : List β} (h : StkG ft fl w0 w tv lv xs) (hu : Upd [] w w1) : StkG ft fl w0 w1 tv lv xs :=
  ⟨ownsRow_upd h.t hu, ownsRow_upd h.l hu, h.apart⟩
theorem StkG.done {w0 wA w3 w4 : World} {tvc lvc tv' lv' : Value} {ys : List β} {x : β} {o : Obj} (hl : wA.ownsRow w0.heap.size 2 1 lvc ys.length (lvG fl ys))
    (hap : ∀ b, tvc.ownBlock = some b → lvc.ownBlock ≠ some b) (h3 : w3.ownsRow w0.heap.size 9 1 tv' (ys.length + 1) (txG ft ys ++ [es (ft x)])) (ht3 : ∀ b, tv'.ownBlock = some b → tvc.ownBlock = some b ∨ wA.heap.size ≤ b)
    (h4 : w4.ownsRow w0.heap.size 2 1 lv' (ys.length + 1) (lvG fl ys ++ [.int .i64 (fl x)])) (hg4 : (w3.alloc o).grownBy w4 lvc.ownBlock) (ht4 : ∀ b, lv'.ownBlock = some b → lvc.ownBlock = some b ∨ (w3.alloc o).heap.size ≤ b) : StkG ft fl w0 w4 tv' lv' (x :: ys) := by
  have hd : ∀ b, tv'.ownBlock = some b → lvc.ownBlock ≠ some b := by
    intro b hb hlb
    rcases ht3 b hb with h | h
    · exact hap b h hlb
    · have := (hl.lt b hlb).2; omega
  refine ⟨?_, by rw [lvG_cons]; simpa using h4, ?_⟩
  · rw [txG_cons]
    exact ownsRow_grownX (ownsRow_upd (by simpa using h3) ((Upd.refl [] _).alloc o)) hg4 hd
  · intro b hb hlb
    rcases ht4 b hlb with h | h
    · exact hd b hb h
    · have := (h3.lt b hb).2; simp at h; omega
end

end Go.Proofs.YtdnjjanacbkijaaGreatDoor

/-
  Readings of slices whose elements are several cells each and hold memory of their own.
-/
namespace Go.Proofs.YtdnjjanacbkijaaGreatDoor
open Go.RowKit

theorem flat_len {β : Type} {n : Nat} : ∀ {us : List (List β)}, (∀ u ∈ us, u.length = n) → us.flatten.length = us.length * n
  | [], _ => by simp
  | u :: us, h => by
    rw [List.flatten_cons, List.length_append, h u (by simp), flat_len (fun v hv => h v (by simp [hv])), List.length_cons, Nat.add_mul]
    omega
theorem flat_at {β : Type} {n : Nat} : ∀ {us : List (List β)}, (∀ u ∈ us, u.length = n) → ∀ {i : Nat} {u : List β}, us[i]? = some u → ∀ {j : Nat} {c : β}, u[j]? = some c → us.flatten[i * n + j]? = some c
  | [], _, i, u, hu, _, _, _ => by simp at hu
  | v :: us, h, i, u, hu, j, c, hc => by
    have hv := h v (by simp)
    rw [List.flatten_cons]
    cases i with
    | zero =>
      simp at hu; subst hu
      rw [Nat.zero_mul, Nat.zero_add, List.getElem?_append_left (List.getElem?_eq_some_iff.1 hc).1]; exact hc
    | succ i =>
      simp at hu
      rw [List.getElem?_append_right (by rw [Nat.add_mul]; omega), hv, show (i + 1) * n + j - n = i * n + j by rw [Nat.add_mul]; omega]
      exact flat_at (fun x hx => h x (by simp [hx])) hu hc

/-- A slice whose elements are n cells each, and hold memory of their own. -/
def slQ {α : Type} (n : Nat) (R : Rp α) : Rp (List α) := fun fp w cs xs =>
  ∃ (a : Option Addr) (cap : Nat) (us : List (List Value)) (fb : List Nat) (fps : List (List Nat)), cs = [.slice a xs.length cap] ∧ xs.length ≤ cap ∧ cap ≤ maxLen ∧ us.length = xs.length ∧ (∀ u ∈ us, u.length = n) ∧ fps.length = xs.length ∧ fp = fb ++ fps.flatten ∧
    ((xs.length = 0 ∧ fb = []) ∨ ∃ b off, a = some ⟨b, off, none⟩ ∧ fb = [b] ∧ b < w.heap.size ∧ ∀ (i j : Nat) (u : List Value) (c : Value), us[i]? = some u → u[j]? = some c → w.cell? ⟨b, off + i * n + j, none⟩ = some c) ∧
    ∀ i (h : i < xs.length) u (f : List Nat), us[i]? = some u → fps[i]? = some f → R f w u xs[i]

/-- Elements of several cells each, with memory of their own, from block base on and apart from the blocks ob. -/
def RowsQ {α : Type} (n : Nat) (R : Rp α) (base : Nat) (ob : List Nat) (w : World) (us : List (List Value)) (xs : List α) : Prop :=
  ∃ fps : List (List Nat), fps.length = xs.length ∧ us.length = xs.length ∧ (∀ u ∈ us, u.length = n) ∧ Own fps.flatten w ∧ (∀ b ∈ fps.flatten, base ≤ b ∧ b ∉ ob) ∧
    ∀ i (h : i < xs.length) u (f : List Nat), us[i]? = some u → fps[i]? = some f → R f w u xs[i]

/-- What a call makes anew, as several cells. -/
def NewQ {α : Type} (R : Rp α) (w w' : World) (u : List Value) (x : α) : Prop :=
  ∃ fp, R fp w' u x ∧ Own fp w' ∧ ∀ b ∈ fp, w.heap.size ≤ b

namespace RowsQ
variable {α : Type} {n : Nat} {R : Rp α} {base : Nat} {ob : List Nat} {w w1 : World} {us : List (List Value)} {xs : List α}

theorem nil (n : Nat) (R : Rp α) (base : Nat) (ob : List Nat) (w : World) : RowsQ n R base ob w [] [] := ⟨[], rfl, rfl, by simp, Own.nil w, by simp, by simp⟩
theorem length (h : RowsQ n R base ob w us xs) : us.length = xs.length := by obtain ⟨_, _, h, _⟩ := h; exact h
theorem each (h : RowsQ n R base ob w us xs) : ∀ u ∈ us, u.length = n := by obtain ⟨_, _, _, h, _⟩ := h; exact h
theorem flat (h : RowsQ n R base ob w us xs) : us.flatten.length = xs.length * n := by rw [flat_len h.each, h.length]

theorem upd (K : Kept R) (h : RowsQ n R base ob w us xs) {f : List Nat} (hu : Upd f w w1) (hf : ∀ b ∈ f, b ∈ ob ∨ b < base) : RowsQ n R base ob w1 us xs := by
  obtain ⟨fps, h1, h2, h6, h3, h4, h5⟩ := h
  have hd : ∀ b ∈ fps.flatten, b ∉ f := fun b hb hm => by
    rcases hf b hm with h | h
    · exact (h4 b hb).2 h
    · have := (h4 b hb).1; omega
  refine ⟨fps, h1, h2, h6, h3.upd hu hd, h4, fun i hi u f' hu' hf' => K.upd (h5 i hi u f' hu' hf') hu fun b hb => hd b (List.mem_flatten.2 ⟨_, List.mem_of_getElem? hf', hb⟩)⟩

theorem ob' (h : RowsQ n R base ob w us xs) {ob2 : List Nat} (hb : ∀ b ∈ ob2, b ∈ ob ∨ b < base ∨ w.heap.size ≤ b) : RowsQ n R base ob2 w us xs := by
  obtain ⟨fps, h1, h2, h6, h3, h4, h5⟩ := h
  refine ⟨fps, h1, h2, h6, h3, fun b hb' => ⟨(h4 b hb').1, fun hm => ?_⟩, h5⟩
  rcases hb b hm with h | h | h
  · exact (h4 b hb').2 h
  · have := (h4 b hb').1; omega
  · have := h3.lt b hb'; omega

theorem push (K : Kept R) (h : RowsQ n R base ob w us xs) {u : List Value} {x : α} (hu : Upd [] w w1) (hn : NewQ R w w1 u x) (hl : u.length = n) (hb : base ≤ w.heap.size) (hob : ∀ b ∈ ob, b < w.heap.size) :
    RowsQ n R base ob w1 (us ++ [u]) (xs ++ [x]) := by
  obtain ⟨fps, h1, h2, h6, h3, h4, h5⟩ := h.upd K hu (by simp)
  obtain ⟨fps', h1', h2', h6', h3', h4', h5'⟩ := h
  obtain ⟨fp, g1, g2, g3⟩ := hn
  have hlt : ∀ b ∈ fps'.flatten, b < w.heap.size := h3'.lt
  refine ⟨fps' ++ [fp], by simp [h1'], by simp [h2], ?_, ⟨?_, ?_⟩, ?_, ?_⟩
  · intro v hv
    rcases List.mem_append.1 hv with hv | hv
    · exact h6 v hv
    · simp at hv; subst hv; exact hl
  · rw [List.flatten_append, List.nodup_append]
    refine ⟨h3'.1, by simpa using g2.1, fun a ha b hb' e => ?_⟩
    subst e
    have := hlt a ha
    have := g3 a (by simpa using hb')
    omega
  · intro b hb'
    rw [List.flatten_append] at hb'
    rcases List.mem_append.1 hb' with hb' | hb'
    · exact (h3'.upd hu (by simp)).2 b hb'
    · exact g2.2 b (by simpa using hb')
  · intro b hb'
    rw [List.flatten_append] at hb'
    rcases List.mem_append.1 hb' with hb' | hb'
    · exact h4' b hb'
    · have := g3 b (by simpa using hb')
      exact ⟨by omega, fun hm => by have := hob b hm; omega⟩
  · intro i hi u' f' hu' hf'
    by_cases e : i < xs.length
    · rw [List.getElem?_append_left (by omega)] at hu' hf'
      rw [List.getElem_append_left e]
      exact K.upd (h5' i e u' f' hu' hf') hu (by simp)
    · have ei : i = xs.length := by simp at hi; omega
      subst ei
      rw [List.getElem?_append_right (by omega)] at hu' hf'
      rw [h2, Nat.sub_self] at hu'
      rw [h1', Nat.sub_self] at hf'
      simp at hu' hf'
      subst hu' hf'
      simpa using g1

theorem new (h : RowsQ n R base ob w us xs) {w0 : World} {e : TypeId} {v : Value} (ho : w.ownsRow w0.heap.size e n v xs.length us.flatten) (hob : ∀ b, v.ownBlock = some b → b ∈ ob) (hb : w0.heap.size ≤ base) :
    New (slQ n R) w0 w v xs := by
  obtain ⟨fps, h1, h2, h6, h3, h4, h5⟩ := h
  obtain ⟨fb, ⟨a, cap, rfl, q1, q2, -, q4⟩, g2, g3, g4⟩ := Flat.ofOwns ho
  refine ⟨fb ++ fps.flatten, ⟨a, cap, us, fb, fps, rfl, q1, q2, h2, h6, h1, rfl, ?_, h5⟩, ⟨?_, ?_⟩, ?_⟩
  · rcases q4 with q4 | ⟨b, off, rfl, rfl, hbl, hc⟩
    · exact Or.inl q4
    · refine Or.inr ⟨b, off, rfl, rfl, hbl, fun i j u c hu hj => ?_⟩
      rw [Nat.add_assoc]
      exact hc _ _ (flat_at h6 hu hj)
  · rw [List.nodup_append]
    refine ⟨g2.1, h3.1, fun a ha b hb' e => ?_⟩
    subst e
    exact (h4 a hb').2 (hob a (g4 a ha))
  · intro b hb'
    rcases List.mem_append.1 hb' with hb' | hb'
    · exact g2.2 b hb'
    · exact h3.2 b hb'
  · intro b hb'
    rcases List.mem_append.1 hb' with hb' | hb'
    · exact g3 b hb'
    · have := (h4 b hb').1; omega
end RowsQ

/-- cells put into a list one behind the other. -/
def putAt {β : Type} : List β → Nat → List β → List β
  | cs, _, [] => cs
  | cs, o, v :: vs => putAt (cs.set o v) (o + 1) vs
theorem putAt_mid {β : Type} : ∀ (vs A old B : List β), old.length = vs.length → putAt (A ++ old ++ B) A.length vs = A ++ vs ++ B
  | [], A, old, B, h => by
    obtain rfl : old = [] := List.eq_nil_of_length_eq_zero h
    rfl
  | v :: vs, A, o :: old, B, h => by
    rw [putAt, List.append_assoc, List.set_append_right _ _ (Nat.le_refl _), Nat.sub_self, List.cons_append, List.set_cons_zero]
    have := putAt_mid vs (A ++ [v]) old B (by simpa using h)
    simpa using this
theorem ownsRow_setCells {base : Nat} {e : TypeId} {n B L cap : Nat} : ∀ (vs : List Value) {w : World} {cs : List Value} (o : Nat), w.ownsRow base e n (.slice (some ⟨B, 0, none⟩) L cap) L cs → o + vs.length ≤ L * n →
    (w.setCells B o vs).ownsRow base e n (.slice (some ⟨B, 0, none⟩) L cap) L (putAt cs o vs)
  | [], _, _, _, h, _ => h
  | v :: vs, w, cs, o, h, hl => by
    rw [World.setCells, putAt]
    exact ownsRow_setCells vs (o + 1) (h.stored o v).1 (by simp at hl; omega)
theorem upd_setCells {f : List Nat} {w : World} (b : Nat) (hp : w.heap.size ≤ b ∨ b ∈ f) : ∀ (vs : List Value) (o : Nat) {w1 : World}, Upd f w w1 → Upd f w (w1.setCells b o vs)
  | [], _, _, h => h
  | v :: vs, o, _, h => by
    rw [World.setCells]
    exact upd_setCells b hp vs (o + 1) (h.setCell (p := ⟨b, o, none⟩) hp v)
theorem Upd.keepF {f : List Nat} {w w1 : World} {b o : Nat} {v : Value} (hu : Upd f w w1) (hb : b ∉ f) (h : w.cell? ⟨b, o, none⟩ = some v) : w1.cell? ⟨b, o, none⟩ = some v := by
  have hl := World.block_lt_of_cell? w _ h
  unfold World.cell? at h ⊢
  rw [hu.block b hl hb]; exact h
theorem Upd.cellF {f : List Nat} {w w1 : World} {b : Nat} (hu : Upd f w w1) (hb : b ∉ f) (hl : b < w.heap.size) (o : Nat) : w1.cell? ⟨b, o, none⟩ = w.cell? ⟨b, o, none⟩ := by
  unfold World.cell?
  rw [hu.block b hl hb]
theorem Upd.row {f : List Nat} {w w1 : World} (h : Upd f w w1) {g : Nat} (hg : w.heap.size ≤ g ∨ g ∈ f) (cs : Array Value) : Upd f w (w1.setRow g cs) :=
  h.fresh (f := [g]) ⟨rfl, rfl, rfl, by simp [World.setRow], fun k _ hf => setRow_other _ _ _ _ (by simpa using hf)⟩ (by simpa using hg)
/-- memory made between two worlds, as it lies later. -/
structure Part {α : Type} (R : Rp α) (lo hi : Nat) (w : World) (v : Value) (x : α) (fp : List Nat) : Prop where
  r : R fp w [v] x
  o : Own fp w
  b : ∀ b ∈ fp, lo ≤ b ∧ b < hi
theorem Part.of {α : Type} {R : Rp α} (K : Kept R) {w w1 : World} {v : Value} {x : α} (h : New R w w1 v x) : ∃ fp, Part R w.heap.size w1.heap.size w1 v x fp := by
  obtain ⟨fp, h1, h2, h3⟩ := h
  exact ⟨fp, h1, h2, fun b hb => ⟨h3 b hb, K.lt h1 b hb⟩⟩
theorem Part.upd {α : Type} {R : Rp α} (K : Kept R) {lo hi : Nat} {w w1 : World} {v : Value} {x : α} {fp f : List Nat} (h : Part R lo hi w v x fp) (hu : Upd f w w1) (hf : ∀ b ∈ f, b < lo ∨ hi ≤ b) : Part R lo hi w1 v x fp := by
  have hd : ∀ b ∈ fp, b ∉ f := fun b hb hm => by have := h.b b hb; have := hf b hm; omega
  exact ⟨K.upd h.r hu hd, h.o.upd hu hd, h.b⟩
/-- outside of a part of block b the cells are as they were. -/
def FarEq (w w' : World) (b lo hi : Nat) : Prop := ∀ o, (o < lo ∨ hi ≤ o) → w'.cell? ⟨b, o, none⟩ = w.cell? ⟨b, o, none⟩
theorem FarEq.refl (w : World) (b lo hi : Nat) : FarEq w w b lo hi := fun _ _ => rfl
theorem FarEq.upd {w w1 w2 : World} {b lo hi : Nat} {f : List Nat} (h : FarEq w w1 b lo hi) (hu : Upd f w1 w2) (hb : b ∉ f) (hl : b < w1.heap.size) : FarEq w w2 b lo hi := fun o ho => (hu.cellF hb hl o).trans (h o ho)
theorem FarEq.put {w w1 w2 : World} {b lo hi j : Nat} (h : FarEq w w1 b lo hi) (hc : ∀ o, o ≠ j → w2.cell? ⟨b, o, none⟩ = w1.cell? ⟨b, o, none⟩) (hj : lo ≤ j ∧ j < hi) : FarEq w w2 b lo hi := fun o ho => (hc o (by omega)).trans (h o ho)

/-- three blocks in a row: what came in, the result's, and the one under way. -/
structure Three (w W : World) (T1 T2 : TypeId) (B : Nat) (p z o : List Value) : Prop where
  base : w.heap.size = B
  upd : Upd [] w W
  h0 : W.heap[B]? = some (.cells p.toArray T1 (0, 0))
  h1 : W.heap[B + 1]? = some (.cells z.toArray T2 (0, 0))
  h2 : W.heap[B + 2]? = some (.cells o.toArray T2 (0, 0))
namespace Three
variable {w W W' : World} {T1 T2 : TypeId} {B : Nat} {p z o : List Value}
theorem size (h : Three w W T1 T2 B p z o) : B + 2 < W.heap.size := (Array.getElem?_eq_some_iff.1 h.h2).1
theorem call (h : Three w W T1 T2 B p z o) (hu : Upd [] W W') : Three w W' T1 T2 B p z o :=
  ⟨h.base, h.upd.trans hu, by rw [hu.block _ (Array.getElem?_eq_some_iff.1 h.h0).1 (by simp)]; exact h.h0, by rw [hu.block _ (Array.getElem?_eq_some_iff.1 h.h1).1 (by simp)]; exact h.h1, by rw [hu.block _ (Array.getElem?_eq_some_iff.1 h.h2).1 (by simp)]; exact h.h2⟩
theorem store (h : Three w W T1 T2 B p z o) (j : Nat) (v : Value) : Three w (W.setCell ⟨B + 2, j, none⟩ v) T1 T2 B p z (o.set j v) := by
  refine ⟨h.base, h.upd.setCell (Or.inl (by rw [h.base]; simp)) _, ?_, ?_, ?_⟩
  · rw [Below.heap_setCell _ _ _ _ (by simp)]; exact h.h0
  · rw [Below.heap_setCell _ _ _ _ (by simp)]; exact h.h1
  · simp [World.setCell, Array.getElem?_modify, h.h2]
theorem oc (h : Three w W T1 T2 B p z o) (j : Nat) (c : Value) (hc : o[j]? = some c) : W.cell? ⟨B + 2, j, none⟩ = some c := by simp [World.cell?, h.h2, hc]
end Three

end Go.Proofs.YtdnjjanacbkijaaGreatDoor

/-
  Lists of numbers and lists of expressions under the names that the printed texts want.
-/
namespace Go.Proofs.YtdnjjanacbkijaaGreatDoor
open Go.RowKit

abbrev R_I1 : Rp (List Int) := R1
theorem R_I1k : Kept R_I1 := R1k
end Go.Proofs.YtdnjjanacbkijaaGreatDoor

/-
  Append of a whole slice to an owned row, whatever the slice: a law for the walks; slices.Clone and the reference's copies.
-/
namespace Go.Proofs.YtdnjjanacbkijaaGreatDoor
open Go.RowKit

section
variable {P : Program} {w : World}
theorem run_append_owned_empty (base : Nat) (t ty e : TypeId) (i : TypeInfo) (size : Nat) (ht : P.underlying t = some (.slice e)) (hi : P.info? e = some i)
    (v : Value) (n : Nat) (xs : List Value) (hown : w.ownsRow base e size v n xs) (a : Option Addr) (c : Nat) :
    (Builtin.append_ #[t, t] ty #[v, .slice a 0 c]).run P w = .ok v w := by
  have hf : (Builtin.firstCells i.size 0 (.slice a 0 c)).run P w = .ok #[] w := by
    cases a <;> simp [Builtin.firstCells, loadCells, loadCellsFrom]
  rcases hown.2 with ⟨rfl, rfl⟩ | ⟨g, cap, cur, rfl, _, _, hnc, _⟩
  · simp [Builtin.append_, run_underlying ht, sizeOf, typeInfo, hi, Builtin.lenOf, hf]
  · simp [Builtin.append_, run_underlying ht, sizeOf, typeInfo, hi, Builtin.lenOf, hf, hnc, storeCells]

theorem wpList_append_flat {ops : Array Oper} {rest : List Oper} {o : Oper} {a : Act} {Q : Exit → Act → World → Prop} (hgd : o.guard = none) (s x : Operand) (t : TypeId)
    (ho : o.op = .call { callee := .builtin .append, args := #[s, x], argTypes := #[t, t] })
    (base : Nat) (e : TypeId) (i : TypeInfo) (z : Value) (size bytes : Nat) (ht : P.underlying t = some (.slice e)) (hi : P.info? e = some i) (hz : i.zero = some z)
    (hsize : i.size = size) (hby : i.bytes = bytes) (hzs : z.cells.size = size) (hsz : 0 < size)
    (v : Value) (n : Nat) (xs : List Value) (hs : a.eval s = v) (hown : w.ownsRow base e size v n xs)
    (sv : Value) (m : Nat) (news : List Value) (hx : a.eval x = sv) (fp : List Nat) (hF : Flat fp w sv size m news) (h1 : ∀ u ∈ news, u.oneCell' = true)
    (h63 : n + m ≤ maxLen) (hbytes : (n + m) * bytes ≤ 140737488355328) (hbase : base ≤ w.heap.size)
    (h : ∀ v' w', w'.ownsRow base e size v' (n + m) (xs ++ news) → w.grownBy w' v.ownBlock → (∀ b, v'.ownBlock = some b → v.ownBlock = some b ∨ w.heap.size ≤ b) → wpList P ops Q rest (a.put o.dst v') w') : wpList P ops Q (o :: rest) a w := by
  obtain ⟨ad, cap, rfl, q1, q2, q3, q4⟩ := hF
  by_cases hm : m = 0
  · subst hm
    have hnil : news = [] := List.eq_nil_of_length_eq_zero (by simpa using q3)
    subst hnil
    refine wpList_plain hgd fun K hK => ?_
    have hrun := run_append_owned_empty (P := P) (w := w) base t o.type e i size ht hi v n xs hown ad cap
    unfold Oper.wp
    simp [execOp, ho, resolve, invoke, builtin, hs, hx, hrun, Result.andThen]
    exact hK _ _ (h v w (by simpa using hown) ⟨rfl, rfl, rfl, Nat.le_refl _, fun _ _ _ => rfl⟩ (fun b hb => Or.inl hb))
  · rcases q4 with ⟨h0, -⟩ | ⟨b, off, rfl, -, -, hc⟩
    · exact absurd h0 hm
    · exact wpList_append_tight w hgd s x t ho base e i z size bytes ht hi hz hsize hby hzs hsz v n xs hs hown ⟨b, off, none⟩ m cap news hx q3 (fun j u hj => by rw [addr_add]; exact hc j u hj) h1 h63 hbytes hbase h
end

end Go.Proofs.YtdnjjanacbkijaaGreatDoor

/-
  Blocks of truths.
-/
namespace Go.Proofs.YtdnjjanacbkijaaGreatDoor
open Go.RowKit

/-- a block of truths. -/
def BlkB (b : Nat) (w : World) (S : List Bool) : Prop := w.heap[b]? = some (.cells (S.map Value.bool).toArray 4 (0, 0))
theorem BlkB.lt {b : Nat} {w : World} {S : List Bool} (h : BlkB b w S) : b < w.heap.size := (Array.getElem?_eq_some_iff.1 h).1
theorem BlkB.cell {b : Nat} {w : World} {S : List Bool} (h : BlkB b w S) (j : Nat) (hj : j < S.length) : w.cell? ⟨b, j, none⟩ = some (.bool S[j]) := by
  unfold BlkB at h
  simp [World.cell?, h, hj]
theorem BlkB.frozen {b : Nat} {w : World} {S : List Bool} (h : BlkB b w S) (j : Nat) : w.frozen? ⟨b, j, none⟩ = false := by
  unfold BlkB at h
  simp [World.frozen?, h]
theorem BlkB.upd {b : Nat} {w w1 : World} {S : List Bool} (h : BlkB b w S) {f : List Nat} (hu : Upd f w w1) (hf : b ∉ f) : BlkB b w1 S := by
  unfold BlkB at *
  rw [hu.block b (Array.getElem?_eq_some_iff.1 h).1 hf]; exact h
theorem BlkB.set {b : Nat} {w : World} {S : List Bool} (h : BlkB b w S) (j : Nat) (c : Bool) : BlkB b (w.setCell ⟨b, j, none⟩ (.bool c)) (S.set j c) := by
  unfold BlkB at *
  have := heap_setCell_same w b j _ _ (.bool c) h
  rw [this, List.map_set]
  simp
theorem BlkB.ofRow {w : World} {b n : Nat} (h : w.ownsRow b 4 1 (.slice (some ⟨b, 0, none⟩) n n) n (List.replicate n (.bool false))) : BlkB b w (List.replicate n false) := by
  obtain ⟨-, ⟨h1, -⟩ | ⟨g, cap, cur, hv, -, hc, -, -, h3, h4⟩⟩ := h
  · cases h1
  · cases hv
    unfold BlkB
    rw [hc, List.map_replicate, ← h4]
    have : cur.toList.take (n * 1) = cur.toList := List.take_of_length_le (by simp [h3])
    rw [this]

end Go.Proofs.YtdnjjanacbkijaaGreatDoor

/-
  A row of cells known whole; elements of several cells collected by append.
-/
namespace Go.Proofs.YtdnjjanacbkijaaGreatDoor
open Go.RowKit

/-- block T holds these cells, and none is frozen. -/
def RowAt (W : World) (T : Nat) (ty : TypeId) (cs : List Value) : Prop := W.heap[T]? = some (.cells cs.toArray ty (0, 0))
namespace RowAt
variable {W W' : World} {T : Nat} {ty : TypeId} {cs : List Value}
theorem new (W : World) (ty : TypeId) (cs : List Value) : RowAt (W.alloc (.cells cs.toArray ty)) W.heap.size ty cs := heap_alloc_new W _
theorem lt (h : RowAt W T ty cs) : T < W.heap.size := (Array.getElem?_eq_some_iff.1 h).1
theorem upd (h : RowAt W T ty cs) {f : List Nat} (hu : Upd f W W') (hT : T ∉ f) : RowAt W' T ty cs := by
  unfold RowAt; rw [hu.block T h.lt hT]; exact h
theorem cell (h : RowAt W T ty cs) (j : Nat) (c : Value) (hc : cs[j]? = some c) : W.cell? ⟨T, j, none⟩ = some c := by unfold RowAt at h; simp [World.cell?, h, hc]
theorem store (h : RowAt W T ty cs) (j : Nat) (v : Value) : RowAt (W.setCell ⟨T, j, none⟩ v) T ty (cs.set j v) := by
  unfold RowAt at h ⊢; simp [World.setCell, Array.getElem?_modify, h]
theorem other (h : RowAt W T ty cs) (g j : Nat) (v : Value) (hg : g ≠ T) : RowAt (W.setCell ⟨g, j, none⟩ v) T ty cs := by
  unfold RowAt at h ⊢; rw [Below.heap_setCell _ _ _ _ (by simpa using fun e => hg e.symm)]; exact h
theorem row (h : RowAt W T ty cs) (ds : List Value) : RowAt (W.setRow T ds.toArray) T ty ds := setRow_heap W T _ _ _ _ h
theorem own (h : RowAt W T ty cs) : Own [T] W := ⟨by simp, by intro b hb; obtain rfl : b = T := (by simpa using hb); exact ⟨_, _, h⟩⟩
end RowAt

/-- A slice of elements of n cells each, with memory of their own, that a call collects by append: e is the element's type. -/
def AccQ {α : Type} (n : Nat) (R : Rp α) (w0 : World) (e : TypeId) (w : World) (v : Value) (xs : List α) : Prop :=
  ∃ us, w.ownsRow w0.heap.size e n v xs.length (List.flatten us) ∧ RowsQ n R w0.heap.size v.ownBlock.toList w us xs

namespace AccQ
variable {α : Type} {n : Nat} {R : Rp α} {w0 w w1 w2 : World} {e : TypeId} {v : Value} {xs : List α}

theorem nil (n : Nat) (R : Rp α) (w0 : World) (e : TypeId) (w : World) : AccQ n R w0 e w (.slice none 0 0) [] := ⟨[], World.ownsRow_nil _ _ _ _, RowsQ.nil _ _ _ _ _⟩
theorem upd (K : Kept R) (h : AccQ n R w0 e w v xs) (hu : Upd [] w w1) : AccQ n R w0 e w1 v xs := by
  obtain ⟨us, h1, h2⟩ := h
  exact ⟨us, ownsRow_upd h1 hu, h2.upd K hu (by simp)⟩
theorem other (K : Kept R) (h : AccQ n R w0 e w v xs) {b : Nat} (hu : Upd [b] w w1) (hb : b < w0.heap.size) : AccQ n R w0 e w1 v xs := by
  obtain ⟨us, h1, h2⟩ := h
  refine ⟨us, h1.kept (row := some b) ⟨hu.os, hu.tape, hu.output, hu.size, fun k hk hne => hu.block k hk (by simpa using hne)⟩ ?_, h2.upd K hu (by simp; omega)⟩
  cases hv : v.ownBlock with
  | none => exact Or.inl rfl
  | some g =>
    right
    have := (h1.lt g hv).1
    intro e; cases e; omega
theorem new (h : AccQ n R w0 e w v xs) : New (slQ n R) w0 w v xs := by
  obtain ⟨us, h1, h2⟩ := h
  exact h2.new h1 (fun b hb => by simp [hb]) (Nat.le_refl _)
theorem own (h : AccQ n R w0 e w v xs) : ∃ us, w.ownsRow w0.heap.size e n v xs.length us := by obtain ⟨us, h1, -⟩ := h; exact ⟨_, h1⟩
theorem form (h : AccQ n R w0 e w v xs) : ∃ a c, v = .slice a xs.length c := by obtain ⟨us, h1, -⟩ := h; exact ownsRow_form h1
/-- Behind an append of one element, its cells made between w and w1 and laid into a new block: what the append's law leaves. -/
theorem push (K : Kept R) {us : List (List Value)} (hown : w.ownsRow w0.heap.size e n v xs.length us.flatten) (hrows : RowsQ n R w0.heap.size v.ownBlock.toList w us xs) (hs : w0.heap.size ≤ w.heap.size) {u : List Value} {x : α} (hu : Upd [] w w1) (hn : NewQ R w w1 u x) (hl : u.length = n) (o : Obj) {v2 : Value}
    (h2 : w2.ownsRow w0.heap.size e n v2 (xs.length + 1) (us.flatten ++ u)) (hg : (w1.alloc o).grownBy w2 v.ownBlock)
    (ht : ∀ b, v2.ownBlock = some b → v.ownBlock = some b ∨ (w1.alloc o).heap.size ≤ b) : AccQ n R w0 e w2 v2 (xs ++ [x]) := by
  refine ⟨us ++ [u], by simpa using h2, ?_⟩
  have hob : ∀ b ∈ v.ownBlock.toList, b < w.heap.size := fun b hb => (hown.lt b (by simpa using hb)).2
  have hr1 := hrows.push K hu hn hl hs hob
  have hu2 : Upd [] w1 (w1.alloc o) := (Upd.refl _ _).alloc o
  have hr2 := hr1.upd K hu2 (by simp)
  have hu3 : Upd v.ownBlock.toList (w1.alloc o) w2 := (Upd.refl _ _).grown hg (fun k hk => Or.inr (by simp [hk]))
  have hr3 := RowsQ.ob' hr2 (ob2 := v.ownBlock.toList ++ v2.ownBlock.toList) (by
    intro b hb
    rcases List.mem_append.1 hb with hb | hb
    · exact Or.inl hb
    · rcases ht b (by simpa using hb) with h | h
      · exact Or.inl (by simp [h])
      · exact Or.inr (Or.inr h))
  have hr4 := hr3.upd K hu3 (fun b hb => Or.inl (List.mem_append_left _ hb))
  exact hr4.ob' (fun b hb => Or.inl (List.mem_append_right _ hb))
end AccQ

end Go.Proofs.YtdnjjanacbkijaaGreatDoor

/-
  Systems copied and compared by the laws' helper functions.
-/
namespace Go.Proofs.YtdnjjanacbkijaaGreatDoor
open Go.RowKit Go.ChangeShapes

end Go.Proofs.YtdnjjanacbkijaaGreatDoor

/-
  A system that is being read: its block, its two rows, and what appends to them leave.
-/
namespace Go.Proofs.YtdnjjanacbkijaaGreatDoor
open Go.RowKit

theorem ownsRow_keep {w w' : World} {base : Nat} {e : TypeId} {size : Nat} {v : Value} {n : Nat} {xs : List Value} (h : w.ownsRow base e size v n xs) (hk : ∀ g, v.ownBlock = some g → w'.heap[g]? = w.heap[g]?) : w'.ownsRow base e size v n xs := by
  refine ⟨h.1, ?_⟩
  rcases h.2 with h2 | ⟨g, cap, cur, rfl, hb, hh, r⟩
  · exact Or.inl h2
  · exact Or.inr ⟨g, cap, cur, rfl, hb, by rw [hk g rfl]; exact hh, r⟩
/-- a system's four cells in a block of their own. -/
def SysAt (T : Nat) (W : World) (st ini : Int) (v1 v2 : Value) : Prop := W.heap[T]? = some (.cells #[ei st, ei ini, v1, v2] 27 (0, 0))
theorem SysAt.lt {T : Nat} {W : World} {st ini : Int} {v1 v2 : Value} (h : SysAt T W st ini v1 v2) : T < W.heap.size := (Array.getElem?_eq_some_iff.1 h).1
theorem SysAt.upd {T : Nat} {w w1 : World} {st ini : Int} {v1 v2 : Value} (h : SysAt T w st ini v1 v2) {f : List Nat} (hu : Upd f w w1) (hf : T ∉ f) : SysAt T w1 st ini v1 v2 := by
  unfold SysAt at *
  rw [hu.block T (Array.getElem?_eq_some_iff.1 h).1 hf]; exact h
theorem SysAt.set2 {T : Nat} {w : World} {st ini : Int} {v1 v2 : Value} (h : SysAt T w st ini v1 v2) (u : Value) : SysAt T (w.setCell ⟨T, 2, none⟩ u) st ini u v2 := by
  unfold SysAt
  have := heap_setCell_same w T 2 _ _ u h
  simpa using this
theorem SysAt.set3 {T : Nat} {w : World} {st ini : Int} {v1 v2 : Value} (h : SysAt T w st ini v1 v2) (u : Value) : SysAt T (w.setCell ⟨T, 3, none⟩ u) st ini v1 u := by
  unfold SysAt
  have := heap_setCell_same w T 3 _ _ u h
  simpa using this
theorem SysAt.set0 {T : Nat} {w : World} {st ini : Int} {v1 v2 : Value} (h : SysAt T w st ini v1 v2) (n : Int) : SysAt T (w.setCell ⟨T, 0, none⟩ (ei n)) n ini v1 v2 := by
  unfold SysAt
  have := heap_setCell_same w T 0 _ _ (ei n) h
  simpa using this
theorem SysAt.set1 {T : Nat} {w : World} {st ini : Int} {v1 v2 : Value} (h : SysAt T w st ini v1 v2) (n : Int) : SysAt T (w.setCell ⟨T, 1, none⟩ (ei n)) st n v1 v2 := by
  unfold SysAt
  have := heap_setCell_same w T 1 _ _ (ei n) h
  simpa using this

theorem SysAt.store {T : Nat} {w : World} {st ini : Int} {v1 v2 : Value} (h : SysAt T w st ini v1 v2) (a b : Int) (u v : Value) : SysAt T ((((w.setCell ⟨T, 0, none⟩ (ei a)).setCell ⟨T, 1, none⟩ (ei b)).setCell ⟨T, 2, none⟩ u).setCell ⟨T, 3, none⟩ v) a b u v := ((((h.set0 a).set1 b).set2 u).set3 v)
def edCs (t : Ed) : List Value := [ei t.fr, ei t.lb, ei t.to]
/-- all that is under way while a system is read: H the result's block, p the reader's, T the system's. -/
structure DL (H p T : Nat) (w W : World) (a b : Int) (L : List (List UInt8)) (E : List Ed) (v1 v2 : Value) (o : Obj) : Prop where
  rd : W.heap[p]? = some o
  sys : SysAt T W a b v1 v2
  out : SysAt H W 0 0 (.slice none 0 0) (.slice none 0 0)
  row1 : W.ownsRow (p + 1) 9 1 v1 L.length (L.map es)
  row2 : W.ownsRow (p + 1) 63 3 v2 E.length (E.flatMap edCs)
  upd : Upd [] w W
  hw : w.heap.size = H
  hHp : H < p
  hpT : p < T
namespace DL
variable {H p T : Nat} {w W W' : World} {a b : Int} {L : List (List UInt8)} {E : List Ed} {v1 v2 : Value} {o o' : Obj}
end DL

end Go.Proofs.YtdnjjanacbkijaaGreatDoor

/-
  Edges compared as whole values.
-/
namespace Go.Proofs.YtdnjjanacbkijaaGreatDoor
open Go.RowKit

theorem edFields : (Tryz.prog.fieldsOf 63).toList.map (fun f => (f.name, f.type, f.offset)) = [("From", 2, 0), ("Label", 2, 1), ("To", 2, 2)] := by kernel_rfl
theorem edStood : Tryz.prog.stoodInHeld 63 = false := by kernel_rfl
theorem edUnder : Tryz.prog.underlying 63 = some (.struct (Tryz.prog.fieldsOf 63)) := by kernel_rfl
theorem eqFieldsE {P : Program} (w : World) (d : Nat) (xs ys : Array Value) (n : String) (T : TypeId) (o : Nat) (f : Field) (fs : List Field) (hf : (f.name, f.type, f.offset) = (n, T, o)) (hn : n ≠ "_") (a b : Value) (r : Bool)
    (h1 : (part T xs o).run P w = .ok a w) (h2 : (part T ys o).run P w = .ok b w) (h3 : (Op.equalIn d T a b).run P w = .ok r w) :
    (Op.eqFields d xs ys (f :: fs)).run P w = if r then (Op.eqFields d xs ys fs).run P w else .ok false w := by
  simp only [Prod.mk.injEq] at hf
  obtain ⟨rfl, rfl, rfl⟩ := hf
  simp only [Op.eqFields, Sem.run_bind, hn, ne_eq, not_false_eq_true, if_true, h1, h2, h3, Result.andThen_ok]
  cases r <;> simp
theorem eqlE (x1 x2 x3 y1 y2 y3 : Int) (w : World) :
    (binOp .eql 63 (.agg #[ei x1, ei x2, ei x3]) (.agg #[ei y1, ei y2, ei y3])).run Tryz.prog w = .ok (.bool (decide ((⟨x1, x2, x3⟩ : Ed) = ⟨y1, y2, y3⟩))) w := by
  rw [run_eql_struct, run_equalIn_agg w 9999 _ _ _ edUnder edStood]
  obtain ⟨f1, f2, f3, hf⟩ : ∃ f1 f2 f3, (Tryz.prog.fieldsOf 63).toList = [f1, f2, f3] := by
    have := congrArg List.length edFields
    match h : (Tryz.prog.fieldsOf 63).toList with
    | [f1, f2, f3] => exact ⟨f1, f2, f3, rfl⟩
    | [] => rw [h] at this; simp at this
    | [_] => rw [h] at this; simp at this
    | [_, _] => rw [h] at this; simp at this
    | _ :: _ :: _ :: _ :: _ => rw [h] at this; simp at this
  have hff := edFields
  rw [hf] at hff ⊢
  simp only [List.map_cons, List.map_nil, List.cons.injEq, and_true] at hff
  obtain ⟨g1, g2, g3⟩ := hff
  rw [eqFieldsE w 9999 _ _ _ _ _ f1 _ g1 (by decide) (ei x1) (ei y1) (x1 == y1) (by go_simp) (by go_simp) (run_equalIn_int w 9998 _ _ .i64 _ _ Tryz.underlying2),
    eqFieldsE w 9999 _ _ _ _ _ f2 _ g2 (by decide) (ei x2) (ei y2) (x2 == y2) (by go_simp) (by go_simp) (run_equalIn_int w 9998 _ _ .i64 _ _ Tryz.underlying2),
    eqFieldsE w 9999 _ _ _ _ _ f3 _ g3 (by decide) (ei x3) (ei y3) (x3 == y3) (by go_simp) (by go_simp) (run_equalIn_int w 9998 _ _ .i64 _ _ Tryz.underlying2)]
  have key : decide ((⟨x1, x2, x3⟩ : Ed) = ⟨y1, y2, y3⟩) = (x1 == y1 && (x2 == y2 && x3 == y3)) := by
    rw [Bool.eq_iff_iff]
    simp only [decide_eq_true_eq, beq_iff_eq, Bool.and_eq_true, Ed.mk.injEq]
  rw [key]
  cases h1 : (x1 == y1)
  · simp [Result.andThen]
  cases h2 : (x2 == y2)
  · simp [Result.andThen]
  cases h3 : (x3 == y3)
  · simp [Result.andThen]
  simp [Result.andThen, Op.eqFields]

end Go.Proofs.YtdnjjanacbkijaaGreatDoor

/-
  Whether a number is an index of a list: what the program's call returns.
-/
namespace Go.Proofs.YtdnjjanacbkijaaGreatDoor
open Go.RowKit

theorem idxI (n : Int) (m : Nat) (w : World) (hm : m ≤ 1000000) : Calls Tryz.prog 43 #[.int .i64 n, .int .i64 m] w fun e w' => e = .returned (.bool (inB n 0 (m - 1))) ∧ w = w' := by
  have S1 := Lib.hid (within n 0 ((m : Int) - 1) w)
  generalize inB n 0 ((m : Int) - 1) = b at *
  go_enter Tryz.func43, Tryz.ntmps43
  go_wp2_with fail
  refine S1.out.mono ?_
  rintro e w1 ⟨rfl, rfl⟩
  clear S1
  go_wp2_with fail
  go_ret
  exact ⟨rfl, rfl⟩

end Go.Proofs.YtdnjjanacbkijaaGreatDoor

/-
  What the law FnTerms draws.
-/
namespace Go.Proofs.YtdnjjanacbkijaaGreatDoor
open Go.RowKit

end Go.Proofs.YtdnjjanacbkijaaGreatDoor

/-
  The values that the reference draws.
-/
namespace Go.Proofs.YtdnjjanacbkijaaGreatDoor
open Go.RowKit

set_option maxRecDepth 20000 in
set_option maxHeartbeats 2000000 in
theorem among (N p : Nat) (v : Value) (xs : List Int) (w : World) (fp : List Nat) (hN : N ≤ 900000000) (h : IsSrc N p w) (hR : R1 fp w [v] xs) (h0 : 0 < xs.length) (h1 : xs.length ≤ 1000) (hp : p ∉ fp) :
    Calls Tryz.prog 49 #[.pointer (some ⟨p, 0, none⟩), v] w (SrcAt (N + 2) p w (fun x => x ∈ xs)) := by
  obtain ⟨a, cap, rfl, h2, h3, -⟩ := slF1_open hR
  unfold maxLen at h3
  have S1 := Lib.hid (srcPick N p xs.length w hN h (by omega) (by omega))
  have HR := Lib.hid hR
  have HP := Lib.hid hp
  clear h hR hp
  go_enter Tryz.func49, Tryz.ntmps49
  go_wp2_with fail
  refine S1.out.mono ?_
  rintro e w1 ⟨⟨x, rfl, hx0, hx1⟩, hs1, hu1⟩
  obtain ⟨q, rfl⟩ : ∃ q : Nat, x = q := ⟨x.toNat, by omega⟩
  have hq : q < xs.length := by omega
  obtain ⟨a', cap', hv, -, -, hc⟩ := slF1_open (R1k.upd HR.out hu1 (fun b hb hm => by simp at hm; subst hm; exact HP.out hb))
  cases hv
  obtain ⟨b, o, rfl, -, -, c1⟩ := hc q hq
  have HS := Lib.hid (And.intro hs1 hu1)
  have HM := Lib.hid (show xs[q] ∈ xs from List.getElem_mem hq)
  generalize xs[q] = y at *
  clear hc hs1 hu1 S1
  go_wp2_with fail
  go_ret
  exact ⟨⟨_, rfl, HM.out⟩, HS.out.1, HS.out.2⟩

end Go.Proofs.YtdnjjanacbkijaaGreatDoor

/-
  The source of choices: one of some numbers.
-/
namespace Go.Proofs.YtdnjjanacbkijaaGreatDoor
open Go.RowKit

set_option maxRecDepth 20000 in
set_option maxHeartbeats 2000000 in
theorem amongD (N p : Nat) (v : Value) (xs : List Int) (w : World) (fp : List Nat) (hN : N ≤ 900000000) (h : IsSrc N p w) (hR : R1 fp w [v] xs) (h0 : 0 < xs.length) (h1 : xs.length ≤ 1000) (hp : p ∉ fp) :
    Calls Tryz.prog 49 #[.pointer (some ⟨p, 0, none⟩), v] w (SrcAt (N + 2) p w (fun x => x ∈ xs)) := by
  obtain ⟨a, cap, rfl, h2, h3, -⟩ := slF1_open hR
  unfold maxLen at h3
  have S1 := Lib.hid (srcPick N p xs.length w hN h (by omega) (by omega))
  have HR := Lib.hid hR
  have HP := Lib.hid hp
  clear h hR hp
  go_enter Tryz.func49, Tryz.ntmps49
  go_wp2_with fail
  refine S1.out.mono ?_
  rintro e w1 ⟨⟨x, rfl, hx0, hx1⟩, hs1, hu1⟩
  obtain ⟨q, rfl⟩ : ∃ q : Nat, x = q := ⟨x.toNat, by omega⟩
  have hq : q < xs.length := by omega
  obtain ⟨a', cap', hv, -, -, hc⟩ := slF1_open (R1k.upd HR.out hu1 (fun b hb hm => by simp at hm; subst hm; exact HP.out hb))
  cases hv
  obtain ⟨b, o, rfl, -, -, c1⟩ := hc q hq
  have HS := Lib.hid (And.intro hs1 hu1)
  have HM := Lib.hid (show xs[q] ∈ xs from List.getElem_mem hq)
  generalize xs[q] = y at *
  clear hc hs1 hu1 S1
  go_wp2_with fail
  go_ret
  exact ⟨⟨_, rfl, HM.out⟩, HS.out.1, HS.out.2⟩

end Go.Proofs.YtdnjjanacbkijaaGreatDoor

/-
  An input that is too long for the laws over bytes.
-/
namespace Go.Proofs.YtdnjjanacbkijaaGreatDoor
open Go.RowKit

theorem b10Long (v : Value) (code : List Int) (w : World) (fc : List Nat) (hR : R_B fc w [v] code) :
    Calls Tryz.prog 4 #[v] w fun e w' => e = .returned (.bool (decide (1048576 < (code.length : Int)))) ∧ w = w' := by
  obtain ⟨a, cap, rfl, h1, h2, -⟩ := slF1_open hR
  unfold maxLen at h2
  go_enter Tryz.func4, Tryz.ntmps4
  go_wp2_with fail
  go_ret
  exact ⟨by simp, rfl⟩

end Go.Proofs.YtdnjjanacbkijaaGreatDoor
