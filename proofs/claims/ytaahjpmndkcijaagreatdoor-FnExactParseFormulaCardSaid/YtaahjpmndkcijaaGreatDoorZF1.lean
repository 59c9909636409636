/-
  Texts joined in one file: Lib, Lib2, TrG, Harn, Open, HarnN, NumP, SplitP, HarnT, HarnT2, Rel, Terms, AreV, LabP, Dec, Src, LabB, HarnS, Cells, HarnE, OrdS, LabSp, LabSn, LabSv, LabSq, LabSw, LabI, DecQ, Tree, TreeW, Ops, Post, Fold, Value, FoldW, FoldS, OpenB, Draw, Canon, CanonW, CanonV, Forms, Vals, Eval, EvalS, PsA0, Lib3, HarnW, Lib4, PsI0, PsU0, Lib5, OpenC.
-/
import Derived.WalkKit
import Derived.WalkSpells
import Derived.WalkLawsBesides
import Derived.WalkSmall
import Derived.Lib.Hide
import Derived.Deep.AppendLies
import Derived.Test.YtaahjpmndkcijaaGreatDoorRows
import Derived.Deep.QuietTactic
import Derived.BigQuiet
import Derived.ProofKit
import Derived.OpenShut
import Derived.ShutString
import Derived.ChangeOld
import Derived.Below
import Derived.Deep.Slices
import Derived.Test.YtaahjpmndkcijaaGreatDoorProg
import Derived.Lib.ItoaNum
import Derived.Lib.ItoaMem
import Derived.Lib.ParseIntB
import Derived.Lib.Split
import Derived.Lib.Join
import Derived.Lib.Strings
import Derived.Deep.RegionHeld3
import Derived.Deep.RegionWith
import Derived.Laws.IdiomStrings
import Derived.Laws.Bits64b
import Derived.Deep.RegionLaw
import Derived.Deep.MidRow
import Derived.Lib.SliceRun
/-
  Readings of slices with footprints, their frame rules, and worlds that differ in new blocks and given old blocks alone: a library for the walks, over any program.
-/
namespace Go.Proofs.YtaahjpmndkcijaaGreatDoor
open Go.RowKit

/-- w' is w with new blocks, and with writes to the old blocks of f alone. -/
structure Upd (f : List Nat) (w w' : World) : Prop where
  os : w'.os = w.os
  tape : w'.tape = w.tape
  output : w'.output = w.output
  size : w.heap.size ≤ w'.heap.size
  block : ∀ k, k < w.heap.size → k ∉ f → w'.heap[k]? = w.heap[k]?

namespace Upd
variable {f g : List Nat} {w w1 w2 : World}
theorem refl (f : List Nat) (w : World) : Upd f w w := ⟨rfl, rfl, rfl, Nat.le_refl _, fun _ _ _ => rfl⟩
theorem trans (h : Upd f w w1) (k : Upd f w1 w2) : Upd f w w2 :=
  ⟨k.os.trans h.os, k.tape.trans h.tape, k.output.trans h.output, Nat.le_trans h.size k.size,
   fun i hi hf => (k.block i (Nat.lt_of_lt_of_le hi h.size) hf).trans (h.block i hi hf)⟩
theorem mono (h : Upd f w w1) (hs : ∀ b ∈ f, b ∈ g) : Upd g w w1 :=
  ⟨h.os, h.tape, h.output, h.size, fun k hk hf => h.block k hk (fun hm => hf (hs k hm))⟩
/-- what is written is new since w. -/
theorem fresh (h : Upd g w w1) (k : Upd f w1 w2) (hf : ∀ b ∈ f, w.heap.size ≤ b ∨ b ∈ g) : Upd g w w2 :=
  ⟨k.os.trans h.os, k.tape.trans h.tape, k.output.trans h.output, Nat.le_trans h.size k.size,
   fun i hi hg => (k.block i (Nat.lt_of_lt_of_le hi h.size) (fun hm => by rcases hf i hm with h' | h'; · omega
                                                                          · exact hg h')).trans (h.block i hi hg)⟩
theorem drew (h : Upd f w w1) : Upd f w w1.drew := ⟨h.os, h.tape, h.output, h.size, h.block⟩
theorem drewN (h : Upd f w w1) (n : Nat) : Upd f w (w1.drewN n) := by
  have e : (w1.drewN n).heap = w1.heap := by simp
  refine ⟨?_, ?_, ?_, ?_, ?_⟩
  · exact h.os
  · exact h.tape
  · exact h.output
  · exact h.size
  · exact h.block
theorem alloc (h : Upd f w w1) (o : Obj) : Upd f w (w1.alloc o) :=
  h.trans ⟨rfl, rfl, rfl, by simp, fun k hk _ => Below.heap_alloc _ _ _ (by omega)⟩
theorem setCell (h : Upd f w w1) {p : Addr} (hp : w.heap.size ≤ p.block ∨ p.block ∈ f) (u : Value) : Upd f w (w1.setCell p u) :=
  h.fresh (f := [p.block]) ⟨rfl, rfl, rfl, by simp [World.setCell], fun k hk hf => Below.heap_setCell _ _ _ _ (by simpa using hf)⟩ (by simpa using hp)
theorem grown {row : Option Nat} (h : Upd f w w1) (hg : w1.grownBy w2 row) (hr : ∀ k, row = some k → w.heap.size ≤ k ∨ k ∈ f) : Upd f w w2 :=
  h.fresh (f := row.toList) ⟨hg.os, hg.tape, hg.output, hg.size, fun k hk hf => hg.block k hk (fun e => hf (by simp [← e]))⟩
    (fun b hb => hr b (by simpa using hb))
theorem below (h : Upd [] w w1) : Below w.heap.size w w1 := ⟨h.os, h.tape, h.output, h.size, fun k hk => h.block k hk (by simp)⟩
theorem ofBelow (h : Below w.heap.size w w1) : Upd [] w w1 := ⟨h.os, h.tape, h.output, h.size, fun k hk _ => h.block k hk⟩
end Upd

/-- v is a slice of k elements of n cells each; its cells, one behind the other, are cs; the block that it lies in is fp. -/
def Flat (fp : List Nat) (w : World) (v : Value) (n k : Nat) (cs : List Value) : Prop :=
  ∃ a cap, v = .slice a k cap ∧ k ≤ cap ∧ cap ≤ maxLen ∧ cs.length = k * n ∧
    ((k = 0 ∧ fp = []) ∨ ∃ b off, a = some ⟨b, off, none⟩ ∧ fp = [b] ∧ b < w.heap.size ∧ ∀ j u, cs[j]? = some u → w.cell? ⟨b, off + j, none⟩ = some u)

theorem Flat.lt {fp : List Nat} {w : World} {v : Value} {n k : Nat} {cs : List Value} (h : Flat fp w v n k cs) : ∀ b ∈ fp, b < w.heap.size := by
  obtain ⟨a, cap, -, -, -, -, ⟨-, rfl⟩ | ⟨b, off, -, rfl, hb, -⟩⟩ := h <;> simp_all

theorem Flat.frame {fp : List Nat} {w w' : World} {v : Value} {n k : Nat} {cs : List Value} (h : Flat fp w v n k cs)
    (hs : w.heap.size ≤ w'.heap.size) (hb : ∀ b ∈ fp, w'.heap[b]? = w.heap[b]?) : Flat fp w' v n k cs := by
  obtain ⟨a, cap, rfl, h1, h2, h3, h4⟩ := h
  refine ⟨a, cap, rfl, h1, h2, h3, ?_⟩
  rcases h4 with h4 | ⟨b, off, rfl, rfl, hbl, hc⟩
  · exact Or.inl h4
  · exact Or.inr ⟨b, off, rfl, rfl, by omega, fun j u hu => by
      rw [World.cell?_of_block (w := w) (hb b (by simp))]; exact hc j u hu⟩

theorem Flat.upd {fp f : List Nat} {w w' : World} {v : Value} {n k : Nat} {cs : List Value} (h : Flat fp w v n k cs)
    (hu : Upd f w w') (hd : ∀ b ∈ fp, b ∉ f) : Flat fp w' v n k cs :=
  h.frame hu.size fun b hb => hu.block b (h.lt b hb) (hd b hb)

/-- The blocks of fp are different rows of cells, none of which is frozen. -/
def Own (fp : List Nat) (w : World) : Prop := fp.Nodup ∧ ∀ b ∈ fp, ∃ c t, w.heap[b]? = some (.cells c t (0, 0))

theorem Own.nil (w : World) : Own [] w := ⟨List.nodup_nil, by simp⟩
theorem Own.frame {fp : List Nat} {w w' : World} (h : Own fp w) (hb : ∀ b ∈ fp, w'.heap[b]? = w.heap[b]?) : Own fp w' :=
  ⟨h.1, fun b hm => by rw [hb b hm]; exact h.2 b hm⟩
theorem Own.lt {fp : List Nat} {w : World} (h : Own fp w) : ∀ b ∈ fp, b < w.heap.size := fun b hb => by
  obtain ⟨c, t, hc⟩ := h.2 b hb; exact (Array.getElem?_eq_some_iff.1 hc).1
theorem Own.upd {fp f : List Nat} {w w' : World} (h : Own fp w) (hu : Upd f w w') (hd : ∀ b ∈ fp, b ∉ f) : Own fp w' :=
  h.frame fun b hb => hu.block b (h.lt b hb) (hd b hb)
theorem Own.frozen {fp : List Nat} {w : World} (h : Own fp w) {b : Nat} (hb : b ∈ fp) (o : Nat) : w.frozen? ⟨b, o, none⟩ = false := by
  obtain ⟨c, t, hc⟩ := h.2 b hb; simp [World.frozen?, hc]
theorem Own.setCell {fp : List Nat} {w : World} (h : Own fp w) (p : Addr) (u : Value) : Own fp (w.setCell p u) :=
  ⟨h.1, fun b hb => by
    obtain ⟨c, t, hc⟩ := h.2 b hb
    by_cases e : b = p.block
    · subst e; refine ⟨if p.spot.isSome then c else c.setIfInBounds p.off u, t, ?_⟩; simp [World.setCell, Array.getElem?_modify, hc]
    · exact ⟨c, t, by rw [Below.heap_setCell _ _ _ _ e]; exact hc⟩⟩

/-- A store into a flat slice that is owned. -/
theorem Flat.set {fp : List Nat} {w : World} {b off cap n k : Nat} {cs : List Value} (h : Flat fp w (.slice (some ⟨b, off, none⟩) k cap) n k cs)
    {j : Nat} (hj : j < k * n) (u : Value) : Flat fp (w.setCell ⟨b, off + j, none⟩ u) (.slice (some ⟨b, off, none⟩) k cap) n k (cs.set j u) := by
  obtain ⟨a, cap', hv, h1, h2, h3, h4⟩ := h
  simp only [Value.slice.injEq, true_and] at hv
  obtain ⟨rfl, rfl⟩ := hv
  refine ⟨_, _, rfl, h1, h2, by simpa using h3, ?_⟩
  rcases h4 with ⟨rfl, rfl⟩ | ⟨b', off', hb', rfl, hbl, hc⟩
  · simp at hj
  · simp only [Option.some.injEq, Addr.mk.injEq, and_true] at hb'
    obtain ⟨rfl, rfl⟩ := hb'
    refine Or.inr ⟨b, off, rfl, rfl, by simpa [World.setCell] using hbl, fun i x hx => ?_⟩
    rw [List.getElem?_set] at hx
    by_cases hij : j = i
    · subst hij
      rw [if_pos rfl, if_pos (by omega)] at hx
      cases hx
      exact World.cell?_setCell_same _ _ _ (hc j cs[j] (by simp))
    · rw [if_neg hij] at hx
      rw [World.cell?_setCell_other _ _ _ _ (by simp)]
      exact hc i x hx

theorem Flat.ofOwns {w : World} {base : Nat} {e : TypeId} {size : Nat} {v : Value} {n : Nat} {xs : List Value} (h : w.ownsRow base e size v n xs) :
    ∃ fp, Flat fp w v size n xs ∧ Own fp w ∧ (∀ b ∈ fp, base ≤ b) ∧ (∀ b ∈ fp, v.ownBlock = some b) := by
  obtain ⟨hl, ⟨rfl, rfl⟩ | ⟨g, cap, cur, rfl, hg, hh, hn, hm, hc, ht⟩⟩ := h
  · exact ⟨[], ⟨none, 0, rfl, Nat.le_refl _, by simp [maxLen], hl, Or.inl ⟨rfl, rfl⟩⟩, Own.nil _, by simp, by simp⟩
  · refine ⟨[g], ⟨_, cap, rfl, hn, hm, hl, Or.inr ⟨g, 0, rfl, rfl, (Array.getElem?_eq_some_iff.1 hh).1, fun j u hu => ?_⟩⟩, ⟨by simp, by simpa using ⟨cur, e, hh⟩⟩, by simpa using hg, by simp [Value.ownBlock]⟩
    have hj : j < n * size := by rw [← hl]; exact (List.getElem?_eq_some_iff.1 hu).1
    rw [← ht, List.getElem?_take, if_pos hj] at hu
    simpa [World.cell?, hh] using hu

/-- A reading: its footprint, the world, the cells, what they read as. -/
abbrev Rp (α : Type) := List Nat → World → List Value → α → Prop

/-- A slice whose elements hold no memory: enc gives an element's n cells. -/
def slF {α : Type} (n : Nat) (enc : α → List Value) : Rp (List α) := fun fp w cs xs => ∃ v, cs = [v] ∧ Flat fp w v n xs.length (xs.flatMap enc)

/-- A slice whose elements are one cell each, and hold memory of their own. -/
def slP {α : Type} (R : Rp α) : Rp (List α) := fun fp w cs xs =>
  ∃ v us fb fps, cs = [v] ∧ Flat fb w v 1 xs.length us ∧ List.length fps = xs.length ∧ fp = fb ++ List.flatten fps ∧
    ∀ i (h : i < xs.length) u (f : List Nat), us[i]? = some u → fps[i]? = some f → R f w [u] xs[i]

/-- What holds of a reading: it is kept where its blocks are. -/
structure Kept {α : Type} (R : Rp α) : Prop where
  lt : ∀ {fp w cs x}, R fp w cs x → ∀ b ∈ fp, b < w.heap.size
  frame : ∀ {fp w w' cs x}, R fp w cs x → w.heap.size ≤ w'.heap.size → (∀ b ∈ fp, w'.heap[b]? = w.heap[b]?) → R fp w' cs x

theorem Kept.upd {α : Type} {R : Rp α} (K : Kept R) {fp f w w' cs x} (h : R fp w cs x) (hu : Upd f w w') (hd : ∀ b ∈ fp, b ∉ f) : R fp w' cs x :=
  K.frame h hu.size fun b hb => hu.block b (K.lt h b hb) (hd b hb)

theorem slF_kept {α : Type} (n : Nat) (enc : α → List Value) : Kept (slF n enc) :=
  ⟨fun ⟨_, _, h⟩ => h.lt, fun ⟨v, e, h⟩ hs hb => ⟨v, e, h.frame hs hb⟩⟩

theorem slP_kept {α : Type} {R : Rp α} (K : Kept R) : Kept (slP R) := by
  constructor
  · rintro fp w cs x ⟨v, us, fb, fps, rfl, hf, hl, rfl, hr⟩ b hb
    rcases List.mem_append.1 hb with hb | hb
    · exact hf.lt b hb
    · obtain ⟨f, hfm, hbf⟩ := List.mem_flatten.1 hb
      obtain ⟨i, hi, rfl⟩ := List.mem_iff_getElem.1 hfm
      have hus : us.length = x.length := by obtain ⟨_, _, _, _, _, h3, _⟩ := hf; simpa using h3
      exact K.lt (hr i (by omega) us[i] fps[i] (by simp) (by simp)) b hbf
  · rintro fp w w' cs x ⟨v, us, fb, fps, rfl, hf, hl, rfl, hr⟩ hs hb
    refine ⟨v, us, fb, fps, rfl, hf.frame hs (fun b h => hb b (by simp [h])), hl, rfl, fun i h u f hu hf' => ?_⟩
    refine K.frame (hr i h u f hu hf') hs fun b hbf => hb b ?_
    exact List.mem_append_right _ (List.mem_flatten.2 ⟨f, List.mem_of_getElem? hf', hbf⟩)

theorem flatMap_single {α β : Type} (f : α → β) (xs : List α) : xs.flatMap (fun x => [f x]) = xs.map f := by
  induction xs with
  | nil => rfl
  | cons a l ih => rw [List.flatMap_cons, ih]; rfl

/-- an element of a slice whose elements are one cell each and hold no memory. -/
theorem slF1_open {α : Type} {enc : α → Value} {fp : List Nat} {w : World} {v : Value} {xs : List α} (h : slF 1 (fun x => [enc x]) fp w [v] xs) :
    ∃ a cap, v = .slice a xs.length cap ∧ xs.length ≤ cap ∧ cap ≤ maxLen ∧
      ∀ i (h : i < xs.length), ∃ b off, a = some ⟨b, off, none⟩ ∧ fp = [b] ∧ b < w.heap.size ∧ w.cell? ⟨b, off + i, none⟩ = some (enc xs[i]) := by
  obtain ⟨v', hv, a, cap, rfl, h1, h2, h3, h4⟩ := h
  cases hv
  refine ⟨a, cap, rfl, h1, h2, fun i hi => ?_⟩
  rcases h4 with ⟨h0, -⟩ | ⟨b, off, rfl, rfl, hbl, hc⟩
  · omega
  · refine ⟨b, off, rfl, rfl, hbl, hc i _ ?_⟩
    rw [flatMap_single]; simp [hi]

/-- What a call makes anew reads so, and is its own. -/
def New {α : Type} (R : Rp α) (w w' : World) (v : Value) (x : α) : Prop :=
  ∃ fp, R fp w' [v] x ∧ Own fp w' ∧ ∀ b ∈ fp, w.heap.size ≤ b

theorem New.ofOwns {α : Type} {enc : α → Value} {w w' : World} {e : TypeId} {v : Value} {xs : List α}
    (h : w'.ownsRow w.heap.size e 1 v xs.length (xs.map enc)) : New (slF 1 (fun x => [enc x])) w w' v xs := by
  obtain ⟨fp, h1, h2, h3, -⟩ := Flat.ofOwns h
  exact ⟨fp, ⟨v, rfl, by rw [flatMap_single]; exact h1⟩, h2, h3⟩

theorem set_fill {α β : Type} (f : α → β) (z : β) (xs : List α) (k : Nat) (hk : k < xs.length) :
    ((xs.take k).map f ++ List.replicate (xs.length - k) z).set k (f xs[k]) = (xs.take (k + 1)).map f ++ List.replicate (xs.length - (k + 1)) z := by
  have hl : ((xs.take k).map f).length = k := by simp; omega
  rw [List.set_append_right _ _ (by omega), hl, Nat.sub_self, show xs.length - k = (xs.length - (k + 1)) + 1 from by omega, List.replicate_succ, List.set_cons_zero,
    List.take_succ_eq_append_getElem hk, List.map_append]
  simp

theorem made_one (z : Value) (hz : z.cells = #[z]) (n : Nat) : (madeCells z.cells (n * 1)).toList = List.replicate n z := by
  rw [hz, Nat.mul_one, toList_madeCells_one]

/-- the numbers from k on, n of them. -/
def upFrom (k : Int) : Nat → List Int
  | 0 => []
  | n + 1 => k :: upFrom (k + 1) n

@[simp] theorem upFrom_length (k : Int) (n : Nat) : (upFrom k n).length = n := by
  induction n generalizing k with
  | zero => rfl
  | succ n ih => simp [upFrom, ih]

theorem upFrom_get (k : Int) (n i : Nat) (h : i < n) : (upFrom k n)[i]? = some (k + i) := by
  induction n generalizing k i with
  | zero => omega
  | succ n ih =>
    cases i with
    | zero => simp [upFrom]
    | succ i => simp only [upFrom, List.getElem?_cons_succ]; rw [ih _ _ (by omega)]; congr 1; omega

theorem Kept.drewN {α : Type} {R : Rp α} (K : Kept R) {fp w cs x} (h : R fp w cs x) (n : Nat) : R fp (w.drewN n) cs x :=
  K.frame h (Nat.le_refl _) (fun _ _ => rfl)

theorem Kept.new {α : Type} {R : Rp α} (K : Kept R) {w w1 w2 : World} {v : Value} {x : α} {f : List Nat} (h : New R w w1 v x) (hu : Upd f w1 w2) (hf : ∀ b ∈ f, b < w.heap.size) : New R w w2 v x := by
  obtain ⟨fp, h1, h2, h3⟩ := h
  have hd : ∀ b ∈ fp, b ∉ f := fun b hb hm => by have := hf b hm; have := h3 b hb; omega
  exact ⟨fp, K.upd h1 hu hd, h2.upd hu hd, h3⟩

theorem slP_open {α : Type} {R : Rp α} {fp : List Nat} {w : World} {v : Value} {xs : List α} (h : slP R fp w [v] xs) :
    ∃ a cap, v = .slice a xs.length cap ∧ xs.length ≤ cap ∧ cap ≤ maxLen ∧
      ∀ i (h : i < xs.length), ∃ b off u f, a = some ⟨b, off, none⟩ ∧ b ∈ fp ∧ b < w.heap.size ∧ w.cell? ⟨b, off + i, none⟩ = some u ∧ (∀ c ∈ f, c ∈ fp) ∧ R f w [u] xs[i] := by
  obtain ⟨v', us, fb, fps, hv, ⟨a, cap, rfl, h1, h2, h3, h4⟩, hl, rfl, hr⟩ := h
  cases hv
  refine ⟨a, cap, rfl, h1, h2, fun i hi => ?_⟩
  rcases h4 with ⟨h0, -⟩ | ⟨b, off, rfl, rfl, hbl, hc⟩
  · omega
  · have hu : us[i]? = some us[i] := by simp
    have hf : fps[i]? = some fps[i] := by simp
    exact ⟨b, off, us[i], fps[i], rfl, by simp, hbl, hc i _ hu, fun c hc => List.mem_append_right _ (List.mem_flatten.2 ⟨_, List.mem_of_getElem? hf, hc⟩), hr i hi _ _ hu hf⟩

/-- Elements of one cell each, with memory of their own, from block base on and apart from the blocks ob. -/
def Rows {α : Type} (R : Rp α) (base : Nat) (ob : List Nat) (w : World) (us : List Value) (xs : List α) : Prop :=
  ∃ fps : List (List Nat), fps.length = xs.length ∧ us.length = xs.length ∧ Own fps.flatten w ∧ (∀ b ∈ fps.flatten, base ≤ b ∧ b ∉ ob) ∧
    ∀ i (h : i < xs.length) u (f : List Nat), us[i]? = some u → fps[i]? = some f → R f w [u] xs[i]

namespace Rows
variable {α : Type} {R : Rp α} {base : Nat} {ob : List Nat} {w w1 : World} {us : List Value} {xs : List α}

theorem nil (R : Rp α) (base : Nat) (ob : List Nat) (w : World) : Rows R base ob w [] [] := ⟨[], rfl, rfl, Own.nil w, by simp, by simp⟩

theorem length (h : Rows R base ob w us xs) : us.length = xs.length := by obtain ⟨_, _, h, _⟩ := h; exact h

theorem upd (K : Kept R) (h : Rows R base ob w us xs) {f : List Nat} (hu : Upd f w w1) (hf : ∀ b ∈ f, b ∈ ob ∨ b < base) : Rows R base ob w1 us xs := by
  obtain ⟨fps, h1, h2, h3, h4, h5⟩ := h
  have hd : ∀ b ∈ fps.flatten, b ∉ f := fun b hb hm => by
    rcases hf b hm with h | h
    · exact (h4 b hb).2 h
    · have := (h4 b hb).1; omega
  refine ⟨fps, h1, h2, h3.upd hu hd, h4, fun i hi u f' hu' hf' => K.upd (h5 i hi u f' hu' hf') hu fun b hb => hd b (List.mem_flatten.2 ⟨_, List.mem_of_getElem? hf', hb⟩)⟩

theorem ob' (h : Rows R base ob w us xs) {ob2 : List Nat} (hb : ∀ b ∈ ob2, b ∈ ob ∨ b < base ∨ w.heap.size ≤ b) : Rows R base ob2 w us xs := by
  obtain ⟨fps, h1, h2, h3, h4, h5⟩ := h
  refine ⟨fps, h1, h2, h3, fun b hb' => ⟨(h4 b hb').1, fun hm => ?_⟩, h5⟩
  rcases hb b hm with h | h | h
  · exact (h4 b hb').2 h
  · have := (h4 b hb').1; omega
  · have := h3.lt b hb'; omega

theorem push (K : Kept R) (h : Rows R base ob w us xs) {u : Value} {x : α} (hu : Upd [] w w1) (hn : New R w w1 u x) (hb : base ≤ w.heap.size) (hob : ∀ b ∈ ob, b < w.heap.size) :
    Rows R base ob w1 (us ++ [u]) (xs ++ [x]) := by
  obtain ⟨fps, h1, h2, h3, h4, h5⟩ := h.upd K hu (by simp)
  obtain ⟨fps', h1', h2', h3', h4', h5'⟩ := h
  obtain ⟨fp, g1, g2, g3⟩ := hn
  have hlt : ∀ b ∈ fps'.flatten, b < w.heap.size := h3'.lt
  refine ⟨fps' ++ [fp], by simp [h1'], by simp [h2], ⟨?_, ?_⟩, ?_, ?_⟩
  · rw [List.flatten_append, List.nodup_append]
    refine ⟨h3'.1, by simpa using g2.1, fun a ha b hb' e => ?_⟩
    subst e
    have := hlt a ha
    have := g3 a (by simpa using hb')
    omega
  · intro b hb'
    rw [List.flatten_append] at hb'
    rcases List.mem_append.1 hb' with hb' | hb'
    · exact (h3'.upd hu (by simp)).2 b hb'
    · exact g2.2 b (by simpa using hb')
  · intro b hb'
    rw [List.flatten_append] at hb'
    rcases List.mem_append.1 hb' with hb' | hb'
    · exact h4' b hb'
    · have := g3 b (by simpa using hb')
      exact ⟨by omega, fun hm => by have := hob b hm; omega⟩
  · intro i hi u' f' hu' hf'
    by_cases e : i < xs.length
    · rw [List.getElem?_append_left (by omega)] at hu' hf'
      rw [List.getElem_append_left e]
      exact K.upd (h5' i e u' f' hu' hf') hu (by simp)
    · have ei : i = xs.length := by simp at hi; omega
      subst ei
      rw [List.getElem?_append_right (by omega)] at hu' hf'
      rw [h2, Nat.sub_self] at hu'
      rw [h1', Nat.sub_self] at hf'
      simp at hu' hf'
      subst hu' hf'
      simpa using g1

theorem new (h : Rows R base ob w us xs) {w0 : World} {e : TypeId} {v : Value} (ho : w.ownsRow w0.heap.size e 1 v xs.length us) (hob : ∀ b, v.ownBlock = some b → b ∈ ob) (hb : w0.heap.size ≤ base) :
    New (slP R) w0 w v xs := by
  obtain ⟨fps, h1, h2, h3, h4, h5⟩ := h
  obtain ⟨fb, g1, g2, g3, g4⟩ := Flat.ofOwns ho
  refine ⟨fb ++ fps.flatten, ⟨v, us, fb, fps, rfl, g1, h1, rfl, h5⟩, ⟨?_, ?_⟩, ?_⟩
  · rw [List.nodup_append]
    refine ⟨g2.1, h3.1, fun a ha b hb' e => ?_⟩
    subst e
    exact (h4 a hb').2 (hob a (g4 a ha))
  · intro b hb'
    rcases List.mem_append.1 hb' with hb' | hb'
    · exact g2.2 b hb'
    · exact h3.2 b hb'
  · intro b hb'
    rcases List.mem_append.1 hb' with hb' | hb'
    · exact g3 b hb'
    · have := (h4 b hb').1; omega
end Rows

section
variable {P : Program} (w : World)

/-- append, with where the result lies: where it was, or in a new block. -/
theorem run_append_tight (base : Nat) (t ty e : TypeId) (i : TypeInfo) (z : Value) (size bytes : Nat) (ht : P.underlying t = some (.slice e)) (hi : P.info? e = some i) (hz : i.zero = some z)
    (hsize : i.size = size) (hby : i.bytes = bytes) (hzs : z.cells.size = size) (hsz : 0 < size)
    (v : Value) (n : Nat) (xs : List Value) (hown : w.ownsRow base e size v n xs)
    (a : Addr) (m c : Nat) (news : List Value) (hl : news.length = m * size) (hnews : ∀ j u, news[j]? = some u → w.cell? (a.add j) = some u) (h1 : ∀ u ∈ news, u.oneCell' = true)
    (h63 : n + m ≤ maxLen) (hbytes : (n + m) * bytes ≤ 140737488355328) (hbase : base ≤ w.heap.size) :
    ∃ v' w', (Builtin.append_ #[t, t] ty #[v, .slice (some a) m c]).run P w = .ok v' w' ∧ w'.ownsRow base e size v' (n + m) (xs ++ news) ∧ w.grownBy w' v.ownBlock ∧
      (∀ b, v'.ownBlock = some b → v.ownBlock = some b ∨ w.heap.size ≤ b) := by
  obtain ⟨v', w', hr, h2, h3, -⟩ := run_append_own (P := P) w base t ty e i z size bytes ht hi hz hsize hby hzs hsz v n xs hown a m c news hl hnews h1 h63 hbytes hbase
  refine ⟨v', w', hr, h2, h3, fun b hb => ?_⟩
  subst hsize
  subst hby
  have hsmall : n + m ≤ 9223372036854775807 := by simp only [maxLen] at h63; omega
  rcases hown.2 with ⟨rfl, rfl⟩ | ⟨g, cap, cur, rfl, hbg, hg, hnc, hcm, hcs, htake⟩
  · have hx : xs = [] := List.eq_nil_of_length_eq_zero (by simpa using hown.1)
    subst hx
    obtain ⟨v2, w2, hr2, h22, -, -⟩ := run_append_own (P := P) w w.heap.size t ty e i z _ _ ht hi hz rfl rfl hzs hsz _ 0 [] (World.ownsRow_nil w _ e i.size) a m c news hl hnews h1 h63 hbytes (Nat.le_refl _)
    rw [hr] at hr2
    cases hr2
    rcases h22.2 with ⟨rfl, -⟩ | ⟨g, cap, cur, rfl, hbg, -⟩
    · simp [Value.ownBlock] at hb
    · simp [Value.ownBlock] at hb; omega
  · by_cases hroom : n + m ≤ cap
    · have hfit : n * i.size + news.length ≤ cur.size := by rw [hl, hcs, ← Nat.add_mul]; exact Nat.mul_le_mul_right _ hroom
      have hr2 := run_append_room (P := P) w t ty e i ht hi g n cap cur hg a m c news hl hnews h1 hroom hfit
      rw [hr] at hr2
      cases hr2
      exact Or.inl hb
    · have holds : ∀ j u, xs[j]? = some u → w.cell? ((⟨g, 0, none⟩ : Addr).add j) = some u := hown.cells (g := g) rfl
      have hr2 := run_append_grow (P := P) w t ty e i z ht hi hz ⟨g, 0, none⟩ n cap xs hown.1 holds a m c news hl hnews (by omega) (by omega) (growslice_fits (by omega) hbytes)
      rw [hr] at hr2
      cases hr2
      simp [Value.ownBlock] at hb; omega

theorem wpList_append_tight {ops : Array Oper} {rest : List Oper} {o : Oper} {a : Act} {Q : Exit → Act → World → Prop} (hgd : o.guard = none) (s x : Operand) (t : TypeId)
    (ho : o.op = .call { callee := .builtin .append, args := #[s, x], argTypes := #[t, t] })
    (base : Nat) (e : TypeId) (i : TypeInfo) (z : Value) (size bytes : Nat) (ht : P.underlying t = some (.slice e)) (hi : P.info? e = some i) (hz : i.zero = some z)
    (hsize : i.size = size) (hby : i.bytes = bytes) (hzs : z.cells.size = size) (hsz : 0 < size)
    (v : Value) (n : Nat) (xs : List Value) (hs : a.eval s = v) (hown : w.ownsRow base e size v n xs)
    (ad : Addr) (m c : Nat) (news : List Value) (hx : a.eval x = .slice (some ad) m c) (hl : news.length = m * size) (hnews : ∀ j u, news[j]? = some u → w.cell? (ad.add j) = some u) (h1 : ∀ u ∈ news, u.oneCell' = true)
    (h63 : n + m ≤ maxLen) (hbytes : (n + m) * bytes ≤ 140737488355328) (hbase : base ≤ w.heap.size)
    (h : ∀ v' w', w'.ownsRow base e size v' (n + m) (xs ++ news) → w.grownBy w' v.ownBlock → (∀ b, v'.ownBlock = some b → v.ownBlock = some b ∨ w.heap.size ≤ b) → wpList P ops Q rest (a.put o.dst v') w') : wpList P ops Q (o :: rest) a w := by
  refine wpList_plain hgd fun _ hK => ?_
  obtain ⟨v', w', hr, h2, h3, h4⟩ := run_append_tight (P := P) w base t o.type e i z size bytes ht hi hz hsize hby hzs hsz v n xs hown ad m c news hl hnews h1 h63 hbytes hbase
  unfold Oper.wp execOp
  simp only [ho, resolve, invoke, builtin, Sem.run_bind, Sem.run_pure, Result.andThen_ok, List.map_toArray, List.map_cons, List.map_nil, hs, hx, hr]
  exact hK _ _ (h v' w' h2 h3 h4)
end

theorem New.form {α : Type} {enc : α → List Value} {n : Nat} {w w' : World} {v : Value} {x : List α} (h : New (slF n enc) w w' v x) : ∃ a cap, v = .slice a x.length cap := by
  obtain ⟨fp, ⟨v', hv, a, cap, rfl, -⟩, -⟩ := h
  cases hv; exact ⟨_, _, rfl⟩
/-- A slice of one-cell elements with memory of their own that a call collects by append: e is the element's type. -/
def Acc {α : Type} (R : Rp α) (w0 : World) (e : TypeId) (w : World) (v : Value) (xs : List α) : Prop :=
  ∃ us, w.ownsRow w0.heap.size e 1 v xs.length us ∧ Rows R w0.heap.size v.ownBlock.toList w us xs

namespace Acc
variable {α : Type} {R : Rp α} {w0 w w1 w2 : World} {e : TypeId} {v : Value} {xs : List α}

theorem nil (R : Rp α) (w0 : World) (e : TypeId) (w : World) : Acc R w0 e w (.slice none 0 0) [] := ⟨[], World.ownsRow_nil _ _ _ _, Rows.nil _ _ _ _⟩

theorem upd (K : Kept R) (h : Acc R w0 e w v xs) (hu : Upd [] w w1) : Acc R w0 e w1 v xs := by
  obtain ⟨us, h1, h2⟩ := h
  exact ⟨us, h1.kept (row := none) ⟨hu.os, hu.tape, hu.output, hu.size, fun k hk _ => hu.block k hk (by simp)⟩ (by cases v.ownBlock <;> simp), h2.upd K hu (by simp)⟩

theorem new (h : Acc R w0 e w v xs) : New (slP R) w0 w v xs := by
  obtain ⟨us, h1, h2⟩ := h
  exact h2.new h1 (fun b hb => by simp [hb]) (Nat.le_refl _)

/-- Behind an append of one element u, made between w and w1, boxed in a new block: what the append's law leaves. -/
theorem push (K : Kept R) {us : List Value} (hown : w.ownsRow w0.heap.size e 1 v xs.length us) (hrows : Rows R w0.heap.size v.ownBlock.toList w us xs) (hs : w0.heap.size ≤ w.heap.size) {u : Value} {x : α} (hu : Upd [] w w1) (hn : New R w w1 u x) (o : Obj) {v2 : Value}
    (h2 : w2.ownsRow w0.heap.size e 1 v2 (xs.length + 1) (us ++ [u])) (hg : (w1.alloc o).grownBy w2 v.ownBlock)
    (ht : ∀ b, v2.ownBlock = some b → v.ownBlock = some b ∨ (w1.alloc o).heap.size ≤ b) : Acc R w0 e w2 v2 (xs ++ [x]) := by
  refine ⟨us ++ [u], by simpa using h2, ?_⟩
  have hob : ∀ b ∈ v.ownBlock.toList, b < w.heap.size := fun b hb => (hown.lt b (by simpa using hb)).2
  have hr1 := hrows.push K hu hn hs hob
  have hu2 : Upd [] w1 (w1.alloc o) := (Upd.refl _ _).alloc o
  have hr2 := hr1.upd K hu2 (by simp)
  have hu3 : Upd v.ownBlock.toList (w1.alloc o) w2 := (Upd.refl _ _).grown hg (fun k hk => Or.inr (by simp [hk]))
  have hr3 := Rows.ob' hr2 (ob2 := v.ownBlock.toList ++ v2.ownBlock.toList) (by
    intro b hb
    rcases List.mem_append.1 hb with hb | hb
    · exact Or.inl hb
    · rcases ht b (by simpa using hb) with h | h
      · exact Or.inl (by simp [h])
      · exact Or.inr (Or.inr h))
  have hr4 := hr3.upd K hu3 (fun b hb => Or.inl (List.mem_append_left _ hb))
  exact hr4.ob' (fun b hb => Or.inl (List.mem_append_right _ hb))
end Acc

theorem new_lit {α : Type} {enc : α → Value} (w : World) (e : TypeId) (xs : List α) (hl : xs.length ≤ maxLen) :
    New (slF 1 (fun x => [enc x])) w (w.alloc (.cells (xs.map enc).toArray e)) (.slice (some ⟨w.heap.size, 0, none⟩) xs.length xs.length) xs :=
  New.ofOwns (e := e) (by simpa using World.ownsRow_lit (base := w.heap.size) (e := e) (size := 1) w (xs.map enc).toArray xs.length (Nat.le_refl _) hl (by simp))

theorem New.nilF {α : Type} (n : Nat) (enc : α → List Value) (w w' : World) : New (slF n enc) w w' (.slice none 0 0) [] :=
  ⟨[], ⟨_, rfl, none, 0, rfl, Nat.le_refl _, by simp [maxLen], by simp, Or.inl ⟨rfl, rfl⟩⟩, Own.nil _, by simp⟩
theorem Kept.drew {α : Type} {R : Rp α} (K : Kept R) {fp w cs x} (h : R fp w cs x) : R fp w.drew cs x := K.frame h (Nat.le_refl _) (fun _ _ => rfl)
theorem Own.drew {fp : List Nat} {w : World} (h : Own fp w) : Own fp w.drew := h

/-- One element of an owned slice of one-cell elements is read, or written. -/
theorem slF1_cell {α : Type} {enc : α → Value} {fp : List Nat} {w : World} {v : Value} {xs : List α} (h : slF 1 (fun x => [enc x]) fp w [v] xs) (j : Nat) (hj : j < xs.length) :
    ∃ b off cap, v = .slice (some ⟨b, off, none⟩) xs.length cap ∧ xs.length ≤ cap ∧ cap ≤ maxLen ∧ fp = [b] ∧ b < w.heap.size ∧ w.cell? ⟨b, off + j, none⟩ = some (enc xs[j]) ∧
      ∀ x, slF 1 (fun x => [enc x]) fp (w.setCell ⟨b, off + j, none⟩ (enc x)) [v] (xs.set j x) := by
  obtain ⟨a, cap, rfl, h1, h2, hc⟩ := slF1_open h
  obtain ⟨b, off, rfl, rfl, hb, hcell⟩ := hc j hj
  refine ⟨b, off, cap, rfl, h1, h2, rfl, hb, hcell, fun x => ⟨_, rfl, ?_⟩⟩
  obtain ⟨v', hv, hF⟩ := h
  cases hv
  have := hF.set (j := j) (by omega) (enc x)
  rw [flatMap_single] at this ⊢
  rw [← List.map_set] at this
  simpa using this

theorem Acc.lit0 {α : Type} (R : Rp α) (w0 : World) (e : TypeId) (w : World) (h : w0.heap.size ≤ w.heap.size) : Acc R w0 e (w.alloc (.cells #[] e)) (.slice (some ⟨w.heap.size, 0, none⟩) 0 0) [] :=
  ⟨[], by simpa using World.ownsRow_lit (base := w0.heap.size) (e := e) (size := 1) w #[] 0 h (by simp [maxLen]) (by simp), Rows.nil _ _ _ _⟩

theorem Upd.keep {w w1 : World} {p : Addr} {v : Value} (hu : Upd [] w w1) (h : w.cell? p = some v) : w1.cell? p = some v :=
  (hu.below.cell (World.block_lt_of_cell? w p h)).trans h

theorem Acc.other {α : Type} {R : Rp α} (K : Kept R) {w0 w w1 : World} {e : TypeId} {v : Value} {xs : List α} (h : Acc R w0 e w v xs) {b : Nat} (hu : Upd [b] w w1) (hb : b < w0.heap.size) : Acc R w0 e w1 v xs := by
  obtain ⟨us, h1, h2⟩ := h
  refine ⟨us, h1.kept (row := some b) ⟨hu.os, hu.tape, hu.output, hu.size, fun k hk hne => hu.block k hk (by simpa using hne)⟩ ?_, h2.upd K hu (by simp; omega)⟩
  cases hv : v.ownBlock with
  | none => exact Or.inl rfl
  | some g =>
    right
    have := (h1.lt g hv).1
    intro e; cases e; omega

theorem ownsRow_form {w : World} {base : Nat} {e : TypeId} {size : Nat} {v : Value} {n : Nat} {xs : List Value} (h : w.ownsRow base e size v n xs) : ∃ a c, v = .slice a n c := by
  rcases h.2 with ⟨rfl, rfl⟩ | ⟨g, cap, cur, rfl, -⟩
  · exact ⟨_, _, rfl⟩
  · exact ⟨_, _, rfl⟩

theorem ownsRow_upd {w w1 : World} {base : Nat} {e : TypeId} {size : Nat} {v : Value} {n : Nat} {xs : List Value} (h : w.ownsRow base e size v n xs) (hu : Upd [] w w1) : w1.ownsRow base e size v n xs :=
  h.kept (row := none) ⟨hu.os, hu.tape, hu.output, hu.size, fun k hk _ => hu.block k hk (by simp)⟩ (by cases v.ownBlock <;> simp)

theorem New.mono {α : Type} {R : Rp α} {w0 w w' : World} {v : Value} {x : α} (h : New R w w' v x) (hs : w0.heap.size ≤ w.heap.size) : New R w0 w' v x := by
  obtain ⟨fp, h1, h2, h3⟩ := h
  exact ⟨fp, h1, h2, fun b hb => Nat.le_trans hs (h3 b hb)⟩

end Go.Proofs.YtaahjpmndkcijaaGreatDoor

/-
  More of the library: parts of slices, append behind a full slice expression, rows of a stack that is cut.
-/
namespace Go.Proofs.YtaahjpmndkcijaaGreatDoor
open Go.RowKit

theorem addr_add (b off j : Nat) : (⟨b, off, none⟩ : Addr).add j = ⟨b, off + j, none⟩ := by simp only [Addr.add]; split <;> simp_all

theorem slP_nilv {α : Type} (R : Rp α) (w : World) : slP R [] w [.slice none 0 0] [] := ⟨_, [], [], [], rfl, flatNil w 1, rfl, rfl, by simp⟩
where flatNil (w : World) (n : Nat) : Flat [] w (.slice none 0 0) n 0 [] := ⟨none, 0, rfl, Nat.le_refl _, by simp [maxLen], by simp, Or.inl ⟨rfl, rfl⟩⟩

section
variable {P : Program} (w : World)

end

theorem ownsRow_take {w : World} {base : Nat} {e : TypeId} {size g n cap : Nat} {xs : List Value} (h : w.ownsRow base e size (.slice (some ⟨g, 0, none⟩) n cap) n xs) (m : Nat) (hm : m ≤ n) :
    w.ownsRow base e size (.slice (some ⟨g, 0, none⟩) m cap) m (xs.take (m * size)) := by
  have hle : m * size ≤ n * size := Nat.mul_le_mul_right _ hm
  refine ⟨by rw [List.length_take, h.1]; omega, ?_⟩
  rcases h.2 with ⟨h0, -⟩ | ⟨g', cap', cur, hv, h1, h2, h3, h4, h5, h6⟩
  · cases h0
  · cases hv
    exact Or.inr ⟨g, cap, cur, rfl, h1, h2, by omega, h4, h5, by rw [← h6, List.take_take, Nat.min_eq_left hle]⟩

theorem Rows.take {α : Type} {R : Rp α} {base : Nat} {ob : List Nat} {w : World} {us : List Value} {xs : List α} (h : Rows R base ob w us xs) (m : Nat) : Rows R base ob w (us.take m) (xs.take m) := by
  obtain ⟨fps, h1, h2, h3, h4, h5⟩ := h
  have hs : (fps.take m).flatten.Sublist fps.flatten := by
    conv => rhs; rw [← List.take_append_drop m fps, List.flatten_append]
    exact List.sublist_append_left _ _
  refine ⟨fps.take m, by simp [h1], by simp [h2], ⟨h3.1.sublist hs, fun b hb => h3.2 b (hs.subset hb)⟩, fun b hb => h4 b (hs.subset hb), fun i hi u f hu hf => ?_⟩
  simp at hi
  rw [List.getElem?_take, if_pos (by omega)] at hu hf
  simpa using h5 i (by omega) u f hu hf

theorem Acc.take {α : Type} {R : Rp α} {w0 w : World} {e : TypeId} {g n cap : Nat} {xs : List α} (h : Acc R w0 e w (.slice (some ⟨g, 0, none⟩) n cap) xs) (m : Nat) (hm : m ≤ xs.length) :
    n = xs.length ∧ Acc R w0 e w (.slice (some ⟨g, 0, none⟩) m cap) (xs.take m) := by
  obtain ⟨us, h1, h2⟩ := h
  have hn : n = xs.length := by
    rcases h1.2 with ⟨h0, -⟩ | ⟨g', cap', cur, hv, -⟩
    · cases h0
    · cases hv; rfl
  subst hn
  refine ⟨rfl, us.take m, ?_, ?_⟩
  · have := ownsRow_take h1 m hm
    rw [Nat.mul_one] at this
    rw [List.length_take, Nat.min_eq_left hm]; exact this
  · simpa [Value.ownBlock] using h2.take m


/-- a slice that is not empty, as the source of an append. -/
theorem slF_src {α : Type} {n : Nat} {enc : α → List Value} {fp : List Nat} {w : World} {v : Value} {xs : List α} (h : slF n enc fp w [v] xs) (h0 : 0 < xs.length) :
    ∃ b off cap, v = .slice (some ⟨b, off, none⟩) xs.length cap ∧ xs.length ≤ cap ∧ cap ≤ maxLen ∧ (xs.flatMap enc).length = xs.length * n ∧ ∀ j u, (xs.flatMap enc)[j]? = some u → w.cell? ((⟨b, off, none⟩ : Addr).add j) = some u := by
  obtain ⟨v', hv, a, cap, rfl, h1, h2, h3, h4⟩ := h
  cases hv
  rcases h4 with ⟨h0', -⟩ | ⟨b, off, rfl, -, -, hc⟩
  · omega
  · exact ⟨b, off, cap, rfl, h1, h2, h3, fun j u hu => by rw [addr_add]; exact hc j u hu⟩

theorem Acc.cap {α : Type} {R : Rp α} {w0 w : World} {e : TypeId} {g n cap : Nat} {xs : List α} (h : Acc R w0 e w (.slice (some ⟨g, 0, none⟩) n cap) xs) :
    n = xs.length ∧ n ≤ cap ∧ cap ≤ maxLen := by
  obtain ⟨us, h1, h2⟩ := h
  generalize hx : xs.length = m at h1
  rcases h1.2 with ⟨h0, -⟩ | ⟨g', cap', cur, hv, -, -, h3, h4, -⟩
  · cases h0
  · cases hv; exact ⟨rfl, h3, h4⟩


/-- A slice of one-cell elements that a call collects by append; the elements' memory may be older, its blocks are of G. -/
def Got {α : Type} (R : Rp α) (base : Nat) (G : Nat → Prop) (e : TypeId) (w : World) (v : Value) (xs : List α) : Prop :=
  ∃ us fps, w.ownsRow base e 1 v xs.length us ∧ List.length fps = xs.length ∧ (∀ b ∈ List.flatten fps, v.ownBlock ≠ some b ∧ G b) ∧
    ∀ i (h : i < xs.length) u (f : List Nat), us[i]? = some u → fps[i]? = some f → R f w [u] xs[i]

namespace Got
variable {α : Type} {R : Rp α} {base : Nat} {G : Nat → Prop} {e : TypeId} {w w1 w2 : World} {v : Value} {xs : List α}

theorem nil (R : Rp α) (base : Nat) (G : Nat → Prop) (e : TypeId) (w : World) : Got R base G e w (.slice none 0 0) [] :=
  ⟨[], [], World.ownsRow_nil _ _ _ _, rfl, by simp, by simp⟩

theorem own (h : Got R base G e w v xs) : ∃ us, w.ownsRow base e 1 v xs.length us := by obtain ⟨us, _, h, _⟩ := h; exact ⟨us, h⟩

theorem upd (K : Kept R) (h : Got R base G e w v xs) {f : List Nat} (hu : Upd f w w1) (hf : ∀ b ∈ f, b < base ∧ ¬ G b) : Got R base G e w1 v xs := by
  obtain ⟨us, fps, h1, h2, h3, h4⟩ := h
  refine ⟨us, fps, ?_, h2, h3, fun i hi u g hu' hg => K.upd (h4 i hi u g hu' hg) hu fun b hb hm => (hf b hm).2 (h3 b (List.mem_flatten.2 ⟨_, List.mem_of_getElem? hg, hb⟩)).2⟩
  obtain ⟨g1, g2⟩ := h1
  refine ⟨g1, ?_⟩
  rcases g2 with g2 | ⟨g, cap, cur, hv, hb, hh, q1, q2, q3, q4⟩
  · exact Or.inl g2
  · refine Or.inr ⟨g, cap, cur, hv, hb, ?_, q1, q2, q3, q4⟩
    rw [hu.block g (Array.getElem?_eq_some_iff.1 hh).1 (fun hm => by have := (hf g hm).1; omega)]; exact hh

theorem slP (h : Got R base G e w v xs) : ∃ fp, slP R fp w [v] xs ∧ ∀ b ∈ fp, base ≤ b ∨ G b := by
  obtain ⟨us, fps, h1, h2, h3, h4⟩ := h
  obtain ⟨fb, g1, g2, g3, g4⟩ := Flat.ofOwns h1
  refine ⟨fb ++ fps.flatten, ⟨v, us, fb, fps, rfl, g1, h2, rfl, h4⟩, fun b hb => ?_⟩
  rcases List.mem_append.1 hb with hb | hb
  · exact Or.inl (g3 b hb)
  · exact Or.inr (h3 b hb).2

/-- behind an append of one element u, boxed in a new block. -/
theorem push (K : Kept R) (h : Got R base G e w v xs) {us : List Value} (hus : w.ownsRow base e 1 v xs.length us) {u : Value} {x : α} {g : List Nat} (hx : R g w [u] x) (hg : ∀ b ∈ g, v.ownBlock ≠ some b ∧ G b) (o : Obj) {v2 : Value}
    (h2 : w2.ownsRow base e 1 v2 (xs.length + 1) (us ++ [u])) (hgr : (w.alloc o).grownBy w2 v.ownBlock)
    (ht : ∀ b, v2.ownBlock = some b → v.ownBlock = some b ∨ (w.alloc o).heap.size ≤ b) : Got R base G e w2 v2 (xs ++ [x]) := by
  obtain ⟨us', fps, h1, q2, q3, q4⟩ := h
  have hu3 : Upd v.ownBlock.toList w w2 := ((Upd.refl _ _).alloc o).grown hgr (fun k hk => Or.inr (by simp [hk]))
  have hsame : us' = us := by
    rcases h1.2 with ⟨hv, h0⟩ | ⟨b, cap, cur, hv, hb, hh, r1, r2, r3, r4⟩
    · have e1 : us' = [] := List.eq_nil_of_length_eq_zero (by have := h1.1; rw [h0] at this; simpa using this)
      have e2 : us = [] := List.eq_nil_of_length_eq_zero (by have := hus.1; rw [h0] at this; simpa using this)
      rw [e1, e2]
    · subst hv
      rcases hus.2 with ⟨hv', _⟩ | ⟨b', cap', cur', hv', hb', hh', r1', r2', r3', r4'⟩
      · cases hv'
      · simp only [Value.slice.injEq, Option.some.injEq, Addr.mk.injEq, and_true] at hv'
        obtain ⟨rfl, _, rfl⟩ := hv'
        rw [hh] at hh'
        cases hh'
        rw [← r4, ← r4']
  subst hsame
  have hul : us'.length = xs.length := by rw [h1.1, Nat.mul_one]
  have hlt : ∀ b ∈ fps.flatten, b < w.heap.size := by
    intro b hb
    obtain ⟨f, hf, hbf⟩ := List.mem_flatten.1 hb
    obtain ⟨i, hi, rfl⟩ := List.mem_iff_getElem.1 hf
    exact K.lt (q4 i (by omega) us'[i] fps[i] (by simp) (by simp)) b hbf
  have hnot : ∀ b, v.ownBlock ≠ some b → b < w.heap.size → v2.ownBlock ≠ some b := by
    intro b hb hl he
    rcases ht b he with h | h
    · exact hb h
    · simp at h; omega
  refine ⟨us' ++ [u], fps ++ [g], by simpa using h2, by simp [q2], ?_, ?_⟩
  · intro b hb
    rw [List.flatten_append] at hb
    rcases List.mem_append.1 hb with hb | hb
    · exact ⟨hnot b (q3 b hb).1 (hlt b hb), (q3 b hb).2⟩
    · have hb' : b ∈ g := by simpa using hb
      exact ⟨hnot b (hg b hb').1 (K.lt hx b hb'), (hg b hb').2⟩
  · intro i hi u' f hu' hf'
    by_cases hlt' : i < xs.length
    · rw [List.getElem?_append_left (by omega)] at hu' hf'
      rw [List.getElem_append_left hlt']
      exact K.upd (q4 i hlt' u' f hu' hf') hu3 (fun b hb hm => (q3 b (List.mem_flatten.2 ⟨_, List.mem_of_getElem? hf', hb⟩)).1 (by simpa using hm))
    · have ei : i = xs.length := by simp at hi; omega
      subst ei
      rw [List.getElem?_append_right (by omega)] at hu' hf'
      rw [hul, Nat.sub_self] at hu'
      rw [q2, Nat.sub_self] at hf'
      simp at hu' hf'
      subst hu' hf'
      simpa using K.upd hx hu3 (fun b hb hm => (hg b hb).1 (by simpa using hm))
end Got

theorem cell_new (w : World) (cs : Array Value) (T : TypeId) (B : Nat) (hB : w.heap.size = B) (j : Nat) (u : Value) (h : cs[j]? = some u) : (w.alloc (.cells cs T)).cell? ⟨B, j, none⟩ = some u := by
  subst hB
  rw [cell_of_row _ _ _ _ _ _ (heap_alloc_new w _)]; exact h

end Go.Proofs.YtaahjpmndkcijaaGreatDoor

/-
  Trees of any nodes: how a tree lies in memory; the nodes of a tree in order; the forest of a list of nodes.
-/
namespace Go.Proofs.YtaahjpmndkcijaaGreatDoor
open Go.RowKit

inductive Tr (α : Type) where
  | mk (t : α) (args : List (Tr α))

mutual
def RT {α : Type} (enc : α → List Value) : Tr α → List Nat → World → List Value → Prop
  | .mk t args, fp, w, cs => ∃ b s fa us fb fps, cs = [.pointer (some ⟨b, 0, none⟩)] ∧ fp = b :: fa ∧ b < w.heap.size ∧ (∀ j u, (enc t ++ [s])[j]? = some u → w.cell? ⟨b, j, none⟩ = some u) ∧
      Flat fb w s 1 args.length us ∧ List.length fps = args.length ∧ fa = fb ++ List.flatten fps ∧ RTs enc args fps w us
def RTs {α : Type} (enc : α → List Value) : List (Tr α) → List (List Nat) → World → List Value → Prop
  | [], _, _, _ => True
  | x :: xs, fps, w, us => ∃ f fs u vs, fps = f :: fs ∧ us = u :: vs ∧ RT enc x f w [u] ∧ RTs enc xs fs w vs
end

mutual
def flatT {α : Type} : Tr α → List α
  | .mk t args => t :: flatTs args
def flatTs {α : Type} : List (Tr α) → List α
  | [] => []
  | x :: xs => flatT x ++ flatTs xs
end

mutual
def okT {α : Type} (ar : α → Int) : Tr α → Bool
  | .mk t args => decide ((args.length : Int) = ar t) && okTs ar args
def okTs {α : Type} (ar : α → Int) : List (Tr α) → Bool
  | [] => true
  | x :: xs => okT ar x && okTs ar xs
end

abbrev R_T {α : Type} (enc : α → List Value) : Rp (Tr α) := fun fp w cs x => RT enc x fp w cs

theorem RTs_get {α : Type} {enc : α → List Value} : ∀ (xs : List (Tr α)) (fps : List (List Nat)) (w : World) (us : List Value), RTs enc xs fps w us → ∀ i (h : i < xs.length) u (f : List Nat), us[i]? = some u → fps[i]? = some f → RT enc xs[i] f w [u]
  | [], _, _, _, _, i, h, _, _, _, _ => by simp at h
  | x :: xs, fps, w, us, hr, i, h, u, f, hu, hf => by
    obtain ⟨f0, fs, u0, vs, rfl, rfl, h1, h2⟩ := hr
    cases i with
    | zero => simp at hu hf; subst hu hf; exact h1
    | succ i => exact RTs_get xs fs w vs h2 i (by simpa using h) u f (by simpa using hu) (by simpa using hf)

theorem RTs_mk {α : Type} {enc : α → List Value} : ∀ (xs : List (Tr α)) (fps : List (List Nat)) (w : World) (us : List Value), fps.length = xs.length → us.length = xs.length →
    (∀ i (h : i < xs.length) u (f : List Nat), us[i]? = some u → fps[i]? = some f → RT enc xs[i] f w [u]) → RTs enc xs fps w us
  | [], _, _, _, _, _, _ => trivial
  | x :: xs, fps, w, us, h1, h2, h => by
    match fps, us, h1, h2 with
    | f :: fs, u :: vs, h1, h2 =>
      exact ⟨f, fs, u, vs, rfl, rfl, h 0 (by simp) u f rfl rfl, RTs_mk xs fs w vs (by simpa using h1) (by simpa using h2) (fun i hi u' f' hu hf => h (i + 1) (by simpa using hi) u' f' (by simpa using hu) (by simpa using hf))⟩

theorem R_T_open {α : Type} {enc : α → List Value} {fp : List Nat} {w : World} {v : Value} {t : α} {args : List (Tr α)} (h : R_T enc fp w [v] (.mk t args)) :
    ∃ b s fa, v = .pointer (some ⟨b, 0, none⟩) ∧ fp = b :: fa ∧ b < w.heap.size ∧ (∀ j u, (enc t ++ [s])[j]? = some u → w.cell? ⟨b, j, none⟩ = some u) ∧ slP (R_T enc) fa w [s] args := by
  simp only [R_T, RT] at h
  obtain ⟨b, s, fa, us, fb, fps, hv, rfl, h0, h1, h4, h5, rfl, h6⟩ := h
  simp at hv
  exact ⟨b, s, _, hv, rfl, h0, h1, s, us, fb, fps, rfl, h4, h5, rfl, RTs_get _ _ _ _ h6⟩

theorem R_T_mk {α : Type} {enc : α → List Value} {w : World} {t : α} {args : List (Tr α)} {b : Nat} {s : Value} {fa : List Nat} (h0 : b < w.heap.size) (h1 : ∀ j u, (enc t ++ [s])[j]? = some u → w.cell? ⟨b, j, none⟩ = some u)
    (h : slP (R_T enc) fa w [s] args) : R_T enc (b :: fa) w [.pointer (some ⟨b, 0, none⟩)] (.mk t args) := by
  obtain ⟨v, us, fb, fps, hv, h4, h5, rfl, h6⟩ := h
  cases hv
  have hl : us.length = args.length := by obtain ⟨_, _, _, _, _, h, _⟩ := h4; simpa using h
  simp only [R_T, RT]
  exact ⟨b, s, _, us, fb, fps, rfl, rfl, h0, h1, h4, h5, rfl, RTs_mk _ _ _ _ h5 hl h6⟩

theorem R_T_form {α : Type} {enc : α → List Value} {fp : List Nat} {w : World} {v : Value} {x : Tr α} (h : R_T enc fp w [v] x) : ∃ b, v = .pointer (some ⟨b, 0, none⟩) := by
  obtain ⟨t, args⟩ := x
  obtain ⟨b, -, -, rfl, -⟩ := R_T_open h
  exact ⟨b, rfl⟩

mutual
theorem RT_lt {α : Type} {enc : α → List Value} : ∀ (x : Tr α) (fp : List Nat) (w : World) (cs : List Value), RT enc x fp w cs → ∀ b ∈ fp, b < w.heap.size
  | .mk t args, fp, w, cs, h, b, hb => by
    simp only [RT] at h
    obtain ⟨b0, s, fa, us, fb, fps, -, rfl, h0, -, h4, h5, rfl, h6⟩ := h
    rcases List.mem_cons.1 hb with rfl | hb
    · exact h0
    · rcases List.mem_append.1 hb with hb | hb
      · exact h4.lt b hb
      · exact RTs_lt args fps w us h5 h6 b hb
theorem RTs_lt {α : Type} {enc : α → List Value} : ∀ (xs : List (Tr α)) (fps : List (List Nat)) (w : World) (us : List Value), fps.length = xs.length → RTs enc xs fps w us → ∀ b ∈ fps.flatten, b < w.heap.size
  | [], fps, _, _, h, _, b, hb => by simp at h; subst h; simp at hb
  | x :: xs, fps, w, us, hl, h, b, hb => by
    simp only [RTs] at h
    obtain ⟨f, fs, u, vs, rfl, rfl, h1, h2⟩ := h
    rw [List.flatten_cons] at hb
    rcases List.mem_append.1 hb with hb | hb
    · exact RT_lt x f w [u] h1 b hb
    · exact RTs_lt xs fs w vs (by simpa using hl) h2 b hb
end

mutual
theorem RT_frame {α : Type} {enc : α → List Value} : ∀ (x : Tr α) (fp : List Nat) (w w' : World) (cs : List Value), RT enc x fp w cs → w.heap.size ≤ w'.heap.size → (∀ b ∈ fp, w'.heap[b]? = w.heap[b]?) → RT enc x fp w' cs
  | .mk t args, fp, w, w', cs, h, hs, hb => by
    simp only [RT] at h ⊢
    obtain ⟨b0, s, fa, us, fb, fps, rfl, rfl, h0, h1, h4, h5, rfl, h6⟩ := h
    have hb0 := hb b0 (by simp)
    refine ⟨b0, s, _, us, fb, fps, rfl, rfl, by omega, fun j u hj => ?_, h4.frame hs (fun b h => hb b (by simp [h])), h5, rfl, RTs_frame args fps w w' us h6 hs (fun b h => hb b (by simp only [List.mem_cons, List.mem_append]; exact Or.inr (Or.inr h)))⟩
    rw [World.cell?_of_block (w := w) hb0]; exact h1 j u hj
theorem RTs_frame {α : Type} {enc : α → List Value} : ∀ (xs : List (Tr α)) (fps : List (List Nat)) (w w' : World) (us : List Value), RTs enc xs fps w us → w.heap.size ≤ w'.heap.size → (∀ b ∈ fps.flatten, w'.heap[b]? = w.heap[b]?) → RTs enc xs fps w' us
  | [], _, _, _, _, _, _, _ => trivial
  | x :: xs, fps, w, w', us, h, hs, hb => by
    simp only [RTs] at h ⊢
    obtain ⟨f, fs, u, vs, rfl, rfl, h1, h2⟩ := h
    exact ⟨f, fs, u, vs, rfl, rfl, RT_frame x f w w' [u] h1 hs (fun b h => hb b (by rw [List.flatten_cons]; exact List.mem_append_left _ h)), RTs_frame xs fs w w' vs h2 hs (fun b h => hb b (by rw [List.flatten_cons]; exact List.mem_append_right _ h))⟩
end

theorem R_Tk {α : Type} (enc : α → List Value) : Kept (R_T enc) := ⟨fun h => RT_lt _ _ _ _ h, fun h hs hb => RT_frame _ _ _ _ _ h hs hb⟩

section
variable {α : Type} {ar : α → Int}
theorem flatTs_append (xs ys : List (Tr α)) : flatTs (xs ++ ys) = flatTs xs ++ flatTs ys := by
  induction xs with
  | nil => rfl
  | cons x xs ih => simp [flatTs, ih]
theorem flatT_pos (x : Tr α) : 1 ≤ (flatT x).length := by cases x; simp [flatT]
theorem flatTs_take (xs : List (Tr α)) (k : Nat) (h : k < xs.length) : flatTs (xs.take (k + 1)) = flatTs (xs.take k) ++ flatT xs[k] := by
  rw [List.take_succ_eq_append_getElem h, flatTs_append]; simp [flatTs]
theorem flatTs_take_le (xs : List (Tr α)) (k : Nat) : (flatTs (xs.take k)).length ≤ (flatTs xs).length := by
  conv => rhs; rw [← List.take_append_drop k xs, flatTs_append, List.length_append]
  omega
end

end Go.Proofs.YtaahjpmndkcijaaGreatDoor

/-
  The laws' helper functions over lists of numbers: what each call returns and makes.
-/
namespace Go.Proofs.YtaahjpmndkcijaaGreatDoor
open Go.RowKit

abbrev ei (n : Int) : Value := .int .i64 n
abbrev R1 : Rp (List Int) := slF 1 (fun n => [ei n])
theorem Tryz.info2 : (Tryz.prog.info? 2).map (fun i => (i.zero, i.size, i.bytes)) = some (some (.int .i64 0), 1, 8) := by kernel_rfl
theorem R1k : Kept R1 := slF_kept _ _
/-- the rows of a matrix, numbered through. -/
def mk2 : Int → List (List Int) → List (List Int)
  | _, [] => []
  | k, r :: rs => upFrom k r.length :: mk2 (k + r.length) rs
def tot (xss : List (List Int)) : Int := (xss.map (fun r => (r.length : Int))).sum
@[simp] theorem mk2_length (k : Int) (xss : List (List Int)) : (mk2 k xss).length = xss.length := by
  induction xss generalizing k with
  | nil => rfl
  | cons r rs ih => simp [mk2, ih]
theorem tot_nonneg (xss : List (List Int)) : 0 ≤ tot xss := by
  unfold tot; induction xss with
  | nil => simp
  | cons r rs ih => simp only [List.map_cons, List.sum_cons]; omega
end Go.Proofs.YtaahjpmndkcijaaGreatDoor

/-
  From the form's own reading of an argument to the readings of Lib: slices, and slices of slices, of whatever elements.
-/
namespace Go.Proofs.YtaahjpmndkcijaaGreatDoor
open Go.RowKit Go.ChangeShapes Go.WideShapes Go.Deep

/-- What the form reads at type t reads by R, with a fact on the value. -/
def Opens {α : Type} (P : Program) (t : TypeId) (R : Rp α) (φ : α → Prop) : Prop :=
  ∀ {H : Type} {enc : TypeId × Value → H} {w : World} {fuel : Nat} {cs : List Value} {x : DataW H × List MemPlace},
    DataW.trod enc P w 0 (fun _ => true) true fuel t cs = some x → ∃ a fp, R fp w cs a ∧ φ a

theorem flat_nil (w : World) (n : Nat) : Flat [] w (.slice none 0 0) n 0 [] := ⟨none, 0, rfl, Nat.le_refl _, by simp [maxLen], by simp, Or.inl ⟨rfl, rfl⟩⟩

theorem Opens.of {α : Type} {P : Program} {t : TypeId} {R : Rp α} {φ : α → Prop} (h : Opens P t R φ) {H : Type} {enc : TypeId × Value → H} {w : World} {v : Value} {d : DataW H} {ps : List MemPlace}
    (hv : v.cells = #[v]) (hd : DataW.Trod enc P w 0 (fun _ => true) true t v d ps) : ∃ a fp, R fp w [v] a ∧ φ a := by
  obtain ⟨fuel, hf⟩ := hd
  rw [hv] at hf
  exact h hf

end Go.Proofs.YtaahjpmndkcijaaGreatDoor

/-
  The helper functions over []int64 and [][]int64 under one scheme of names: sz, to, eq, mark, held.
-/
namespace Go.Proofs.YtaahjpmndkcijaaGreatDoor
open Go.RowKit

end Go.Proofs.YtaahjpmndkcijaaGreatDoor

/-
  Numbers in decimal, plainly: what is read back is what was written, and nothing else is read.
-/
namespace Go.Proofs.YtaahjpmndkcijaaGreatDoor

def isDig (b : UInt8) : Bool := decide (48 ≤ b.toNat ∧ b.toNat ≤ 57)
/-- the number that digits spell, behind others. -/
def valD (acc : Nat) (l : List UInt8) : Nat := l.foldl (fun a b => a * 10 + (b.toNat - 48)) acc
theorem valD_nil (acc : Nat) : valD acc [] = acc := by rw [valD, List.foldl_nil]
theorem valD_cons (acc : Nat) (b : UInt8) (r : List UInt8) : valD acc (b :: r) = valD (acc * 10 + (b.toNat - 48)) r := by rw [valD, List.foldl_cons, valD]

theorem valD_append (acc : Nat) (a b : List UInt8) : valD acc (a ++ b) = valD (valD acc a) b := by rw [valD, List.foldl_append, valD, valD]
theorem dig_nat {k : Nat} (h : k < 10) : (UInt8.ofNat (48 + k)).toNat = 48 + k := by
  rw [UInt8.toNat_ofNat', Nat.mod_eq_of_lt (by omega)]
theorem isDig_nat {k : Nat} (h : k < 10) : isDig (UInt8.ofNat (48 + k)) = true := by
  unfold isDig; rw [dig_nat h]; simp; omega

theorem valD_dec (u : Nat) : valD 0 (Lib.decDigits u) = u := by
  induction u using Nat.strongRecOn with
  | _ u ih =>
    rw [Lib.decDigits]
    split
    · rename_i h
      simp only [valD_cons, valD_nil]; rw [dig_nat h]; omega
    · rename_i h
      rw [valD_append, ih (u / 10) (by omega)]
      simp only [valD_cons, valD_nil]; rw [dig_nat (Nat.mod_lt _ (by omega))]; omega
theorem dec_digits (u : Nat) : (Lib.decDigits u).all isDig = true := by
  induction u using Nat.strongRecOn with
  | _ u ih =>
    rw [Lib.decDigits]
    split
    · rename_i h; simp only [List.all_cons, List.all_nil, Bool.and_true]; exact isDig_nat h
    · rename_i h
      rw [List.all_append, ih (u / 10) (by omega)]
      simp only [List.all_cons, List.all_nil, Bool.and_true, Bool.true_and]; exact isDig_nat (Nat.mod_lt u (by omega))
theorem dec_ne (u : Nat) : Lib.decDigits u ≠ [] := by
  intro h
  have := Lib.decDigits_length u
  rw [h] at this
  have := Lib.nDigits_pos u
  simp at *; omega
/-- no leading zero, but at 0 itself. -/
theorem dec_head (u : Nat) (h : 0 < u) : ∃ b r, Lib.decDigits u = b :: r ∧ b.toNat ≠ 48 := by
  induction u using Nat.strongRecOn with
  | _ u ih =>
    rw [Lib.decDigits]
    split
    · rename_i h1; exact ⟨_, [], rfl, by rw [dig_nat h1]; omega⟩
    · rename_i h1
      obtain ⟨b, r, e, hb⟩ := ih (u / 10) (by omega) (by omega)
      exact ⟨b, r ++ [UInt8.ofNat (48 + u % 10)], by rw [e]; rfl, hb⟩

theorem valD_ge (acc : Nat) (l : List UInt8) : acc ≤ valD acc l := by
  induction l generalizing acc with
  | nil => rw [valD_nil]; exact Nat.le_refl _
  | cons b l ih => rw [valD_cons]; have := ih (acc * 10 + (b.toNat - 48)); omega
theorem valD_lt (acc : Nat) (l : List UInt8) (h : l.all isDig = true) : valD acc l < (acc + 1) * 10 ^ l.length := by
  induction l generalizing acc with
  | nil => simp [valD_nil]
  | cons b l ih =>
    rw [List.all_cons, Bool.and_eq_true] at h
    have hb : 48 ≤ b.toNat ∧ b.toNat ≤ 57 := by have := h.1; unfold isDig at this; simpa using this
    have := ih (acc * 10 + (b.toNat - 48)) h.2
    simp only [valD_cons, List.length_cons, Nat.pow_succ]
    refine Nat.lt_of_lt_of_le this ?_
    rw [Nat.mul_comm (10 ^ l.length) 10, ← Nat.mul_assoc]
    exact Nat.mul_le_mul_right _ (by omega)

/-- digits behind a number are the digits of what they spell. -/
theorem dec_valD (acc : Nat) (h0 : 0 < acc) (l : List UInt8) (h : l.all isDig = true) : Lib.decDigits (valD acc l) = Lib.decDigits acc ++ l := by
  induction l generalizing acc with
  | nil => simp [valD_nil]
  | cons b l ih =>
    rw [List.all_cons, Bool.and_eq_true] at h
    have hb : 48 ≤ b.toNat ∧ b.toNat ≤ 57 := by have := h.1; unfold isDig at this; simpa using this
    rw [valD_cons, ih _ (by omega) h.2]
    have hd : Lib.decDigits (acc * 10 + (b.toNat - 48)) = Lib.decDigits acc ++ [b] := by
      conv => lhs; rw [Lib.decDigits]
      rw [dif_neg (by omega)]
      have e1 : (acc * 10 + (b.toNat - 48)) / 10 = acc := by omega
      have e2 : (acc * 10 + (b.toNat - 48)) % 10 = b.toNat - 48 := by omega
      have e3 : 48 + (b.toNat - 48) = b.toNat := by omega
      rw [e1, e2, e3, UInt8.ofNat_toNat]
    rw [hd, List.append_assoc]; rfl

theorem dec_of {b : UInt8} {l : List UInt8} (h : (b :: l).all isDig = true) (h0 : b.toNat ≠ 48 ∨ l = []) : Lib.decDigits (valD 0 (b :: l)) = b :: l := by
  rw [List.all_cons, Bool.and_eq_true] at h
  have hb : 48 ≤ b.toNat ∧ b.toNat ≤ 57 := by have := h.1; unfold isDig at this; simpa using this
  have hone : Lib.decDigits (b.toNat - 48) = [b] := by
    rw [Lib.decDigits_one (by omega)]
    have e3 : 48 + (b.toNat - 48) = b.toNat := by omega
    rw [e3, UInt8.ofNat_toNat]
  rw [valD_cons, Nat.zero_mul, Nat.zero_add]
  rcases h0 with h0 | rfl
  · rw [dec_valD _ (by omega) _ h.2, hone]; rfl
  · simpa [valD_nil] using hone

/-- the sign and the digits of a text. -/
def negL (l : List UInt8) : Bool := match l with | [] => false | b :: _ => b == 45
def digL (l : List UInt8) : List UInt8 := if negL l then l.tail else l
/-- the number with a decimal form of at most 18 digits. -/
def numF (l : List UInt8) : Option Int :=
  if digL l = [] ∨ 18 < (digL l).length ∨ ((digL l).head? = some 48 ∧ 1 < l.length) ∨ (digL l).all isDig = false then none
  else some (if negL l then -(valD 0 (digL l) : Int) else (valD 0 (digL l) : Int))

theorem itoa_shape (v : Int) : (0 ≤ v ∧ negL (Lib.itoa v) = false ∧ digL (Lib.itoa v) = Lib.decDigits v.toNat) ∨ (v < 0 ∧ negL (Lib.itoa v) = true ∧ digL (Lib.itoa v) = Lib.decDigits v.natAbs) := by
  by_cases h : v < 0
  · refine Or.inr ⟨h, ?_, ?_⟩ <;> simp [Lib.itoa, h, negL, digL]
  · refine Or.inl ⟨by omega, ?_⟩
    have hi : Lib.itoa v = Lib.decDigits v.toNat := by simp [Lib.itoa, h]
    rw [hi]
    have hn : negL (Lib.decDigits v.toNat) = false := by
      have := dec_digits v.toNat
      match hd : Lib.decDigits v.toNat with
      | [] => rfl
      | b :: r =>
        rw [hd, List.all_cons, Bool.and_eq_true] at this
        have hb : 48 ≤ b.toNat ∧ b.toNat ≤ 57 := by have := this.1; unfold isDig at this; simpa using this
        simp only [negL, beq_eq_false_iff_ne, ne_eq]
        intro e; rw [e] at hb; simp at hb
    exact ⟨hn, by simp [digL, hn]⟩

theorem numF_itoa (v : Int) (h : (digL (Lib.itoa v)).length ≤ 18) : numF (Lib.itoa v) = some v := by
  rcases itoa_shape v with ⟨h0, h1, h2⟩ | ⟨h0, h1, h2⟩
  · unfold numF
    rw [h2] at h ⊢
    rw [h1, if_neg]
    · rw [valD_dec]; simp; omega
    · rintro (h3 | h3 | ⟨h3, h4⟩ | h3)
      · exact dec_ne _ h3
      · omega
      · by_cases hz : v = 0
        · subst hz; simp [Lib.itoa, Lib.decDigits] at h4
        · obtain ⟨b, r, e, hb⟩ := dec_head v.toNat (by omega)
          rw [e] at h3
          simp at h3; rw [h3] at hb; simp at hb
      · rw [dec_digits] at h3; cases h3
  · unfold numF
    rw [h2] at h ⊢
    rw [h1, if_neg]
    · rw [valD_dec]; simp; omega
    · rintro (h3 | h3 | ⟨h3, h4⟩ | h3)
      · exact dec_ne _ h3
      · omega
      · obtain ⟨b, r, e, hb⟩ := dec_head v.natAbs (by omega)
        rw [e] at h3
        simp at h3; rw [h3] at hb; simp at hb
      · rw [dec_digits] at h3; cases h3

theorem numF_some {l : List UInt8} {n : Int} (h : numF l = some n) : l = Lib.itoa n ∧ (digL l).length ≤ 18 ∧ n.natAbs < 10 ^ 18 := by
  unfold numF at h
  split at h
  · cases h
  · rename_i hc
    simp only [not_or, Bool.not_eq_false] at hc
    obtain ⟨h1, h2, h3, h4⟩ := hc
    simp only [Option.some.injEq] at h
    have hlt : valD 0 (digL l) < 10 ^ 18 := by
      have := valD_lt 0 (digL l) h4
      have hp : 10 ^ (digL l).length ≤ 10 ^ 18 := Nat.pow_le_pow_right (by omega) (by omega)
      omega
    refine ⟨?_, by omega, by subst h; split <;> omega⟩
    cases l with
    | nil => simp [digL, negL] at h1
    | cons b r =>
      have hnb : negL (b :: r) = (b == 45) := rfl
      by_cases hb : b = 45
      · subst hb
        have hl : negL (45 :: r) = true := rfl
        have hd : digL (45 :: r) = r := by simp [digL, hl]
        rw [hd] at h h1 h3 h4 hlt
        rw [hl] at h
        simp only [if_true] at h
        subst h
        cases r with
        | nil => exact absurd rfl h1
        | cons c r' =>
          have hc : c.toNat ≠ 48 := by
            intro e
            refine h3 ⟨?_, by simp⟩
            have : c = 48 := UInt8.toNat_inj.1 (by rw [e]; rfl)
            simp [this]
          have hdec := dec_of (b := c) (l := r') h4 (Or.inl hc)
          have hpos : 1 ≤ valD 0 (c :: r') := by
            rw [List.all_cons, Bool.and_eq_true] at h4
            have hb : 48 ≤ c.toNat ∧ c.toNat ≤ 57 := by have := h4.1; unfold isDig at this; simpa using this
            have := valD_ge (0 * 10 + (c.toNat - 48)) r'
            rw [valD_cons]; omega
          rw [Lib.itoa_neg _ hpos, hdec]
      · have hl : negL (b :: r) = false := by rw [hnb]; simpa using hb
        have hd : digL (b :: r) = b :: r := by simp [digL, hl]
        rw [hd] at h h1 h3 h4 hlt
        rw [hl] at h
        simp only [Bool.false_eq_true, if_false] at h
        subst h
        have hc : b.toNat ≠ 48 ∨ r = [] := by
          by_cases hr : r = []
          · exact Or.inr hr
          · left
            intro e
            refine h3 ⟨?_, ?_⟩
            · have : b = 48 := UInt8.toNat_inj.1 (by rw [e]; rfl)
              simp [this]
            · cases r with
              | nil => exact absurd rfl hr
              | cons c r => simp
        rw [Lib.itoa_nonneg, dec_of h4 hc]

theorem parseUintM_dec (M acc : Nat) (l : List UInt8) (h : l.all isDig = true) (hM : valD acc l ≤ M) (hM2 : valD acc l < 10 ^ 18) : Lib.parseUintM M acc l = .ok (valD acc l) := by
  induction l generalizing acc with
  | nil => rw [valD_nil]; rfl
  | cons b l ih =>
    rw [List.all_cons, Bool.and_eq_true] at h
    have hb : 48 ≤ b.toNat ∧ b.toNat ≤ 57 := by have := h.1; unfold isDig at this; simpa using this
    rw [valD_cons] at hM hM2 ⊢
    have hge := valD_ge (acc * 10 + (b.toNat - 48)) l
    rw [Lib.parseUintM, if_pos hb, if_neg (by omega), if_neg (by omega)]
    exact ih _ h.2 hM hM2

theorem parse_itoa (v : Int) (h : v.natAbs < 10 ^ 18) : Lib.parseIntB 64 (Lib.itoa v) = .ok v := by
  by_cases hv : v < 0
  · have e : Lib.itoa v = 45 :: Lib.decDigits v.natAbs := by simp [Lib.itoa, hv]
    rw [e]
    have hp := parseUintM_dec (2 ^ 64 - 1) 0 (Lib.decDigits v.natAbs) (dec_digits _) (by rw [valD_dec]; omega) (by rw [valD_dec]; exact h)
    rw [valD_dec] at hp
    have e45 : UInt8.toNat 45 = 45 := rfl
    simp only [Lib.parseIntB, Lib.parseUintB, e45, or_true, if_true, if_neg (dec_ne _), hp, not_true, false_and, if_false, true_and]
    rw [if_neg (by omega)]
    congr 1; omega
  · have e : Lib.itoa v = Lib.decDigits v.toNat := by simp [Lib.itoa, hv]
    rw [e]
    have hp := parseUintM_dec (2 ^ 64 - 1) 0 (Lib.decDigits v.toNat) (dec_digits _) (by rw [valD_dec]; omega) (by rw [valD_dec]; omega)
    rw [valD_dec] at hp
    have hd := dec_digits v.toNat
    have hne := dec_ne v.toNat
    match hl : Lib.decDigits v.toNat, hne with
    | b :: r, _ =>
      rw [hl] at hp hd
      rw [List.all_cons, Bool.and_eq_true] at hd
      have hb : 48 ≤ b.toNat ∧ b.toNat ≤ 57 := by have := hd.1; unfold isDig at this; simpa using this
      simp only [Lib.parseIntB, Lib.parseUintB]
      have h43 : ¬ (b.toNat = 43 ∨ b.toNat = 45) := by omega
      have h45 : ¬ b.toNat = 45 := by omega
      rw [if_neg h43, if_neg (by simp), hp]
      simp only [h45, not_false_eq_true, true_and, false_and, if_false]
      rw [if_neg (by omega)]
      congr 1; omega

end Go.Proofs.YtaahjpmndkcijaaGreatDoor

/-
  Texts cut at a byte, plainly.
-/
namespace Go.Proofs.YtaahjpmndkcijaaGreatDoor

/-- a text cut at each byte c. -/
def splitC (c : UInt8) : List UInt8 → List (List UInt8)
  | [] => [[]]
  | b :: l => if b = c then [] :: splitC c l else (b :: (splitC c l).headD []) :: (splitC c l).tail

theorem splitC_ne (c : UInt8) (l : List UInt8) : splitC c l ≠ [] := by
  cases l with
  | nil => simp [splitC]
  | cons b l => rw [splitC]; split <;> simp
theorem splitC_cons (c b : UInt8) (l : List UInt8) (h : b ≠ c) : ∃ p ps, splitC c l = p :: ps ∧ splitC c (b :: l) = (b :: p) :: ps := by
  cases hs : splitC c l with
  | nil => exact absurd hs (splitC_ne c l)
  | cons p ps => exact ⟨p, ps, rfl, by rw [splitC, if_neg h, hs]; rfl⟩

theorem index_one (c : UInt8) (b : UInt8) (l : List UInt8) : Lib.index (b :: l) [c] = if b = c then 0 else if Lib.index l [c] = -1 then -1 else Lib.index l [c] + 1 := by
  rw [Lib.index]
  by_cases h : b = c
  · subst h; simp [List.isPrefixOf]
  · have h' : (c == b) = false := by simp; exact fun e => h e.symm
    simp [List.isPrefixOf, h, h']
theorem index_nil (c : UInt8) : Lib.index [] [c] = -1 := by simp [Lib.index]

/-- where the byte is first. -/
theorem index_cut (c : UInt8) : ∀ l : List UInt8, (Lib.index l [c] = -1 ∧ c ∉ l ∧ splitC c l = [l]) ∨
    (∃ i : Nat, Lib.index l [c] = i ∧ i < l.length ∧ l[i]? = some c ∧ c ∉ l.take i ∧ splitC c l = l.take i :: splitC c (l.drop (i + 1)))
  | [] => Or.inl ⟨index_nil c, by simp, rfl⟩
  | b :: l => by
    rw [index_one]
    by_cases h : b = c
    · subst h
      exact Or.inr ⟨0, by simp, by simp, by simp, by simp, by simp [splitC]⟩
    · rw [if_neg h]
      obtain ⟨p, ps, e1, e2⟩ := splitC_cons c b l h
      rcases index_cut c l with ⟨h1, h2, h3⟩ | ⟨i, h1, h2, h3, h4, h5⟩
      · refine Or.inl ⟨by rw [if_pos h1], by simp [h2]; exact fun e => h e.symm, ?_⟩
        rw [e2]; rw [h3] at e1; cases e1; rfl
      · refine Or.inr ⟨i + 1, by rw [h1, if_neg (by omega)]; omega, by simpa using h2, by simpa using h3, by simp [h4]; exact fun e => h e.symm, ?_⟩
        rw [e2]; rw [h5] at e1; cases e1; rfl

theorem split_eq (c : UInt8) : ∀ (fuel : Nat) (l : List UInt8), l.length < fuel → Lib.splitK [c] 0 (Lib.countFrom [c] fuel l) l = splitC c l
  | 0, l, h => by omega
  | fuel + 1, l, h => by
    rw [Lib.countFrom]
    rcases index_cut c l with ⟨h1, h2, h3⟩ | ⟨i, h1, h2, h3, h4, h5⟩
    · rw [h1, h3]; rfl
    · rw [h1, if_neg (by simp), Nat.add_comm, Lib.splitK, h1, if_neg (by simp)]
      have e : ((i : Int).toNat) = i := by omega
      rw [e, Nat.add_zero, h5]
      have := split_eq c fuel (l.drop (i + 1)) (by rw [List.length_drop]; omega)
      simp only [List.length_cons, List.length_nil, Nat.zero_add]
      rw [this]
theorem split_lib (c : UInt8) (l : List UInt8) : Lib.split l [c] = splitC c l := split_eq c _ l (by omega)

/-- texts with a byte between two. -/
def joinC (c : UInt8) : List (List UInt8) → List UInt8
  | [] => []
  | [p] => p
  | p :: q :: ps => p ++ c :: joinC c (q :: ps)
theorem join_lib (c : UInt8) : ∀ ps : List (List UInt8), Lib.join ps [c] = joinC c ps
  | [] => rfl
  | [p] => by simp [Lib.join, joinC, List.intercalate, List.intersperse]
  | p :: q :: ps => by
    have := join_lib c (q :: ps)
    simp only [Lib.join, List.intercalate] at this ⊢
    rw [List.intersperse_cons_cons, List.flatten_cons, List.flatten_cons, this, joinC]; rfl

theorem join_split (c : UInt8) : ∀ l : List UInt8, joinC c (splitC c l) = l
  | [] => rfl
  | b :: l => by
    have ih := join_split c l
    by_cases h : b = c
    · subst h
      cases hs : splitC b l with
      | nil => exact absurd hs (splitC_ne b l)
      | cons p ps =>
        rw [hs] at ih
        simp only [splitC, if_true, hs, joinC, List.nil_append, ih]
    · obtain ⟨p, ps, e1, e2⟩ := splitC_cons c b l h
      rw [e1] at ih
      rw [e2]
      cases ps with
      | nil => simp only [joinC] at ih ⊢; rw [ih]
      | cons q qs => simp only [joinC] at ih ⊢; rw [List.cons_append, ih]

theorem split_none (c : UInt8) (l : List UInt8) (h : c ∉ l) : splitC c l = [l] := by
  rcases index_cut c l with ⟨-, -, h3⟩ | ⟨i, -, -, h3, -, -⟩
  · exact h3
  · exact absurd (List.mem_of_getElem? h3) h
theorem split_app (c : UInt8) (p l : List UInt8) (h : c ∉ p) : splitC c (p ++ c :: l) = p :: splitC c l := by
  induction p with
  | nil => simp [splitC]
  | cons b p ih =>
    simp only [List.mem_cons, not_or] at h
    rw [List.cons_append, splitC, if_neg (fun e => h.1 e.symm), ih h.2]; rfl
theorem split_join (c : UInt8) : ∀ ps : List (List UInt8), ps ≠ [] → (∀ p ∈ ps, c ∉ p) → splitC c (joinC c ps) = ps
  | [], h, _ => absurd rfl h
  | [p], _, h => split_none c p (h p (by simp))
  | p :: q :: ps, _, h => by
    rw [joinC, split_app c p _ (h p (by simp)), split_join c (q :: ps) (by simp) (fun x hx => h x (List.mem_cons_of_mem _ hx))]

/-- the numbers that texts spell, where each spells one. -/
def numsF : List (List UInt8) → Option (List Int)
  | [] => some []
  | p :: ps => match numF p with
    | none => none
    | some n => match numsF ps with
      | none => none
      | some ns => some (n :: ns)

theorem numsF_some : ∀ {ps : List (List UInt8)} {ns : List Int}, numsF ps = some ns → ps = ns.map Lib.itoa ∧ (∀ n ∈ ns, n.natAbs < 10 ^ 18)
  | [], ns, h => by simp [numsF] at h; subst h; simp
  | p :: ps, ns, h => by
    rw [numsF] at h
    cases hp : numF p with
    | none => rw [hp] at h; cases h
    | some n =>
      rw [hp] at h
      cases hps : numsF ps with
      | none => rw [hps] at h; cases h
      | some ms =>
        rw [hps] at h
        cases h
        obtain ⟨h1, -, h3⟩ := numF_some hp
        obtain ⟨h4, h5⟩ := numsF_some hps
        exact ⟨by rw [List.map_cons, ← h1, ← h4], fun x hx => by
          rcases List.mem_cons.1 hx with rfl | hx
          · exact h3
          · exact h5 x hx⟩
theorem numsF_itoa : ∀ ns : List Int, (∀ n ∈ ns, (digL (Lib.itoa n)).length ≤ 18) → numsF (ns.map Lib.itoa) = some ns
  | [], _ => rfl
  | n :: ns, h => by
    rw [List.map_cons, numsF, numF_itoa n (h n (by simp)), numsF_itoa ns (fun x hx => h x (List.mem_cons_of_mem _ hx))]

theorem dec_no (u : Nat) (c : UInt8) (h : isDig c = false) : c ∉ Lib.decDigits u := fun hm => by
  have := List.all_eq_true.1 (dec_digits u) c hm
  rw [h] at this; cases this
theorem itoa_no (n : Int) (c : UInt8) (h : isDig c = false) (h2 : c ≠ 45) : c ∉ Lib.itoa n := by
  unfold Lib.itoa
  split
  · rw [List.mem_cons, not_or]; exact ⟨h2, dec_no _ c h⟩
  · exact dec_no _ c h

end Go.Proofs.YtaahjpmndkcijaaGreatDoor

/-
  The laws' helper functions over terms (a kind and a value) and lists of terms.
-/
namespace Go.Proofs.YtaahjpmndkcijaaGreatDoor
open Go.RowKit Go.ChangeShapes

abbrev Tm := Int × Int
def mkF_T1 (x : List Tm) : Int := 2 * x.length
/-- the terms numbered through from k0 on. -/
def upT (k0 : Int) : Nat → List Tm
  | 0 => []
  | n + 1 => (k0, k0 + 1) :: upT (k0 + 2) n
@[simp] theorem upT_length (k0 : Int) (n : Nat) : (upT k0 n).length = n := by
  induction n generalizing k0 with
  | zero => rfl
  | succ n ih => simp [upT, ih]
theorem upT_snoc (k0 : Int) (n : Nat) : upT k0 (n + 1) = upT k0 n ++ [(k0 + 2 * n, k0 + 2 * n + 1)] := by
  induction n generalizing k0 with
  | zero => simp [upT]
  | succ n ih =>
    rw [upT, ih, upT, List.cons_append, show k0 + 2 + 2 * (n : Int) = k0 + 2 * ((n + 1 : Nat) : Int) from by omega]
end Go.Proofs.YtaahjpmndkcijaaGreatDoor

/-
  The laws' helper functions over slices of slices (T2): what each call returns and makes.
-/
namespace Go.Proofs.YtaahjpmndkcijaaGreatDoor
open Go.RowKit

def mkF_T2 (xss : List (List Tm)) : Int := (xss.map mkF_T1).sum
def mkd_T2 : Int → List (List Tm) → List (List Tm)
  | _, [] => []
  | k, r :: rs => (fun (k : Int) (r : List Tm) => upT k r.length) k r :: mkd_T2 (k + mkF_T1 r) rs
@[simp] theorem mkd_T2_length (k : Int) (xss : List (List Tm)) : (mkd_T2 k xss).length = xss.length := by
  induction xss generalizing k with
  | nil => rfl
  | cons r rs ih => simp [mkd_T2, ih]
theorem mkd_T2_append (k : Int) (xs ys : List (List Tm)) : mkd_T2 k (xs ++ ys) = mkd_T2 k xs ++ mkd_T2 (k + mkF_T2 xs) ys := by
  induction xs generalizing k with
  | nil => simp [mkd_T2, mkF_T2]
  | cons r rs ih => simp only [List.cons_append, mkd_T2, ih, mkF_T2, List.map_cons, List.sum_cons, Int.add_assoc]
end Go.Proofs.YtaahjpmndkcijaaGreatDoor

/-
  The functions over relations: what each call returns and makes.
-/
namespace Go.Proofs.YtaahjpmndkcijaaGreatDoor
open Go.RowKit

def inB (a lo hi : Int) : Bool := decide (lo ≤ a) && decide (a ≤ hi)
theorem inB_true {a lo hi : Int} (h : inB a lo hi = true) : lo ≤ a ∧ a ≤ hi := by simpa [inB] using h
theorem inB_mk {a lo hi : Int} (h : lo ≤ a ∧ a ≤ hi) : inB a lo hi = true := by simpa [inB] using h
theorem inB_no {a lo hi : Int} (h : ¬ (lo ≤ a ∧ a ≤ hi)) : inB a lo hi = false := by
  cases e : inB a lo hi
  · rfl
  · exact absurd (inB_true e) h

set_option maxHeartbeats 400000 in
theorem within (a b c : Int) (w : World) :
    Calls Tryz.prog 127 #[.int .i64 a, .int .i64 b, .int .i64 c] w fun e w' => e = .returned (.bool (inB a b c)) ∧ w = w' := by
  by_cases h1 : b ≤ a
  · go_enter Tryz.func127, Tryz.ntmps127
    go_wp2
    go_ret
    exact ⟨by simp [inB, h1], rfl⟩
  · have e : inB a b c = false := inB_no (by omega)
    go_enter Tryz.func127, Tryz.ntmps127
    go_wp2
    go_ret
    exact ⟨rfl, rfl⟩

end Go.Proofs.YtaahjpmndkcijaaGreatDoor

/-
  Terms: arity, validity, the count of operands still wanted; both sides' functions on them.
-/
namespace Go.Proofs.YtaahjpmndkcijaaGreatDoor
open Go.RowKit

def arity (t : Tm) : Int := if t.1 = 2 then 2 else if t.1 = 3 then 1 else 0
def tOk (t : Tm) (nv : Int) : Bool :=
  if t.1 = 0 then inB t.2 0 63 else if t.1 = 1 then inB t.2 0 (nv - 1) else if t.1 = 2 then inB t.2 0 8 else if t.1 = 3 then t.2 == 0 else false
/-- how many operands are wanted behind terms, n before them; none where a term is out of place or wrong. -/
def run (nv : Int) : List Tm → Int → Option Int
  | [], n => some n
  | t :: ts, n => if n = 0 then none else if tOk t nv then run nv ts (n + (arity t - 1)) else none
set_option maxHeartbeats 400000 in
theorem isValue (a : Int) (w : World) : Calls Tryz.prog 114 #[.int .i64 a] w fun e w' => e = .returned (.bool (inB a 0 63)) ∧ w = w' := by
  go_enter Tryz.func114, Tryz.ntmps114
  go_wp2_with (go_at_call 127; refine (within _ _ _ _).mono ?_; rintro e w' ⟨rfl, rfl⟩)
  go_ret
  exact ⟨rfl, rfl⟩

end Go.Proofs.YtaahjpmndkcijaaGreatDoor

/-
  Lists of values.
-/
namespace Go.Proofs.YtaahjpmndkcijaaGreatDoor
open Go.RowKit

def isV (n : Int) : Bool := inB n 0 63

theorem areValues1 (n : Int) (w : World) : Calls Tryz.prog 113 #[.int .i64 n] w fun e w' => e = .returned (.bool (!isV n)) ∧ w = w' := by
  have S1 := Lib.hid (isValue n w)
  go_enter Tryz.func113, Tryz.ntmps113
  go_wp2_with fail
  refine S1.out.mono ?_
  rintro e w1 ⟨rfl, rfl⟩
  obtain ⟨bb, hbb⟩ : ∃ bb, bb = inB n 0 63 := ⟨_, rfl⟩
  have HB := Lib.hid (show isV n = bb from hbb.symm)
  rw [← hbb]
  clear hbb S1
  go_wp2_with fail
  go_ret
  exact ⟨by rw [HB.out]; rfl, rfl⟩

def IdxV (xs : List Int) (w : World) (e : Ending) (w' : World) : Prop := (∃ q : Int, e = .returned (.int .i64 q) ∧ -1 ≤ q ∧ q ≤ 9223372036854775807 ∧ decide (0 ≤ q) = xs.any (fun n => !isV n)) ∧ w = w'

set_option maxRecDepth 20000 in
set_option maxHeartbeats 1000000 in
theorem indexFuncV (v : Value) (xs : List Int) (w : World) (fp : List Nat) (hR : R1 fp w [v] xs) :
    Calls Tryz.prog 126 #[v, .func (.func 113) #[] #[]] w (IdxV xs w) := by
  obtain ⟨a1, c1, rfl, hl1, hm1, hc1⟩ := slF1_open hR
  unfold maxLen at hm1
  clear hR
  go_enter Tryz.func126, Tryz.ntmps126
  go_wp2_with fail
  go_loop [8] (fun i => ∃ k : Nat, k ≤ xs.length ∧ i = .int .i64 k ∧ (xs.drop k).any (fun n => !isV n) = xs.any (fun n => !isV n)) (fun i => xs.length - (intOf i).toNat)
  case atStart => exact ⟨0, Nat.zero_le _, rfl, rfl⟩
  case round =>
    obtain ⟨k, hk, rfl, hF⟩ := hrel
    by_cases hlt : k < xs.length
    · obtain ⟨b1, o1, rfl, -, -, p1⟩ := hc1 k hlt
      rw [List.drop_eq_getElem_cons hlt, List.any_cons] at hF
      have HF := Lib.hid hF
      clear hF hc1
      generalize xs[k] = x at *
      have S1 := Lib.hid (areValues1 x w)
      obtain ⟨bb, hbb⟩ : ∃ bb, bb = (!isV x) := ⟨_, rfl⟩
      rw [← hbb] at S1 HF
      clear hbb
      go_wp2_with fail
      refine S1.out.mono ?_
      rintro e w1 ⟨rfl, rfl⟩
      clear S1
      cases bb
      · go_wp2_with fail
        go_round
        case rel => exact ⟨k + 1, by omega, by go_num, by rw [← HF.out]; rfl⟩
        case measure => simp [intOf]; omega
      · go_wp2_with fail
        go_ret
        exact ⟨⟨k, rfl, by omega, by omega, by rw [← HF.out]; simp⟩, rfl⟩
    · rw [List.drop_of_length_le (by omega)] at hF
      have HF := Lib.hid hF
      clear hF hc1
      go_wp2_with fail
      go_ret
      exact ⟨⟨-1, rfl, by omega, by omega, by rw [← HF.out]; rfl⟩, rfl⟩

set_option maxRecDepth 20000 in
theorem areValues (v : Value) (xs : List Int) (w : World) (fp : List Nat) (hR : R1 fp w [v] xs) :
    Calls Tryz.prog 103 #[v] w fun e w' => e = .returned (.bool (xs.all isV)) ∧ w = w' := by
  have S2 := Lib.hid (indexFuncV v xs w fp hR)
  have hall : xs.all isV = !(xs.any (fun n => !isV n)) := by simp [List.all_eq_not_any_not]
  have HA := Lib.hid hall
  have S3 : Hid (Calls Tryz.prog 112 #[v, .func (.func 113) #[] #[]] w fun e w' => e = .returned (.bool (xs.any (fun n => !isV n))) ∧ w = w') := Lib.hid (by
    clear hall HA
    go_enter Tryz.func112, Tryz.ntmps112
    go_wp2_with fail
    refine S2.out.mono ?_
    rintro e w1 ⟨⟨q, rfl, h1, h2, h3⟩, rfl⟩
    have H3 := Lib.hid h3
    clear h3
    go_wp2_with fail
    go_ret
    exact ⟨by rw [← H3.out]; rfl, rfl⟩)
  clear hall S2
  generalize xs.any (fun n => !isV n) = bb at *
  go_enter Tryz.func103, Tryz.ntmps103
  go_wp2_with fail
  refine S3.out.mono ?_
  rintro e w1 ⟨rfl, rfl⟩
  go_wp2_with fail
  go_ret
  exact ⟨by rw [HA.out]; rfl, rfl⟩

end Go.Proofs.YtaahjpmndkcijaaGreatDoor

/-
  Names and labels, plainly; both sides' ways to read a label agree; what is made is read back.
-/
namespace Go.Proofs.YtaahjpmndkcijaaGreatDoor

def sml (b : UInt8) : Bool := decide (97 ≤ b.toNat ∧ b.toNat ≤ 122)
def nameF (l : List UInt8) : Bool := decide (1 ≤ l.length) && decide (l.length ≤ 10) && sml (l.headD 0) && l.all (fun c => sml c || isDig c)
def tauL : List UInt8 := [116, 97, 117]
def actF (l : List UInt8) : Bool := nameF l && (l != tauL)
def txtV (vs : List Int) : List UInt8 := joinC 44 (vs.map Lib.itoa)
/-- the label with a name and values, if there is one. -/
def labT (name : List UInt8) (vs : List Int) : Option (List UInt8) :=
  if name = tauL then (if vs = [] then some tauL else none)
  else if actF name && decide (vs.length ≤ 2) && vs.all isV then some (if vs = [] then name else ((name ++ [40]) ++ txtV vs) ++ [41]) else none
/-- the name and the values of a label, read by the program. -/
def readF (s : List UInt8) : Option (List UInt8 × List Int) :=
  if (Lib.cut s [40]).2.2 then
    match numsF (splitC 44 (Lib.trimSuffix (Lib.cut s [40]).2.1 [41])) with
    | none => none
    | some vs => if labT (Lib.cut s [40]).1 vs = some s then some ((Lib.cut s [40]).1, vs) else none
  else if labT s [] = some s then some (s, []) else none

theorem name_char {l : List UInt8} (h : nameF l = true) (c : UInt8) (hc : sml c = false) (hd : isDig c = false) : c ∉ l := fun hm => by
  unfold nameF at h
  simp only [Bool.and_eq_true] at h
  have := List.all_eq_true.1 h.2 c hm
  rw [hc, hd] at this; cases this
theorem nameF_tau : nameF tauL = true := by decide
theorem actF_name {l : List UInt8} (h : actF l = true) : nameF l = true ∧ l ≠ tauL := by
  unfold actF at h
  rw [Bool.and_eq_true] at h
  exact ⟨h.1, by simpa using h.2⟩

theorem cut_none {s : List UInt8} (h : (40 : UInt8) ∉ s) : Lib.cut s [40] = (s, [], false) := by
  rcases index_cut 40 s with ⟨h1, -, -⟩ | ⟨i, -, -, h3, -, -⟩
  · simp [Lib.cut, h1]
  · exact absurd (List.mem_of_getElem? h3) h
theorem cut_at {p r : List UInt8} (h : (40 : UInt8) ∉ p) : Lib.cut (p ++ 40 :: r) [40] = (p, r, true) := by
  rcases index_cut 40 (p ++ 40 :: r) with ⟨-, h2, -⟩ | ⟨i, h1, h2, h3, h4, -⟩
  · exact absurd (by simp) h2
  · have hi : i = p.length := by
      rcases Nat.lt_trichotomy i p.length with h9 | h9 | h9
      · rw [List.getElem?_append_left h9] at h3
        exact absurd (List.mem_of_getElem? h3) h
      · exact h9
      · refine absurd ?_ h4
        rw [List.take_append, List.mem_append]
        right
        rw [show i - p.length = (i - p.length - 1) + 1 by omega, List.take_succ_cons]
        simp
    subst hi
    simp [Lib.cut, h1]

theorem trim_at (r : List UInt8) : Lib.trimSuffix (r ++ [41]) [41] = r := by
  simp [Lib.trimSuffix, Lib.hasSuffix]

theorem itoa_len64 {n : Int} (h : isV n = true) : (digL (Lib.itoa n)).length ≤ 18 := by
  have hb := inB_true h
  rcases itoa_shape n with ⟨h0, h1, h2⟩ | ⟨h0, h1, h2⟩
  · rw [h2]
    by_cases h9 : n.toNat < 10
    · rw [Lib.decDigits_one h9]; simp
    · rw [Lib.decDigits_two h9 (by omega)]; simp
  · omega

theorem readF_labT {name : List UInt8} {vs : List Int} {s : List UInt8} (h : labT name vs = some s) : readF s = some (name, vs) := by
  have hs := h
  unfold labT at h
  split at h
  · rename_i ht
    split at h
    · rename_i hv
      subst ht hv
      cases h
      have hc : (40 : UInt8) ∉ tauL := by decide
      simp only [readF, cut_none hc, Bool.false_eq_true, if_false, hs, if_true]
    · cases h
  · rename_i ht
    split at h
    · rename_i hc
      simp only [Bool.and_eq_true, decide_eq_true_eq] at hc
      obtain ⟨⟨ha, hl⟩, hv⟩ := hc
      have hno := name_char (actF_name ha).1 40 (by decide) (by decide)
      split at h
      · rename_i hve
        subst hve
        cases h
        simp only [readF, cut_none hno, Bool.false_eq_true, if_false, hs, if_true]
      · rename_i hve
        cases h
        have e : ((name ++ [40]) ++ txtV vs) ++ [41] = name ++ 40 :: (txtV vs ++ [41]) := by simp
        have hsp : splitC 44 (txtV vs) = vs.map Lib.itoa := by
          refine split_join 44 _ (by simpa using hve) (fun p hp => ?_)
          obtain ⟨n, -, rfl⟩ := List.mem_map.1 hp
          exact itoa_no n 44 (by decide) (by decide)
        have hnum := numsF_itoa vs (fun n hn => itoa_len64 (List.all_eq_true.1 hv n hn))
        unfold readF
        rw [e, cut_at hno]
        simp only [if_true, trim_at, hsp, hnum]
        rw [← e, if_pos hs]
    · cases h

theorem readF_some {s name : List UInt8} {vs : List Int} (h : readF s = some (name, vs)) : labT name vs = some s := by
  unfold readF at h
  split at h
  · split at h
    · cases h
    · split at h
      · rename_i h1; cases h; exact h1
      · cases h
  · split at h
    · rename_i h1; cases h; exact h1
    · cases h

end Go.Proofs.YtaahjpmndkcijaaGreatDoor

/-
  A number in decimal: the reference's digits.
-/
namespace Go.Proofs.YtaahjpmndkcijaaGreatDoor
open Go.RowKit

abbrev es (l : List UInt8) : Value := .string ⟨l.toArray⟩
abbrev eb (b : UInt8) : Value := .int .u8 (b.toNat : Int)

theorem dig_step (M : Nat) (h : 0 < M) (D : List UInt8) : (if M / 10 = 0 then [] else Lib.decDigits (M / 10)) ++ (D ++ [UInt8.ofNat (48 + M % 10)]).reverse = (Lib.decDigits M) ++ D.reverse := by
  rw [List.reverse_append]
  simp only [List.reverse_cons, List.reverse_nil, List.nil_append, List.singleton_append]
  by_cases h10 : M < 10
  · rw [if_pos (by omega), Lib.decDigits, dif_pos h10, show M % 10 = M by omega]; rfl
  · rw [if_neg (by omega)]
    conv => rhs; rw [Lib.decDigits, dif_neg h10]
    simp

end Go.Proofs.YtaahjpmndkcijaaGreatDoor

/-
  The source of choices of the reference: what its calls return, and what they leave.
-/
namespace Go.Proofs.YtaahjpmndkcijaaGreatDoor
open Go.RowKit

abbrev R_B : Rp (List Int) := slF 1 (fun n => [Value.int .u8 n])
theorem R_Bk : Kept R_B := slF_kept _ _
def bytesOk (xs : List Int) : Prop := ∀ x ∈ xs, 0 ≤ x ∧ x ≤ 255

/-- the source at block p, behind at most N choices. -/
def IsSrc (N p : Nat) (w : World) : Prop := ∃ (cv : Value) (code : List Int) (fc : List Nat) (at' seed : Int), w.cell? ⟨p, 0, none⟩ = some cv ∧ w.cell? ⟨p, 1, none⟩ = some (ei at') ∧ w.cell? ⟨p, 2, none⟩ = some (.int .u64 seed) ∧
  R_B fc w [cv] code ∧ bytesOk code ∧ code.length ≤ 1048576 ∧ 0 ≤ at' ∧ at' ≤ N ∧ 0 ≤ seed ∧ seed ≤ 18446744073709551615 ∧ Own [p] w ∧ ∀ c ∈ fc, c < p

theorem IsSrc.mono {N M p : Nat} {w : World} (h : IsSrc N p w) (hNM : N ≤ M) : IsSrc M p w := by
  obtain ⟨cv, code, fc, a, s, h1, h2, h3, h4, h5, h6, h7, h8, h9⟩ := h
  exact ⟨cv, code, fc, a, s, h1, h2, h3, h4, h5, h6, h7, by omega, h9⟩
theorem IsSrc.lt {N p : Nat} {w : World} (h : IsSrc N p w) : p < w.heap.size := by
  obtain ⟨cv, code, fc, a, s, h1, -⟩ := h; exact World.block_lt_of_cell? w _ h1
theorem IsSrc.upd {N p : Nat} {w w1 : World} (h : IsSrc N p w) (hu : Upd [] w w1) : IsSrc N p w1 := by
  obtain ⟨cv, code, fc, a, s, h1, h2, h3, h4, h5, h6, h7, h8, h9, h10, h11, h12⟩ := h
  exact ⟨cv, code, fc, a, s, hu.keep h1, hu.keep h2, hu.keep h3, R_Bk.upd h4 hu (by simp), h5, h6, h7, h8, h9, h10, h11.upd hu (by simp), h12⟩

/-- the source is kept where newer blocks are written. -/
theorem IsSrc.other {N p : Nat} {w w1 : World} {f : List Nat} (h : IsSrc N p w) (hu : Upd f w w1) (hf : ∀ b ∈ f, p < b) : IsSrc N p w1 := by
  have hpf : p ∉ f := fun hm => by have := hf p hm; omega
  obtain ⟨cv, code, fc, a, s, h1, h2, h3, h4, h5, h6, h7, h8, h9, h10, h11, h12⟩ := h
  have hb := hu.block p (World.block_lt_of_cell? w _ h1) hpf
  exact ⟨cv, code, fc, a, s, (World.cell?_of_block (a := ⟨p, 0, none⟩) hb).trans h1, (World.cell?_of_block (a := ⟨p, 1, none⟩) hb).trans h2, (World.cell?_of_block (a := ⟨p, 2, none⟩) hb).trans h3,
    R_Bk.upd h4 hu (fun b hb hm => by have := hf b hm; have := h12 b hb; omega), h5, h6, h7, h8, h9, h10, h11.upd hu (by simpa using hpf), h12⟩

end Go.Proofs.YtaahjpmndkcijaaGreatDoor

/-
  Lists of texts in memory.
-/
namespace Go.Proofs.YtaahjpmndkcijaaGreatDoor
open Go.RowKit

abbrev RS : Rp (List (List UInt8)) := slF 1 (fun s => [es s])
theorem RSk : Kept RS := slF_kept _ _

theorem joinC_le (c : UInt8) (L : Nat) : ∀ ps : List (List UInt8), (∀ p ∈ ps, p.length ≤ L) → (joinC c ps).length ≤ ps.length * (L + 1)
  | [], _ => by simp [joinC]
  | [p], h => by have := h p (by simp); simp [joinC]; omega
  | p :: q :: ps, h => by
    have h1 := h p (by simp)
    have h2 := joinC_le c L (q :: ps) (fun x hx => h x (List.mem_cons_of_mem _ hx))
    have e : (p :: q :: ps).length * (L + 1) = (q :: ps).length * (L + 1) + (L + 1) := by rw [List.length_cons (a := p), Nat.add_mul]; omega
    rw [e]
    simp only [joinC, List.length_append, List.length_cons]
    simp only [List.length_cons] at h2
    omega

theorem rowCellS {fo : List Nat} {w : World} {b m cap : Nat} {l : List (List UInt8)} (h : RS fo w [.slice (some ⟨b, 0, none⟩) m cap] l) (hO : Own fo w) (hm : l.length = m) (j : Nat) (hj : j < m) :
    b < w.heap.size ∧ w.cell? ⟨b, j, none⟩ = some (es (l[j]'(by omega))) ∧ w.frozen? ⟨b, j, none⟩ = false ∧
      ∀ x, RS fo (w.setCell ⟨b, j, none⟩ (es x)) [.slice (some ⟨b, 0, none⟩) m cap] (l.set j x) ∧ Own fo (w.setCell ⟨b, j, none⟩ (es x)) := by
  subst hm
  obtain ⟨_, _, _, hv, -, -, hof, hbl, hoc, hos⟩ := slF1_cell h j hj
  simp only [Value.slice.injEq, Option.some.injEq, Addr.mk.injEq, and_true, true_and] at hv
  obtain ⟨⟨rfl, rfl⟩, rfl⟩ := hv
  rw [Nat.zero_add] at hoc hos
  exact ⟨hbl, hoc, hO.frozen (by rw [hof]; simp) _, fun x => ⟨hos x, hO.setCell _ _⟩⟩

theorem Tryz.info9 : (Tryz.prog.info? 9).map (fun i => (i.zero, i.size, i.bytes)) = some (some (.string ⟨#[]⟩), 1, 16) := by kernel_rfl

theorem numsF_cons (p : List UInt8) (ps : List (List UInt8)) : numsF (p :: ps) = (numF p).bind fun n => (numsF ps).map (n :: ·) := by
  rw [numsF]
  cases numF p with
  | none => rfl
  | some n => cases numsF ps <;> rfl

theorem new_nil (w w' : World) : New R1 w w' (.slice none 0 0) [] :=
  ⟨[], ⟨_, rfl, none, 0, rfl, Nat.le_refl _, by simp [maxLen], by simp, Or.inl ⟨rfl, rfl⟩⟩, Own.nil _, by simp⟩

end Go.Proofs.YtaahjpmndkcijaaGreatDoor

/-
  The laws' helper functions over lists of texts.
-/
namespace Go.Proofs.YtaahjpmndkcijaaGreatDoor
open Go.RowKit

theorem str_cat (a b : List UInt8) : (ByteArray.mk a.toArray ++ ByteArray.mk b.toArray) = ByteArray.mk (a ++ b).toArray := ByteArray.mk_append_mk a b

/-- the text that marks the number k. -/
def mtx (k : Int) : List UInt8 := 109 :: Lib.decDigits k.toNat

set_option maxRecDepth 20000 in
set_option maxHeartbeats 2000000 in
theorem markText (k0 : Int) (w : World) (h0 : 0 ≤ k0) (h1 : k0 ≤ 9223372036854775807) :
    Calls Tryz.prog 21 #[.int .i64 k0] w fun e w' => e = .returned (es (mtx k0)) ∧ Upd [] w w' := by
  obtain ⟨k, rfl⟩ : ∃ k : Nat, k0 = k := ⟨k0.toNat, by omega⟩
  by_cases hk : k = 0
  · subst hk
    have HR := Lib.hid (show mtx ((0 : Nat) : Int) = [109, 48] by simp [mtx, Lib.decDigits])
    go_enter Tryz.func21, Tryz.ntmps21
    go_wp2_with fail
    go_ret
    exact ⟨by rw [HR.out]; rfl, Upd.refl _ _⟩
  · have HR := Lib.hid (show mtx (k : Int) = 109 :: Lib.decDigits k by simp [mtx])
    have hpos : 0 < k := by omega
    have HK := Lib.hid hk
    clear hk
    go_enter Tryz.func21, Tryz.ntmps21
    go_wp2_with fail
    go_loopw [0, 3] (fun kv ov wr => ∃ (M j : Nat) (D : List UInt8), kv = .int .i64 M ∧ M ≤ k ∧ ov = es D ∧ D.length + j = 20 ∧ M < 10 ^ j ∧ Hid ((if M = 0 then [] else Lib.decDigits M) ++ D = Lib.decDigits k) ∧ Upd [] w wr) (fun kv _ _ => (intOf kv).toNat)
    case atStart => exact ⟨k, 20, [], rfl, Nat.le_refl _, rfl, rfl, by omega, Lib.hid (by simp [HK.out]), Upd.refl _ _⟩
    case round =>
      obtain ⟨M, j, D, rfl, hM, rfl, hj, hlt, HD, hU⟩ := hrel
      have hDl : D.length ≤ 20 := by omega
      have HJ := Lib.hid (And.intro hj hlt)
      have HU := Lib.hid hU
      have hszr := hU.size
      clear hj hlt hU
      by_cases hM0 : M = 0
      · subst hM0
        have hD : D = Lib.decDigits k := by simpa using HD.out
        have HD2 := Lib.hid hD
        clear hD HD
        go_wp2_with fail
        go_ret
        exact ⟨by rw [HR.out, ← HD2.out]; first | rfl | simp [es], HU.out⟩
      · have hst := dig_step M (by omega) D.reverse
        have HS := Lib.hid (show (if M / 10 = 0 then [] else Lib.decDigits (M / 10)) ++ (UInt8.ofNat (48 + M % 10) :: D) = Lib.decDigits k by
          have h2 := HD.out
          rw [if_neg hM0] at h2
          rw [← h2]
          simpa using hst)
        have hb : eb (UInt8.ofNat (48 + M % 10)) = .int .u8 (48 + (M : Int) % 10) := by
          simp only [Value.int.injEq, true_and]
          rw [UInt8.toNat_ofNat_of_lt' (by show 48 + M % 10 < 256; omega)]; omega
        have hcv := run_convert_bytes_back (P := Tryz.prog) (wr.alloc (.cells #[.int .u8 (48 + (M : Int) % 10)] 5)) 69 9 5 ⟨wr.heap.size, 0, none⟩ 1 [UInt8.ofNat (48 + M % 10)] Tryz.underlying69 Tryz.underlying5 Tryz.underlying9 (fun j hj => by
          obtain rfl : j = 0 := by simpa using hj
          rw [addr_add]
          exact cell_new wr _ _ _ rfl _ _ (by simpa using hb.symm))
        have hMp : 0 < M := by omega
        generalize UInt8.ofNat (48 + M % 10) = b at *
        have hcat := str_cat [b] D
        simp only [List.length_cons, List.length_nil, Nat.zero_add] at hcv
        obtain ⟨S, hS⟩ : ∃ S, S = [b] ++ D := ⟨_, rfl⟩
        rw [← hS] at hcat
        have HSS := Lib.hid hS
        clear hst hb hM0 hS HD
        go_wp2_with fail
        clear hcv hcat
        go_roundw
        case rel =>
          obtain ⟨hq1, hq2⟩ := HJ.out
          obtain ⟨q, rfl⟩ : ∃ q, j = q + 1 := ⟨j - 1, by
            rcases Nat.eq_zero_or_pos j with h | h
            · subst h; simp at hq2; omega
            · omega⟩
          refine ⟨M / 10, q, S, by go_num, by omega, rfl, by rw [HSS.out]; simp; omega, ?_, Lib.hid (by rw [HSS.out]; exact HS.out), HU.out.alloc _⟩
          rw [Nat.pow_succ] at hq2
          omega
        case measure => simp [intOf]; omega

/-- n marks from k on. -/
def mkS (k : Int) (n : Nat) : List (List UInt8) := (upFrom k n).map mtx
@[simp] theorem mkS_length (k : Int) (n : Nat) : (mkS k n).length = n := by simp [mkS]
theorem mkS_get (k : Int) (n i : Nat) (h : i < n) : (mkS k n)[i]? = some (mtx (k + i)) := by
  unfold mkS; rw [List.getElem?_map, upFrom_get k n i h]; rfl
end Go.Proofs.YtaahjpmndkcijaaGreatDoor

/-
  Slices of elements of three or four plain cells each.
-/
namespace Go.Proofs.YtaahjpmndkcijaaGreatDoor
open Go.RowKit

theorem flatMap_three_get {α : Type} (e1 e2 e3 : α → Value) (xs : List α) (i : Nat) (h : i < xs.length) :
    (xs.flatMap fun x => [e1 x, e2 x, e3 x])[i * 3]? = some (e1 xs[i]) ∧ (xs.flatMap fun x => [e1 x, e2 x, e3 x])[i * 3 + 1]? = some (e2 xs[i]) ∧ (xs.flatMap fun x => [e1 x, e2 x, e3 x])[i * 3 + 2]? = some (e3 xs[i]) := by
  induction xs generalizing i with
  | nil => simp at h
  | cons x xs ih =>
    cases i with
    | zero => simp
    | succ i =>
      have h' : i < xs.length := by simpa using h
      have hh := ih i h'
      rw [show (i + 1) * 3 = i * 3 + 1 + 1 + 1 from by omega]
      simp only [List.flatMap_cons, List.cons_append, List.nil_append, List.getElem?_cons_succ, List.getElem_cons_succ]
      exact hh
theorem slF3_open {α : Type} {e1 e2 e3 : α → Value} {fp : List Nat} {w : World} {v : Value} {xs : List α} (h : slF 3 (fun x => [e1 x, e2 x, e3 x]) fp w [v] xs) :
    ∃ a cap, v = .slice a xs.length cap ∧ xs.length ≤ cap ∧ cap ≤ maxLen ∧
      ∀ i (h : i < xs.length), ∃ b off, a = some ⟨b, off, none⟩ ∧ fp = [b] ∧ b < w.heap.size ∧ w.cell? ⟨b, off + i * 3, none⟩ = some (e1 xs[i]) ∧ w.cell? ⟨b, off + i * 3 + 1, none⟩ = some (e2 xs[i]) ∧ w.cell? ⟨b, off + i * 3 + 2, none⟩ = some (e3 xs[i]) := by
  obtain ⟨v', hv, a, cap, rfl, h1, h2, h3, h4⟩ := h
  cases hv
  refine ⟨a, cap, rfl, h1, h2, fun i hi => ?_⟩
  rcases h4 with ⟨h0, -⟩ | ⟨b, off, rfl, rfl, hbl, hc⟩
  · omega
  · have g := flatMap_three_get e1 e2 e3 xs i hi
    refine ⟨b, off, rfl, rfl, hbl, ?_, ?_, ?_⟩
    · exact hc _ _ g.1
    · have := hc _ _ g.2.1; rwa [← Nat.add_assoc] at this
    · have := hc _ _ g.2.2; rwa [← Nat.add_assoc] at this
theorem flatMap_four_get {α : Type} (e1 e2 e3 e4 : α → Value) (xs : List α) (i : Nat) (h : i < xs.length) :
    (xs.flatMap fun x => [e1 x, e2 x, e3 x, e4 x])[i * 4]? = some (e1 xs[i]) ∧ (xs.flatMap fun x => [e1 x, e2 x, e3 x, e4 x])[i * 4 + 1]? = some (e2 xs[i]) ∧ (xs.flatMap fun x => [e1 x, e2 x, e3 x, e4 x])[i * 4 + 2]? = some (e3 xs[i]) ∧ (xs.flatMap fun x => [e1 x, e2 x, e3 x, e4 x])[i * 4 + 3]? = some (e4 xs[i]) := by
  induction xs generalizing i with
  | nil => simp at h
  | cons x xs ih =>
    cases i with
    | zero => simp
    | succ i =>
      have h' : i < xs.length := by simpa using h
      have hh := ih i h'
      rw [show (i + 1) * 4 = i * 4 + 1 + 1 + 1 + 1 from by omega]
      simp only [List.flatMap_cons, List.cons_append, List.nil_append, List.getElem?_cons_succ, List.getElem_cons_succ]
      exact hh
theorem flatMap_four_set {α : Type} (e1 e2 e3 e4 : α → Value) (xs : List α) (i : Nat) (h : i < xs.length) (y : α) :
    ((((xs.flatMap fun x => [e1 x, e2 x, e3 x, e4 x]).set (i * 4) (e1 y)).set (i * 4 + 1) (e2 y)).set (i * 4 + 2) (e3 y)).set (i * 4 + 3) (e4 y) = (xs.set i y).flatMap fun x => [e1 x, e2 x, e3 x, e4 x] := by
  induction xs generalizing i with
  | nil => simp at h
  | cons x xs ih =>
    cases i with
    | zero => simp
    | succ i =>
      have h' : i < xs.length := by simpa using h
      rw [show (i + 1) * 4 = i * 4 + 1 + 1 + 1 + 1 from by omega]
      simp only [List.flatMap_cons, List.cons_append, List.nil_append, List.set_cons_succ, ih i h']

theorem slF4_open {α : Type} {e1 e2 e3 e4 : α → Value} {fp : List Nat} {w : World} {v : Value} {xs : List α} (h : slF 4 (fun x => [e1 x, e2 x, e3 x, e4 x]) fp w [v] xs) :
    ∃ a cap, v = .slice a xs.length cap ∧ xs.length ≤ cap ∧ cap ≤ maxLen ∧
      ∀ i (h : i < xs.length), ∃ b off, a = some ⟨b, off, none⟩ ∧ fp = [b] ∧ b < w.heap.size ∧ w.cell? ⟨b, off + i * 4, none⟩ = some (e1 xs[i]) ∧ w.cell? ⟨b, off + i * 4 + 1, none⟩ = some (e2 xs[i]) ∧ w.cell? ⟨b, off + i * 4 + 2, none⟩ = some (e3 xs[i]) ∧ w.cell? ⟨b, off + i * 4 + 3, none⟩ = some (e4 xs[i]) := by
  obtain ⟨v', hv, a, cap, rfl, h1, h2, h3, h4⟩ := h
  cases hv
  refine ⟨a, cap, rfl, h1, h2, fun i hi => ?_⟩
  rcases h4 with ⟨h0, -⟩ | ⟨b, off, rfl, rfl, hbl, hc⟩
  · omega
  · have g := flatMap_four_get e1 e2 e3 e4 xs i hi
    refine ⟨b, off, rfl, rfl, hbl, ?_, ?_, ?_, ?_⟩
    · exact hc _ _ g.1
    · have := hc _ _ g.2.1; rwa [← Nat.add_assoc] at this
    · have := hc _ _ g.2.2.1; rwa [← Nat.add_assoc] at this
    · have := hc _ _ g.2.2.2; rwa [← Nat.add_assoc] at this
theorem New.ofOwns4 {α : Type} {e1 e2 e3 e4 : α → Value} {w w' : World} {e : TypeId} {v : Value} {xs : List α}
    (h : w'.ownsRow w.heap.size e 4 v xs.length (xs.flatMap fun x => [e1 x, e2 x, e3 x, e4 x])) : New (slF 4 (fun x => [e1 x, e2 x, e3 x, e4 x])) w w' v xs := by
  obtain ⟨fp, h1, h2, h3, -⟩ := Flat.ofOwns h
  exact ⟨fp, ⟨v, rfl, h1⟩, h2, h3⟩

end Go.Proofs.YtaahjpmndkcijaaGreatDoor

/-
  The laws' helper functions over edges, and over systems of states and edges.
-/
namespace Go.Proofs.YtaahjpmndkcijaaGreatDoor
open Go.RowKit Go.ChangeShapes

end Go.Proofs.YtaahjpmndkcijaaGreatDoor

/-
  The order of texts.
-/
namespace Go.Proofs.YtaahjpmndkcijaaGreatDoor
open Go.RowKit

end Go.Proofs.YtaahjpmndkcijaaGreatDoor

/-
  Names and labels by the reference: what its calls return.
-/
namespace Go.Proofs.YtaahjpmndkcijaaGreatDoor
open Go.RowKit

theorem smallS (b : UInt8) (w : World) : Calls Tryz.prog 62 #[.int .u8 (b.toNat : Int)] w fun e w' => e = .returned (.bool (sml b)) ∧ w = w' := by
  by_cases h1 : 97 ≤ b.toNat
  · by_cases h2 : b.toNat ≤ 122
    · have HR := Lib.hid (show sml b = true by simp [sml]; omega)
      have g1 : (97 : Int) ≤ (b.toNat : Int) := by omega
      have g2 : (b.toNat : Int) ≤ 122 := by omega
      go_enter Tryz.func62, Tryz.ntmps62
      go_wp2_with fail
      go_ret
      exact ⟨by rw [HR.out]; rfl, rfl⟩
    · have HR := Lib.hid (show sml b = false by simp [sml]; omega)
      have g1 : (97 : Int) ≤ (b.toNat : Int) := by omega
      have g2 : ¬ (b.toNat : Int) ≤ 122 := by omega
      go_enter Tryz.func62, Tryz.ntmps62
      go_wp2_with fail
      go_ret
      exact ⟨by rw [HR.out]; rfl, rfl⟩
  · have HR := Lib.hid (show sml b = false by simp [sml]; omega)
    have g1 : ¬ (97 : Int) ≤ (b.toNat : Int) := by omega
    go_enter Tryz.func62, Tryz.ntmps62
    go_wp2_with fail
    go_ret
    exact ⟨by rw [HR.out]; rfl, rfl⟩

theorem digitS (b : UInt8) (w : World) : Calls Tryz.prog 63 #[.int .u8 (b.toNat : Int)] w fun e w' => e = .returned (.bool (isDig b)) ∧ w = w' := by
  by_cases h1 : 48 ≤ b.toNat
  · by_cases h2 : b.toNat ≤ 57
    · have HR := Lib.hid (show isDig b = true by simp [isDig]; omega)
      have g1 : (48 : Int) ≤ (b.toNat : Int) := by omega
      have g2 : (b.toNat : Int) ≤ 57 := by omega
      go_enter Tryz.func63, Tryz.ntmps63
      go_wp2_with fail
      go_ret
      exact ⟨by rw [HR.out]; rfl, rfl⟩
    · have HR := Lib.hid (show isDig b = false by simp [isDig]; omega)
      have g1 : (48 : Int) ≤ (b.toNat : Int) := by omega
      have g2 : ¬ (b.toNat : Int) ≤ 57 := by omega
      go_enter Tryz.func63, Tryz.ntmps63
      go_wp2_with fail
      go_ret
      exact ⟨by rw [HR.out]; rfl, rfl⟩
  · have HR := Lib.hid (show isDig b = false by simp [isDig]; omega)
    have g1 : ¬ (48 : Int) ≤ (b.toNat : Int) := by omega
    go_enter Tryz.func63, Tryz.ntmps63
    go_wp2_with fail
    go_ret
    exact ⟨by rw [HR.out]; rfl, rfl⟩

set_option maxRecDepth 20000 in
set_option maxHeartbeats 2000000 in
theorem nameS (l : List UInt8) (w : World) (hl : l.length ≤ 2000000) : Calls Tryz.prog 80 #[es l] w fun e w' => e = .returned (.bool (nameF l)) ∧ w = w' := by
  cases hcase : l with
  | nil =>
    have HR := Lib.hid (show nameF [] = false by rfl)
    go_enter Tryz.func80, Tryz.ntmps80
    go_wp2_with fail
    go_ret
    exact ⟨by rw [HR.out]; rfl, rfl⟩
  | cons c r =>
    rw [← hcase]
    have hne : (l == []) = false := by rw [hcase]; rfl
    have hpos : 0 < l.length := by rw [hcase]; simp
    by_cases hlen : l.length ≤ 10
    · have hix : (⟨l.toArray⟩ : ByteArray)[0]'(by simpa [ByteArray.size] using hpos) = c := by
        simp [ByteArray.getElem_eq_getElem_data, hcase]
      have HN := Lib.hid (show nameF l = (sml c && l.all (fun c => sml c || isDig c)) by
        unfold nameF; rw [decide_eq_true (show 1 ≤ l.length from hpos), decide_eq_true hlen, hcase]; simp)
      have g1 : ¬ (10 : Int) < (l.length : Int) := by omega
      have S1 := Lib.hid (smallS c w)
      clear hcase
      cases hs : sml c with
      | false =>
        have HR := Lib.hid (show nameF l = false by rw [HN.out, hs]; rfl)
        rw [hs] at S1
        clear HN hs
        go_enter Tryz.func80, Tryz.ntmps80
        go_wp2_with fail
        refine S1.out.mono ?_
        rintro e w1 ⟨rfl, rfl⟩
        clear S1
        go_wp2_with fail
        go_ret
        exact ⟨by rw [HR.out]; rfl, rfl⟩
      | true =>
        have HA := Lib.hid (show nameF l = l.all (fun c => sml c || isDig c) by rw [HN.out, hs]; rfl)
        rw [hs] at S1
        clear HN hs
        go_enter Tryz.func80, Tryz.ntmps80
        go_wp2_with fail
        refine S1.out.mono ?_
        rintro e w1 ⟨rfl, rfl⟩
        clear S1 hix
        go_wp2_with fail
        go_loop [3] (fun i => ∃ k : Nat, k ≤ l.length ∧ i = .int .i64 k ∧ Hid (l.all (fun c => sml c || isDig c) = (l.drop k).all (fun c => sml c || isDig c))) (fun i => l.length - (intOf i).toNat)
        case atStart => exact ⟨0, Nat.zero_le _, rfl, Lib.hid rfl⟩
        case round =>
          obtain ⟨k, hk, rfl, HF⟩ := hrel
          by_cases hlt : k < l.length
          · obtain ⟨b, hb⟩ : ∃ b, l[k] = b := ⟨_, rfl⟩
            have hix : (⟨l.toArray⟩ : ByteArray)[k]'(by simpa [ByteArray.size] using hlt) = b := by rw [← hb]; simp [ByteArray.getElem_eq_getElem_data]
            have hF := HF.out
            rw [List.drop_eq_getElem_cons hlt, hb, List.all_cons] at hF
            have HG := Lib.hid hF
            have S2 := Lib.hid (smallS b w)
            have S3 := Lib.hid (digitS b w)
            clear hF HF hb
            cases hs : sml b with
            | true =>
              have HQ := Lib.hid (HG.out.trans (by rw [hs]; rfl) : l.all (fun c => sml c || isDig c) = (l.drop (k + 1)).all (fun c => sml c || isDig c))
              rw [hs] at S2
              clear HG hs S3
              go_wp2_with fail
              refine S2.out.mono ?_
              rintro e w1 ⟨rfl, rfl⟩
              clear S2
              go_wp2_with fail
              go_round
              case rel => exact ⟨k + 1, by omega, by go_num, HQ⟩
              case measure => simp [intOf]; omega
            | false =>
              rw [hs] at S2
              cases hd : isDig b with
              | true =>
                have HQ := Lib.hid (HG.out.trans (by rw [hs, hd]; rfl) : l.all (fun c => sml c || isDig c) = (l.drop (k + 1)).all (fun c => sml c || isDig c))
                rw [hd] at S3
                clear HG hs hd
                go_wp2_with fail
                refine S2.out.mono ?_
                rintro e w1 ⟨rfl, rfl⟩
                clear S2
                go_wp2_with fail
                refine S3.out.mono ?_
                rintro e w1 ⟨rfl, rfl⟩
                clear S3
                go_wp2_with fail
                go_round
                case rel => exact ⟨k + 1, by omega, by go_num, HQ⟩
                case measure => simp [intOf]; omega
              | false =>
                have HR := Lib.hid (show nameF l = false by rw [HA.out, HG.out, hs, hd]; rfl)
                rw [hd] at S3
                clear HG hs hd HA
                go_wp2_with fail
                refine S2.out.mono ?_
                rintro e w1 ⟨rfl, rfl⟩
                clear S2
                go_wp2_with fail
                refine S3.out.mono ?_
                rintro e w1 ⟨rfl, rfl⟩
                clear S3
                go_wp2_with fail
                go_ret
                exact ⟨by rw [HR.out]; rfl, rfl⟩
          · obtain rfl : k = l.length := by omega
            have HR := Lib.hid (show nameF l = true by rw [HA.out, HF.out, List.drop_of_length_le (Nat.le_refl _)]; rfl)
            clear HF HA
            go_wp2_with fail
            go_ret
            exact ⟨by rw [HR.out]; rfl, rfl⟩
    · have HR := Lib.hid (show nameF l = false by unfold nameF; rw [decide_eq_false hlen]; simp)
      have g1 : (10 : Int) < (l.length : Int) := by omega
      clear hcase hlen
      go_enter Tryz.func80, Tryz.ntmps80
      go_wp2_with fail
      go_ret
      exact ⟨by rw [HR.out]; rfl, rfl⟩

theorem actionS (l : List UInt8) (w : World) (hl : l.length ≤ 2000000) :
    Calls Tryz.prog 73 #[es l] w fun e w' => e = .returned (.bool (actF l)) ∧ w = w' := by
  have S1 := Lib.hid (nameS l w hl)
  cases hn : nameF l with
  | false =>
    have HR := Lib.hid (show actF l = false by simp [actF, hn])
    rw [hn] at S1
    clear hn
    go_enter Tryz.func73, Tryz.ntmps73
    go_wp2_with fail
    refine S1.out.mono ?_
    rintro e w1 ⟨rfl, rfl⟩
    clear S1
    go_wp2_with fail
    go_ret
    exact ⟨by rw [HR.out]; rfl, rfl⟩
  | true =>
    have HR := Lib.hid (show actF l = (l != tauL) by simp [actF, hn])
    rw [hn] at S1
    clear hn
    go_enter Tryz.func73, Tryz.ntmps73
    go_wp2_with fail
    refine S1.out.mono ?_
    rintro e w1 ⟨rfl, rfl⟩
    clear S1
    go_wp2_with fail
    go_ret
    refine ⟨?_, rfl⟩
    rw [HR.out]
    simp [tauL, bne]

/-- the place of the first "(" of a text, or its length. -/
def openAt (s : List UInt8) : Nat := (s.takeWhile (fun b => b != 40)).length

theorem tw_all : ∀ s : List UInt8, (∀ x ∈ s, x ≠ 40) → s.takeWhile (fun b => b != 40) = s
  | [], _ => rfl
  | b :: s, h => by
    have h1 : b ≠ 40 := h b (by simp)
    rw [List.takeWhile_cons, if_pos (by simpa using h1), tw_all s (fun x hx => h x (List.mem_cons_of_mem _ hx))]

theorem openAt_none {s : List UInt8} : ∀ k, (∀ j (_ : j < k) (hj2 : j < s.length), s[j] ≠ 40) → k = s.length → openAt s = s.length := by
  intro k h hk
  unfold openAt
  rw [tw_all]
  intro x hx
  obtain ⟨j, hj, rfl⟩ := List.mem_iff_getElem.1 hx
  exact h j (by omega) hj
theorem openAt_at : ∀ {s : List UInt8} (k : Nat) (hk : k < s.length), (∀ j (_ : j < k) (hj2 : j < s.length), s[j] ≠ 40) → s[k] = 40 → openAt s = k
  | [], k, hk, _, _ => by simp at hk
  | b :: s, 0, hk, _, h0 => by
    have : b = 40 := by simpa using h0
    simp [openAt, this]
  | b :: s, k + 1, hk, h, h0 => by
    have h1 : b ≠ 40 := h 0 (by omega) (by omega)
    have h2 := openAt_at (s := s) k (by simpa using hk) (fun j hj hj2 => h (j + 1) (by omega) (by simpa using hj2)) (by simpa using h0)
    unfold openAt at h2 ⊢
    rw [List.takeWhile_cons, if_pos (by simpa using h1), List.length_cons, h2]

set_option maxRecDepth 20000 in
set_option maxHeartbeats 2000000 in
theorem openS (l : List UInt8) (w : World) (hl : l.length ≤ 2000000) : Calls Tryz.prog 86 #[es l] w fun e w' => e = .returned (.int .i64 (openAt l)) ∧ w = w' := by
  go_enter Tryz.func86, Tryz.ntmps86
  go_wp2_with fail
  go_loop [3] (fun i => ∃ k : Nat, k ≤ l.length ∧ i = .int .i64 k ∧ Hid (∀ j (hj : j < k) (hj2 : j < l.length), l[j] ≠ 40)) (fun i => l.length - (intOf i).toNat)
  case atStart => exact ⟨0, Nat.zero_le _, rfl, Lib.hid (fun j hj => by omega)⟩
  case round =>
    obtain ⟨k, hk, rfl, HF⟩ := hrel
    by_cases hlt : k < l.length
    · obtain ⟨b, hb⟩ : ∃ b, l[k] = b := ⟨_, rfl⟩
      have hix : (⟨l.toArray⟩ : ByteArray)[k]'(by simpa [ByteArray.size] using hlt) = b := by rw [← hb]; simp [ByteArray.getElem_eq_getElem_data]
      by_cases h4 : b = 40
      · have HR := Lib.hid (openAt_at k hlt HF.out (by rw [hb, h4]))
        subst h4
        clear HF hb
        go_wp2_with fail
        go_ret
        exact ⟨by rw [HR.out]; rfl, rfl⟩
      · have HQ := Lib.hid (show ∀ j (hj : j < k + 1) (hj2 : j < l.length), l[j] ≠ 40 from fun j hj hj2 => by
          by_cases e : j = k
          · subst e; rw [hb]; exact h4
          · exact HF.out j (by omega) hj2)
        have h5 : ((b.toNat : Int) == 40) = false := by
          simp; intro h; apply h4; exact UInt8.toNat_inj.1 (by simpa using (by omega : b.toNat = 40))
        clear HF hb h4
        go_wp2_with fail
        go_round
        case rel => exact ⟨k + 1, by omega, by go_num, HQ⟩
        case measure => simp [intOf]; omega
    · obtain rfl : k = l.length := by omega
      have HR := Lib.hid (openAt_none _ HF.out rfl)
      clear HF
      go_wp2_with fail
      go_ret
      exact ⟨by rw [HR.out]; rfl, rfl⟩

end Go.Proofs.YtaahjpmndkcijaaGreatDoor

/-
  A number in decimal, read by the reference. (Printed by gennum.py: the two signs alike.)
-/
namespace Go.Proofs.YtaahjpmndkcijaaGreatDoor
open Go.RowKit

def NumS (l : List UInt8) (w : World) (e : Ending) (w' : World) : Prop := e = .returned (.tuple #[.int .i64 ((numF l).getD 0), .bool (numF l).isSome]) ∧ w = w'

theorem valD_take (d : List UInt8) (q : Nat) (hq : q < d.length) : valD 0 (d.take (q + 1)) = valD 0 (d.take q) * 10 + (d[q].toNat - 48) := by
  rw [List.take_succ_eq_append_getElem hq, valD_append, valD_cons, valD_nil]
theorem valD_take_lt (d : List UInt8) (q : Nat) (h18 : d.length ≤ 18) (h : (d.take q).all isDig = true) : valD 0 (d.take q) < 1000000000000000000 := by
  have h1 := valD_lt 0 (d.take q) h
  have h2 : (d.take q).length ≤ 18 := by rw [List.length_take]; omega
  have h3 : 10 ^ (d.take q).length ≤ 10 ^ 18 := Nat.pow_le_pow_right (by omega) h2
  omega
theorem valD_take_lt17 (d : List UInt8) (q : Nat) (h18 : d.length ≤ 18) (hq : q < d.length) (h : (d.take q).all isDig = true) : valD 0 (d.take q) < 100000000000000000 := by
  have h1 := valD_lt 0 (d.take q) h
  have h2 : (d.take q).length ≤ 17 := by rw [List.length_take]; omega
  have h3 : 10 ^ (d.take q).length ≤ 10 ^ 17 := Nat.pow_le_pow_right (by omega) h2
  omega
theorem all_take_succ (d : List UInt8) (q : Nat) (hq : q < d.length) (h : (d.take q).all isDig = true) (h2 : isDig d[q] = true) : (d.take (q + 1)).all isDig = true := by
  rw [List.take_succ_eq_append_getElem hq, List.all_append, h]; simp [h2]
theorem all_bad (d : List UInt8) (q : Nat) (hq : q < d.length) (h2 : isDig d[q] = false) : d.all isDig = false := by
  cases h : d.all isDig with
  | false => rfl
  | true => rw [List.all_eq_true.1 h d[q] (List.getElem_mem hq)] at h2; cases h2
theorem byte_ne {b : UInt8} {n : Nat} (hn : n < 256) (h : b ≠ UInt8.ofNat n) : ((b.toNat : Int) == (n : Int)) = false := by
  simp; intro h2; apply h; apply UInt8.toNat_inj.1; simp; omega

set_option maxRecDepth 20000 in
set_option maxHeartbeats 4000000 in
theorem numberS0 (l d : List UInt8) (w : World) (hl : l.length ≤ 2000000) (hneg : negL l = false) (hd : digL l = d) (hlen : l.length = d.length + 0) (hpos : 0 < l.length)
    (hget : ∀ q (hq : q < d.length) (hq2 : q < l.length), l[q] = d[q]) (c : UInt8) (hc : l[0] = c) (hc45 : c ≠ 45) :
    Calls Tryz.prog 85 #[es l] w (NumS l w) := by
  have hix0 : (⟨l.toArray⟩ : ByteArray)[0]'(by simpa [ByteArray.size] using hpos) = c := by rw [← hc]; simp [ByteArray.getElem_eq_getElem_data]
  have gp : (0 : Int) < (l.length : Int) := by omega
  have HLEN := Lib.hid hlen
  have g45 := byte_ne (n := 45) (by omega) hc45
  clear hc
  by_cases hd0 : d = []
  · have HR := Lib.hid (show numF l = none by unfold numF; rw [hd, if_pos (Or.inl hd0)])
    have hl1 : l.length = 0 := by rw [hlen, hd0]; simp
    exact absurd hl1 (by omega)
  · have hdpos : 0 < d.length := List.length_pos_iff.2 hd0
    have g1 : ((l.length : Int) == 0) = false := by rw [beq_eq_false_iff_ne]; omega
    by_cases h18 : 18 < d.length
    · have HR := Lib.hid (show numF l = none by unfold numF; rw [hd, if_pos (Or.inr (Or.inl h18))])
      have g2 : (18 : Int) < (l.length : Int) := by omega
      clear hget hd0 hneg hd hlen h18 hdpos
      go_enter Tryz.func85, Tryz.ntmps85
      go_wp2_with fail
      go_ret2
      exact ⟨by rw [HR.out]; rfl, rfl⟩
    · have g2 : ¬ (18 : Int) < (l.length : Int) := by omega
      obtain ⟨x, hx⟩ : ∃ x, d[0] = x := ⟨_, rfl⟩
      have hat : 0 < l.length := by omega
      have hixa : (⟨l.toArray⟩ : ByteArray)[0]'(by simpa [ByteArray.size] using hat) = x := by
        rw [← hx, ← hget 0 hdpos (by omega)]; simp [ByteArray.getElem_eq_getElem_data]
      have hxc : x = c := hixa.symm.trans hix0
      subst hxc
      clear hix0
      have hhead : d.head? = some x := by rw [← hx]; cases d with
        | nil => simp at hdpos
        | cons y d => rfl
      by_cases hz : x = 48 ∧ 1 < l.length
      · have HR := Lib.hid (show numF l = none by unfold numF; rw [hd, if_pos (Or.inr (Or.inr (Or.inl ⟨by rw [hhead, hz.1], hz.2⟩)))])
        obtain ⟨hz1, hz2⟩ := hz
        subst hz1
        have g3 : (1 : Int) < (l.length : Int) := by omega
        clear hget hd0 hneg hd hx hhead hlen
        go_enter Tryz.func85, Tryz.ntmps85
        go_wp2_with fail
        go_ret2
        exact ⟨by rw [HR.out]; rfl, rfl⟩
      · have HF := Lib.hid (show numF l = if d.all isDig = false then none else some ((valD 0 d : Int)) by
          unfold numF
          rw [hd, hneg]
          by_cases ha : d.all isDig = false
          · rw [if_pos (Or.inr (Or.inr (Or.inr ha))), if_pos ha]
          · rw [if_neg, if_neg ha]
            · simp
            · rintro (h | h | h | h)
              · exact hd0 h
              · exact h18 h
              · rw [hhead] at h; exact hz ⟨by simpa using h.1, h.2⟩
              · exact ha h)
        have hcase : Hid (∀ K : Prop, (((x.toNat : Int) == 48) = false → K) → (x = 48 → ¬ (1 : Int) < (l.length : Int) → K) → K) := Lib.hid (fun K h1 h2 => by
          by_cases h : x = 48
          · exact h2 h (fun h3 => hz ⟨h, by omega⟩)
          · exact h1 (byte_ne (n := 48) (by omega) h))
        have HG := Lib.hid hget
        clear hget hd0 hneg hd hx hhead hz hlen
        refine hcase.out _ ?_ ?_
        · intro gz
          clear hcase
          go_enter Tryz.func85, Tryz.ntmps85
          go_wp2_with fail
          go_loop [5, 6] (fun n i => ∃ q : Nat, q ≤ d.length ∧ i = .int .i64 (q : Nat) ∧ n = .int .i64 (valD 0 (d.take q) : Nat) ∧ Hid ((d.take q).all isDig = true)) (fun n i => l.length - (intOf i).toNat)
          case atStart => exact ⟨0, Nat.zero_le _, rfl, rfl, Lib.hid rfl⟩
          case round =>
            try clear hixa
            try clear hix0
            obtain ⟨q, hq, rfl, rfl, HA⟩ := hrel
            have hql : q ≤ l.length := by have hlen := HLEN.out; omega
            have hvl := valD_take_lt d q (by omega) HA.out
            by_cases hlt : q < d.length
            · have hlt2 : q < l.length := by have hlen := HLEN.out; omega
              obtain ⟨b, hb⟩ : ∃ b, d[q] = b := ⟨_, rfl⟩
              have hixq : (⟨l.toArray⟩ : ByteArray)[q]'(by simpa [ByteArray.size] using hlt2) = b := by rw [← hb, ← HG.out q hlt hlt2]; simp [ByteArray.getElem_eq_getElem_data]
              have S1 := Lib.hid (digitS b w)
              cases hdg : isDig b with
              | false =>
                have HR := Lib.hid (show numF l = none by rw [HF.out, if_pos (all_bad d q hlt (by rw [hb]; exact hdg))])
                rw [hdg] at S1
                clear hdg hb
                go_wp2_with fail
                refine S1.out.mono ?_
                rintro e w1 ⟨rfl, rfl⟩
                clear S1
                go_wp2_with fail
                go_ret2
                exact ⟨by rw [HR.out]; rfl, rfl⟩
              | true =>
                have hd2 : 48 ≤ b.toNat ∧ b.toNat ≤ 57 := by simpa [isDig] using hdg
                have HV := Lib.hid (valD_take d q hlt)
                have hvl7 := valD_take_lt17 d q (by omega) hlt HA.out
                have HA2 := Lib.hid (all_take_succ d q hlt HA.out (by rw [hb]; exact hdg))
                rw [hb] at HV
                rw [hdg] at S1
                generalize valD 0 (d.take q) = V at *
                clear hdg hb HA
                go_wp2_with fail
                refine S1.out.mono ?_
                rintro e w1 ⟨rfl, rfl⟩
                clear S1
                go_wp2_with fail
                go_round
                case rel => exact ⟨q + 1, by omega, by go_num, by rw [HV.out]; exact congrArg _ (by omega), HA2⟩
                case measure => simp [intOf]; omega
            · have hend : ¬ ((q : Nat) : Int) < (l.length : Int) := by have hlen := HLEN.out; omega
              obtain rfl : q = d.length := by omega
              have hall := HA.out
              rw [List.take_of_length_le (Nat.le_refl _)] at hall
              have HR := Lib.hid (show numF l = some ((valD 0 d : Int)) by rw [HF.out, if_neg (by rw [hall]; simp)])
              rw [List.take_of_length_le (Nat.le_refl _)] at hvl ⊢
              generalize valD 0 d = V at *
              clear HA HF hall
              go_wp2_with fail
              go_ret2
              exact ⟨by rw [HR.out]; first | rfl | (simp; try omega), rfl⟩
        · intro gz1 gz2
          subst gz1
          clear hcase
          go_enter Tryz.func85, Tryz.ntmps85
          go_wp2_with fail
          go_loop [5, 6] (fun n i => ∃ q : Nat, q ≤ d.length ∧ i = .int .i64 (q : Nat) ∧ n = .int .i64 (valD 0 (d.take q) : Nat) ∧ Hid ((d.take q).all isDig = true)) (fun n i => l.length - (intOf i).toNat)
          case atStart => exact ⟨0, Nat.zero_le _, rfl, rfl, Lib.hid rfl⟩
          case round =>
            try clear hixa
            try clear hix0
            obtain ⟨q, hq, rfl, rfl, HA⟩ := hrel
            have hql : q ≤ l.length := by have hlen := HLEN.out; omega
            have hvl := valD_take_lt d q (by omega) HA.out
            by_cases hlt : q < d.length
            · have hlt2 : q < l.length := by have hlen := HLEN.out; omega
              obtain ⟨b, hb⟩ : ∃ b, d[q] = b := ⟨_, rfl⟩
              have hixq : (⟨l.toArray⟩ : ByteArray)[q]'(by simpa [ByteArray.size] using hlt2) = b := by rw [← hb, ← HG.out q hlt hlt2]; simp [ByteArray.getElem_eq_getElem_data]
              have S1 := Lib.hid (digitS b w)
              cases hdg : isDig b with
              | false =>
                have HR := Lib.hid (show numF l = none by rw [HF.out, if_pos (all_bad d q hlt (by rw [hb]; exact hdg))])
                rw [hdg] at S1
                clear hdg hb
                go_wp2_with fail
                refine S1.out.mono ?_
                rintro e w1 ⟨rfl, rfl⟩
                clear S1
                go_wp2_with fail
                go_ret2
                exact ⟨by rw [HR.out]; rfl, rfl⟩
              | true =>
                have hd2 : 48 ≤ b.toNat ∧ b.toNat ≤ 57 := by simpa [isDig] using hdg
                have HV := Lib.hid (valD_take d q hlt)
                have hvl7 := valD_take_lt17 d q (by omega) hlt HA.out
                have HA2 := Lib.hid (all_take_succ d q hlt HA.out (by rw [hb]; exact hdg))
                rw [hb] at HV
                rw [hdg] at S1
                generalize valD 0 (d.take q) = V at *
                clear hdg hb HA
                go_wp2_with fail
                refine S1.out.mono ?_
                rintro e w1 ⟨rfl, rfl⟩
                clear S1
                go_wp2_with fail
                go_round
                case rel => exact ⟨q + 1, by omega, by go_num, by rw [HV.out]; exact congrArg _ (by omega), HA2⟩
                case measure => simp [intOf]; omega
            · have hend : ¬ ((q : Nat) : Int) < (l.length : Int) := by have hlen := HLEN.out; omega
              obtain rfl : q = d.length := by omega
              have hall := HA.out
              rw [List.take_of_length_le (Nat.le_refl _)] at hall
              have HR := Lib.hid (show numF l = some ((valD 0 d : Int)) by rw [HF.out, if_neg (by rw [hall]; simp)])
              rw [List.take_of_length_le (Nat.le_refl _)] at hvl ⊢
              generalize valD 0 d = V at *
              clear HA HF hall
              go_wp2_with fail
              go_ret2
              exact ⟨by rw [HR.out]; first | rfl | (simp; try omega), rfl⟩

set_option maxRecDepth 20000 in
set_option maxHeartbeats 4000000 in
theorem numberS1 (l d : List UInt8) (w : World) (hl : l.length ≤ 2000000) (hneg : negL l = true) (hd : digL l = d) (hlen : l.length = d.length + 1) (hpos : 0 < l.length)
    (hget : ∀ q (hq : q < d.length) (hq2 : 1 + q < l.length), l[1 + q] = d[q]) (c : UInt8) (hc : l[0] = c) (hc45 : c = 45) :
    Calls Tryz.prog 85 #[es l] w (NumS l w) := by
  have hix0 : (⟨l.toArray⟩ : ByteArray)[0]'(by simpa [ByteArray.size] using hpos) = c := by rw [← hc]; simp [ByteArray.getElem_eq_getElem_data]
  have gp : (0 : Int) < (l.length : Int) := by omega
  have HLEN := Lib.hid hlen
  subst hc45
  clear hc
  by_cases hd0 : d = []
  · have HR := Lib.hid (show numF l = none by unfold numF; rw [hd, if_pos (Or.inl hd0)])
    have hl1 : l.length = 1 := by rw [hlen, hd0]; simp
    have gl1 : (l.length : Int) = 1 := by omega
    clear hget hd0 hneg hd hlen hl1
    go_enter Tryz.func85, Tryz.ntmps85
    go_wp2_with fail
    go_ret2
    exact ⟨by rw [HR.out]; rfl, rfl⟩
  · have hdpos : 0 < d.length := List.length_pos_iff.2 hd0
    have g1 : ((l.length : Int) == 1) = false := by rw [beq_eq_false_iff_ne]; omega
    by_cases h18 : 18 < d.length
    · have HR := Lib.hid (show numF l = none by unfold numF; rw [hd, if_pos (Or.inr (Or.inl h18))])
      have g2 : (18 : Int) < (l.length : Int) - 1 := by omega
      clear hget hd0 hneg hd hlen h18 hdpos
      go_enter Tryz.func85, Tryz.ntmps85
      go_wp2_with fail
      go_ret2
      exact ⟨by rw [HR.out]; rfl, rfl⟩
    · have g2 : ¬ (18 : Int) < (l.length : Int) - 1 := by omega
      obtain ⟨x, hx⟩ : ∃ x, d[0] = x := ⟨_, rfl⟩
      have hat : 1 < l.length := by omega
      have hixa : (⟨l.toArray⟩ : ByteArray)[1]'(by simpa [ByteArray.size] using hat) = x := by
        rw [← hx, ← hget 0 hdpos (by omega)]; simp [ByteArray.getElem_eq_getElem_data]
      skip
      have hhead : d.head? = some x := by rw [← hx]; cases d with
        | nil => simp at hdpos
        | cons y d => rfl
      by_cases hz : x = 48 ∧ 1 < l.length
      · have HR := Lib.hid (show numF l = none by unfold numF; rw [hd, if_pos (Or.inr (Or.inr (Or.inl ⟨by rw [hhead, hz.1], hz.2⟩)))])
        obtain ⟨hz1, hz2⟩ := hz
        subst hz1
        have g3 : (1 : Int) < (l.length : Int) := by omega
        clear hget hd0 hneg hd hx hhead hlen
        go_enter Tryz.func85, Tryz.ntmps85
        go_wp2_with fail
        go_ret2
        exact ⟨by rw [HR.out]; rfl, rfl⟩
      · have HF := Lib.hid (show numF l = if d.all isDig = false then none else some (-(valD 0 d : Int)) by
          unfold numF
          rw [hd, hneg]
          by_cases ha : d.all isDig = false
          · rw [if_pos (Or.inr (Or.inr (Or.inr ha))), if_pos ha]
          · rw [if_neg, if_neg ha]
            · simp
            · rintro (h | h | h | h)
              · exact hd0 h
              · exact h18 h
              · rw [hhead] at h; exact hz ⟨by simpa using h.1, h.2⟩
              · exact ha h)
        have hcase : Hid (∀ K : Prop, (((x.toNat : Int) == 48) = false → K) → (x = 48 → ¬ (1 : Int) < (l.length : Int) → K) → K) := Lib.hid (fun K h1 h2 => by
          by_cases h : x = 48
          · exact h2 h (fun h3 => hz ⟨h, by omega⟩)
          · exact h1 (byte_ne (n := 48) (by omega) h))
        have HG := Lib.hid hget
        clear hget hd0 hneg hd hx hhead hz hlen
        refine hcase.out _ ?_ ?_
        · intro gz
          clear hcase
          go_enter Tryz.func85, Tryz.ntmps85
          go_wp2_with fail
          go_loop [5, 6] (fun n i => ∃ q : Nat, q ≤ d.length ∧ i = .int .i64 (1 + q : Nat) ∧ n = .int .i64 (valD 0 (d.take q) : Nat) ∧ Hid ((d.take q).all isDig = true)) (fun n i => l.length - (intOf i).toNat)
          case atStart => exact ⟨0, Nat.zero_le _, rfl, rfl, Lib.hid rfl⟩
          case round =>
            try clear hixa
            try clear hix0
            obtain ⟨q, hq, rfl, rfl, HA⟩ := hrel
            have hql : 1 + q ≤ l.length := by have hlen := HLEN.out; omega
            have hvl := valD_take_lt d q (by omega) HA.out
            by_cases hlt : q < d.length
            · have hlt2 : 1 + q < l.length := by have hlen := HLEN.out; omega
              obtain ⟨b, hb⟩ : ∃ b, d[q] = b := ⟨_, rfl⟩
              have hixq : (⟨l.toArray⟩ : ByteArray)[1 + q]'(by simpa [ByteArray.size] using hlt2) = b := by rw [← hb, ← HG.out q hlt hlt2]; simp [ByteArray.getElem_eq_getElem_data]
              have S1 := Lib.hid (digitS b w)
              cases hdg : isDig b with
              | false =>
                have HR := Lib.hid (show numF l = none by rw [HF.out, if_pos (all_bad d q hlt (by rw [hb]; exact hdg))])
                rw [hdg] at S1
                clear hdg hb
                go_wp2_with fail
                refine S1.out.mono ?_
                rintro e w1 ⟨rfl, rfl⟩
                clear S1
                go_wp2_with fail
                go_ret2
                exact ⟨by rw [HR.out]; rfl, rfl⟩
              | true =>
                have hd2 : 48 ≤ b.toNat ∧ b.toNat ≤ 57 := by simpa [isDig] using hdg
                have HV := Lib.hid (valD_take d q hlt)
                have hvl7 := valD_take_lt17 d q (by omega) hlt HA.out
                have HA2 := Lib.hid (all_take_succ d q hlt HA.out (by rw [hb]; exact hdg))
                rw [hb] at HV
                rw [hdg] at S1
                generalize valD 0 (d.take q) = V at *
                clear hdg hb HA
                go_wp2_with fail
                refine S1.out.mono ?_
                rintro e w1 ⟨rfl, rfl⟩
                clear S1
                go_wp2_with fail
                go_round
                case rel => exact ⟨q + 1, by omega, by go_num, by rw [HV.out]; exact congrArg _ (by omega), HA2⟩
                case measure => simp [intOf]; omega
            · have hend : ¬ ((1 + q : Nat) : Int) < (l.length : Int) := by have hlen := HLEN.out; omega
              obtain rfl : q = d.length := by omega
              have hall := HA.out
              rw [List.take_of_length_le (Nat.le_refl _)] at hall
              have HR := Lib.hid (show numF l = some (-(valD 0 d : Int)) by rw [HF.out, if_neg (by rw [hall]; simp)])
              rw [List.take_of_length_le (Nat.le_refl _)] at hvl ⊢
              generalize valD 0 d = V at *
              clear HA HF hall
              go_wp2_with fail
              go_ret2
              exact ⟨by rw [HR.out]; first | rfl | (simp; try omega), rfl⟩
        · intro gz1 gz2
          exact absurd (show (1 : Int) < (l.length : Int) by have hlen := HLEN.out; omega) gz2

theorem numberS (l : List UInt8) (w : World) (hl : l.length ≤ 2000000) : Calls Tryz.prog 85 #[es l] w (NumS l w) := by
  cases l with
  | nil =>
    have HR := Lib.hid (show numF [] = none by rfl)
    go_enter Tryz.func85, Tryz.ntmps85
    go_wp2_with fail
    go_ret2
    exact ⟨by rw [HR.out]; rfl, rfl⟩
  | cons c r =>
    by_cases hc : c = 45
    · exact numberS1 (c :: r) r w hl (by simp [negL, hc]) (by simp [digL, negL, hc]) (by simp) (by simp) (fun q hq hq2 => by
        have e : (c :: r)[1 + q]? = r[q]? := by rw [Nat.add_comm]; rfl
        rw [List.getElem?_eq_getElem hq2, List.getElem?_eq_getElem hq] at e
        exact Option.some.inj e) c rfl hc
    · exact numberS0 (c :: r) (c :: r) w hl (by simp [negL, hc]) (by simp [digL, negL, hc]) (by simp) (by simp) (fun q hq hq2 => rfl) c rfl hc

end Go.Proofs.YtaahjpmndkcijaaGreatDoor

/-
  The values of a label, as the reference reads them, are those that the program reads.
-/
namespace Go.Proofs.YtaahjpmndkcijaaGreatDoor
open Go.RowKit

theorem open_app : ∀ (p r : List UInt8), (40 : UInt8) ∉ p → openAt (p ++ 40 :: r) = p.length
  | [], r, _ => by simp [openAt]
  | b :: p, r, h => by
    have h1 : b ≠ 40 := fun e => h (by simp [e])
    have h2 := open_app p r (fun hm => h (List.mem_cons_of_mem _ hm))
    unfold openAt at h2 ⊢
    rw [List.cons_append, List.takeWhile_cons, if_pos (by simpa using h1), List.length_cons, h2, List.length_cons]
theorem open_no {s : List UInt8} (h : (40 : UInt8) ∉ s) : openAt s = s.length := by
  unfold openAt; rw [tw_all s (fun x hx e => h (e ▸ hx))]
theorem open_le (s : List UInt8) : openAt s ≤ s.length := by
  unfold openAt
  induction s with
  | nil => simp
  | cons b s ih =>
    rw [List.takeWhile_cons]
    split
    · simp only [List.length_cons]; omega
    · simp
theorem open_lt : ∀ {s : List UInt8}, openAt s ≠ s.length → s = s.take (openAt s) ++ 40 :: s.drop (openAt s + 1) ∧ (40 : UInt8) ∉ s.take (openAt s) := by
  intro s hne
  by_cases hm : (40 : UInt8) ∈ s
  · obtain ⟨p, r, e, hp⟩ : ∃ p r, s = p ++ 40 :: r ∧ (40 : UInt8) ∉ p := by
      clear hne
      induction s with
      | nil => cases hm
      | cons b s ih =>
        by_cases hb : b = 40
        · exact ⟨[], s, by simp [hb], by simp⟩
        · obtain ⟨p, r, e, hp⟩ := ih (by rcases List.mem_cons.1 hm with h | h; · exact absurd h.symm hb
                                         · exact h)
          exact ⟨b :: p, r, by simp [e], fun h => by rcases List.mem_cons.1 h with h | h; · exact hb h.symm
                                                     · exact hp h⟩
    subst e
    rw [open_app p r hp]
    simp [hp]
  · exact absurd (open_no hm) hne

/-- the values of a label, as the reference reads them. -/
def specV (s : List UInt8) : Option (List Int) :=
  if openAt s = s.length then (if nameF s = true then some [] else none)
  else if actF (s.take (openAt s)) = true ∧ s.getLast? = some 41 then
    match numsF (splitC 44 ((s.drop (openAt s + 1)).take (s.length - 1 - (openAt s + 1)))) with
    | none => none
    | some vs => if vs.all isV = true ∧ vs.length ≤ 2 then some vs else none
  else none

theorem nameF_split {s : List UInt8} (h : nameF s = true) : labT s [] = some s := by
  unfold labT
  by_cases ht : s = tauL
  · rw [if_pos ht, if_pos rfl, ht]
  · rw [if_neg ht]
    have : actF s = true := by
      unfold actF; rw [h]; simpa using ht
    rw [this]; simp

theorem specV_labT {name s : List UInt8} {vs : List Int} (h : labT name vs = some s) : specV s = some vs := by
  unfold labT at h
  split at h
  · rename_i ht
    split at h
    · rename_i hv
      cases h; subst hv; rfl
    · cases h
  · rename_i ht
    split at h
    · rename_i hc
      simp only [Bool.and_eq_true, decide_eq_true_eq] at hc
      obtain ⟨⟨ha, hl⟩, hv⟩ := hc
      have hno := name_char (actF_name ha).1 40 (by decide) (by decide)
      split at h
      · rename_i hve
        cases h; subst hve
        unfold specV
        rw [if_pos (open_no hno), if_pos (actF_name ha).1]
      · rename_i hve
        cases h
        have e : ((name ++ [40]) ++ txtV vs) ++ [41] = name ++ 40 :: (txtV vs ++ [41]) := by simp
        have hsp : splitC 44 (txtV vs) = vs.map Lib.itoa := by
          refine split_join 44 _ (by simpa using hve) (fun p hp => ?_)
          obtain ⟨n, -, rfl⟩ := List.mem_map.1 hp
          exact itoa_no n 44 (by decide) (by decide)
        have hnum := numsF_itoa vs (fun n hn => itoa_len64 (List.all_eq_true.1 hv n hn))
        unfold specV
        rw [e, open_app _ _ hno, if_neg (by simp), if_pos ⟨by simpa using ha, by rw [show name ++ 40 :: (txtV vs ++ [41]) = (name ++ 40 :: txtV vs) ++ [41] by simp]; exact List.getLast?_concat⟩]
        have e2 : ((name ++ 40 :: (txtV vs ++ [41])).drop (name.length + 1)).take ((name ++ 40 :: (txtV vs ++ [41])).length - 1 - (name.length + 1)) = txtV vs := by
          have e3 : (name ++ 40 :: (txtV vs ++ [41])).drop (name.length + 1) = txtV vs ++ [41] := by
            rw [List.drop_append]; simp
          rw [e3]
          have e4 : (name ++ 40 :: (txtV vs ++ [41])).length - 1 - (name.length + 1) = (txtV vs).length := by simp; omega
          rw [e4, List.take_left']; rfl
        rw [e2, hsp, hnum]
        simp [hv, hl]
    · cases h

theorem labT_specV {s : List UInt8} {vs : List Int} (h : specV s = some vs) : ∃ name, labT name vs = some s := by
  unfold specV at h
  split at h
  · split at h
    · rename_i hn
      cases h
      exact ⟨s, nameF_split hn⟩
    · cases h
  · rename_i hne
    split at h
    · rename_i hc
      obtain ⟨ha, hlast⟩ := hc
      obtain ⟨hs, hno⟩ := open_lt hne
      split at h
      · cases h
      · rename_i vs' hnum
        split at h
        · rename_i hv
          cases h
          obtain ⟨hv1, hv2⟩ := hv
          refine ⟨s.take (openAt s), ?_⟩
          have hparts := (numsF_some hnum).1
          have hj := congrArg (joinC 44) hparts
          rw [join_split] at hj
          obtain ⟨-, ht⟩ := actF_name ha
          have hvne : vs ≠ [] := by
            intro e
            rw [e] at hparts
            exact splitC_ne 44 _ hparts
          unfold labT
          rw [if_neg ht, ha]
          simp only [Bool.true_and, hv1, Bool.and_true, decide_eq_true_eq, if_pos hv2, if_neg hvne]
          congr 1
          have hin : s.drop (openAt s + 1) = txtV vs ++ [41] := by
            have hlen := open_le s
            have hl2 : openAt s < s.length := by omega
            have hdl : (s.drop (openAt s + 1)).getLast? = some 41 := by
              have hr : s.drop (openAt s + 1) ≠ [] := by
                intro e
                rw [hs, e] at hlast
                simp at hlast
              rw [hs, List.getLast?_append] at hlast
              rw [List.getLast?_cons] at hlast
              cases hq : (s.drop (openAt s + 1)).getLast? with
              | none => exact absurd (List.getLast?_eq_none_iff.1 hq) hr
              | some x => rw [hq] at hlast; simpa using hlast
            obtain ⟨ys, hys⟩ := List.getLast?_eq_some_iff.1 hdl
            have hyl : ys.length = s.length - 1 - (openAt s + 1) := by
              have := congrArg List.length hys
              simp at this; omega
            rw [hys] at hj
            rw [← hyl, List.take_left'] at hj
            · rw [hys, hj]; rfl
            · rfl
          conv => rhs; rw [hs, hin]
          simp
        · cases h
    · cases h

/-- both sides read the same values. -/
theorem specV_readF (s : List UInt8) : specV s = (readF s).map (·.2) := by
  cases hr : readF s with
  | some x =>
    obtain ⟨n, vs⟩ := x
    exact specV_labT (readF_some hr)
  | none =>
    cases hs : specV s with
    | none => rfl
    | some vs =>
      obtain ⟨n, hn⟩ := labT_specV hs
      rw [readF_labT hn] at hr; cases hr

end Go.Proofs.YtaahjpmndkcijaaGreatDoor

/-
  A text divided at each byte by the reference.
-/
namespace Go.Proofs.YtaahjpmndkcijaaGreatDoor
open Go.RowKit

theorem extract_list (l : List UInt8) (a b : Nat) : (⟨l.toArray⟩ : ByteArray).extract a b = ⟨((l.drop a).take (b - a)).toArray⟩ := by
  apply ByteArray.ext
  apply Array.ext'
  simp [ByteArray.data_extract, List.take_drop]
  first | done | (rw [List.drop_take]) | skip

def SplitV (c : UInt8) (l : List UInt8) (w : World) (e : Ending) (w' : World) : Prop := (∃ v', e = .returned v' ∧ New RS w w' v' (splitC c l)) ∧ Upd [] w w'

theorem split_at (c : UInt8) (l : List UInt8) (f i : Nat) (hfi : f ≤ i) (hi : i < l.length) (h : ∀ j (_ : f ≤ j) (_ : j < i) (hj2 : j < l.length), l[j] ≠ c) (hc : l[i] = c) :
    splitC c (l.drop f) = (l.drop f).take (i - f) :: splitC c (l.drop (i + 1)) := by
  have e : l.drop f = (l.drop f).take (i - f) ++ c :: l.drop (i + 1) := by
    have h1 : (l.drop f).drop (i - f) = c :: l.drop (i + 1) := by
      rw [List.drop_drop, show f + (i - f) = i by omega, List.drop_eq_getElem_cons hi, hc]
    rw [← h1, List.take_append_drop]
  have hno : c ∉ (l.drop f).take (i - f) := fun hm => by
    obtain ⟨j, hj, hj2⟩ := List.mem_iff_getElem.1 hm
    simp only [List.length_take, List.length_drop] at hj
    rw [List.getElem_take, List.getElem_drop] at hj2
    exact h (f + j) (by omega) (by omega) (by omega) hj2
  conv => lhs; rw [e]
  rw [split_app c _ _ hno]
theorem split_rest (c : UInt8) (l : List UInt8) (f : Nat) (h : ∀ j (_ : f ≤ j) (_ : j < l.length) (hj2 : j < l.length), l[j] ≠ c) : splitC c (l.drop f) = [l.drop f] := by
  refine split_none c _ (fun hm => ?_)
  obtain ⟨j, hj, hj2⟩ := List.mem_iff_getElem.1 hm
  simp only [List.length_drop] at hj
  rw [List.getElem_drop] at hj2
  exact h (f + j) (by omega) (by omega) (by omega) hj2

set_option maxRecDepth 20000 in
set_option maxHeartbeats 4000000 in
theorem splitS (l : List UInt8) (c : UInt8) (w : World) (hl : l.length ≤ 2000000) : Calls Tryz.prog 87 #[es l, .int .u8 (c.toNat : Int)] w (SplitV c l w) := by
  obtain ⟨i1, ki, kz0, kz1, kz2⟩ := info_parts Tryz.info9
  have hlit := World.ownsRow_lit (base := w.heap.size) (e := 9) (size := 1) w #[] 0 (Nat.le_refl _) (by simp [maxLen]) (by simp)
  have HLIT := Lib.hid hlit
  have hsz0 : (w.alloc (.cells #[] 9)).heap.size = w.heap.size + 1 := by simp
  clear hlit
  go_enter Tryz.func87, Tryz.ntmps87
  go_wp2_with fail
  go_loopw [5, 6, 7] (fun ov fv iv wr => ∃ (f i : Nat) (ps : List (List UInt8)), f ≤ i ∧ i ≤ l.length ∧ fv = .int .i64 f ∧ iv = .int .i64 i ∧ ps.length ≤ f ∧ Hid (splitC c l = ps ++ splitC c (l.drop f)) ∧ Hid (∀ j (_ : f ≤ j) (_ : j < i) (hj2 : j < l.length), l[j] ≠ c) ∧ Hid (wr.ownsRow w.heap.size 9 1 ov ps.length (ps.map es)) ∧ Upd [] w wr) (fun _ _ iv _ => l.length - (intOf iv).toNat)
  case atStart => exact ⟨0, 0, [], by omega, by omega, rfl, rfl, by simp, Lib.hid rfl, Lib.hid (fun j h1 h2 => by omega), HLIT, (Upd.refl _ _).alloc _⟩
  case round =>
    clear HLIT hsz0
    obtain ⟨f, i, ps, hfi, hil, rfl, rfl, hpl, HS, HN, hown, hU⟩ := hrel
    have hszr := hU.size
    by_cases hlt : i < l.length
    · obtain ⟨b, hb⟩ : ∃ b, l[i] = b := ⟨_, rfl⟩
      have hix : (⟨l.toArray⟩ : ByteArray)[i]'(by simpa [ByteArray.size] using hlt) = b := by rw [← hb]; simp [ByteArray.getElem_eq_getElem_data]
      by_cases hbc : b = c
      · subst hbc
        have hext := extract_list l f i
        have HS2 := Lib.hid (HS.out.trans (by rw [split_at b l f i hfi hlt HN.out hb] : _ = ps ++ ((l.drop f).take (i - f) :: splitC b (l.drop (i + 1)))))
        generalize (l.drop f).take (i - f) = pc at *
        have HU := Lib.hid hU
        have hown0 := hown.out
        clear hb HS HN hU
        go_wp2_with (first
          | (at_builtin; refine wpList_append_tight _ rfl _ _ 40 rfl w.heap.size 9 i1 (.string ⟨#[]⟩) 1 16 Tryz.underlying40 ki kz0 kz1 kz2 rfl (by decide) _ _ _ rfl (hown0.alloc _) ⟨wr.heap.size, 0, none⟩ 1 1 [es pc] rfl rfl (fun j u hj => by rw [addr_add]; exact cell_new wr #[es pc] _ _ rfl _ _ (by simpa using hj)) (by simp [Value.oneCell']) (by unfold maxLen; omega) (by omega) (by simp; omega) ?_)
          | fail)
        intro v4 w4 hown4 hg4 ht4
        have hu4 : Upd [] w w4 := (HU.out.alloc _).grown hg4 (fun b hb => Or.inl (by have := (hown0.lt b hb).1; omega))
        have HQ := Lib.hid (And.intro hown4 hu4)
        clear hown4 hg4 ht4 hu4 hown0 hown HU
        go_wp2_with fail
        go_roundw
        case rel => exact ⟨i + 1, i + 1, ps ++ [pc], by omega, by omega, by go_num, by go_num, by simp; omega, Lib.hid (by rw [HS2.out]; simp), Lib.hid (fun j h1 h2 => by omega), Lib.hid (by simpa using HQ.out.1), HQ.out.2⟩
        case measure => simp [intOf]; omega
      · have hbc' : ((b.toNat : Int) == (c.toNat : Int)) = false := by
          simp; intro h; apply hbc; exact UInt8.toNat_inj.1 (by omega)
        have HN2 := Lib.hid (show ∀ j (_ : f ≤ j) (_ : j < i + 1) (hj2 : j < l.length), l[j] ≠ c from fun j h1 h2 hj2 => by
          by_cases e : j = i
          · subst e; rw [hb]; exact hbc
          · exact HN.out j h1 (by omega) hj2)
        clear hb HN hbc
        go_wp2_with fail
        go_roundw
        case rel => exact ⟨f, i + 1, ps, by omega, by omega, rfl, by go_num, hpl, HS, HN2, hown, hU⟩
        case measure => simp [intOf]; omega
    · obtain rfl : i = l.length := by omega
      have hext := extract_list l f l.length
      have hdt : (l.drop f).take (l.length - f) = l.drop f := List.take_of_length_le (by simp)
      rw [hdt] at hext
      have HS2 := Lib.hid (HS.out.trans (by rw [split_rest c l f HN.out] : _ = ps ++ [l.drop f]))
      generalize l.drop f = pc at *
      have HU := Lib.hid hU
      have hown0 := hown.out
      clear HS HN hU hdt
      go_wp2_with (first
        | (at_builtin; refine wpList_append_tight _ rfl _ _ 40 rfl w.heap.size 9 i1 (.string ⟨#[]⟩) 1 16 Tryz.underlying40 ki kz0 kz1 kz2 rfl (by decide) _ _ _ rfl (hown0.alloc _) ⟨wr.heap.size, 0, none⟩ 1 1 [es pc] rfl rfl (fun j u hj => by rw [addr_add]; exact cell_new wr #[es pc] _ _ rfl _ _ (by simpa using hj)) (by simp [Value.oneCell']) (by unfold maxLen; omega) (by omega) (by simp; omega) ?_)
        | fail)
      intro v4 w4 hown4 hg4 ht4
      have hu4 : Upd [] w w4 := (HU.out.alloc _).grown hg4 (fun b hb => Or.inl (by have := (hown0.lt b hb).1; omega))
      have HQ := Lib.hid (And.intro (show New RS w w4 v4 (splitC c l) by
        rw [HS2.out]
        exact New.ofOwns (e := 9) (enc := es) (by simpa using hown4)) hu4)
      clear hown4 hg4 ht4 hu4 hown0 hown HU
      go_wp2_with fail
      go_ret
      exact ⟨⟨_, rfl, HQ.out.1⟩, HQ.out.2⟩

end Go.Proofs.YtaahjpmndkcijaaGreatDoor

/-
  The values of a label, read by the reference.
-/
namespace Go.Proofs.YtaahjpmndkcijaaGreatDoor
open Go.RowKit

theorem inS (n : Int) (w : World) : Calls Tryz.prog 88 #[.int .i64 n, .int .i64 0, .int .i64 63] w fun e w' => e = .returned (.bool (isV n)) ∧ w = w' := by
  by_cases h1 : 0 ≤ n
  · by_cases h2 : n ≤ 63
    · have HR := Lib.hid (show isV n = true from inB_mk ⟨h1, h2⟩)
      go_enter Tryz.func88, Tryz.ntmps88
      go_wp2_with fail
      go_ret
      exact ⟨by rw [HR.out]; rfl, rfl⟩
    · have HR := Lib.hid (show isV n = false by
        cases h : isV n with
        | false => rfl
        | true => have := inB_true h; omega)
      go_enter Tryz.func88, Tryz.ntmps88
      go_wp2_with fail
      go_ret
      exact ⟨by rw [HR.out]; rfl, rfl⟩
  · have HR := Lib.hid (show isV n = false by
      cases h : isV n with
      | false => rfl
      | true => have := inB_true h; omega)
    go_enter Tryz.func88, Tryz.ntmps88
    go_wp2_with fail
    go_ret
    exact ⟨by rw [HR.out]; rfl, rfl⟩

def ValuesS (s : List UInt8) (w : World) (e : Ending) (w' : World) : Prop :=
  (∃ v' vs, e = .returned (.tuple #[v', .bool (readF s).isSome]) ∧ New R1 w w' v' vs ∧ Hid (∀ us, (readF s).map (·.2) = some us → vs = us)) ∧ Upd [] w w'

theorem splitC_len' (c : UInt8) : ∀ l : List UInt8, (splitC c l).length ≤ l.length + 1 ∧ ∀ p ∈ splitC c l, p.length ≤ l.length
  | [] => by simp [splitC]
  | b :: l => by
    obtain ⟨h1, h2⟩ := splitC_len' c l
    by_cases hb : b = c
    · subst hb
      have e : splitC b (b :: l) = [] :: splitC b l := by rw [splitC, if_pos rfl]
      rw [e]
      refine ⟨by simp; omega, fun p hp => ?_⟩
      rcases List.mem_cons.1 hp with rfl | hp
      · simp
      · have := h2 p hp; simp; omega
    · obtain ⟨p, ps, e1, e2⟩ := splitC_cons c b l hb
      rw [e2]
      rw [e1] at h1 h2
      refine ⟨by simp at h1 ⊢; omega, fun q hq => ?_⟩
      rcases List.mem_cons.1 hq with rfl | hq
      · have := h2 p (by simp); simp; omega
      · have := h2 q (by simp [hq]); simp; omega

/-- what the loop over the words gives. -/
def loopV (ps : List (List UInt8)) : Option (List Int) := match numsF ps with
  | none => none
  | some vs => if vs.all isV then some vs else none

theorem loopV_cons (p : List UInt8) (ps : List (List UInt8)) : loopV (p :: ps) = (numF p).bind fun n => if isV n then (loopV ps).map (n :: ·) else none := by
  unfold loopV
  rw [numsF_cons]
  cases numF p with
  | none => rfl
  | some n =>
    cases numsF ps with
    | none => simp
    | some vs =>
      cases h1 : isV n <;> cases h2 : vs.all isV <;> simp [h1, h2]

theorem readF_isSome (s : List UInt8) : (readF s).isSome = (specV s).isSome := by rw [specV_readF]; cases readF s <;> rfl

set_option maxRecDepth 20000 in
set_option maxHeartbeats 4000000 in
theorem valuesS (l : List UInt8) (w : World) (hl : l.length ≤ 2000000) : Calls Tryz.prog 79 #[es l] w (ValuesS l w) := by
  obtain ⟨i1, ki, kz0, kz1, kz2⟩ := info_parts Tryz.info2
  have S1 := Lib.hid (openS l w hl)
  have hle := open_le l
  have HV := Lib.hid (show (readF l).map (·.2) = specV l from (specV_readF l).symm)
  have HI := Lib.hid (readF_isSome l)
  by_cases hat : openAt l = l.length
  · have hsp : specV l = if nameF l = true then some [] else none := by unfold specV; rw [if_pos hat]
    have S2 := Lib.hid (fun w1 : World => nameS l w1 hl)
    obtain ⟨f0, hR0, hO0, hG0⟩ := new_lit (enc := ei) w 2 [] (by simp [maxLen])
    have HN := Lib.hid (show New R1 w (w.alloc (.cells #[] 2)) (.slice (some ⟨w.heap.size, 0, none⟩) 0 0) [] from ⟨f0, hR0, hO0, hG0⟩)
    rw [hat] at S1
    have HS := Lib.hid (show (readF l).isSome = nameF l by rw [HI.out, hsp]; cases nameF l <;> rfl)
    have HU := Lib.hid (show ∀ us, (readF l).map (·.2) = some us → ([] : List Int) = us by
      intro us hus
      rw [HV.out, hsp] at hus
      split at hus
      · simpa using hus
      · cases hus)
    clear hsp hR0 hO0 hG0 HV HI hat hle
    go_enter Tryz.func79, Tryz.ntmps79
    go_wp2_with fail
    refine S1.out.mono ?_
    rintro e w1 ⟨rfl, rfl⟩
    clear S1
    have S2 := Lib.hid (S2.out (w.alloc (.cells #[] 2)))
    go_wp2_with fail
    refine S2.out.mono ?_
    rintro e w1 ⟨rfl, rfl⟩
    clear S2
    go_wp2_with fail
    go_ret2
    exact ⟨⟨_, [], by rw [HS.out]; rfl, HN.out, HU⟩, (Upd.refl _ _).alloc _⟩
  · obtain ⟨hs40, hno⟩ := open_lt hat
    obtain ⟨A, hA⟩ : ∃ A, openAt l = A := ⟨_, rfl⟩
    obtain ⟨m, hm⟩ : ∃ m, l.length = m + 1 := ⟨l.length - 1, by omega⟩
    have hAm : A ≤ m := by omega
    obtain ⟨b, hb⟩ : ∃ b, l[m]'(by omega) = b := ⟨_, rfl⟩
    have hix : (⟨l.toArray⟩ : ByteArray)[m]'(by simp [ByteArray.size]; omega) = b := by rw [← hb]; simp [ByteArray.getElem_eq_getElem_data]
    have hlast : l.getLast? = some b := by
      rw [List.getLast?_eq_getElem?, ← hb, List.getElem?_eq_getElem (by omega)]
      congr 1
      simp [hm]
    have hext := extract_list l 0 A
    rw [List.drop_zero, Nat.sub_zero] at hext
    have hsp : specV l = if actF (l.take A) = true ∧ b = 41 then (loopV (splitC 44 ((l.drop (A + 1)).take (m - (A + 1))))).bind (fun vs => if vs.length ≤ 2 then some vs else none) else none := by
      unfold specV
      rw [if_neg hat, hA, hlast, hm]
      simp only [Option.some.injEq, Nat.add_sub_cancel]
      by_cases hc : actF (l.take A) = true ∧ b = 41
      · rw [if_pos hc, if_pos hc]
        unfold loopV
        cases numsF (splitC 44 ((l.drop (A + 1)).take (m - (A + 1)))) with
        | none => rfl
        | some vs => by_cases h1 : vs.all isV = true <;> by_cases h2 : vs.length ≤ 2 <;> simp [h1, h2]
      · rw [if_neg hc, if_neg hc]
    have hA40 : A = m → b = 40 := by
      intro e
      rw [hA] at hs40
      have h1 : l[A]? = some 40 := by
        have hl1 : (l.take A).length = A := by simp; omega
        rw [hs40, List.getElem?_append_right (by omega), hl1]; simp
      subst e
      rw [List.getElem?_eq_getElem (by omega), hb] at h1
      exact Option.some.inj h1
    have hext2 := extract_list l (A + 1) m
    rw [hA] at S1
    have hnl : (l.take A).length ≤ 2000000 := by simp; omega
    have hil : ((l.drop (A + 1)).take (m - (A + 1))).length ≤ 2000000 := by simp; omega
    have S2 := Lib.hid (actionS (l.take A) w hnl)
    have S3 := Lib.hid (show Calls Tryz.prog 87 #[es ((l.drop (A + 1)).take (m - (A + 1))), .int .u8 ((44 : UInt8).toNat : Int)] w (fun e w' => (∃ v', e = .returned v' ∧ New RS w w' v' (splitC 44 ((l.drop (A + 1)).take (m - (A + 1))))) ∧ Upd [] w w') from splitS _ 44 w hil)
    generalize l.take A = nm at *
    generalize (l.drop (A + 1)).take (m - (A + 1)) = inr5 at *
    obtain ⟨hpc1, hpc2⟩ := splitC_len' 44 inr5
    have HPC := Lib.hid (show ∀ p ∈ splitC 44 inr5, p.length ≤ 2000000 from fun p hp => Nat.le_trans (hpc2 p hp) hil)
    have hpc3 : (splitC 44 inr5).length ≤ 2000001 := by omega
    generalize splitC 44 inr5 = ps at *
    have gA : ((A : Int) == (m : Int) + 1) = false := by rw [beq_eq_false_iff_ne]; omega
    have hA1 : A < m + 1 := by omega
    clear hat hs40 hno hA hb hlast hpc1 hpc2 hle
    cases ha : actF nm with
    | false =>
      have HS := Lib.hid (show readF l = none by
        have h1 := HI.out
        rw [hsp, if_neg (by rw [ha]; simp)] at h1
        cases hr : readF l with
        | none => rfl
        | some x => rw [hr] at h1; cases h1)
      rw [ha] at S2
      clear hsp ha HV HI hA40 S3
      go_enter Tryz.func79, Tryz.ntmps79
      go_wp2_with fail
      refine S1.out.mono ?_
      rintro e w1 ⟨rfl, rfl⟩
      clear S1
      go_wp2_with fail
      refine S2.out.mono ?_
      rintro e w1 ⟨rfl, rfl⟩
      clear S2
      go_wp2_with fail
      go_ret2
      exact ⟨⟨_, [], by rw [HS.out]; rfl, new_nil _ _, Lib.hid (fun us hus => by rw [HS.out] at hus; cases hus)⟩, Upd.refl _ _⟩
    | true =>
      rw [ha] at S2
      by_cases h41 : b = 41
      · have hAlt : A + 1 ≤ m := by
          rcases Nat.lt_or_ge A m with h | h
          · exact h
          · have := hA40 (by omega); rw [h41] at this; cases this
        rw [if_pos ⟨ha, h41⟩] at hsp
        have HSP := Lib.hid hsp
        subst h41
        clear hsp ha hA40
        go_enter Tryz.func79, Tryz.ntmps79
        go_wp2_with fail
        refine S1.out.mono ?_
        rintro e w1 ⟨rfl, rfl⟩
        clear S1
        go_wp2_with fail
        refine S2.out.mono ?_
        rintro e w1 ⟨rfl, rfl⟩
        clear S2
        go_wp2_with fail
        refine S3.out.mono ?_
        rintro e w3 ⟨⟨v3, rfl, fq, hq1, hq2, hq3⟩, hu3⟩
        obtain ⟨a3, c3, rfl, hc1, hc2, -⟩ := slF1_open hq1
        unfold maxLen at hc2
        have HR := Lib.hid hq1
        have hlit := World.ownsRow_lit (base := w3.heap.size) (e := 2) (size := 1) w3 #[] 0 (Nat.le_refl _) (by simp [maxLen]) (by simp)
        have HLIT := Lib.hid hlit
        have HU3 := Lib.hid hu3
        have hsz3 := hu3.size
        clear S3 hq1 hq2 hq3 hu3 hlit
        go_wp2_with fail
        go_loopw [6, 7] (fun ov iv wr => ∃ (k : Nat) (ns : List Int), k ≤ ps.length ∧ iv = .int .i64 k ∧ ns.length = k ∧ Hid (loopV ps = (loopV (ps.drop k)).map (ns ++ ·)) ∧ Hid (wr.ownsRow w3.heap.size 2 1 ov k (ns.map ei)) ∧ Upd [] w3 wr) (fun _ iv _ => ps.length - (intOf iv).toNat)
        case atStart => exact ⟨0, [], by omega, rfl, rfl, Lib.hid (by simp), HLIT, (Upd.refl _ _).alloc _⟩
        case round =>
          clear HLIT
          obtain ⟨k, ns, hk, rfl, hnl2, hF, hown, hU⟩ := hrel
          have HNL := Lib.hid hnl2
          clear hnl2
          have hszr := hU.size
          by_cases hlt : k < ps.length
          · obtain ⟨a', cap', hv, -, -, hc⟩ := slF1_open ((slF_kept _ _).upd HR.out hU (by simp))
            cases hv
            obtain ⟨b1, o1, rfl, -, -, p1⟩ := hc k hlt
            have hF1 := hF.out
            rw [List.drop_eq_getElem_cons hlt, loopV_cons] at hF1
            have hpk := HPC.out ps[k] (List.getElem_mem hlt)
            have HF := Lib.hid hF1
            have HU := Lib.hid hU
            clear hF1 hF hc hU
            generalize ps[k] = s at *
            have T1 := Lib.hid (numberS s wr hpk)
            cases hn : numF s with
            | none =>
              rw [hn] at HF
              have HRF := Lib.hid (show readF l = none by
                have h1 := HI.out
                rw [HSP.out, HF.out] at h1
                cases hr : readF l with
                | none => rfl
                | some x => rw [hr] at h1; cases h1)
              have T1' := T1.out
              unfold NumS at T1'
              rw [hn] at T1'
              have T2 := Lib.hid T1'
              clear HF T1 T1' hn
              go_wp2_with fail
              refine T2.out.mono ?_
              rintro e w5 ⟨rfl, rfl⟩
              clear T2
              go_wp2_with fail
              go_ret2
              exact ⟨⟨_, [], by rw [HRF.out]; rfl, new_nil _ _, Lib.hid (fun us hus => by rw [HRF.out] at hus; cases hus)⟩, HU3.out.trans HU.out⟩
            | some x =>
              rw [hn] at HF
              have T1' := T1.out
              unfold NumS at T1'
              rw [hn] at T1'
              have T2 := Lib.hid T1'
              have T3 := Lib.hid (inS x wr)
              clear T1 T1' hn
              cases hx : isV x with
              | false =>
                have HRF := Lib.hid (show readF l = none by
                  have h1 := HI.out
                  rw [HSP.out, HF.out] at h1
                  simp only [Option.bind_some, hx, Bool.false_eq_true, if_false] at h1
                  cases hr : readF l with
                  | none => rfl
                  | some x => rw [hr] at h1; cases h1)
                rw [hx] at T3
                clear HF hx
                go_wp2_with fail
                refine T2.out.mono ?_
                rintro e w5 ⟨rfl, rfl⟩
                clear T2
                simp only [Option.getD_some, Option.isSome_some]
                go_wp2_with fail
                refine T3.out.mono ?_
                rintro e w5 ⟨rfl, rfl⟩
                clear T3
                go_wp2_with fail
                go_ret2
                exact ⟨⟨_, [], by rw [HRF.out]; rfl, new_nil _ _, Lib.hid (fun us hus => by rw [HRF.out] at hus; cases hus)⟩, HU3.out.trans HU.out⟩
              | true =>
                have HN := Lib.hid (show loopV ps = (loopV (ps.drop (k + 1))).map ((ns ++ [x]) ++ ·) by
                  rw [HF.out]
                  simp only [Option.bind_some, hx, if_true]
                  cases loopV (ps.drop (k + 1)) <;> simp)
                rw [hx] at T3
                have hown3 := hown.out
                clear HF hx hown
                go_wp2_with fail
                refine T2.out.mono ?_
                rintro e w5 ⟨rfl, rfl⟩
                clear T2
                simp only [Option.getD_some, Option.isSome_some]
                go_wp2_with fail
                refine T3.out.mono ?_
                rintro e w5 ⟨rfl, rfl⟩
                clear T3
                go_wp2_with (first
                  | (at_builtin; refine wpList_append_tight _ rfl _ _ 76 rfl w3.heap.size 2 i1 (.int .i64 0) 1 8 Tryz.underlying76 ki kz0 kz1 kz2 rfl (by decide) _ _ _ rfl (hown3.alloc _) ⟨wr.heap.size, 0, none⟩ 1 1 [ei x] rfl rfl (fun j u hj => by rw [addr_add]; exact cell_new wr #[ei x] _ _ rfl _ _ (by simpa using hj)) (by simp [Value.oneCell']) (by unfold maxLen; omega) (by omega) (by simp; omega) ?_)
                  | fail)
                intro v4 w4 hown4 hg4 ht4
                have hu4 := (HU.out.alloc _).grown hg4 (fun b hb => Or.inl (by have := (hown3.lt b hb).1; omega))
                have HQ := Lib.hid (And.intro hown4 hu4)
                clear hown4 hg4 ht4 hu4 hown3
                go_wp2_with fail
                go_roundw
                case rel => exact ⟨k + 1, ns ++ [x], by omega, by go_num, by simp [HNL.out], HN, Lib.hid (by simpa using HQ.out.1), HQ.out.2⟩
                case measure => simp [intOf]; omega
          · obtain rfl : k = ps.length := by omega
            have hF1 := hF.out
            rw [List.drop_of_length_le (Nat.le_refl _)] at hF1
            have hl0 : loopV ps = some ns := by rw [hF1]; simp [loopV, numsF]
            have hs2 : specV l = if ns.length ≤ 2 then some ns else none := by rw [HSP.out, hl0]; rfl
            rw [HNL.out] at hs2
            have HS := Lib.hid (show (readF l).isSome = decide (ps.length ≤ 2) by
              rw [HI.out, hs2]
              by_cases h : ps.length ≤ 2 <;> simp [h])
            have HU5 := Lib.hid (show ∀ us, (readF l).map (·.2) = some us → ns = us by
              intro us hus
              rw [HV.out, hs2] at hus
              split at hus
              · simpa using hus
              · cases hus)
            obtain ⟨a6, c6, hv6⟩ := ownsRow_form hown.out
            have HQ := Lib.hid (And.intro ((New.ofOwns (w := w3) (e := 2) (enc := ei) (xs := ns) (by rw [HNL.out]; exact hown.out)).mono hsz3) (HU3.out.trans hU))
            subst hv6
            clear hown hU hF hF1 hl0 hs2
            by_cases h2 : ps.length ≤ 2
            · rw [decide_eq_true h2] at HS
              have h2' : (ps.length : Int) ≤ 2 := by omega
              go_wp2_with fail
              go_ret2
              exact ⟨⟨_, ns, by rw [HS.out]; rfl, HQ.out.1, HU5⟩, HQ.out.2⟩
            · rw [decide_eq_false h2] at HS
              have h2' : ¬ (ps.length : Int) ≤ 2 := by omega
              go_wp2_with fail
              go_ret2
              exact ⟨⟨_, ns, by rw [HS.out]; rfl, HQ.out.1, HU5⟩, HQ.out.2⟩
      · have hne : ((b.toNat : Int) == 41) = false := byte_ne (n := 41) (by omega) h41
        have HS := Lib.hid (show readF l = none by
          have h1 := HI.out
          rw [hsp, if_neg (fun h => h41 h.2)] at h1
          cases hr : readF l with
          | none => rfl
          | some x => rw [hr] at h1; cases h1)
        clear hsp ha HV HI hA40 S3
        go_enter Tryz.func79, Tryz.ntmps79
        go_wp2_with fail
        refine S1.out.mono ?_
        rintro e w1 ⟨rfl, rfl⟩
        clear S1
        go_wp2_with fail
        refine S2.out.mono ?_
        rintro e w1 ⟨rfl, rfl⟩
        clear S2
        go_wp2_with fail
        go_ret2
        exact ⟨⟨_, [], by rw [HS.out]; rfl, new_nil _ _, Lib.hid (fun us hus => by rw [HS.out] at hus; cases hus)⟩, Upd.refl _ _⟩

end Go.Proofs.YtaahjpmndkcijaaGreatDoor

/-
  Names and labels: what the program's calls return.
-/
namespace Go.Proofs.YtaahjpmndkcijaaGreatDoor
open Go.RowKit

theorem isDigitI (b : UInt8) (w : World) : Calls Tryz.prog 68 #[.int .u8 (b.toNat : Int)] w fun e w' => e = .returned (.bool (isDig b)) ∧ w = w' := by
  by_cases h1 : 48 ≤ b.toNat
  · by_cases h2 : b.toNat ≤ 57
    · have HR := Lib.hid (show isDig b = true by simp [isDig]; omega)
      have g1 : (48 : Int) ≤ (b.toNat : Int) := by omega
      have g2 : (b.toNat : Int) ≤ 57 := by omega
      go_enter Tryz.func68, Tryz.ntmps68
      go_wp2_with fail
      go_ret
      exact ⟨by rw [HR.out]; rfl, rfl⟩
    · have HR := Lib.hid (show isDig b = false by simp [isDig]; omega)
      have g1 : (48 : Int) ≤ (b.toNat : Int) := by omega
      have g2 : ¬ (b.toNat : Int) ≤ 57 := by omega
      go_enter Tryz.func68, Tryz.ntmps68
      go_wp2_with fail
      go_ret
      exact ⟨by rw [HR.out]; rfl, rfl⟩
  · have HR := Lib.hid (show isDig b = false by simp [isDig]; omega)
    have g1 : ¬ (48 : Int) ≤ (b.toNat : Int) := by omega
    go_enter Tryz.func68, Tryz.ntmps68
    go_wp2_with fail
    go_ret
    exact ⟨by rw [HR.out]; rfl, rfl⟩

set_option maxRecDepth 20000 in
set_option maxHeartbeats 2000000 in
theorem isNameI (l : List UInt8) (w : World) (hl : l.length ≤ 2000000) : Calls Tryz.prog 91 #[es l] w fun e w' => e = .returned (.bool (nameF l)) ∧ w = w' := by
  go_enter Tryz.func91, Tryz.ntmps91
  go_wp2_with fail
  go_loop [7] (fun i => ∃ k : Nat, k ≤ l.length ∧ i = .int .i64 k ∧ Hid (∀ j (hj : j < k) (hj2 : j < l.length), (sml l[j] || (decide (0 < j) && isDig l[j])) = true)) (fun i => l.length - (intOf i).toNat)
  case atStart => exact ⟨0, Nat.zero_le _, rfl, Lib.hid (fun j hj => by omega)⟩
  case round =>
    obtain ⟨k, hk, rfl, HQ⟩ := hrel
    by_cases hlt : k < l.length
    · obtain ⟨b, hb⟩ : ∃ b, l[k] = b := ⟨_, rfl⟩
      have hix : (⟨l.toArray⟩ : ByteArray)[k]'(by simpa [ByteArray.size] using hlt) = b := by rw [← hb]; simp [ByteArray.getElem_eq_getElem_data]
      have HB := Lib.hid hb
      have S1 := Lib.hid (isDigitI b w)
      clear hb
      have hno : (sml b || (decide (0 < k) && isDig b)) = false → nameF l = false := by
        intro h
        cases hn : nameF l with
        | false => rfl
        | true =>
          exfalso
          have hn' := hn
          unfold nameF at hn'
          simp only [Bool.and_eq_true] at hn'
          rw [Bool.or_eq_false_iff] at h
          by_cases h0 : k = 0
          · subst h0
            have e0 : l.headD 0 = b := by rw [← HB.out]; cases l with
              | nil => simp at hlt
              | cons x l => rfl
            have := hn'.1.2
            rw [e0, h.1] at this; cases this
          · have := List.all_eq_true.1 hn'.2 b (by rw [← HB.out]; exact List.getElem_mem hlt)
            rw [h.1] at this
            have h3 := h.2
            rw [decide_eq_true (by omega : 0 < k)] at h3
            simp at h3 this
            rw [h3] at this; cases this
      have HNO := Lib.hid hno
      have hstep : (sml b || (decide (0 < k) && isDig b)) = true → ∀ j (hj : j < k + 1) (hj2 : j < l.length), (sml l[j] || (decide (0 < j) && isDig l[j])) = true := by
        intro h j hj hj2
        by_cases e : j = k
        · subst e; rw [HB.out]; exact h
        · exact HQ.out j (by omega) hj2
      have HST := Lib.hid hstep
      clear hno hstep HQ HB
      by_cases hs : sml b = true
      · have hs' : 97 ≤ b.toNat ∧ b.toNat ≤ 122 := by simpa [sml] using hs
        have g1 : (97 : Int) ≤ (b.toNat : Int) := by omega
        have g2 : (b.toNat : Int) ≤ 122 := by omega
        have g3 : ¬ (122 : Int) < (b.toNat : Int) := by omega
        have HR := Lib.hid (HST.out (by rw [hs]; rfl))
        clear S1 HNO HST hs hs'
        go_wp2_with fail
        go_round
        case rel => exact ⟨k + 1, by omega, by go_num, HR⟩
        case measure => simp [intOf]; omega
      · have hs0 : sml b = false := by simpa using hs
        have HS0 := Lib.hid hs0
        have hs' : ¬ (97 ≤ b.toNat ∧ b.toNat ≤ 122) := by simpa [sml] using hs
        clear hs hs0
        by_cases h0 : k = 0
        · subst h0
          have HR := Lib.hid (HNO.out (by rw [HS0.out]; rfl))
          clear S1 HNO HST
          by_cases g1 : (97 : Int) ≤ (b.toNat : Int)
          · have g2 : ¬ (b.toNat : Int) ≤ 122 := by omega
            have g3 : (122 : Int) < (b.toNat : Int) := by omega
            clear hs'
            go_wp2_with fail
            go_ret
            exact ⟨by rw [HR.out]; rfl, rfl⟩
          · clear hs'
            go_wp2_with fail
            go_ret
            exact ⟨by rw [HR.out]; rfl, rfl⟩
        · have h0' : ((k : Int) == 0) = false := by simp; omega
          cases hd : isDig b with
          | true =>
            have HR := Lib.hid (HST.out (by rw [HS0.out, hd, decide_eq_true (by omega : 0 < k)]; rfl))
            rw [hd] at S1
            clear HNO HST hd
            by_cases g1 : (97 : Int) ≤ (b.toNat : Int)
            · have g2 : ¬ (b.toNat : Int) ≤ 122 := by omega
              have g3 : (122 : Int) < (b.toNat : Int) := by omega
              clear hs'
              go_wp2_with fail
              refine S1.out.mono ?_
              rintro e w1 ⟨rfl, rfl⟩
              go_wp2_with fail
              go_round
              case rel => exact ⟨k + 1, by omega, by go_num, HR⟩
              case measure => simp [intOf]; omega
            · clear hs'
              go_wp2_with fail
              refine S1.out.mono ?_
              rintro e w1 ⟨rfl, rfl⟩
              go_wp2_with fail
              go_round
              case rel => exact ⟨k + 1, by omega, by go_num, HR⟩
              case measure => simp [intOf]; omega
          | false =>
            have HR := Lib.hid (HNO.out (by rw [HS0.out, hd]; simp))
            rw [hd] at S1
            clear HNO HST hd
            by_cases g1 : (97 : Int) ≤ (b.toNat : Int)
            · have g2 : ¬ (b.toNat : Int) ≤ 122 := by omega
              have g3 : (122 : Int) < (b.toNat : Int) := by omega
              clear hs'
              go_wp2_with fail
              refine S1.out.mono ?_
              rintro e w1 ⟨rfl, rfl⟩
              go_wp2_with fail
              go_ret
              exact ⟨by rw [HR.out]; rfl, rfl⟩
            · clear hs'
              go_wp2_with fail
              refine S1.out.mono ?_
              rintro e w1 ⟨rfl, rfl⟩
              go_wp2_with fail
              go_ret
              exact ⟨by rw [HR.out]; rfl, rfl⟩
    · obtain rfl : k = l.length := by omega
      have hfin : nameF l = (decide (1 ≤ l.length) && decide (l.length ≤ 10)) := by
        have hq := HQ.out
        unfold nameF
        by_cases h1 : 1 ≤ l.length
        · have e0 : l.headD 0 = l[0] := by cases l with
            | nil => simp at h1
            | cons x l => rfl
          have q0 := hq 0 (by omega) (by omega)
          simp only [Nat.lt_irrefl, decide_false, Bool.false_and, Bool.or_false] at q0
          have hall : l.all (fun c => sml c || isDig c) = true := by
            rw [List.all_eq_true]
            intro x hx
            obtain ⟨j, hj, rfl⟩ := List.mem_iff_getElem.1 hx
            have := hq j hj hj
            revert this
            cases sml l[j] <;> cases isDig l[j] <;> simp
          rw [e0, q0, hall]; simp
        · rw [decide_eq_false h1]; simp
      have HF := Lib.hid hfin
      clear hfin HQ
      by_cases h1 : 1 ≤ l.length
      · have g1 : (1 : Int) ≤ (l.length : Int) := by omega
        by_cases h2 : l.length ≤ 10
        · have HR := Lib.hid (show nameF l = true by rw [HF.out, decide_eq_true h1, decide_eq_true h2]; rfl)
          have g2 : (l.length : Int) ≤ 10 := by omega
          go_wp2_with fail
          go_ret
          exact ⟨by rw [HR.out]; rfl, rfl⟩
        · have HR := Lib.hid (show nameF l = false by rw [HF.out, decide_eq_true h1, decide_eq_false h2]; rfl)
          have g2 : ¬ (l.length : Int) ≤ 10 := by omega
          go_wp2_with fail
          go_ret
          exact ⟨by rw [HR.out]; rfl, rfl⟩
      · have HR := Lib.hid (show nameF l = false by rw [HF.out, decide_eq_false h1]; rfl)
        have g1 : ¬ (1 : Int) ≤ (l.length : Int) := by omega
        go_wp2_with fail
        go_ret
        exact ⟨by rw [HR.out]; rfl, rfl⟩

end Go.Proofs.YtaahjpmndkcijaaGreatDoor

/-
  Reading numbers, texts and edges, plainly: a reader of a given number of bytes a number.
-/
namespace Go.Proofs.YtaahjpmndkcijaaGreatDoor
open Go.RowKit

end Go.Proofs.YtaahjpmndkcijaaGreatDoor

/-
  Expressions as trees: how a tree lies in memory; the terms of a tree in order; a valid list of terms is one tree's.
-/
namespace Go.Proofs.YtaahjpmndkcijaaGreatDoor
open Go.RowKit

end Go.Proofs.YtaahjpmndkcijaaGreatDoor

/-
  The terms of a tree in order; a tree out of terms: what each call returns and makes.
-/
namespace Go.Proofs.YtaahjpmndkcijaaGreatDoor
open Go.RowKit

end Go.Proofs.YtaahjpmndkcijaaGreatDoor

/-
  OperandsOf, both sides.
-/
namespace Go.Proofs.YtaahjpmndkcijaaGreatDoor
open Go.RowKit

theorem slF_sub {α : Type} {n : Nat} {enc : α → List Value} (he : ∀ x, (enc x).length = n) {fp : List Nat} {w : World} {b off len cap : Nat} {xs : List α}
    (h : slF n enc fp w [.slice (some ⟨b, off, none⟩) len cap] xs) (i j : Nat) (hij : i ≤ j) (hj : j ≤ xs.length) :
    ∃ fp', slF n enc fp' w [.slice (some ⟨b, off + i * n, none⟩) (j - i) (cap - i)] ((xs.take j).drop i) ∧ (∀ c ∈ fp', c ∈ fp) := by
  obtain ⟨v, hv, a, cap', hv2, h1, h2, h3, h4⟩ := h
  cases hv
  simp only [Value.slice.injEq] at hv2
  obtain ⟨rfl, rfl, rfl⟩ := hv2
  have hfl : ∀ ys : List α, (ys.flatMap enc).length = ys.length * n := by
    intro ys
    induction ys with
    | nil => simp
    | cons y ys ih => rw [List.flatMap_cons, List.length_append, he, ih, List.length_cons, Nat.add_mul]; omega
  have hlen : ((xs.take j).drop i).length = j - i := by simp; omega
  rcases h4 with ⟨h0, rfl⟩ | ⟨b', off', hb', rfl, hbl, hc⟩
  · have : j = 0 := by omega
    subst this
    obtain rfl : i = 0 := by omega
    exact ⟨[], ⟨_, rfl, some ⟨b, off + 0 * n, none⟩, cap - 0, by simp, by simp, by omega, by simp, Or.inl ⟨by simp, rfl⟩⟩, by simp⟩
  · simp only [Option.some.injEq, Addr.mk.injEq, and_true] at hb'
    obtain ⟨rfl, rfl⟩ := hb'
    refine ⟨[b], ⟨_, rfl, some ⟨b, off + i * n, none⟩, cap - i, by rw [hlen], by omega, by omega, hfl _, Or.inr ⟨b, off + i * n, rfl, rfl, hbl, fun q u hu => ?_⟩⟩, by simp⟩
    have e1 : xs.flatMap enc = (xs.take i).flatMap enc ++ (((xs.take j).drop i).flatMap enc ++ (xs.drop j).flatMap enc) := by
      rw [← List.flatMap_append, ← List.flatMap_append]
      congr 1
      rw [← List.append_assoc]
      conv => lhs; rw [← List.take_append_drop j xs]
      congr 1
      conv => lhs; rw [← List.take_append_drop i (xs.take j)]
      rw [List.take_take, Nat.min_eq_left hij]
    have hti : ((xs.take i).flatMap enc).length = i * n := by rw [hfl]; congr 1; simp; omega
    have hq : q < (((xs.take j).drop i).flatMap enc).length := (List.getElem?_eq_some_iff.1 hu).1
    have := hc (i * n + q) u (by rw [e1, List.getElem?_append_right (by omega), hti, Nat.add_sub_cancel_left, List.getElem?_append_left hq]; exact hu)
    rw [Nat.add_assoc]; exact this

end Go.Proofs.YtaahjpmndkcijaaGreatDoor

/-
  Postfix form: the stack of trees, plainly.
-/
namespace Go.Proofs.YtaahjpmndkcijaaGreatDoor

end Go.Proofs.YtaahjpmndkcijaaGreatDoor

/-
  Values of trees, and folding, plainly.
-/
namespace Go.Proofs.YtaahjpmndkcijaaGreatDoor

end Go.Proofs.YtaahjpmndkcijaaGreatDoor

/-
  Values of operations and of trees: what the calls return.
-/
namespace Go.Proofs.YtaahjpmndkcijaaGreatDoor
open Go.RowKit

end Go.Proofs.YtaahjpmndkcijaaGreatDoor

/-
  Folding, the program's side.
-/
namespace Go.Proofs.YtaahjpmndkcijaaGreatDoor
open Go.RowKit

end Go.Proofs.YtaahjpmndkcijaaGreatDoor

/-
  Folding, the reference's side.
-/
namespace Go.Proofs.YtaahjpmndkcijaaGreatDoor
open Go.RowKit

end Go.Proofs.YtaahjpmndkcijaaGreatDoor

/-
  The form's reading of bytes.
-/
namespace Go.Proofs.YtaahjpmndkcijaaGreatDoor
open Go.RowKit

end Go.Proofs.YtaahjpmndkcijaaGreatDoor

/-
  The expressions that the reference draws.
-/
namespace Go.Proofs.YtaahjpmndkcijaaGreatDoor
open Go.RowKit

end Go.Proofs.YtaahjpmndkcijaaGreatDoor

/-
  Canonical forms, plainly; forests of the rest of a valid list of terms.
-/
namespace Go.Proofs.YtaahjpmndkcijaaGreatDoor

end Go.Proofs.YtaahjpmndkcijaaGreatDoor

/-
  Comparing terms, small calls of Go's library, and canonical forms, the program's side.
-/
namespace Go.Proofs.YtaahjpmndkcijaaGreatDoor
open Go.RowKit

def IdxP (xs : List Int) (n : Int) (w : World) (e : Ending) (w' : World) : Prop := (∃ q : Int, e = .returned (.int .i64 q) ∧ -1 ≤ q ∧ q ≤ 9223372036854775807 ∧ (decide (0 ≤ q)) = xs.contains n) ∧ w = w'

set_option maxRecDepth 20000 in
set_option maxHeartbeats 1000000 in
theorem indexI (v : Value) (xs : List Int) (n : Int) (w : World) (fp : List Nat) (hR : R1 fp w [v] xs) :
    Calls Tryz.prog 71 #[v, .int .i64 n] w (IdxP xs n w) := by
  obtain ⟨a1, c1, rfl, hl1, hm1, hc1⟩ := slF1_open hR
  unfold maxLen at hm1
  clear hR
  go_enter Tryz.func71, Tryz.ntmps71
  go_wp2_with fail
  go_loop [8] (fun i => ∃ k : Nat, k ≤ xs.length ∧ i = .int .i64 k ∧ (xs.drop k).contains n = xs.contains n) (fun i => xs.length - (intOf i).toNat)
  case atStart => exact ⟨0, Nat.zero_le _, rfl, rfl⟩
  case round =>
    obtain ⟨k, hk, rfl, hF⟩ := hrel
    by_cases hlt : k < xs.length
    · obtain ⟨b1, o1, rfl, -, -, p1⟩ := hc1 k hlt
      rw [List.drop_eq_getElem_cons hlt] at hF
      have HF := Lib.hid hF
      clear hF hc1
      generalize xs[k] = x at *
      by_cases hx : n = x
      · subst hx
        go_wp2_with fail
        go_ret
        exact ⟨⟨k, rfl, by omega, by omega, by rw [← HF.out]; simp⟩, rfl⟩
      · have hx' : (n == x) = false := by simpa using hx
        go_wp2_with fail
        go_round
        case rel => exact ⟨k + 1, by omega, by go_num, by rw [← HF.out]; simp [hx]⟩
        case measure => simp [intOf]; omega
    · rw [List.drop_of_length_le (by omega)] at hF
      have HF := Lib.hid hF
      clear hF hc1
      go_wp2_with fail
      go_ret
      exact ⟨⟨-1, rfl, by omega, by omega, by rw [← HF.out]; simp⟩, rfl⟩

set_option maxRecDepth 20000 in
theorem containsI (v : Value) (xs : List Int) (n : Int) (w : World) (fp : List Nat) (hR : R1 fp w [v] xs) :
    Calls Tryz.prog 61 #[v, .int .i64 n] w fun e w' => e = .returned (.bool (xs.contains n)) ∧ w = w' := by
  have S2 := Lib.hid (indexI v xs n w fp hR)
  go_enter Tryz.func61, Tryz.ntmps61
  go_wp2_with fail
  refine S2.out.mono ?_
  rintro e w1 ⟨⟨q, rfl, h1, h2, h3⟩, rfl⟩
  have H3 := Lib.hid h3
  clear h3
  go_wp2_with fail
  go_ret
  exact ⟨by rw [← H3.out]; rfl, rfl⟩

end Go.Proofs.YtaahjpmndkcijaaGreatDoor

/-
  Canonical forms, the program's side.
-/
namespace Go.Proofs.YtaahjpmndkcijaaGreatDoor
open Go.RowKit

end Go.Proofs.YtaahjpmndkcijaaGreatDoor

/-
  What the laws FnForms and FnTerms need: drawn expressions, expressions held against each other, postfix form.
-/
namespace Go.Proofs.YtaahjpmndkcijaaGreatDoor
open Go.RowKit

end Go.Proofs.YtaahjpmndkcijaaGreatDoor

/-
  Lists of values, and whether all variables of an expression have one.
-/
namespace Go.Proofs.YtaahjpmndkcijaaGreatDoor
open Go.RowKit

end Go.Proofs.YtaahjpmndkcijaaGreatDoor

/-
  Evaluate: what the calls return for a valid expression and values for all its variables.
-/
namespace Go.Proofs.YtaahjpmndkcijaaGreatDoor
open Go.RowKit

end Go.Proofs.YtaahjpmndkcijaaGreatDoor

/-
  Evaluate, the reference's side.
-/
namespace Go.Proofs.YtaahjpmndkcijaaGreatDoor
open Go.RowKit

end Go.Proofs.YtaahjpmndkcijaaGreatDoor

/-
  Small numbers in decimal, plainly; a byte as a number.
-/
namespace Go.Proofs.YtaahjpmndkcijaaGreatDoor
open Go.RowKit

def smallF (lim : Int) (t : List UInt8) : Option Int := match numF t with | some n => if 0 ≤ n ∧ n < lim then some n else none | none => none
theorem byteU (b : UInt8) (k : Nat) (hk : k < 256) : ((b.toNat : Int) == (k : Int)) = (b == UInt8.ofNat k) := by
  rw [Bool.eq_iff_iff]
  simp only [beq_iff_eq]
  constructor
  · intro h
    have h2 : b.toNat = k := by omega
    rw [← h2]; simp
  · rintro rfl
    have : (UInt8.ofNat k).toNat = k := by simp; omega
    omega

end Go.Proofs.YtaahjpmndkcijaaGreatDoor

/-
  Readings of slices whose elements are several cells each and hold memory of their own.
-/
namespace Go.Proofs.YtaahjpmndkcijaaGreatDoor
open Go.RowKit

theorem flat_len {β : Type} {n : Nat} : ∀ {us : List (List β)}, (∀ u ∈ us, u.length = n) → us.flatten.length = us.length * n
  | [], _ => by simp
  | u :: us, h => by
    rw [List.flatten_cons, List.length_append, h u (by simp), flat_len (fun v hv => h v (by simp [hv])), List.length_cons, Nat.add_mul]
    omega
theorem flat_at {β : Type} {n : Nat} : ∀ {us : List (List β)}, (∀ u ∈ us, u.length = n) → ∀ {i : Nat} {u : List β}, us[i]? = some u → ∀ {j : Nat} {c : β}, u[j]? = some c → us.flatten[i * n + j]? = some c
  | [], _, i, u, hu, _, _, _ => by simp at hu
  | v :: us, h, i, u, hu, j, c, hc => by
    have hv := h v (by simp)
    rw [List.flatten_cons]
    cases i with
    | zero =>
      simp at hu; subst hu
      rw [Nat.zero_mul, Nat.zero_add, List.getElem?_append_left (List.getElem?_eq_some_iff.1 hc).1]; exact hc
    | succ i =>
      simp at hu
      rw [List.getElem?_append_right (by rw [Nat.add_mul]; omega), hv, show (i + 1) * n + j - n = i * n + j by rw [Nat.add_mul]; omega]
      exact flat_at (fun x hx => h x (by simp [hx])) hu hc

/-- A slice whose elements are n cells each, and hold memory of their own. -/
def slQ {α : Type} (n : Nat) (R : Rp α) : Rp (List α) := fun fp w cs xs =>
  ∃ (a : Option Addr) (cap : Nat) (us : List (List Value)) (fb : List Nat) (fps : List (List Nat)), cs = [.slice a xs.length cap] ∧ xs.length ≤ cap ∧ cap ≤ maxLen ∧ us.length = xs.length ∧ (∀ u ∈ us, u.length = n) ∧ fps.length = xs.length ∧ fp = fb ++ fps.flatten ∧
    ((xs.length = 0 ∧ fb = []) ∨ ∃ b off, a = some ⟨b, off, none⟩ ∧ fb = [b] ∧ b < w.heap.size ∧ ∀ (i j : Nat) (u : List Value) (c : Value), us[i]? = some u → u[j]? = some c → w.cell? ⟨b, off + i * n + j, none⟩ = some c) ∧
    ∀ i (h : i < xs.length) u (f : List Nat), us[i]? = some u → fps[i]? = some f → R f w u xs[i]

/-- Elements of several cells each, with memory of their own, from block base on and apart from the blocks ob. -/
def RowsQ {α : Type} (n : Nat) (R : Rp α) (base : Nat) (ob : List Nat) (w : World) (us : List (List Value)) (xs : List α) : Prop :=
  ∃ fps : List (List Nat), fps.length = xs.length ∧ us.length = xs.length ∧ (∀ u ∈ us, u.length = n) ∧ Own fps.flatten w ∧ (∀ b ∈ fps.flatten, base ≤ b ∧ b ∉ ob) ∧
    ∀ i (h : i < xs.length) u (f : List Nat), us[i]? = some u → fps[i]? = some f → R f w u xs[i]

/-- What a call makes anew, as several cells. -/
def NewQ {α : Type} (R : Rp α) (w w' : World) (u : List Value) (x : α) : Prop :=
  ∃ fp, R fp w' u x ∧ Own fp w' ∧ ∀ b ∈ fp, w.heap.size ≤ b

namespace RowsQ
variable {α : Type} {n : Nat} {R : Rp α} {base : Nat} {ob : List Nat} {w w1 : World} {us : List (List Value)} {xs : List α}

theorem nil (n : Nat) (R : Rp α) (base : Nat) (ob : List Nat) (w : World) : RowsQ n R base ob w [] [] := ⟨[], rfl, rfl, by simp, Own.nil w, by simp, by simp⟩
theorem length (h : RowsQ n R base ob w us xs) : us.length = xs.length := by obtain ⟨_, _, h, _⟩ := h; exact h
theorem each (h : RowsQ n R base ob w us xs) : ∀ u ∈ us, u.length = n := by obtain ⟨_, _, _, h, _⟩ := h; exact h
theorem flat (h : RowsQ n R base ob w us xs) : us.flatten.length = xs.length * n := by rw [flat_len h.each, h.length]

theorem upd (K : Kept R) (h : RowsQ n R base ob w us xs) {f : List Nat} (hu : Upd f w w1) (hf : ∀ b ∈ f, b ∈ ob ∨ b < base) : RowsQ n R base ob w1 us xs := by
  obtain ⟨fps, h1, h2, h6, h3, h4, h5⟩ := h
  have hd : ∀ b ∈ fps.flatten, b ∉ f := fun b hb hm => by
    rcases hf b hm with h | h
    · exact (h4 b hb).2 h
    · have := (h4 b hb).1; omega
  refine ⟨fps, h1, h2, h6, h3.upd hu hd, h4, fun i hi u f' hu' hf' => K.upd (h5 i hi u f' hu' hf') hu fun b hb => hd b (List.mem_flatten.2 ⟨_, List.mem_of_getElem? hf', hb⟩)⟩

theorem ob' (h : RowsQ n R base ob w us xs) {ob2 : List Nat} (hb : ∀ b ∈ ob2, b ∈ ob ∨ b < base ∨ w.heap.size ≤ b) : RowsQ n R base ob2 w us xs := by
  obtain ⟨fps, h1, h2, h6, h3, h4, h5⟩ := h
  refine ⟨fps, h1, h2, h6, h3, fun b hb' => ⟨(h4 b hb').1, fun hm => ?_⟩, h5⟩
  rcases hb b hm with h | h | h
  · exact (h4 b hb').2 h
  · have := (h4 b hb').1; omega
  · have := h3.lt b hb'; omega

theorem push (K : Kept R) (h : RowsQ n R base ob w us xs) {u : List Value} {x : α} (hu : Upd [] w w1) (hn : NewQ R w w1 u x) (hl : u.length = n) (hb : base ≤ w.heap.size) (hob : ∀ b ∈ ob, b < w.heap.size) :
    RowsQ n R base ob w1 (us ++ [u]) (xs ++ [x]) := by
  obtain ⟨fps, h1, h2, h6, h3, h4, h5⟩ := h.upd K hu (by simp)
  obtain ⟨fps', h1', h2', h6', h3', h4', h5'⟩ := h
  obtain ⟨fp, g1, g2, g3⟩ := hn
  have hlt : ∀ b ∈ fps'.flatten, b < w.heap.size := h3'.lt
  refine ⟨fps' ++ [fp], by simp [h1'], by simp [h2], ?_, ⟨?_, ?_⟩, ?_, ?_⟩
  · intro v hv
    rcases List.mem_append.1 hv with hv | hv
    · exact h6 v hv
    · simp at hv; subst hv; exact hl
  · rw [List.flatten_append, List.nodup_append]
    refine ⟨h3'.1, by simpa using g2.1, fun a ha b hb' e => ?_⟩
    subst e
    have := hlt a ha
    have := g3 a (by simpa using hb')
    omega
  · intro b hb'
    rw [List.flatten_append] at hb'
    rcases List.mem_append.1 hb' with hb' | hb'
    · exact (h3'.upd hu (by simp)).2 b hb'
    · exact g2.2 b (by simpa using hb')
  · intro b hb'
    rw [List.flatten_append] at hb'
    rcases List.mem_append.1 hb' with hb' | hb'
    · exact h4' b hb'
    · have := g3 b (by simpa using hb')
      exact ⟨by omega, fun hm => by have := hob b hm; omega⟩
  · intro i hi u' f' hu' hf'
    by_cases e : i < xs.length
    · rw [List.getElem?_append_left (by omega)] at hu' hf'
      rw [List.getElem_append_left e]
      exact K.upd (h5' i e u' f' hu' hf') hu (by simp)
    · have ei : i = xs.length := by simp at hi; omega
      subst ei
      rw [List.getElem?_append_right (by omega)] at hu' hf'
      rw [h2, Nat.sub_self] at hu'
      rw [h1', Nat.sub_self] at hf'
      simp at hu' hf'
      subst hu' hf'
      simpa using g1

theorem new (h : RowsQ n R base ob w us xs) {w0 : World} {e : TypeId} {v : Value} (ho : w.ownsRow w0.heap.size e n v xs.length us.flatten) (hob : ∀ b, v.ownBlock = some b → b ∈ ob) (hb : w0.heap.size ≤ base) :
    New (slQ n R) w0 w v xs := by
  obtain ⟨fps, h1, h2, h6, h3, h4, h5⟩ := h
  obtain ⟨fb, ⟨a, cap, rfl, q1, q2, -, q4⟩, g2, g3, g4⟩ := Flat.ofOwns ho
  refine ⟨fb ++ fps.flatten, ⟨a, cap, us, fb, fps, rfl, q1, q2, h2, h6, h1, rfl, ?_, h5⟩, ⟨?_, ?_⟩, ?_⟩
  · rcases q4 with q4 | ⟨b, off, rfl, rfl, hbl, hc⟩
    · exact Or.inl q4
    · refine Or.inr ⟨b, off, rfl, rfl, hbl, fun i j u c hu hj => ?_⟩
      rw [Nat.add_assoc]
      exact hc _ _ (flat_at h6 hu hj)
  · rw [List.nodup_append]
    refine ⟨g2.1, h3.1, fun a ha b hb' e => ?_⟩
    subst e
    exact (h4 a hb').2 (hob a (g4 a ha))
  · intro b hb'
    rcases List.mem_append.1 hb' with hb' | hb'
    · exact g2.2 b hb'
    · exact h3.2 b hb'
  · intro b hb'
    rcases List.mem_append.1 hb' with hb' | hb'
    · exact g3 b hb'
    · have := (h4 b hb').1; omega
end RowsQ

theorem Upd.cellF {f : List Nat} {w w1 : World} {b : Nat} (hu : Upd f w w1) (hb : b ∉ f) (hl : b < w.heap.size) (o : Nat) : w1.cell? ⟨b, o, none⟩ = w.cell? ⟨b, o, none⟩ := by
  unfold World.cell?
  rw [hu.block b hl hb]
theorem Upd.row {f : List Nat} {w w1 : World} (h : Upd f w w1) {g : Nat} (hg : w.heap.size ≤ g ∨ g ∈ f) (cs : Array Value) : Upd f w (w1.setRow g cs) :=
  h.fresh (f := [g]) ⟨rfl, rfl, rfl, by simp [World.setRow], fun k _ hf => setRow_other _ _ _ _ (by simpa using hf)⟩ (by simpa using hg)
/-- memory made between two worlds, as it lies later. -/
structure Part {α : Type} (R : Rp α) (lo hi : Nat) (w : World) (v : Value) (x : α) (fp : List Nat) : Prop where
  r : R fp w [v] x
  o : Own fp w
  b : ∀ b ∈ fp, lo ≤ b ∧ b < hi
theorem Part.of {α : Type} {R : Rp α} (K : Kept R) {w w1 : World} {v : Value} {x : α} (h : New R w w1 v x) : ∃ fp, Part R w.heap.size w1.heap.size w1 v x fp := by
  obtain ⟨fp, h1, h2, h3⟩ := h
  exact ⟨fp, h1, h2, fun b hb => ⟨h3 b hb, K.lt h1 b hb⟩⟩
theorem Part.upd {α : Type} {R : Rp α} (K : Kept R) {lo hi : Nat} {w w1 : World} {v : Value} {x : α} {fp f : List Nat} (h : Part R lo hi w v x fp) (hu : Upd f w w1) (hf : ∀ b ∈ f, b < lo ∨ hi ≤ b) : Part R lo hi w1 v x fp := by
  have hd : ∀ b ∈ fp, b ∉ f := fun b hb hm => by have := h.b b hb; have := hf b hm; omega
  exact ⟨K.upd h.r hu hd, h.o.upd hu hd, h.b⟩
/-- outside of a part of block b the cells are as they were. -/
def FarEq (w w' : World) (b lo hi : Nat) : Prop := ∀ o, (o < lo ∨ hi ≤ o) → w'.cell? ⟨b, o, none⟩ = w.cell? ⟨b, o, none⟩
theorem FarEq.refl (w : World) (b lo hi : Nat) : FarEq w w b lo hi := fun _ _ => rfl
theorem FarEq.upd {w w1 w2 : World} {b lo hi : Nat} {f : List Nat} (h : FarEq w w1 b lo hi) (hu : Upd f w1 w2) (hb : b ∉ f) (hl : b < w1.heap.size) : FarEq w w2 b lo hi := fun o ho => (hu.cellF hb hl o).trans (h o ho)
theorem FarEq.put {w w1 w2 : World} {b lo hi j : Nat} (h : FarEq w w1 b lo hi) (hc : ∀ o, o ≠ j → w2.cell? ⟨b, o, none⟩ = w1.cell? ⟨b, o, none⟩) (hj : lo ≤ j ∧ j < hi) : FarEq w w2 b lo hi := fun o ho => (hc o (by omega)).trans (h o ho)

/-- three blocks in a row: what came in, the result's, and the one under way. -/
structure Three (w W : World) (T1 T2 : TypeId) (B : Nat) (p z o : List Value) : Prop where
  base : w.heap.size = B
  upd : Upd [] w W
  h0 : W.heap[B]? = some (.cells p.toArray T1 (0, 0))
  h1 : W.heap[B + 1]? = some (.cells z.toArray T2 (0, 0))
  h2 : W.heap[B + 2]? = some (.cells o.toArray T2 (0, 0))
namespace Three
variable {w W W' : World} {T1 T2 : TypeId} {B : Nat} {p z o : List Value}
theorem size (h : Three w W T1 T2 B p z o) : B + 2 < W.heap.size := (Array.getElem?_eq_some_iff.1 h.h2).1
theorem call (h : Three w W T1 T2 B p z o) (hu : Upd [] W W') : Three w W' T1 T2 B p z o :=
  ⟨h.base, h.upd.trans hu, by rw [hu.block _ (Array.getElem?_eq_some_iff.1 h.h0).1 (by simp)]; exact h.h0, by rw [hu.block _ (Array.getElem?_eq_some_iff.1 h.h1).1 (by simp)]; exact h.h1, by rw [hu.block _ (Array.getElem?_eq_some_iff.1 h.h2).1 (by simp)]; exact h.h2⟩
theorem store (h : Three w W T1 T2 B p z o) (j : Nat) (v : Value) : Three w (W.setCell ⟨B + 2, j, none⟩ v) T1 T2 B p z (o.set j v) := by
  refine ⟨h.base, h.upd.setCell (Or.inl (by rw [h.base]; simp)) _, ?_, ?_, ?_⟩
  · rw [Below.heap_setCell _ _ _ _ (by simp)]; exact h.h0
  · rw [Below.heap_setCell _ _ _ _ (by simp)]; exact h.h1
  · simp [World.setCell, Array.getElem?_modify, h.h2]
theorem pc (h : Three w W T1 T2 B p z o) (j : Nat) (c : Value) (hc : p[j]? = some c) : W.cell? ⟨B, j, none⟩ = some c := by simp [World.cell?, h.h0, hc]
theorem fz (h : Three w W T1 T2 B p z o) (j : Nat) : W.frozen? ⟨B + 2, j, none⟩ = false := by simp [World.frozen?, h.h2]
end Three

end Go.Proofs.YtaahjpmndkcijaaGreatDoor

/-
  Lists of numbers and lists of expressions under the names that the printed texts want.
-/
namespace Go.Proofs.YtaahjpmndkcijaaGreatDoor
open Go.RowKit

abbrev R_I1 : Rp (List Int) := R1
theorem R_I1k : Kept R_I1 := R1k
end Go.Proofs.YtaahjpmndkcijaaGreatDoor

/-
  Append of a whole slice to an owned row, whatever the slice: a law for the walks; slices.Clone and the reference's copies.
-/
namespace Go.Proofs.YtaahjpmndkcijaaGreatDoor
open Go.RowKit

section
variable {P : Program} {w : World}
theorem run_append_owned_empty (base : Nat) (t ty e : TypeId) (i : TypeInfo) (size : Nat) (ht : P.underlying t = some (.slice e)) (hi : P.info? e = some i)
    (v : Value) (n : Nat) (xs : List Value) (hown : w.ownsRow base e size v n xs) (a : Option Addr) (c : Nat) :
    (Builtin.append_ #[t, t] ty #[v, .slice a 0 c]).run P w = .ok v w := by
  have hf : (Builtin.firstCells i.size 0 (.slice a 0 c)).run P w = .ok #[] w := by
    cases a <;> simp [Builtin.firstCells, loadCells, loadCellsFrom]
  rcases hown.2 with ⟨rfl, rfl⟩ | ⟨g, cap, cur, rfl, _, _, hnc, _⟩
  · simp [Builtin.append_, run_underlying ht, sizeOf, typeInfo, hi, Builtin.lenOf, hf]
  · simp [Builtin.append_, run_underlying ht, sizeOf, typeInfo, hi, Builtin.lenOf, hf, hnc, storeCells]

theorem wpList_append_flat {ops : Array Oper} {rest : List Oper} {o : Oper} {a : Act} {Q : Exit → Act → World → Prop} (hgd : o.guard = none) (s x : Operand) (t : TypeId)
    (ho : o.op = .call { callee := .builtin .append, args := #[s, x], argTypes := #[t, t] })
    (base : Nat) (e : TypeId) (i : TypeInfo) (z : Value) (size bytes : Nat) (ht : P.underlying t = some (.slice e)) (hi : P.info? e = some i) (hz : i.zero = some z)
    (hsize : i.size = size) (hby : i.bytes = bytes) (hzs : z.cells.size = size) (hsz : 0 < size)
    (v : Value) (n : Nat) (xs : List Value) (hs : a.eval s = v) (hown : w.ownsRow base e size v n xs)
    (sv : Value) (m : Nat) (news : List Value) (hx : a.eval x = sv) (fp : List Nat) (hF : Flat fp w sv size m news) (h1 : ∀ u ∈ news, u.oneCell' = true)
    (h63 : n + m ≤ maxLen) (hbytes : (n + m) * bytes ≤ 140737488355328) (hbase : base ≤ w.heap.size)
    (h : ∀ v' w', w'.ownsRow base e size v' (n + m) (xs ++ news) → w.grownBy w' v.ownBlock → (∀ b, v'.ownBlock = some b → v.ownBlock = some b ∨ w.heap.size ≤ b) → wpList P ops Q rest (a.put o.dst v') w') : wpList P ops Q (o :: rest) a w := by
  obtain ⟨ad, cap, rfl, q1, q2, q3, q4⟩ := hF
  by_cases hm : m = 0
  · subst hm
    have hnil : news = [] := List.eq_nil_of_length_eq_zero (by simpa using q3)
    subst hnil
    refine wpList_plain hgd fun K hK => ?_
    have hrun := run_append_owned_empty (P := P) (w := w) base t o.type e i size ht hi v n xs hown ad cap
    unfold Oper.wp
    simp [execOp, ho, resolve, invoke, builtin, hs, hx, hrun, Result.andThen]
    exact hK _ _ (h v w (by simpa using hown) ⟨rfl, rfl, rfl, Nat.le_refl _, fun _ _ _ => rfl⟩ (fun b hb => Or.inl hb))
  · rcases q4 with ⟨h0, -⟩ | ⟨b, off, rfl, -, -, hc⟩
    · exact absurd h0 hm
    · exact wpList_append_tight w hgd s x t ho base e i z size bytes ht hi hz hsize hby hzs hsz v n xs hs hown ⟨b, off, none⟩ m cap news hx q3 (fun j u hj => by rw [addr_add]; exact hc j u hj) h1 h63 hbytes hbase h
end

theorem Flat.ofI1 {fp : List Nat} {w : World} {v : Value} {xs : List Int} (h : R_I1 fp w [v] xs) : Flat fp w v 1 xs.length (xs.map ei) := by
  obtain ⟨v', hv, hF⟩ := h
  cases hv
  rw [flatMap_single] at hF; exact hF
theorem one_I1 (xs : List Int) : ∀ u ∈ xs.map ei, u.oneCell' = true := by
  intro u hu
  obtain ⟨t, -, rfl⟩ := List.mem_map.1 hu
  rfl

end Go.Proofs.YtaahjpmndkcijaaGreatDoor

/-
  Texts: the program's end of digits.
-/
namespace Go.Proofs.YtaahjpmndkcijaaGreatDoor
open Go.RowKit

set_option maxRecDepth 20000 in
set_option maxHeartbeats 1000000 in
theorem digitsEndI (s : List UInt8) (n : Nat) (w : World) (hl : s.length ≤ 2000000) (hn : n ≤ s.length) :
    Calls Tryz.prog 69 #[es s, .int .i64 n] w fun e w' => e = .returned (.int .i64 ((n + ((s.drop n).takeWhile isDig).length : Nat) : Int)) ∧ Upd [] w w' := by
  have HD := Lib.hid isDigitI
  obtain ⟨Z, hZ⟩ : ∃ Z, n + ((s.drop n).takeWhile isDig).length = Z := ⟨_, rfl⟩
  rw [hZ]
  have HZ := Lib.hid hZ
  clear hZ
  go_enter Tryz.func69, Tryz.ntmps69
  go_wp2_with fail
  go_loopw [1] (fun iv wr => ∃ k : Nat, k ≤ s.length ∧ iv = .int .i64 k ∧ Hid (k + ((s.drop k).takeWhile isDig).length = Z) ∧ Hid (Upd [] w wr)) (fun iv _ => s.length - (intOf iv).toNat)
  case atStart => exact ⟨n, hn, rfl, HZ, Lib.hid (Upd.refl _ _)⟩
  case round =>
    clear HZ
    obtain ⟨wo, rfl⟩ : ∃ wo : World, wo = wr := ⟨_, rfl⟩
    obtain ⟨k, hk, rfl, HZ, HU⟩ := hrel
    by_cases hlt : k < s.length
    · obtain ⟨b, hb⟩ : ∃ b, s[k] = b := ⟨_, rfl⟩
      have hix : (⟨s.toArray⟩ : ByteArray)[k]'(by simpa [ByteArray.size] using hlt) = b := by rw [← hb]; simp [ByteArray.getElem_eq_getElem_data]
      have hkl : (k : Int) < (s.length : Int) := by omega
      have D1 := Lib.hid (HD.out b wo)
      have HT := Lib.hid (show (s.drop k).takeWhile isDig = if isDig b then b :: (s.drop (k + 1)).takeWhile isDig else [] by
        rw [List.drop_eq_getElem_cons hlt, hb, List.takeWhile_cons])
      generalize isDig b = q at *
      clear hb
      go_wp2_with fail
      refine D1.out.mono ?_
      rintro e w1 ⟨rfl, rfl⟩
      clear D1
      cases q with
      | true =>
        have HX := Lib.hid (show k + 1 + ((s.drop (k + 1)).takeWhile isDig).length = Z by have h1 := HZ.out; rw [HT.out, if_pos rfl, List.length_cons] at h1; omega)
        clear HT HZ
        go_wp2_with fail
        go_roundw
        case rel => exact ⟨k + 1, by omega, by go_num, HX, HU⟩
        case measure => simp [intOf]; omega
      | false =>
        have HX := Lib.hid (show k = Z by have h1 := HZ.out; rw [HT.out, if_neg (by simp)] at h1; simpa using h1)
        clear HT HZ
        go_wp2_with fail
        go_ret
        exact ⟨by rw [← HX.out]; rfl, HU.out⟩
    · obtain rfl : k = s.length := by omega
      have HX := Lib.hid (show s.length = Z by have h1 := HZ.out; rw [List.drop_of_length_le (Nat.le_refl _)] at h1; simpa using h1)
      clear HZ
      go_wp2_with fail
      go_ret
      exact ⟨by rw [← HX.out]; rfl, HU.out⟩


end Go.Proofs.YtaahjpmndkcijaaGreatDoor

/-
  Texts: what the reference reads of blanks, digits and small numbers.
-/
namespace Go.Proofs.YtaahjpmndkcijaaGreatDoor
open Go.RowKit

/-- the offset of the first byte from n on that is no blank. -/
def skF (s : List UInt8) (n : Nat) : Nat := n + ((s.drop n).takeWhile (· == 32)).length
theorem skF_step {s : List UInt8} {n : Nat} (h : n < s.length) : skF s n = if s[n] = 32 then skF s (n + 1) else n := by
  unfold skF
  rw [List.drop_eq_getElem_cons h, List.takeWhile_cons]
  by_cases hb : s[n] = 32
  · rw [if_pos hb, if_pos (by simpa using hb), List.length_cons]; omega
  · rw [if_neg hb, if_neg (by simpa using hb)]; rfl
theorem skF_end {s : List UInt8} : skF s s.length = s.length := by
  unfold skF; rw [List.drop_of_length_le (Nat.le_refl _)]; rfl
set_option maxRecDepth 20000 in
set_option maxHeartbeats 2000000 in
theorem l04SkipS (s : List UInt8) (n : Nat) (w : World) (hl : s.length ≤ 2000000) (hn : n ≤ s.length) :
    Calls Tryz.prog 27 #[es s, .int .i64 n] w fun e w' => e = .returned (.int .i64 (skF s n)) ∧ w = w' := by
  have HST := Lib.hid (fun k (h : k < s.length) => skF_step h)
  have HEN := Lib.hid (skF_end (s := s))
  obtain ⟨Z, hZ⟩ : ∃ Z, skF s n = Z := ⟨_, rfl⟩
  rw [hZ]
  have HZ := Lib.hid hZ
  clear hZ
  go_enter Tryz.func27, Tryz.ntmps27
  go_wp2_with fail
  go_loopw [1] (fun iv wr => ∃ k : Nat, k ≤ s.length ∧ iv = .int .i64 k ∧ Hid (skF s k = Z) ∧ wr = w) (fun iv _ => s.length - (intOf iv).toNat)
  case atStart => exact ⟨n, hn, rfl, HZ, rfl⟩
  case round =>
    clear HZ
    obtain ⟨k, hk, rfl, HZ, rfl⟩ := hrel
    by_cases hlt : k < s.length
    · obtain ⟨b, hb⟩ : ∃ b, s[k] = b := ⟨_, rfl⟩
      have hix : (⟨s.toArray⟩ : ByteArray)[k]'(by simpa [ByteArray.size] using hlt) = b := by rw [← hb]; simp [ByteArray.getElem_eq_getElem_data]
      have hkl : (k : Int) < (s.length : Int) := by omega
      have h1 := HST.out k hlt
      rw [hb, HZ.out] at h1
      have hq := byteU b 32 (by omega)
      rw [show ((32 : Nat) : Int) = 32 from rfl] at hq
      by_cases h32 : b = 32
      · rw [if_pos h32] at h1
        have HX := Lib.hid h1.symm
        have hq2 : ((b.toNat : Int) == 32) = true := by rw [hq, h32]; rfl
        clear h1 hb hq HST HEN HZ
        go_wp2_with fail
        go_roundw
        case rel => exact ⟨k + 1, by omega, by go_num, HX, by first | rfl | trivial⟩
        case measure => simp [intOf]; omega
      · rw [if_neg h32] at h1
        have HX := Lib.hid h1
        have hq2 : ((b.toNat : Int) == 32) = false := by rw [hq]; exact beq_eq_false_iff_ne.2 h32
        clear h1 hb hq HST HEN HZ h32
        go_wp2_with fail
        go_ret
        exact ⟨by rw [HX.out]; rfl, rfl⟩
    · obtain rfl : k = s.length := by omega
      have HX := Lib.hid (show Z = s.length by rw [← HZ.out, HEN.out])
      clear HST HEN HZ
      go_wp2_with fail
      go_ret
      exact ⟨by rw [HX.out]; rfl, rfl⟩

set_option maxRecDepth 20000 in
set_option maxHeartbeats 2000000 in
theorem l04DigitsS (s : List UInt8) (n : Nat) (w : World) (hl : s.length ≤ 2000000) (hn : n ≤ s.length) :
    Calls Tryz.prog 76 #[es s, .int .i64 n] w fun e w' => e = .returned (.int .i64 ((n + ((s.drop n).takeWhile isDig).length : Nat) : Int)) ∧ w = w' := by
  have HD := Lib.hid digitS
  obtain ⟨Z, hZ⟩ : ∃ Z, n + ((s.drop n).takeWhile isDig).length = Z := ⟨_, rfl⟩
  rw [hZ]
  have HZ := Lib.hid hZ
  clear hZ
  go_enter Tryz.func76, Tryz.ntmps76
  go_wp2_with fail
  go_loopw [1] (fun iv wr => ∃ k : Nat, k ≤ s.length ∧ iv = .int .i64 k ∧ Hid (k + ((s.drop k).takeWhile isDig).length = Z) ∧ wr = w) (fun iv _ => s.length - (intOf iv).toNat)
  case atStart => exact ⟨n, hn, rfl, HZ, rfl⟩
  case round =>
    clear HZ
    obtain ⟨wo, rfl⟩ : ∃ wo : World, wo = wr := ⟨_, rfl⟩
    obtain ⟨k, hk, rfl, HZ, hww⟩ := hrel
    subst hww
    by_cases hlt : k < s.length
    · obtain ⟨b, hb⟩ : ∃ b, s[k] = b := ⟨_, rfl⟩
      have hix : (⟨s.toArray⟩ : ByteArray)[k]'(by simpa [ByteArray.size] using hlt) = b := by rw [← hb]; simp [ByteArray.getElem_eq_getElem_data]
      have hkl : (k : Int) < (s.length : Int) := by omega
      have D1 := Lib.hid (HD.out b wo)
      have HT := Lib.hid (show (s.drop k).takeWhile isDig = if isDig b then b :: (s.drop (k + 1)).takeWhile isDig else [] by
        rw [List.drop_eq_getElem_cons hlt, hb, List.takeWhile_cons])
      generalize isDig b = q at *
      clear hb
      go_wp2_with fail
      refine D1.out.mono ?_
      rintro e w1 ⟨rfl, rfl⟩
      clear D1
      cases q with
      | true =>
        have HX := Lib.hid (show k + 1 + ((s.drop (k + 1)).takeWhile isDig).length = Z by have h1 := HZ.out; rw [HT.out, if_pos rfl, List.length_cons] at h1; omega)
        clear HT HZ
        go_wp2_with fail
        go_roundw
        case rel => exact ⟨k + 1, by omega, by go_num, HX, by first | rfl | trivial⟩
        case measure => simp [intOf]; omega
      | false =>
        have HX := Lib.hid (show k = Z by have h1 := HZ.out; rw [HT.out, if_neg (by simp)] at h1; simpa using h1)
        clear HT HZ
        go_wp2_with fail
        go_ret
        exact ⟨by rw [← HX.out]; rfl, rfl⟩
    · obtain rfl : k = s.length := by omega
      have HX := Lib.hid (show s.length = Z by have h1 := HZ.out; rw [List.drop_of_length_le (Nat.le_refl _)] at h1; simpa using h1)
      clear HZ
      go_wp2_with fail
      go_ret
      exact ⟨by rw [← HX.out]; rfl, rfl⟩

set_option maxRecDepth 20000 in
set_option maxHeartbeats 2000000 in
theorem l04SmallS (lim : Int) (t : List UInt8) (w : World) (hl : t.length ≤ 2000000) :
    Calls Tryz.prog 77 #[es t, .int .i64 lim] w fun e w' => e = .returned (.int .i64 ((smallF lim t).getD (-1))) ∧ w = w' := by
  have S1 := Lib.hid (numberS t w hl)
  have HX := Lib.hid (show (smallF lim t).getD (-1) = match numF t with | some n => if 0 ≤ n ∧ n < lim then n else -1 | none => -1 by
    unfold smallF
    cases numF t with
    | none => rfl
    | some n => simp only; split <;> rfl)
  generalize (smallF lim t).getD (-1) = Z at *
  unfold NumS at S1
  clear hl
  go_enter Tryz.func77, Tryz.ntmps77
  go_wp2_with fail
  refine S1.out.mono ?_
  rintro e w1 ⟨rfl, rfl⟩
  clear S1
  cases hn : numF t with
  | none =>
    have HY := Lib.hid (show Z = -1 by rw [HX.out, hn])
    clear HX hn
    simp only [Option.getD_none, Option.isSome_none]
    go_wp2_with fail
    go_ret
    exact ⟨by rw [HY.out]; rfl, rfl⟩
  | some n =>
    have HY := Lib.hid (show Z = if 0 ≤ n ∧ n < lim then n else -1 by rw [HX.out, hn])
    clear HX hn
    simp only [Option.getD_some, Option.isSome_some]
    by_cases h0 : n < 0
    · have HW := Lib.hid (show Z = -1 by rw [HY.out, if_neg (by omega)])
      clear HY
      go_wp2_with fail
      go_ret
      exact ⟨by rw [HW.out]; rfl, rfl⟩
    · have h0' : 0 ≤ n := by omega
      by_cases h1 : n < lim
      · have HW := Lib.hid (show Z = n by rw [HY.out, if_pos ⟨by omega, h1⟩])
        have h1' : ¬ lim ≤ n := by omega
        clear HY
        go_wp2_with fail
        go_ret
        exact ⟨by rw [HW.out]; rfl, rfl⟩
      · have HW := Lib.hid (show Z = -1 by rw [HY.out, if_neg (by omega)])
        have h1' : lim ≤ n := by omega
        clear HY
        go_wp2_with fail
        go_ret
        exact ⟨by rw [HW.out]; rfl, rfl⟩

end Go.Proofs.YtaahjpmndkcijaaGreatDoor

/-
  A row of cells known whole; elements of several cells collected by append.
-/
namespace Go.Proofs.YtaahjpmndkcijaaGreatDoor
open Go.RowKit

/-- block T holds these cells, and none is frozen. -/
def RowAt (W : World) (T : Nat) (ty : TypeId) (cs : List Value) : Prop := W.heap[T]? = some (.cells cs.toArray ty (0, 0))
namespace RowAt
variable {W W' : World} {T : Nat} {ty : TypeId} {cs : List Value}
theorem new (W : World) (ty : TypeId) (cs : List Value) : RowAt (W.alloc (.cells cs.toArray ty)) W.heap.size ty cs := heap_alloc_new W _
theorem lt (h : RowAt W T ty cs) : T < W.heap.size := (Array.getElem?_eq_some_iff.1 h).1
theorem upd (h : RowAt W T ty cs) {f : List Nat} (hu : Upd f W W') (hT : T ∉ f) : RowAt W' T ty cs := by
  unfold RowAt; rw [hu.block T h.lt hT]; exact h
theorem cell (h : RowAt W T ty cs) (j : Nat) (c : Value) (hc : cs[j]? = some c) : W.cell? ⟨T, j, none⟩ = some c := by unfold RowAt at h; simp [World.cell?, h, hc]
theorem fz (h : RowAt W T ty cs) (j : Nat) : W.frozen? ⟨T, j, none⟩ = false := by unfold RowAt at h; simp [World.frozen?, h]
theorem store (h : RowAt W T ty cs) (j : Nat) (v : Value) : RowAt (W.setCell ⟨T, j, none⟩ v) T ty (cs.set j v) := by
  unfold RowAt at h ⊢; simp [World.setCell, Array.getElem?_modify, h]
theorem other (h : RowAt W T ty cs) (g j : Nat) (v : Value) (hg : g ≠ T) : RowAt (W.setCell ⟨g, j, none⟩ v) T ty cs := by
  unfold RowAt at h ⊢; rw [Below.heap_setCell _ _ _ _ (by simpa using fun e => hg e.symm)]; exact h
theorem row (h : RowAt W T ty cs) (ds : List Value) : RowAt (W.setRow T ds.toArray) T ty ds := setRow_heap W T _ _ _ _ h
theorem own (h : RowAt W T ty cs) : Own [T] W := ⟨by simp, by intro b hb; obtain rfl : b = T := (by simpa using hb); exact ⟨_, _, h⟩⟩
end RowAt

/-- A slice of elements of n cells each, with memory of their own, that a call collects by append: e is the element's type. -/
def AccQ {α : Type} (n : Nat) (R : Rp α) (w0 : World) (e : TypeId) (w : World) (v : Value) (xs : List α) : Prop :=
  ∃ us, w.ownsRow w0.heap.size e n v xs.length (List.flatten us) ∧ RowsQ n R w0.heap.size v.ownBlock.toList w us xs

namespace AccQ
variable {α : Type} {n : Nat} {R : Rp α} {w0 w w1 w2 : World} {e : TypeId} {v : Value} {xs : List α}

theorem nil (n : Nat) (R : Rp α) (w0 : World) (e : TypeId) (w : World) : AccQ n R w0 e w (.slice none 0 0) [] := ⟨[], World.ownsRow_nil _ _ _ _, RowsQ.nil _ _ _ _ _⟩
theorem lit0 (n : Nat) (R : Rp α) (w0 : World) (e : TypeId) (w : World) (h : w0.heap.size ≤ w.heap.size) : AccQ n R w0 e (w.alloc (.cells #[] e)) (.slice (some ⟨w.heap.size, 0, none⟩) 0 0) [] :=
  ⟨[], by simpa using World.ownsRow_lit (base := w0.heap.size) (e := e) (size := n) w #[] 0 h (by simp [maxLen]) (by simp), RowsQ.nil _ _ _ _ _⟩
theorem upd (K : Kept R) (h : AccQ n R w0 e w v xs) (hu : Upd [] w w1) : AccQ n R w0 e w1 v xs := by
  obtain ⟨us, h1, h2⟩ := h
  exact ⟨us, ownsRow_upd h1 hu, h2.upd K hu (by simp)⟩
theorem other (K : Kept R) (h : AccQ n R w0 e w v xs) {b : Nat} (hu : Upd [b] w w1) (hb : b < w0.heap.size) : AccQ n R w0 e w1 v xs := by
  obtain ⟨us, h1, h2⟩ := h
  refine ⟨us, h1.kept (row := some b) ⟨hu.os, hu.tape, hu.output, hu.size, fun k hk hne => hu.block k hk (by simpa using hne)⟩ ?_, h2.upd K hu (by simp; omega)⟩
  cases hv : v.ownBlock with
  | none => exact Or.inl rfl
  | some g =>
    right
    have := (h1.lt g hv).1
    intro e; cases e; omega
theorem new (h : AccQ n R w0 e w v xs) : New (slQ n R) w0 w v xs := by
  obtain ⟨us, h1, h2⟩ := h
  exact h2.new h1 (fun b hb => by simp [hb]) (Nat.le_refl _)
theorem own (h : AccQ n R w0 e w v xs) : ∃ us, w.ownsRow w0.heap.size e n v xs.length us := by obtain ⟨us, h1, -⟩ := h; exact ⟨_, h1⟩
theorem form (h : AccQ n R w0 e w v xs) : ∃ a c, v = .slice a xs.length c := by obtain ⟨us, h1, -⟩ := h; exact ownsRow_form h1
/-- Behind an append of one element, its cells made between w and w1 and laid into a new block: what the append's law leaves. -/
theorem push (K : Kept R) {us : List (List Value)} (hown : w.ownsRow w0.heap.size e n v xs.length us.flatten) (hrows : RowsQ n R w0.heap.size v.ownBlock.toList w us xs) (hs : w0.heap.size ≤ w.heap.size) {u : List Value} {x : α} (hu : Upd [] w w1) (hn : NewQ R w w1 u x) (hl : u.length = n) (o : Obj) {v2 : Value}
    (h2 : w2.ownsRow w0.heap.size e n v2 (xs.length + 1) (us.flatten ++ u)) (hg : (w1.alloc o).grownBy w2 v.ownBlock)
    (ht : ∀ b, v2.ownBlock = some b → v.ownBlock = some b ∨ (w1.alloc o).heap.size ≤ b) : AccQ n R w0 e w2 v2 (xs ++ [x]) := by
  refine ⟨us ++ [u], by simpa using h2, ?_⟩
  have hob : ∀ b ∈ v.ownBlock.toList, b < w.heap.size := fun b hb => (hown.lt b (by simpa using hb)).2
  have hr1 := hrows.push K hu hn hl hs hob
  have hu2 : Upd [] w1 (w1.alloc o) := (Upd.refl _ _).alloc o
  have hr2 := hr1.upd K hu2 (by simp)
  have hu3 : Upd v.ownBlock.toList (w1.alloc o) w2 := (Upd.refl _ _).grown hg (fun k hk => Or.inr (by simp [hk]))
  have hr3 := RowsQ.ob' hr2 (ob2 := v.ownBlock.toList ++ v2.ownBlock.toList) (by
    intro b hb
    rcases List.mem_append.1 hb with hb | hb
    · exact Or.inl hb
    · rcases ht b (by simpa using hb) with h | h
      · exact Or.inl (by simp [h])
      · exact Or.inr (Or.inr h))
  have hr4 := hr3.upd K hu3 (fun b hb => Or.inl (List.mem_append_left _ hb))
  exact hr4.ob' (fun b hb => Or.inl (List.mem_append_right _ hb))
end AccQ

end Go.Proofs.YtaahjpmndkcijaaGreatDoor

/-
  The form's reading of texts and lists of texts.
-/
namespace Go.Proofs.YtaahjpmndkcijaaGreatDoor
open Go.RowKit Go.ChangeShapes Go.WideShapes Go.Deep

theorem str_len {H : Type} {enc : TypeId × Value → H} {w : World} {t : TypeId} {l : List UInt8} {d : DataW H} {ps : List MemPlace} (ht : Tryz.prog.underlying t = some .string)
    (h : DataW.Trod enc Tryz.prog w 0 (fun _ => true) true t (.string ⟨l.toArray⟩) d ps) : l.length ≤ 9223372036854775807 := by
  obtain ⟨fuel, hf⟩ := h
  obtain ⟨s, hv, -, hs⟩ := DataW.trod_string ht hf
  simp [Value.cells] at hv
  subst hv
  have h2 : (⟨l.toArray⟩ : ByteArray).size = l.length := rfl
  rw [h2] at hs
  simp only [maxLen] at hs
  omega

end Go.Proofs.YtaahjpmndkcijaaGreatDoor
