/-
  Texts joined in one file: Lib, Harn, Open, HarnN, HarnT, HarnT2, Rel, Terms, Tree, TreeW, Ops, Post, Fold, Value, Lib2, FoldW, FoldS, Dec, TextP, PsP, NumP, PsT, TextI, SplitP, AreV, LabP, LabI, LabE, LabF, Src, LabB, HarnS, LabSp, OrdS, NamI, LabSq, PsI, Cells, Canon, TextS, LabSn, Lib3, HarnW, Lib4, HarnE, HarnL, DecQ, DecL, Laid, OpenB, OpenC, LabY.
-/
import Derived.WalkKit
import Derived.WalkSpells
import Derived.WalkLawsBesides
import Derived.WalkSmall
import Derived.Lib.Hide
import Derived.Test.YtpnokhhbakiiiaaDoorRows
import Derived.Deep.QuietTactic
import Derived.BigQuiet
import Derived.ProofKit
import Derived.OpenShut
import Derived.ShutString
import Derived.ChangeOld
import Derived.Below
import Derived.Deep.Slices
import Derived.Deep.RegionHeld3
import Derived.Deep.RegionWith
import Derived.Deep.AppendLies
import Derived.Test.YtpnokhhbakiiiaaDoorProg
import Derived.Lib.ItoaNum
import Derived.Laws.IdiomStrings
import Derived.Lib.ItoaMem
import Derived.Lib.ParseIntB
import Derived.Test.YtpnokhhbakiiiaaDoorShelf
import Derived.Lib.Split
import Derived.Lib.Join
import Derived.Lib.Strings
import Derived.Laws.Bits64b
import Derived.Deep.MidRow
import Derived.Lib.SliceRun
import Derived.Lib.LaidTab
import Derived.Lib.LaidU8
import Derived.Stop.LaidErr
import Derived.Shelf.Vars
/-
  Readings of slices with footprints, their frame rules, and worlds that differ in new blocks and given old blocks alone: a library for the walks, over any program.
-/
namespace Go.Proofs.YtpnokhhbakiiiaaDoor
open Go.RowKit

/-- w' is w with new blocks, and with writes to the old blocks of f alone. -/
structure Upd (f : List Nat) (w w' : World) : Prop where
  os : w'.os = w.os
  tape : w'.tape = w.tape
  output : w'.output = w.output
  size : w.heap.size ≤ w'.heap.size
  block : ∀ k, k < w.heap.size → k ∉ f → w'.heap[k]? = w.heap[k]?

namespace Upd
variable {f g : List Nat} {w w1 w2 : World}
theorem refl (f : List Nat) (w : World) : Upd f w w := ⟨rfl, rfl, rfl, Nat.le_refl _, fun _ _ _ => rfl⟩
theorem trans (h : Upd f w w1) (k : Upd f w1 w2) : Upd f w w2 :=
  ⟨k.os.trans h.os, k.tape.trans h.tape, k.output.trans h.output, Nat.le_trans h.size k.size,
   fun i hi hf => (k.block i (Nat.lt_of_lt_of_le hi h.size) hf).trans (h.block i hi hf)⟩
theorem mono (h : Upd f w w1) (hs : ∀ b ∈ f, b ∈ g) : Upd g w w1 :=
  ⟨h.os, h.tape, h.output, h.size, fun k hk hf => h.block k hk (fun hm => hf (hs k hm))⟩
/-- what is written is new since w. -/
theorem fresh (h : Upd g w w1) (k : Upd f w1 w2) (hf : ∀ b ∈ f, w.heap.size ≤ b ∨ b ∈ g) : Upd g w w2 :=
  ⟨k.os.trans h.os, k.tape.trans h.tape, k.output.trans h.output, Nat.le_trans h.size k.size,
   fun i hi hg => (k.block i (Nat.lt_of_lt_of_le hi h.size) (fun hm => by rcases hf i hm with h' | h'; · omega
                                                                          · exact hg h')).trans (h.block i hi hg)⟩
theorem drew (h : Upd f w w1) : Upd f w w1.drew := ⟨h.os, h.tape, h.output, h.size, h.block⟩
theorem drewN (h : Upd f w w1) (n : Nat) : Upd f w (w1.drewN n) := by
  have e : (w1.drewN n).heap = w1.heap := by simp
  refine ⟨?_, ?_, ?_, ?_, ?_⟩
  · exact h.os
  · exact h.tape
  · exact h.output
  · exact h.size
  · exact h.block
theorem alloc (h : Upd f w w1) (o : Obj) : Upd f w (w1.alloc o) :=
  h.trans ⟨rfl, rfl, rfl, by simp, fun k hk _ => Below.heap_alloc _ _ _ (by omega)⟩
theorem setCell (h : Upd f w w1) {p : Addr} (hp : w.heap.size ≤ p.block ∨ p.block ∈ f) (u : Value) : Upd f w (w1.setCell p u) :=
  h.fresh (f := [p.block]) ⟨rfl, rfl, rfl, by simp [World.setCell], fun k hk hf => Below.heap_setCell _ _ _ _ (by simpa using hf)⟩ (by simpa using hp)
theorem grown {row : Option Nat} (h : Upd f w w1) (hg : w1.grownBy w2 row) (hr : ∀ k, row = some k → w.heap.size ≤ k ∨ k ∈ f) : Upd f w w2 :=
  h.fresh (f := row.toList) ⟨hg.os, hg.tape, hg.output, hg.size, fun k hk hf => hg.block k hk (fun e => hf (by simp [← e]))⟩
    (fun b hb => hr b (by simpa using hb))
theorem below (h : Upd [] w w1) : Below w.heap.size w w1 := ⟨h.os, h.tape, h.output, h.size, fun k hk => h.block k hk (by simp)⟩
theorem ofBelow (h : Below w.heap.size w w1) : Upd [] w w1 := ⟨h.os, h.tape, h.output, h.size, fun k hk _ => h.block k hk⟩
end Upd

/-- v is a slice of k elements of n cells each; its cells, one behind the other, are cs; the block that it lies in is fp. -/
def Flat (fp : List Nat) (w : World) (v : Value) (n k : Nat) (cs : List Value) : Prop :=
  ∃ a cap, v = .slice a k cap ∧ k ≤ cap ∧ cap ≤ maxLen ∧ cs.length = k * n ∧
    ((k = 0 ∧ fp = []) ∨ ∃ b off, a = some ⟨b, off, none⟩ ∧ fp = [b] ∧ b < w.heap.size ∧ ∀ j u, cs[j]? = some u → w.cell? ⟨b, off + j, none⟩ = some u)

theorem Flat.lt {fp : List Nat} {w : World} {v : Value} {n k : Nat} {cs : List Value} (h : Flat fp w v n k cs) : ∀ b ∈ fp, b < w.heap.size := by
  obtain ⟨a, cap, -, -, -, -, ⟨-, rfl⟩ | ⟨b, off, -, rfl, hb, -⟩⟩ := h <;> simp_all

theorem Flat.frame {fp : List Nat} {w w' : World} {v : Value} {n k : Nat} {cs : List Value} (h : Flat fp w v n k cs)
    (hs : w.heap.size ≤ w'.heap.size) (hb : ∀ b ∈ fp, w'.heap[b]? = w.heap[b]?) : Flat fp w' v n k cs := by
  obtain ⟨a, cap, rfl, h1, h2, h3, h4⟩ := h
  refine ⟨a, cap, rfl, h1, h2, h3, ?_⟩
  rcases h4 with h4 | ⟨b, off, rfl, rfl, hbl, hc⟩
  · exact Or.inl h4
  · exact Or.inr ⟨b, off, rfl, rfl, by omega, fun j u hu => by
      rw [World.cell?_of_block (w := w) (hb b (by simp))]; exact hc j u hu⟩

theorem Flat.upd {fp f : List Nat} {w w' : World} {v : Value} {n k : Nat} {cs : List Value} (h : Flat fp w v n k cs)
    (hu : Upd f w w') (hd : ∀ b ∈ fp, b ∉ f) : Flat fp w' v n k cs :=
  h.frame hu.size fun b hb => hu.block b (h.lt b hb) (hd b hb)

/-- The blocks of fp are different rows of cells, none of which is frozen. -/
def Own (fp : List Nat) (w : World) : Prop := fp.Nodup ∧ ∀ b ∈ fp, ∃ c t, w.heap[b]? = some (.cells c t (0, 0))

theorem Own.nil (w : World) : Own [] w := ⟨List.nodup_nil, by simp⟩
theorem Own.frame {fp : List Nat} {w w' : World} (h : Own fp w) (hb : ∀ b ∈ fp, w'.heap[b]? = w.heap[b]?) : Own fp w' :=
  ⟨h.1, fun b hm => by rw [hb b hm]; exact h.2 b hm⟩
theorem Own.lt {fp : List Nat} {w : World} (h : Own fp w) : ∀ b ∈ fp, b < w.heap.size := fun b hb => by
  obtain ⟨c, t, hc⟩ := h.2 b hb; exact (Array.getElem?_eq_some_iff.1 hc).1
theorem Own.upd {fp f : List Nat} {w w' : World} (h : Own fp w) (hu : Upd f w w') (hd : ∀ b ∈ fp, b ∉ f) : Own fp w' :=
  h.frame fun b hb => hu.block b (h.lt b hb) (hd b hb)
theorem Own.frozen {fp : List Nat} {w : World} (h : Own fp w) {b : Nat} (hb : b ∈ fp) (o : Nat) : w.frozen? ⟨b, o, none⟩ = false := by
  obtain ⟨c, t, hc⟩ := h.2 b hb; simp [World.frozen?, hc]
theorem Own.setCell {fp : List Nat} {w : World} (h : Own fp w) (p : Addr) (u : Value) : Own fp (w.setCell p u) :=
  ⟨h.1, fun b hb => by
    obtain ⟨c, t, hc⟩ := h.2 b hb
    by_cases e : b = p.block
    · subst e; refine ⟨if p.spot.isSome then c else c.setIfInBounds p.off u, t, ?_⟩; simp [World.setCell, Array.getElem?_modify, hc]
    · exact ⟨c, t, by rw [Below.heap_setCell _ _ _ _ e]; exact hc⟩⟩

/-- A store into a flat slice that is owned. -/
theorem Flat.set {fp : List Nat} {w : World} {b off cap n k : Nat} {cs : List Value} (h : Flat fp w (.slice (some ⟨b, off, none⟩) k cap) n k cs)
    {j : Nat} (hj : j < k * n) (u : Value) : Flat fp (w.setCell ⟨b, off + j, none⟩ u) (.slice (some ⟨b, off, none⟩) k cap) n k (cs.set j u) := by
  obtain ⟨a, cap', hv, h1, h2, h3, h4⟩ := h
  simp only [Value.slice.injEq, true_and] at hv
  obtain ⟨rfl, rfl⟩ := hv
  refine ⟨_, _, rfl, h1, h2, by simpa using h3, ?_⟩
  rcases h4 with ⟨rfl, rfl⟩ | ⟨b', off', hb', rfl, hbl, hc⟩
  · simp at hj
  · simp only [Option.some.injEq, Addr.mk.injEq, and_true] at hb'
    obtain ⟨rfl, rfl⟩ := hb'
    refine Or.inr ⟨b, off, rfl, rfl, by simpa [World.setCell] using hbl, fun i x hx => ?_⟩
    rw [List.getElem?_set] at hx
    by_cases hij : j = i
    · subst hij
      rw [if_pos rfl, if_pos (by omega)] at hx
      cases hx
      exact World.cell?_setCell_same _ _ _ (hc j cs[j] (by simp))
    · rw [if_neg hij] at hx
      rw [World.cell?_setCell_other _ _ _ _ (by simp)]
      exact hc i x hx

theorem Flat.ofOwns {w : World} {base : Nat} {e : TypeId} {size : Nat} {v : Value} {n : Nat} {xs : List Value} (h : w.ownsRow base e size v n xs) :
    ∃ fp, Flat fp w v size n xs ∧ Own fp w ∧ (∀ b ∈ fp, base ≤ b) ∧ (∀ b ∈ fp, v.ownBlock = some b) := by
  obtain ⟨hl, ⟨rfl, rfl⟩ | ⟨g, cap, cur, rfl, hg, hh, hn, hm, hc, ht⟩⟩ := h
  · exact ⟨[], ⟨none, 0, rfl, Nat.le_refl _, by simp [maxLen], hl, Or.inl ⟨rfl, rfl⟩⟩, Own.nil _, by simp, by simp⟩
  · refine ⟨[g], ⟨_, cap, rfl, hn, hm, hl, Or.inr ⟨g, 0, rfl, rfl, (Array.getElem?_eq_some_iff.1 hh).1, fun j u hu => ?_⟩⟩, ⟨by simp, by simpa using ⟨cur, e, hh⟩⟩, by simpa using hg, by simp [Value.ownBlock]⟩
    have hj : j < n * size := by rw [← hl]; exact (List.getElem?_eq_some_iff.1 hu).1
    rw [← ht, List.getElem?_take, if_pos hj] at hu
    simpa [World.cell?, hh] using hu

/-- A reading: its footprint, the world, the cells, what they read as. -/
abbrev Rp (α : Type) := List Nat → World → List Value → α → Prop

/-- A slice whose elements hold no memory: enc gives an element's n cells. -/
def slF {α : Type} (n : Nat) (enc : α → List Value) : Rp (List α) := fun fp w cs xs => ∃ v, cs = [v] ∧ Flat fp w v n xs.length (xs.flatMap enc)

/-- A slice whose elements are one cell each, and hold memory of their own. -/
def slP {α : Type} (R : Rp α) : Rp (List α) := fun fp w cs xs =>
  ∃ v us fb fps, cs = [v] ∧ Flat fb w v 1 xs.length us ∧ List.length fps = xs.length ∧ fp = fb ++ List.flatten fps ∧
    ∀ i (h : i < xs.length) u (f : List Nat), us[i]? = some u → fps[i]? = some f → R f w [u] xs[i]

/-- What holds of a reading: it is kept where its blocks are. -/
structure Kept {α : Type} (R : Rp α) : Prop where
  lt : ∀ {fp w cs x}, R fp w cs x → ∀ b ∈ fp, b < w.heap.size
  frame : ∀ {fp w w' cs x}, R fp w cs x → w.heap.size ≤ w'.heap.size → (∀ b ∈ fp, w'.heap[b]? = w.heap[b]?) → R fp w' cs x

theorem Kept.upd {α : Type} {R : Rp α} (K : Kept R) {fp f w w' cs x} (h : R fp w cs x) (hu : Upd f w w') (hd : ∀ b ∈ fp, b ∉ f) : R fp w' cs x :=
  K.frame h hu.size fun b hb => hu.block b (K.lt h b hb) (hd b hb)

theorem slF_kept {α : Type} (n : Nat) (enc : α → List Value) : Kept (slF n enc) :=
  ⟨fun ⟨_, _, h⟩ => h.lt, fun ⟨v, e, h⟩ hs hb => ⟨v, e, h.frame hs hb⟩⟩

theorem flatMap_single {α β : Type} (f : α → β) (xs : List α) : xs.flatMap (fun x => [f x]) = xs.map f := by
  induction xs with
  | nil => rfl
  | cons a l ih => rw [List.flatMap_cons, ih]; rfl

/-- an element of a slice whose elements are one cell each and hold no memory. -/
theorem slF1_open {α : Type} {enc : α → Value} {fp : List Nat} {w : World} {v : Value} {xs : List α} (h : slF 1 (fun x => [enc x]) fp w [v] xs) :
    ∃ a cap, v = .slice a xs.length cap ∧ xs.length ≤ cap ∧ cap ≤ maxLen ∧
      ∀ i (h : i < xs.length), ∃ b off, a = some ⟨b, off, none⟩ ∧ fp = [b] ∧ b < w.heap.size ∧ w.cell? ⟨b, off + i, none⟩ = some (enc xs[i]) := by
  obtain ⟨v', hv, a, cap, rfl, h1, h2, h3, h4⟩ := h
  cases hv
  refine ⟨a, cap, rfl, h1, h2, fun i hi => ?_⟩
  rcases h4 with ⟨h0, -⟩ | ⟨b, off, rfl, rfl, hbl, hc⟩
  · omega
  · refine ⟨b, off, rfl, rfl, hbl, hc i _ ?_⟩
    rw [flatMap_single]; simp [hi]

/-- What a call makes anew reads so, and is its own. -/
def New {α : Type} (R : Rp α) (w w' : World) (v : Value) (x : α) : Prop :=
  ∃ fp, R fp w' [v] x ∧ Own fp w' ∧ ∀ b ∈ fp, w.heap.size ≤ b

theorem New.ofOwns {α : Type} {enc : α → Value} {w w' : World} {e : TypeId} {v : Value} {xs : List α}
    (h : w'.ownsRow w.heap.size e 1 v xs.length (xs.map enc)) : New (slF 1 (fun x => [enc x])) w w' v xs := by
  obtain ⟨fp, h1, h2, h3, -⟩ := Flat.ofOwns h
  exact ⟨fp, ⟨v, rfl, by rw [flatMap_single]; exact h1⟩, h2, h3⟩

/-- the numbers from k on, n of them. -/
def upFrom (k : Int) : Nat → List Int
  | 0 => []
  | n + 1 => k :: upFrom (k + 1) n

@[simp] theorem upFrom_length (k : Int) (n : Nat) : (upFrom k n).length = n := by
  induction n generalizing k with
  | zero => rfl
  | succ n ih => simp [upFrom, ih]

theorem upFrom_get (k : Int) (n i : Nat) (h : i < n) : (upFrom k n)[i]? = some (k + i) := by
  induction n generalizing k i with
  | zero => omega
  | succ n ih =>
    cases i with
    | zero => simp [upFrom]
    | succ i => simp only [upFrom, List.getElem?_cons_succ]; rw [ih _ _ (by omega)]; congr 1; omega

theorem drop_step {α : Type} [BEq α] (xs ys : List α) (k : Nat) (h1 : k < xs.length) (h2 : k < ys.length) :
    (xs.drop k == ys.drop k) = (xs[k] == ys[k] && (xs.drop (k + 1) == ys.drop (k + 1))) := by
  rw [List.drop_eq_getElem_cons h1, List.drop_eq_getElem_cons h2]; rfl

theorem drewN_add (w : World) (a b : Nat) : (w.drewN a).drewN b = w.drewN (a + b) := by
  simp [World.drewN, Nat.add_assoc]

theorem Kept.drewN {α : Type} {R : Rp α} (K : Kept R) {fp w cs x} (h : R fp w cs x) (n : Nat) : R fp (w.drewN n) cs x :=
  K.frame h (Nat.le_refl _) (fun _ _ => rfl)

theorem Kept.new {α : Type} {R : Rp α} (K : Kept R) {w w1 w2 : World} {v : Value} {x : α} {f : List Nat} (h : New R w w1 v x) (hu : Upd f w1 w2) (hf : ∀ b ∈ f, b < w.heap.size) : New R w w2 v x := by
  obtain ⟨fp, h1, h2, h3⟩ := h
  have hd : ∀ b ∈ fp, b ∉ f := fun b hb hm => by have := hf b hm; have := h3 b hb; omega
  exact ⟨fp, K.upd h1 hu hd, h2.upd hu hd, h3⟩

theorem slP_open {α : Type} {R : Rp α} {fp : List Nat} {w : World} {v : Value} {xs : List α} (h : slP R fp w [v] xs) :
    ∃ a cap, v = .slice a xs.length cap ∧ xs.length ≤ cap ∧ cap ≤ maxLen ∧
      ∀ i (h : i < xs.length), ∃ b off u f, a = some ⟨b, off, none⟩ ∧ b ∈ fp ∧ b < w.heap.size ∧ w.cell? ⟨b, off + i, none⟩ = some u ∧ (∀ c ∈ f, c ∈ fp) ∧ R f w [u] xs[i] := by
  obtain ⟨v', us, fb, fps, hv, ⟨a, cap, rfl, h1, h2, h3, h4⟩, hl, rfl, hr⟩ := h
  cases hv
  refine ⟨a, cap, rfl, h1, h2, fun i hi => ?_⟩
  rcases h4 with ⟨h0, -⟩ | ⟨b, off, rfl, rfl, hbl, hc⟩
  · omega
  · have hu : us[i]? = some us[i] := by simp
    have hf : fps[i]? = some fps[i] := by simp
    exact ⟨b, off, us[i], fps[i], rfl, by simp, hbl, hc i _ hu, fun c hc => List.mem_append_right _ (List.mem_flatten.2 ⟨_, List.mem_of_getElem? hf, hc⟩), hr i hi _ _ hu hf⟩

/-- Elements of one cell each, with memory of their own, from block base on and apart from the blocks ob. -/
def Rows {α : Type} (R : Rp α) (base : Nat) (ob : List Nat) (w : World) (us : List Value) (xs : List α) : Prop :=
  ∃ fps : List (List Nat), fps.length = xs.length ∧ us.length = xs.length ∧ Own fps.flatten w ∧ (∀ b ∈ fps.flatten, base ≤ b ∧ b ∉ ob) ∧
    ∀ i (h : i < xs.length) u (f : List Nat), us[i]? = some u → fps[i]? = some f → R f w [u] xs[i]

namespace Rows
variable {α : Type} {R : Rp α} {base : Nat} {ob : List Nat} {w w1 : World} {us : List Value} {xs : List α}

theorem nil (R : Rp α) (base : Nat) (ob : List Nat) (w : World) : Rows R base ob w [] [] := ⟨[], rfl, rfl, Own.nil w, by simp, by simp⟩

theorem length (h : Rows R base ob w us xs) : us.length = xs.length := by obtain ⟨_, _, h, _⟩ := h; exact h

theorem upd (K : Kept R) (h : Rows R base ob w us xs) {f : List Nat} (hu : Upd f w w1) (hf : ∀ b ∈ f, b ∈ ob ∨ b < base) : Rows R base ob w1 us xs := by
  obtain ⟨fps, h1, h2, h3, h4, h5⟩ := h
  have hd : ∀ b ∈ fps.flatten, b ∉ f := fun b hb hm => by
    rcases hf b hm with h | h
    · exact (h4 b hb).2 h
    · have := (h4 b hb).1; omega
  refine ⟨fps, h1, h2, h3.upd hu hd, h4, fun i hi u f' hu' hf' => K.upd (h5 i hi u f' hu' hf') hu fun b hb => hd b (List.mem_flatten.2 ⟨_, List.mem_of_getElem? hf', hb⟩)⟩

theorem ob' (h : Rows R base ob w us xs) {ob2 : List Nat} (hb : ∀ b ∈ ob2, b ∈ ob ∨ b < base ∨ w.heap.size ≤ b) : Rows R base ob2 w us xs := by
  obtain ⟨fps, h1, h2, h3, h4, h5⟩ := h
  refine ⟨fps, h1, h2, h3, fun b hb' => ⟨(h4 b hb').1, fun hm => ?_⟩, h5⟩
  rcases hb b hm with h | h | h
  · exact (h4 b hb').2 h
  · have := (h4 b hb').1; omega
  · have := h3.lt b hb'; omega

theorem push (K : Kept R) (h : Rows R base ob w us xs) {u : Value} {x : α} (hu : Upd [] w w1) (hn : New R w w1 u x) (hb : base ≤ w.heap.size) (hob : ∀ b ∈ ob, b < w.heap.size) :
    Rows R base ob w1 (us ++ [u]) (xs ++ [x]) := by
  obtain ⟨fps, h1, h2, h3, h4, h5⟩ := h.upd K hu (by simp)
  obtain ⟨fps', h1', h2', h3', h4', h5'⟩ := h
  obtain ⟨fp, g1, g2, g3⟩ := hn
  have hlt : ∀ b ∈ fps'.flatten, b < w.heap.size := h3'.lt
  refine ⟨fps' ++ [fp], by simp [h1'], by simp [h2], ⟨?_, ?_⟩, ?_, ?_⟩
  · rw [List.flatten_append, List.nodup_append]
    refine ⟨h3'.1, by simpa using g2.1, fun a ha b hb' e => ?_⟩
    subst e
    have := hlt a ha
    have := g3 a (by simpa using hb')
    omega
  · intro b hb'
    rw [List.flatten_append] at hb'
    rcases List.mem_append.1 hb' with hb' | hb'
    · exact (h3'.upd hu (by simp)).2 b hb'
    · exact g2.2 b (by simpa using hb')
  · intro b hb'
    rw [List.flatten_append] at hb'
    rcases List.mem_append.1 hb' with hb' | hb'
    · exact h4' b hb'
    · have := g3 b (by simpa using hb')
      exact ⟨by omega, fun hm => by have := hob b hm; omega⟩
  · intro i hi u' f' hu' hf'
    by_cases e : i < xs.length
    · rw [List.getElem?_append_left (by omega)] at hu' hf'
      rw [List.getElem_append_left e]
      exact K.upd (h5' i e u' f' hu' hf') hu (by simp)
    · have ei : i = xs.length := by simp at hi; omega
      subst ei
      rw [List.getElem?_append_right (by omega)] at hu' hf'
      rw [h2, Nat.sub_self] at hu'
      rw [h1', Nat.sub_self] at hf'
      simp at hu' hf'
      subst hu' hf'
      simpa using g1

theorem new (h : Rows R base ob w us xs) {w0 : World} {e : TypeId} {v : Value} (ho : w.ownsRow w0.heap.size e 1 v xs.length us) (hob : ∀ b, v.ownBlock = some b → b ∈ ob) (hb : w0.heap.size ≤ base) :
    New (slP R) w0 w v xs := by
  obtain ⟨fps, h1, h2, h3, h4, h5⟩ := h
  obtain ⟨fb, g1, g2, g3, g4⟩ := Flat.ofOwns ho
  refine ⟨fb ++ fps.flatten, ⟨v, us, fb, fps, rfl, g1, h1, rfl, h5⟩, ⟨?_, ?_⟩, ?_⟩
  · rw [List.nodup_append]
    refine ⟨g2.1, h3.1, fun a ha b hb' e => ?_⟩
    subst e
    exact (h4 a hb').2 (hob a (g4 a ha))
  · intro b hb'
    rcases List.mem_append.1 hb' with hb' | hb'
    · exact g2.2 b hb'
    · exact h3.2 b hb'
  · intro b hb'
    rcases List.mem_append.1 hb' with hb' | hb'
    · exact g3 b hb'
    · have := (h4 b hb').1; omega
end Rows

section
variable {P : Program} (w : World)

/-- append, with where the result lies: where it was, or in a new block. -/
theorem run_append_tight (base : Nat) (t ty e : TypeId) (i : TypeInfo) (z : Value) (size bytes : Nat) (ht : P.underlying t = some (.slice e)) (hi : P.info? e = some i) (hz : i.zero = some z)
    (hsize : i.size = size) (hby : i.bytes = bytes) (hzs : z.cells.size = size) (hsz : 0 < size)
    (v : Value) (n : Nat) (xs : List Value) (hown : w.ownsRow base e size v n xs)
    (a : Addr) (m c : Nat) (news : List Value) (hl : news.length = m * size) (hnews : ∀ j u, news[j]? = some u → w.cell? (a.add j) = some u) (h1 : ∀ u ∈ news, u.oneCell' = true)
    (h63 : n + m ≤ maxLen) (hbytes : (n + m) * bytes ≤ 140737488355328) (hbase : base ≤ w.heap.size) :
    ∃ v' w', (Builtin.append_ #[t, t] ty #[v, .slice (some a) m c]).run P w = .ok v' w' ∧ w'.ownsRow base e size v' (n + m) (xs ++ news) ∧ w.grownBy w' v.ownBlock ∧
      (∀ b, v'.ownBlock = some b → v.ownBlock = some b ∨ w.heap.size ≤ b) := by
  obtain ⟨v', w', hr, h2, h3, -⟩ := run_append_own (P := P) w base t ty e i z size bytes ht hi hz hsize hby hzs hsz v n xs hown a m c news hl hnews h1 h63 hbytes hbase
  refine ⟨v', w', hr, h2, h3, fun b hb => ?_⟩
  subst hsize
  subst hby
  have hsmall : n + m ≤ 9223372036854775807 := by simp only [maxLen] at h63; omega
  rcases hown.2 with ⟨rfl, rfl⟩ | ⟨g, cap, cur, rfl, hbg, hg, hnc, hcm, hcs, htake⟩
  · have hx : xs = [] := List.eq_nil_of_length_eq_zero (by simpa using hown.1)
    subst hx
    obtain ⟨v2, w2, hr2, h22, -, -⟩ := run_append_own (P := P) w w.heap.size t ty e i z _ _ ht hi hz rfl rfl hzs hsz _ 0 [] (World.ownsRow_nil w _ e i.size) a m c news hl hnews h1 h63 hbytes (Nat.le_refl _)
    rw [hr] at hr2
    cases hr2
    rcases h22.2 with ⟨rfl, -⟩ | ⟨g, cap, cur, rfl, hbg, -⟩
    · simp [Value.ownBlock] at hb
    · simp [Value.ownBlock] at hb; omega
  · by_cases hroom : n + m ≤ cap
    · have hfit : n * i.size + news.length ≤ cur.size := by rw [hl, hcs, ← Nat.add_mul]; exact Nat.mul_le_mul_right _ hroom
      have hr2 := run_append_room (P := P) w t ty e i ht hi g n cap cur hg a m c news hl hnews h1 hroom hfit
      rw [hr] at hr2
      cases hr2
      exact Or.inl hb
    · have holds : ∀ j u, xs[j]? = some u → w.cell? ((⟨g, 0, none⟩ : Addr).add j) = some u := hown.cells (g := g) rfl
      have hr2 := run_append_grow (P := P) w t ty e i z ht hi hz ⟨g, 0, none⟩ n cap xs hown.1 holds a m c news hl hnews (by omega) (by omega) (growslice_fits (by omega) hbytes)
      rw [hr] at hr2
      cases hr2
      simp [Value.ownBlock] at hb; omega

theorem wpList_append_tight {ops : Array Oper} {rest : List Oper} {o : Oper} {a : Act} {Q : Exit → Act → World → Prop} (hgd : o.guard = none) (s x : Operand) (t : TypeId)
    (ho : o.op = .call { callee := .builtin .append, args := #[s, x], argTypes := #[t, t] })
    (base : Nat) (e : TypeId) (i : TypeInfo) (z : Value) (size bytes : Nat) (ht : P.underlying t = some (.slice e)) (hi : P.info? e = some i) (hz : i.zero = some z)
    (hsize : i.size = size) (hby : i.bytes = bytes) (hzs : z.cells.size = size) (hsz : 0 < size)
    (v : Value) (n : Nat) (xs : List Value) (hs : a.eval s = v) (hown : w.ownsRow base e size v n xs)
    (ad : Addr) (m c : Nat) (news : List Value) (hx : a.eval x = .slice (some ad) m c) (hl : news.length = m * size) (hnews : ∀ j u, news[j]? = some u → w.cell? (ad.add j) = some u) (h1 : ∀ u ∈ news, u.oneCell' = true)
    (h63 : n + m ≤ maxLen) (hbytes : (n + m) * bytes ≤ 140737488355328) (hbase : base ≤ w.heap.size)
    (h : ∀ v' w', w'.ownsRow base e size v' (n + m) (xs ++ news) → w.grownBy w' v.ownBlock → (∀ b, v'.ownBlock = some b → v.ownBlock = some b ∨ w.heap.size ≤ b) → wpList P ops Q rest (a.put o.dst v') w') : wpList P ops Q (o :: rest) a w := by
  refine wpList_plain hgd fun _ hK => ?_
  obtain ⟨v', w', hr, h2, h3, h4⟩ := run_append_tight (P := P) w base t o.type e i z size bytes ht hi hz hsize hby hzs hsz v n xs hown ad m c news hl hnews h1 h63 hbytes hbase
  unfold Oper.wp execOp
  simp only [ho, resolve, invoke, builtin, Sem.run_bind, Sem.run_pure, Result.andThen_ok, List.map_toArray, List.map_cons, List.map_nil, hs, hx, hr]
  exact hK _ _ (h v' w' h2 h3 h4)
end

theorem New.form {α : Type} {enc : α → List Value} {n : Nat} {w w' : World} {v : Value} {x : List α} (h : New (slF n enc) w w' v x) : ∃ a cap, v = .slice a x.length cap := by
  obtain ⟨fp, ⟨v', hv, a, cap, rfl, -⟩, -⟩ := h
  cases hv; exact ⟨_, _, rfl⟩
/-- A slice of one-cell elements with memory of their own that a call collects by append: e is the element's type. -/
def Acc {α : Type} (R : Rp α) (w0 : World) (e : TypeId) (w : World) (v : Value) (xs : List α) : Prop :=
  ∃ us, w.ownsRow w0.heap.size e 1 v xs.length us ∧ Rows R w0.heap.size v.ownBlock.toList w us xs

namespace Acc
variable {α : Type} {R : Rp α} {w0 w w1 w2 : World} {e : TypeId} {v : Value} {xs : List α}

theorem nil (R : Rp α) (w0 : World) (e : TypeId) (w : World) : Acc R w0 e w (.slice none 0 0) [] := ⟨[], World.ownsRow_nil _ _ _ _, Rows.nil _ _ _ _⟩

theorem upd (K : Kept R) (h : Acc R w0 e w v xs) (hu : Upd [] w w1) : Acc R w0 e w1 v xs := by
  obtain ⟨us, h1, h2⟩ := h
  exact ⟨us, h1.kept (row := none) ⟨hu.os, hu.tape, hu.output, hu.size, fun k hk _ => hu.block k hk (by simp)⟩ (by cases v.ownBlock <;> simp), h2.upd K hu (by simp)⟩

theorem new (h : Acc R w0 e w v xs) : New (slP R) w0 w v xs := by
  obtain ⟨us, h1, h2⟩ := h
  exact h2.new h1 (fun b hb => by simp [hb]) (Nat.le_refl _)

/-- Behind an append of one element u, made between w and w1, boxed in a new block: what the append's law leaves. -/
theorem push (K : Kept R) {us : List Value} (hown : w.ownsRow w0.heap.size e 1 v xs.length us) (hrows : Rows R w0.heap.size v.ownBlock.toList w us xs) (hs : w0.heap.size ≤ w.heap.size) {u : Value} {x : α} (hu : Upd [] w w1) (hn : New R w w1 u x) (o : Obj) {v2 : Value}
    (h2 : w2.ownsRow w0.heap.size e 1 v2 (xs.length + 1) (us ++ [u])) (hg : (w1.alloc o).grownBy w2 v.ownBlock)
    (ht : ∀ b, v2.ownBlock = some b → v.ownBlock = some b ∨ (w1.alloc o).heap.size ≤ b) : Acc R w0 e w2 v2 (xs ++ [x]) := by
  refine ⟨us ++ [u], by simpa using h2, ?_⟩
  have hob : ∀ b ∈ v.ownBlock.toList, b < w.heap.size := fun b hb => (hown.lt b (by simpa using hb)).2
  have hr1 := hrows.push K hu hn hs hob
  have hu2 : Upd [] w1 (w1.alloc o) := (Upd.refl _ _).alloc o
  have hr2 := hr1.upd K hu2 (by simp)
  have hu3 : Upd v.ownBlock.toList (w1.alloc o) w2 := (Upd.refl _ _).grown hg (fun k hk => Or.inr (by simp [hk]))
  have hr3 := Rows.ob' hr2 (ob2 := v.ownBlock.toList ++ v2.ownBlock.toList) (by
    intro b hb
    rcases List.mem_append.1 hb with hb | hb
    · exact Or.inl hb
    · rcases ht b (by simpa using hb) with h | h
      · exact Or.inl (by simp [h])
      · exact Or.inr (Or.inr h))
  have hr4 := hr3.upd K hu3 (fun b hb => Or.inl (List.mem_append_left _ hb))
  exact hr4.ob' (fun b hb => Or.inl (List.mem_append_right _ hb))
end Acc

theorem New.nilF {α : Type} (n : Nat) (enc : α → List Value) (w w' : World) : New (slF n enc) w w' (.slice none 0 0) [] :=
  ⟨[], ⟨_, rfl, none, 0, rfl, Nat.le_refl _, by simp [maxLen], by simp, Or.inl ⟨rfl, rfl⟩⟩, Own.nil _, by simp⟩
theorem Kept.drew {α : Type} {R : Rp α} (K : Kept R) {fp w cs x} (h : R fp w cs x) : R fp w.drew cs x := K.frame h (Nat.le_refl _) (fun _ _ => rfl)
theorem Own.drew {fp : List Nat} {w : World} (h : Own fp w) : Own fp w.drew := h

theorem flatMap_two_get {α : Type} (e1 e2 : α → Value) (xs : List α) (i : Nat) (h : i < xs.length) :
    (xs.flatMap fun x => [e1 x, e2 x])[i * 2]? = some (e1 xs[i]) ∧ (xs.flatMap fun x => [e1 x, e2 x])[i * 2 + 1]? = some (e2 xs[i]) := by
  induction xs generalizing i with
  | nil => simp at h
  | cons x xs ih =>
    cases i with
    | zero => simp
    | succ i =>
      have h' : i < xs.length := by simpa using h
      obtain ⟨h1, h2⟩ := ih i h'
      rw [show (i + 1) * 2 = i * 2 + 1 + 1 from by omega]
      simp only [List.flatMap_cons, List.cons_append, List.nil_append, List.getElem?_cons_succ, List.getElem_cons_succ]
      exact ⟨h1, h2⟩
theorem flatMap_two_set {α : Type} (e1 e2 : α → Value) (xs : List α) (i : Nat) (h : i < xs.length) (y : α) :
    ((xs.flatMap fun x => [e1 x, e2 x]).set (i * 2) (e1 y)).set (i * 2 + 1) (e2 y) = (xs.set i y).flatMap fun x => [e1 x, e2 x] := by
  induction xs generalizing i with
  | nil => simp at h
  | cons x xs ih =>
    cases i with
    | zero => simp
    | succ i =>
      have h' : i < xs.length := by simpa using h
      rw [show (i + 1) * 2 = i * 2 + 1 + 1 from by omega]
      simp only [List.flatMap_cons, List.cons_append, List.nil_append, List.set_cons_succ, ih i h']

/-- an element of a slice of elements of two cells. -/
theorem slF2_open {α : Type} {e1 e2 : α → Value} {fp : List Nat} {w : World} {v : Value} {xs : List α} (h : slF 2 (fun x => [e1 x, e2 x]) fp w [v] xs) :
    ∃ a cap, v = .slice a xs.length cap ∧ xs.length ≤ cap ∧ cap ≤ maxLen ∧
      ∀ i (h : i < xs.length), ∃ b off, a = some ⟨b, off, none⟩ ∧ fp = [b] ∧ b < w.heap.size ∧ w.cell? ⟨b, off + i * 2, none⟩ = some (e1 xs[i]) ∧ w.cell? ⟨b, off + i * 2 + 1, none⟩ = some (e2 xs[i]) := by
  obtain ⟨v', hv, a, cap, rfl, h1, h2, h3, h4⟩ := h
  cases hv
  refine ⟨a, cap, rfl, h1, h2, fun i hi => ?_⟩
  rcases h4 with ⟨h0, -⟩ | ⟨b, off, rfl, rfl, hbl, hc⟩
  · omega
  · obtain ⟨g1, g2⟩ := flatMap_two_get e1 e2 xs i hi
    exact ⟨b, off, rfl, rfl, hbl, hc _ _ g1, by have := hc _ _ g2; rwa [← Nat.add_assoc] at this⟩

/-- both cells of an element are written. -/
theorem slF2_set {α : Type} {e1 e2 : α → Value} {fp : List Nat} {w : World} {b off cap : Nat} {xs : List α} (h : slF 2 (fun x => [e1 x, e2 x]) fp w [.slice (some ⟨b, off, none⟩) xs.length cap] xs) (i : Nat) (hi : i < xs.length) (y : α) :
    slF 2 (fun x => [e1 x, e2 x]) fp ((w.setCell ⟨b, off + i * 2, none⟩ (e1 y)).setCell ⟨b, off + i * 2 + 1, none⟩ (e2 y)) [.slice (some ⟨b, off, none⟩) xs.length cap] (xs.set i y) := by
  obtain ⟨v', hv, hF⟩ := h
  cases hv
  have h1 := hF.set (j := i * 2) (by omega) (e1 y)
  have h2 := h1.set (j := i * 2 + 1) (by omega) (e2 y)
  rw [flatMap_two_set _ _ _ _ hi, ← Nat.add_assoc] at h2
  exact ⟨_, rfl, by simpa using h2⟩

theorem New.ofOwns2 {α : Type} {e1 e2 : α → Value} {w w' : World} {e : TypeId} {v : Value} {xs : List α}
    (h : w'.ownsRow w.heap.size e 2 v xs.length (xs.flatMap fun x => [e1 x, e2 x])) : New (slF 2 (fun x => [e1 x, e2 x])) w w' v xs := by
  obtain ⟨fp, h1, h2, h3, -⟩ := Flat.ofOwns h
  exact ⟨fp, ⟨v, rfl, h1⟩, h2, h3⟩

theorem Upd.keep {w w1 : World} {p : Addr} {v : Value} (hu : Upd [] w w1) (h : w.cell? p = some v) : w1.cell? p = some v :=
  (hu.below.cell (World.block_lt_of_cell? w p h)).trans h

theorem Acc.other {α : Type} {R : Rp α} (K : Kept R) {w0 w w1 : World} {e : TypeId} {v : Value} {xs : List α} (h : Acc R w0 e w v xs) {b : Nat} (hu : Upd [b] w w1) (hb : b < w0.heap.size) : Acc R w0 e w1 v xs := by
  obtain ⟨us, h1, h2⟩ := h
  refine ⟨us, h1.kept (row := some b) ⟨hu.os, hu.tape, hu.output, hu.size, fun k hk hne => hu.block k hk (by simpa using hne)⟩ ?_, h2.upd K hu (by simp; omega)⟩
  cases hv : v.ownBlock with
  | none => exact Or.inl rfl
  | some g =>
    right
    have := (h1.lt g hv).1
    intro e; cases e; omega

theorem ownsRow_form {w : World} {base : Nat} {e : TypeId} {size : Nat} {v : Value} {n : Nat} {xs : List Value} (h : w.ownsRow base e size v n xs) : ∃ a c, v = .slice a n c := by
  rcases h.2 with ⟨rfl, rfl⟩ | ⟨g, cap, cur, rfl, -⟩
  · exact ⟨_, _, rfl⟩
  · exact ⟨_, _, rfl⟩

theorem ownsRow_upd {w w1 : World} {base : Nat} {e : TypeId} {size : Nat} {v : Value} {n : Nat} {xs : List Value} (h : w.ownsRow base e size v n xs) (hu : Upd [] w w1) : w1.ownsRow base e size v n xs :=
  h.kept (row := none) ⟨hu.os, hu.tape, hu.output, hu.size, fun k hk _ => hu.block k hk (by simp)⟩ (by cases v.ownBlock <;> simp)

theorem New.mono {α : Type} {R : Rp α} {w0 w w' : World} {v : Value} {x : α} (h : New R w w' v x) (hs : w0.heap.size ≤ w.heap.size) : New R w0 w' v x := by
  obtain ⟨fp, h1, h2, h3⟩ := h
  exact ⟨fp, h1, h2, fun b hb => Nat.le_trans hs (h3 b hb)⟩

end Go.Proofs.YtpnokhhbakiiiaaDoor

/-
  The laws' helper functions over lists of numbers: what each call returns and makes.
-/
namespace Go.Proofs.YtpnokhhbakiiiaaDoor
open Go.RowKit

abbrev ei (n : Int) : Value := .int .i64 n
theorem Tryd.info2 : (Tryd.prog.info? 2).map (fun i => (i.zero, i.size, i.bytes)) = some (some (.int .i64 0), 1, 8) := by kernel_rfl
/-- the rows of a matrix, numbered through. -/
def mk2 : Int → List (List Int) → List (List Int)
  | _, [] => []
  | k, r :: rs => upFrom k r.length :: mk2 (k + r.length) rs
def tot (xss : List (List Int)) : Int := (xss.map (fun r => (r.length : Int))).sum
@[simp] theorem mk2_length (k : Int) (xss : List (List Int)) : (mk2 k xss).length = xss.length := by
  induction xss generalizing k with
  | nil => rfl
  | cons r rs ih => simp [mk2, ih]
theorem tot_nonneg (xss : List (List Int)) : 0 ≤ tot xss := by
  unfold tot; induction xss with
  | nil => simp
  | cons r rs ih => simp only [List.map_cons, List.sum_cons]; omega
end Go.Proofs.YtpnokhhbakiiiaaDoor

/-
  From the form's own reading of an argument to the readings of Lib: slices, and slices of slices, of whatever elements.
-/
namespace Go.Proofs.YtpnokhhbakiiiaaDoor
open Go.RowKit Go.ChangeShapes Go.WideShapes Go.Deep

/-- What the form reads at type t reads by R, with a fact on the value. -/
def Opens {α : Type} (P : Program) (t : TypeId) (R : Rp α) (φ : α → Prop) : Prop :=
  ∀ {H : Type} {enc : TypeId × Value → H} {w : World} {fuel : Nat} {cs : List Value} {x : DataW H × List MemPlace},
    DataW.trod enc P w 0 (fun _ => true) true fuel t cs = some x → ∃ a fp, R fp w cs a ∧ φ a

theorem flat_nil (w : World) (n : Nat) : Flat [] w (.slice none 0 0) n 0 [] := ⟨none, 0, rfl, Nat.le_refl _, by simp [maxLen], by simp, Or.inl ⟨rfl, rfl⟩⟩

theorem Opens.of {α : Type} {P : Program} {t : TypeId} {R : Rp α} {φ : α → Prop} (h : Opens P t R φ) {H : Type} {enc : TypeId × Value → H} {w : World} {v : Value} {d : DataW H} {ps : List MemPlace}
    (hv : v.cells = #[v]) (hd : DataW.Trod enc P w 0 (fun _ => true) true t v d ps) : ∃ a fp, R fp w [v] a ∧ φ a := by
  obtain ⟨fuel, hf⟩ := hd
  rw [hv] at hf
  exact h hf

end Go.Proofs.YtpnokhhbakiiiaaDoor

/-
  The helper functions over []int64 and [][]int64 under one scheme of names: sz, to, eq, mark, held.
-/
namespace Go.Proofs.YtpnokhhbakiiiaaDoor
open Go.RowKit

theorem beq_refl_true {α : Type} [BEq α] [LawfulBEq α] (a : α) : (a == a) = true := by simp

end Go.Proofs.YtpnokhhbakiiiaaDoor

/-
  The laws' helper functions over terms (a kind and a value) and lists of terms.
-/
namespace Go.Proofs.YtpnokhhbakiiiaaDoor
open Go.RowKit Go.ChangeShapes

abbrev Tm := Int × Int
abbrev R_T1 : Rp (List Tm) := slF 2 (fun t => [ei t.1, ei t.2])
theorem R_T1k : Kept R_T1 := slF_kept _ _
def mkF_T1 (x : List Tm) : Int := 2 * x.length
theorem mkF_T1_nonneg (x : List Tm) : 0 ≤ mkF_T1 x := by unfold mkF_T1; omega
theorem Tryd.infoT : (Tryd.prog.info? 50).map (fun i => (i.zero, i.size, i.bytes)) = some (some (.agg #[.int .i64 0, .int .i64 0]), 2, 16) := by kernel_rfl

set_option maxRecDepth 20000 in
set_option maxHeartbeats 400000 in
theorem eqTerm (a b c d : Int) (w : World) : Calls Tryd.prog 25 #[.agg #[ei a, ei b], .agg #[ei c, ei d]] w fun e w' => e = .returned (.bool (a == c && b == d)) ∧ Upd [] w w' := by
  by_cases h1 : a = c
  · have h1' : (a != c) = false := by simp [h1]
    have H1 := Lib.hid h1
    clear h1
    by_cases h2 : b = d
    · have h2' : (b != d) = false := by simp [h2]
      have H2 := Lib.hid h2
      clear h2
      go_enter Tryd.func25, Tryd.ntmps25
      go_wp2
      go_ret
      exact ⟨by simp [H1.out, H2.out], ((Upd.refl _ _).alloc _).alloc _⟩
    · have h2' : ¬ (b != d) = false := by simp [h2]
      have H2 := Lib.hid h2
      clear h2
      go_enter Tryd.func25, Tryd.ntmps25
      go_wp2
      go_ret
      exact ⟨by simp [H2.out], ((Upd.refl _ _).alloc _).alloc _⟩
  · have h1' : ¬ (a != c) = false := by simp [h1]
    have H1 := Lib.hid h1
    clear h1
    go_enter Tryd.func25, Tryd.ntmps25
    go_wp2
    go_ret
    exact ⟨by simp [H1.out], ((Upd.refl _ _).alloc _).alloc _⟩

set_option maxRecDepth 20000 in
set_option maxHeartbeats 800000 in
theorem eq_T1 (v1 v2 : Value) (xs ys : List Tm) (w : World) (f1 f2 : List Nat) (h1 : R_T1 f1 w [v1] xs) (h2 : R_T1 f2 w [v2] ys) :
    Calls Tryd.prog 11 #[v1, v2] w fun e w' => e = .returned (.bool (xs == ys)) ∧ Upd [] w w' := by
  obtain ⟨a1, c1, rfl, hl1, hm1, hc1⟩ := slF2_open h1
  obtain ⟨a2, c2, rfl, hl2, hm2, hc2⟩ := slF2_open h2
  unfold maxLen at hm1 hm2
  clear h1 h2
  by_cases hl : xs.length = ys.length
  · have hres : (xs == ys) = (xs.drop 0 == ys.drop 0) := rfl
    have HL := Lib.hid hl
    have hle : xs.length ≤ ys.length := by omega
    have hbe : ((xs.length : Int) != (ys.length : Int)) = false := by rw [hl]; simp
    have HR := Lib.hid hres
    clear hl hres
    go_enter Tryd.func11, Tryd.ntmps11
    go_wp2
    go_loopw [5] (fun i wr => ∃ k : Nat, k ≤ xs.length ∧ i = .int .i64 k ∧ Upd [] w wr ∧ (xs.drop k == ys.drop k) = (xs == ys)) (fun i _ => xs.length - (intOf i).toNat)
    case atStart => exact ⟨0, Nat.zero_le _, rfl, Upd.refl _ _, HR.out.symm⟩
    case round =>
      obtain ⟨k, hk, rfl, hU, hF⟩ := hrel
      have HF := Lib.hid hF
      clear hF
      by_cases hlt : k < xs.length
      · have hlt2 : k < ys.length := by omega
        obtain ⟨b1, o1, rfl, -, hb1, p1, p2⟩ := hc1 k hlt
        obtain ⟨b2, o2, rfl, -, hb2, p3, p4⟩ := hc2 k hlt2
        have q1 : wr.cell? ⟨b1, o1 + k * 2, none⟩ = some (ei xs[k].1) := (hU.below.cell hb1).trans p1
        have q2 : wr.cell? ⟨b1, o1 + k * 2 + 1, none⟩ = some (ei xs[k].2) := (hU.below.cell hb1).trans p2
        have q3 : wr.cell? ⟨b2, o2 + k * 2, none⟩ = some (ei ys[k].1) := (hU.below.cell hb2).trans p3
        have q4 : wr.cell? ⟨b2, o2 + k * 2 + 1, none⟩ = some (ei ys[k].2) := (hU.below.cell hb2).trans p4
        have hs := drop_step xs ys k hlt hlt2
        have hxy : (xs[k] == ys[k]) = (xs[k].1 == ys[k].1 && xs[k].2 == ys[k].2) := rfl
        rw [hxy] at hs
        have HS := Lib.hid hs
        generalize xs[k].1 = x1 at *
        generalize xs[k].2 = x2 at *
        generalize ys[k].1 = y1 at *
        generalize ys[k].2 = y2 at *
        clear hc1 hc2 p1 p2 p3 p4 hs hxy
        cases hx : (x1 == y1 && x2 == y2)
        · go_wp2
          go_region_held3 (fun w' => w'.cell? ⟨b1, o1 + k * 2, none⟩ = some (ei x1) ∧ w'.cell? ⟨b1, o1 + k * 2 + 1, none⟩ = some (ei x2) ∧ w'.cell? ⟨b2, o2 + k * 2, none⟩ = some (ei y1) ∧ w'.cell? ⟨b2, o2 + k * 2 + 1, none⟩ = some (ei y2)) (go_keep) ((refine (eqTerm x1 x2 y1 y2 _).mono ?_; rintro e w1 ⟨rfl, hu1⟩; have t1 := hu1.keep q1; have t2 := hu1.keep q2; have t3 := hu1.keep q3; have t4 := hu1.keep q4))
          have hU1 := hU.drew.trans hu1
          go_wp2_with fail
          go_ret
          exact ⟨by rw [← HF.out, HS.out, hx]; rfl, hU1⟩
        · go_wp2
          go_region_held3 (fun w' => w'.cell? ⟨b1, o1 + k * 2, none⟩ = some (ei x1) ∧ w'.cell? ⟨b1, o1 + k * 2 + 1, none⟩ = some (ei x2) ∧ w'.cell? ⟨b2, o2 + k * 2, none⟩ = some (ei y1) ∧ w'.cell? ⟨b2, o2 + k * 2 + 1, none⟩ = some (ei y2)) (go_keep) ((refine (eqTerm x1 x2 y1 y2 _).mono ?_; rintro e w1 ⟨rfl, hu1⟩; have t1 := hu1.keep q1; have t2 := hu1.keep q2; have t3 := hu1.keep q3; have t4 := hu1.keep q4))
          have hU1 := hU.drew.trans hu1
          clear hu1 hU
          go_wp2_with fail
          go_roundw
          case rel => exact ⟨k + 1, by omega, by go_num, hU1, by rw [← HF.out, HS.out, hx]; rfl⟩
          case measure => simp [intOf]; omega
      · have hge : xs.length ≤ k := by omega
        clear hc1 hc2
        go_wp2
        go_ret
        exact ⟨by rw [← HF.out, List.drop_of_length_le hge, List.drop_of_length_le (by have := HL.out; omega)]; rfl, hU⟩
  · have hbe : ¬ ((xs.length : Int) != (ys.length : Int)) = false := by simp; omega
    have hne : (xs == ys) = false := by
      rw [beq_eq_false_iff_ne]; intro h; exact hl (by rw [h])
    have HN := Lib.hid hne
    clear hl hne
    go_enter Tryd.func11, Tryd.ntmps11
    go_wp2
    go_ret
    exact ⟨by rw [HN.out]; rfl, Upd.refl _ _⟩

/-- the terms numbered through from k0 on. -/
def upT (k0 : Int) : Nat → List Tm
  | 0 => []
  | n + 1 => (k0, k0 + 1) :: upT (k0 + 2) n
@[simp] theorem upT_length (k0 : Int) (n : Nat) : (upT k0 n).length = n := by
  induction n generalizing k0 with
  | zero => rfl
  | succ n ih => simp [upT, ih]
theorem upT_snoc (k0 : Int) (n : Nat) : upT k0 (n + 1) = upT k0 n ++ [(k0 + 2 * n, k0 + 2 * n + 1)] := by
  induction n generalizing k0 with
  | zero => simp [upT]
  | succ n ih =>
    rw [upT, ih, upT, List.cons_append, show k0 + 2 + 2 * (n : Int) = k0 + 2 * ((n + 1 : Nat) : Int) from by omega]
theorem upT_get (k0 : Int) (n i : Nat) (h : i < n) : (upT k0 n)[i]'(by simpa using h) = (k0 + 2 * i, k0 + 2 * i + 1) := by
  induction n generalizing k0 i with
  | zero => omega
  | succ n ih =>
    cases i with
    | zero => simp [upT]
    | succ i => simp only [upT, List.getElem_cons_succ]; rw [ih _ _ (by omega)]; simp; omega
theorem upT_set (xs : List Tm) (k0 : Int) (k : Nat) (hk : k < xs.length) :
    (upT k0 k ++ xs.drop k).set k (k0 + 2 * k, k0 + 2 * k + 1) = upT k0 (k + 1) ++ xs.drop (k + 1) := by
  rw [List.set_append_right _ _ (by simp), upT_length, Nat.sub_self, List.drop_eq_getElem_cons hk, List.set_cons_zero, upT_snoc]
  simp

set_option maxRecDepth 20000 in
set_option maxHeartbeats 800000 in
theorem mark_T1 (v : Value) (xs : List Tm) (k0 : Int) (w : World) (fp : List Nat) (hk0 : 0 ≤ k0) (hk1 : k0 + mkF_T1 xs ≤ 4611686018427387904) (hR : R_T1 fp w [v] xs) (hO : Own fp w) :
    Calls Tryd.prog 12 #[v, .int .i64 k0] w fun e w' => e = .returned (.int .i64 (k0 + mkF_T1 xs)) ∧ R_T1 fp w' [v] (upT k0 xs.length) ∧ Own fp w' ∧ Upd fp w w' := by
  obtain ⟨a, cap, rfl, h1, h2, -⟩ := slF2_open hR
  unfold maxLen at h2
  unfold mkF_T1 at hk1 ⊢
  go_enter Tryd.func12, Tryd.ntmps12
  go_wp2
  go_loopw [1, 5] (fun kk i wr => ∃ k : Nat, k ≤ xs.length ∧ i = .int .i64 k ∧ kk = .int .i64 (k0 + 2 * k) ∧ Upd fp w wr ∧ Own fp wr ∧
      R_T1 fp wr [.slice a xs.length cap] (upT k0 k ++ xs.drop k))
    (fun _ i _ => xs.length - (intOf i).toNat)
  case atStart => exact ⟨0, Nat.zero_le _, rfl, by simp, Upd.refl _ _, hO, by simpa [upT] using hR⟩
  case round =>
    clear hR hO
    obtain ⟨k, hk, rfl, rfl, hU, hO, hT⟩ := hrel
    have hlen : (upT k0 k ++ xs.drop k).length = xs.length := by simp; omega
    by_cases hlt : k < xs.length
    · have hT' := hT
      obtain ⟨a', cap', hv, -, -, hcell⟩ := slF2_open hT'
      obtain ⟨b, off, rfl, hfo, hb', r1, r2⟩ := hcell k (by omega)
      simp only [Value.slice.injEq] at hv
      obtain ⟨rfl, -, rfl⟩ := hv
      have hfr1 : wr.frozen? ⟨b, off + k * 2, none⟩ = false := hO.frozen (by rw [hfo]; simp) _
      have hfr2 : wr.frozen? ⟨b, off + k * 2 + 1, none⟩ = false := hO.frozen (by rw [hfo]; simp) _
      have hset := slF2_set (b := b) (off := off) (cap := cap) (by rw [hlen]; exact hT) k (by omega) (k0 + 2 * k, k0 + 2 * k + 1)
      rw [hlen, upT_set xs k0 k hlt] at hset
      have HS := Lib.hid (And.intro hset ((hO.setCell ⟨b, off + k * 2, none⟩ (ei (k0 + 2 * k))).setCell ⟨b, off + k * 2 + 1, none⟩ (ei (k0 + 2 * k + 1))))
      have hin : b ∈ fp := by rw [hfo]; simp
      generalize (upT k0 k ++ xs.drop k)[k]'_ = el at r1 r2
      clear hset hT hT' hcell hfo hO hlen
      go_wp2
      go_roundw
      case rel => exact ⟨k + 1, by omega, by go_num, by go_num, (hU.setCell (Or.inr hin) _).setCell (Or.inr hin) _, HS.out.2, HS.out.1⟩
      case measure => simp [intOf]; omega
    · obtain rfl : k = xs.length := by omega
      go_wp2
      go_ret
      refine ⟨rfl, by simpa using hT, hO, hU⟩

set_option maxRecDepth 20000 in
set_option maxHeartbeats 800000 in
theorem held_T1 (v : Value) (xs : List Tm) (k0 : Int) (w : World) (fp : List Nat) (hk0 : 0 ≤ k0) (hk1 : k0 + mkF_T1 xs ≤ 4611686018427387904) (hR : R_T1 fp w [v] (upT k0 xs.length)) :
    Calls Tryd.prog 13 #[v, .int .i64 k0] w fun e w' => e = .returned (.int .i64 (k0 + mkF_T1 xs)) ∧ w = w' := by
  obtain ⟨a, cap, rfl, h1, h2, hc⟩ := slF2_open hR
  simp only [upT_length] at *
  unfold maxLen at h2
  unfold mkF_T1 at hk1 ⊢
  clear hR
  generalize xs.length = n at *
  go_enter Tryd.func13, Tryd.ntmps13
  go_wp2
  go_loop [1, 5] (fun kk i => ∃ k : Nat, k ≤ n ∧ i = .int .i64 k ∧ kk = .int .i64 (k0 + 2 * k)) (fun _ i => n - (intOf i).toNat)
  case atStart => exact ⟨0, Nat.zero_le _, rfl, by simp⟩
  case round =>
    obtain ⟨k, hk, rfl, rfl⟩ := hrel
    by_cases hlt : k < n
    · obtain ⟨b, off, rfl, -, hb, hcell, hcell2⟩ := hc k hlt
      rw [upT_get k0 n k hlt] at hcell hcell2
      have hne : ((k0 + 2 * (k : Int)) != (k0 + 2 * (k : Int))) = false := by simp
      have hne2 : ((k0 + 2 * (k : Int) + 1) != (k0 + 2 * (k : Int) + 1)) = false := by simp
      clear hc
      go_wp2
      go_round
      case rel => exact ⟨k + 1, by omega, by go_num, by go_num⟩
      case measure => simp [intOf]; omega
    · obtain rfl : k = n := by omega
      clear hc
      go_wp2
      go_ret
      exact ⟨rfl, rfl⟩

end Go.Proofs.YtpnokhhbakiiiaaDoor

/-
  The laws' helper functions over slices of slices (T2): what each call returns and makes.
-/
namespace Go.Proofs.YtpnokhhbakiiiaaDoor
open Go.RowKit

def mkF_T2 (xss : List (List Tm)) : Int := (xss.map mkF_T1).sum
def mkd_T2 : Int → List (List Tm) → List (List Tm)
  | _, [] => []
  | k, r :: rs => (fun (k : Int) (r : List Tm) => upT k r.length) k r :: mkd_T2 (k + mkF_T1 r) rs
@[simp] theorem mkd_T2_length (k : Int) (xss : List (List Tm)) : (mkd_T2 k xss).length = xss.length := by
  induction xss generalizing k with
  | nil => rfl
  | cons r rs ih => simp [mkd_T2, ih]
theorem mkd_T2_append (k : Int) (xs ys : List (List Tm)) : mkd_T2 k (xs ++ ys) = mkd_T2 k xs ++ mkd_T2 (k + mkF_T2 xs) ys := by
  induction xs generalizing k with
  | nil => simp [mkd_T2, mkF_T2]
  | cons r rs ih => simp only [List.cons_append, mkd_T2, ih, mkF_T2, List.map_cons, List.sum_cons, Int.add_assoc]
end Go.Proofs.YtpnokhhbakiiiaaDoor

/-
  The functions over relations: what each call returns and makes.
-/
namespace Go.Proofs.YtpnokhhbakiiiaaDoor
open Go.RowKit

def inB (a lo hi : Int) : Bool := decide (lo ≤ a) && decide (a ≤ hi)
theorem inB_true {a lo hi : Int} (h : inB a lo hi = true) : lo ≤ a ∧ a ≤ hi := by simpa [inB] using h
theorem inB_mk {a lo hi : Int} (h : lo ≤ a ∧ a ≤ hi) : inB a lo hi = true := by simpa [inB] using h
theorem inB_no {a lo hi : Int} (h : ¬ (lo ≤ a ∧ a ≤ hi)) : inB a lo hi = false := by
  cases e : inB a lo hi
  · rfl
  · exact absurd (inB_true e) h

set_option maxHeartbeats 400000 in
theorem within (a b c : Int) (w : World) :
    Calls Tryd.prog 50 #[.int .i64 a, .int .i64 b, .int .i64 c] w fun e w' => e = .returned (.bool (inB a b c)) ∧ w = w' := by
  by_cases h1 : b ≤ a
  · go_enter Tryd.func50, Tryd.ntmps50
    go_wp2
    go_ret
    exact ⟨by simp [inB, h1], rfl⟩
  · have e : inB a b c = false := inB_no (by omega)
    go_enter Tryd.func50, Tryd.ntmps50
    go_wp2
    go_ret
    exact ⟨rfl, rfl⟩

end Go.Proofs.YtpnokhhbakiiiaaDoor

/-
  Terms: arity, validity, the count of operands still wanted; both sides' functions on them.
-/
namespace Go.Proofs.YtpnokhhbakiiiaaDoor
open Go.RowKit

def arity (t : Tm) : Int := if t.1 = 2 then 2 else if t.1 = 3 then 1 else 0
def tOk (t : Tm) (nv : Int) : Bool :=
  if t.1 = 0 then inB t.2 0 63 else if t.1 = 1 then inB t.2 0 (nv - 1) else if t.1 = 2 then inB t.2 0 8 else if t.1 = 3 then t.2 == 0 else false
/-- how many operands are wanted behind terms, n before them; none where a term is out of place or wrong. -/
def run (nv : Int) : List Tm → Int → Option Int
  | [], n => some n
  | t :: ts, n => if n = 0 then none else if tOk t nv then run nv ts (n + (arity t - 1)) else none
set_option maxHeartbeats 400000 in
theorem operands (a b : Int) (w : World) : Calls Tryd.prog 52 #[.agg #[ei a, ei b]] w fun e w' => e = .returned (.int .i64 (arity (a, b))) ∧ Upd [] w w' := by
  by_cases h2 : a = 2
  · subst h2
    go_enter Tryd.func52, Tryd.ntmps52
    go_wp2
    go_ret
    exact ⟨rfl, (Upd.refl _ _).alloc _⟩
  · by_cases h3 : a = 3
    · subst h3
      go_enter Tryd.func52, Tryd.ntmps52
      go_wp2
      go_ret
      exact ⟨rfl, (Upd.refl _ _).alloc _⟩
    · have e : arity (a, b) = 0 := by simp [arity, h2, h3]
      have HE := Lib.hid e
      have g2 : (a == 2) = false := by simp [h2]
      have g3 : (a == 3) = false := by simp [h3]
      clear e h2 h3
      go_enter Tryd.func52, Tryd.ntmps52
      go_wp2
      go_ret
      exact ⟨by rw [HE.out]; rfl, (Upd.refl _ _).alloc _⟩

end Go.Proofs.YtpnokhhbakiiiaaDoor

/-
  Expressions as trees: how a tree lies in memory; the terms of a tree in order; a valid list of terms is one tree's.
-/
namespace Go.Proofs.YtpnokhhbakiiiaaDoor
open Go.RowKit

inductive Ex where
  | mk (t : Tm) (args : List Ex)

mutual
def RE : Ex → List Nat → World → List Value → Prop
  | .mk t args, fp, w, cs => ∃ b s fa us fb fps, cs = [.pointer (some ⟨b, 0, none⟩)] ∧ fp = b :: fa ∧ w.cell? ⟨b, 0, none⟩ = some (ei t.1) ∧ w.cell? ⟨b, 1, none⟩ = some (ei t.2) ∧ w.cell? ⟨b, 2, none⟩ = some s ∧
      Flat fb w s 1 args.length us ∧ List.length fps = args.length ∧ fa = fb ++ List.flatten fps ∧ REs args fps w us
def REs : List Ex → List (List Nat) → World → List Value → Prop
  | [], _, _, _ => True
  | x :: xs, fps, w, us => ∃ f fs u vs, fps = f :: fs ∧ us = u :: vs ∧ RE x f w [u] ∧ REs xs fs w vs
end

mutual
def flatE : Ex → List Tm
  | .mk t args => t :: flatEs args
def flatEs : List Ex → List Tm
  | [] => []
  | x :: xs => flatE x ++ flatEs xs
end

abbrev R_E : Rp Ex := fun fp w cs x => RE x fp w cs

theorem REs_get : ∀ (xs : List Ex) (fps : List (List Nat)) (w : World) (us : List Value), REs xs fps w us → ∀ i (h : i < xs.length) u (f : List Nat), us[i]? = some u → fps[i]? = some f → RE xs[i] f w [u]
  | [], _, _, _, _, i, h, _, _, _, _ => by simp at h
  | x :: xs, fps, w, us, hr, i, h, u, f, hu, hf => by
    obtain ⟨f0, fs, u0, vs, rfl, rfl, h1, h2⟩ := hr
    cases i with
    | zero => simp at hu hf; subst hu hf; exact h1
    | succ i => exact REs_get xs fs w vs h2 i (by simpa using h) u f (by simpa using hu) (by simpa using hf)

theorem REs_mk : ∀ (xs : List Ex) (fps : List (List Nat)) (w : World) (us : List Value), fps.length = xs.length → us.length = xs.length →
    (∀ i (h : i < xs.length) u (f : List Nat), us[i]? = some u → fps[i]? = some f → RE xs[i] f w [u]) → REs xs fps w us
  | [], _, _, _, _, _, _ => trivial
  | x :: xs, fps, w, us, h1, h2, h => by
    match fps, us, h1, h2 with
    | f :: fs, u :: vs, h1, h2 =>
      exact ⟨f, fs, u, vs, rfl, rfl, h 0 (by simp) u f rfl rfl, REs_mk xs fs w vs (by simpa using h1) (by simpa using h2) (fun i hi u' f' hu hf => h (i + 1) (by simpa using hi) u' f' (by simpa using hu) (by simpa using hf))⟩

theorem R_E_open {fp : List Nat} {w : World} {v : Value} {t : Tm} {args : List Ex} (h : R_E fp w [v] (.mk t args)) :
    ∃ b s fa, v = .pointer (some ⟨b, 0, none⟩) ∧ fp = b :: fa ∧ w.cell? ⟨b, 0, none⟩ = some (ei t.1) ∧ w.cell? ⟨b, 1, none⟩ = some (ei t.2) ∧ w.cell? ⟨b, 2, none⟩ = some s ∧ slP R_E fa w [s] args := by
  simp only [R_E, RE] at h
  obtain ⟨b, s, fa, us, fb, fps, hv, rfl, h1, h2, h3, h4, h5, rfl, h6⟩ := h
  simp at hv
  exact ⟨b, s, _, hv, rfl, h1, h2, h3, s, us, fb, fps, rfl, h4, h5, rfl, REs_get _ _ _ _ h6⟩

theorem R_E_mk {w : World} {t : Tm} {args : List Ex} {b : Nat} {s : Value} {fa : List Nat} (h1 : w.cell? ⟨b, 0, none⟩ = some (ei t.1)) (h2 : w.cell? ⟨b, 1, none⟩ = some (ei t.2)) (h3 : w.cell? ⟨b, 2, none⟩ = some s)
    (h : slP R_E fa w [s] args) : R_E (b :: fa) w [.pointer (some ⟨b, 0, none⟩)] (.mk t args) := by
  obtain ⟨v, us, fb, fps, hv, h4, h5, rfl, h6⟩ := h
  cases hv
  have hl : us.length = args.length := by obtain ⟨_, _, _, _, _, h, _⟩ := h4; simpa using h
  simp only [R_E, RE]
  exact ⟨b, s, _, us, fb, fps, rfl, rfl, h1, h2, h3, h4, h5, rfl, REs_mk _ _ _ _ h5 hl h6⟩

theorem R_E_form {fp : List Nat} {w : World} {v : Value} {x : Ex} (h : R_E fp w [v] x) : ∃ b, v = .pointer (some ⟨b, 0, none⟩) := by
  obtain ⟨t, args⟩ := x
  obtain ⟨b, -, -, rfl, -⟩ := R_E_open h
  exact ⟨b, rfl⟩

mutual
theorem RE_lt : ∀ (x : Ex) (fp : List Nat) (w : World) (cs : List Value), RE x fp w cs → ∀ b ∈ fp, b < w.heap.size
  | .mk t args, fp, w, cs, h, b, hb => by
    simp only [RE] at h
    obtain ⟨b0, s, fa, us, fb, fps, -, rfl, h1, -, -, h4, h5, rfl, h6⟩ := h
    rcases List.mem_cons.1 hb with rfl | hb
    · exact World.block_lt_of_cell? w _ h1
    · rcases List.mem_append.1 hb with hb | hb
      · exact h4.lt b hb
      · exact REs_lt args fps w us h5 h6 b hb
theorem REs_lt : ∀ (xs : List Ex) (fps : List (List Nat)) (w : World) (us : List Value), fps.length = xs.length → REs xs fps w us → ∀ b ∈ fps.flatten, b < w.heap.size
  | [], fps, _, _, h, _, b, hb => by simp at h; subst h; simp at hb
  | x :: xs, fps, w, us, hl, h, b, hb => by
    simp only [REs] at h
    obtain ⟨f, fs, u, vs, rfl, rfl, h1, h2⟩ := h
    rw [List.flatten_cons] at hb
    rcases List.mem_append.1 hb with hb | hb
    · exact RE_lt x f w [u] h1 b hb
    · exact REs_lt xs fs w vs (by simpa using hl) h2 b hb
end

mutual
theorem RE_frame : ∀ (x : Ex) (fp : List Nat) (w w' : World) (cs : List Value), RE x fp w cs → w.heap.size ≤ w'.heap.size → (∀ b ∈ fp, w'.heap[b]? = w.heap[b]?) → RE x fp w' cs
  | .mk t args, fp, w, w', cs, h, hs, hb => by
    simp only [RE] at h ⊢
    obtain ⟨b0, s, fa, us, fb, fps, rfl, rfl, h1, h2, h3, h4, h5, rfl, h6⟩ := h
    have hb0 := hb b0 (by simp)
    refine ⟨b0, s, _, us, fb, fps, rfl, rfl, ?_, ?_, ?_, h4.frame hs (fun b h => hb b (by simp [h])), h5, rfl, REs_frame args fps w w' us h6 hs (fun b h => hb b (by simp only [List.mem_cons, List.mem_append]; exact Or.inr (Or.inr h)))⟩
    · rw [World.cell?_of_block (w := w) hb0]; exact h1
    · rw [World.cell?_of_block (w := w) hb0]; exact h2
    · rw [World.cell?_of_block (w := w) hb0]; exact h3
theorem REs_frame : ∀ (xs : List Ex) (fps : List (List Nat)) (w w' : World) (us : List Value), REs xs fps w us → w.heap.size ≤ w'.heap.size → (∀ b ∈ fps.flatten, w'.heap[b]? = w.heap[b]?) → REs xs fps w' us
  | [], _, _, _, _, _, _, _ => trivial
  | x :: xs, fps, w, w', us, h, hs, hb => by
    simp only [REs] at h ⊢
    obtain ⟨f, fs, u, vs, rfl, rfl, h1, h2⟩ := h
    exact ⟨f, fs, u, vs, rfl, rfl, RE_frame x f w w' [u] h1 hs (fun b h => hb b (by rw [List.flatten_cons]; exact List.mem_append_left _ h)), REs_frame xs fs w w' vs h2 hs (fun b h => hb b (by rw [List.flatten_cons]; exact List.mem_append_right _ h))⟩
end

theorem R_Ek : Kept R_E := ⟨fun h => RE_lt _ _ _ _ h, fun h hs hb => RE_frame _ _ _ _ _ h hs hb⟩

theorem flatEs_append (xs ys : List Ex) : flatEs (xs ++ ys) = flatEs xs ++ flatEs ys := by
  induction xs with
  | nil => rfl
  | cons x xs ih => simp [flatEs, ih]
theorem flatE_pos (x : Ex) : 1 ≤ (flatE x).length := by cases x; simp [flatE]

end Go.Proofs.YtpnokhhbakiiiaaDoor

/-
  The terms of a tree in order; a tree out of terms: what each call returns and makes.
-/
namespace Go.Proofs.YtpnokhhbakiiiaaDoor
open Go.RowKit

abbrev encT (t : Tm) : List Value := [ei t.1, ei t.2]

theorem flatEs_take (xs : List Ex) (k : Nat) (h : k < xs.length) : flatEs (xs.take (k + 1)) = flatEs (xs.take k) ++ flatE xs[k] := by
  rw [List.take_succ_eq_append_getElem h, flatEs_append]; simp [flatEs]
theorem flatEs_take_le (xs : List Ex) (k : Nat) : (flatEs (xs.take k)).length ≤ (flatEs xs).length := by
  conv => rhs; rw [← List.take_append_drop k xs, flatEs_append, List.length_append]
  omega

theorem Below.keepK {α : Type} {R : Rp α} (K : Kept R) {B : Nat} {w w' : World} {fp cs x} (h : R fp w cs x) (hb : Below B w w') (hf : ∀ b ∈ fp, b < B) : R fp w' cs x :=
  K.frame h hb.size fun b hm => hb.block b (hf b hm)

set_option maxHeartbeats 1000000 in
theorem termsE (n : Nat) : ∀ (x : Ex) (w : World) (v vo : Value) (fp : List Nat) (B : Nat) (out : List Tm), (flatE x).length ≤ n → out.length + (flatE x).length ≤ 1000000 →
    R_E fp w [v] x → (∀ b ∈ fp, b < B) → B ≤ w.heap.size → w.ownsRow B 50 2 vo out.length (out.flatMap encT) →
    Calls Tryd.prog 42 #[v, vo] w fun e w' => (∃ v', e = .returned v' ∧ w'.ownsRow B 50 2 v' (out ++ flatE x).length ((out ++ flatE x).flatMap encT)) ∧ Below B w w' := by
  induction n with
  | zero => intro x w v vo fp B out hn; have := flatE_pos x; omega
  | succ n ih =>
    intro x w v vo fp B out hn hlen hR hfp hB hown
    obtain ⟨i0, hi, hz0, hz1, hz2⟩ := info_parts Tryd.infoT
    obtain ⟨t, args⟩ := x
    obtain ⟨b0, s, fa, rfl, rfl, c0, c1, c2, hargs⟩ := R_E_open hR
    obtain ⟨a, cap, rfl, h1, h2, hc⟩ := slP_open hargs
    unfold maxLen at h2
    simp only [flatE, List.length_cons] at hn hlen
    have hfx : ∀ k, (flatEs (args.take k)).length ≤ (flatEs args).length := flatEs_take_le args
    have HFX := Lib.hid hfx
    have HFP := Lib.hid hfp
    have HIH := Lib.hid ih
    have hb0 : b0 < B := hfp b0 (by simp)
    obtain ⟨t1, t2⟩ := t
    clear hfx hfp ih hR
    go_enter Tryd.func42, Tryd.ntmps42
    go_wp2_with (first
      | (at_builtin; refine wpList_append_tight _ rfl _ _ 24 rfl B 50 i0 (.agg #[.int .i64 0, .int .i64 0]) 2 16 Tryd.underlying24 hi hz0 hz1 hz2 rfl (by decide) _ _ _ rfl (hown.alloc _) ⟨w.heap.size, 0, none⟩ 1 1 [ei t1, ei t2] rfl rfl ?c1 ?c2 ?c3 ?c4 ?c5 ?_)
      | fail)
    case c2 => exact ⟨rfl, rfl⟩
    case c3 => unfold maxLen; omega
    case c4 => omega
    case c5 => omega
    intro v2 w2 hown2 hg2 ht2
    have hB2 : Below B w w2 := ((Below.refl B w).alloc hB _).grown hg2 (by simp; omega) (fun k hk => (hown.lt k hk).1)
    have hown3 : w2.ownsRow B 50 2 v2 (out ++ [(t1, t2)]).length ((out ++ [(t1, t2)]).flatMap encT) := by simpa using hown2
    have c2' : w2.cell? ⟨b0, 2, none⟩ = some (.slice a args.length cap) := (hB2.cell (p := ⟨b0, 2, none⟩) hb0).trans c2
    have hsz := hB2.size
    clear hown hown2 hg2 ht2 c0 c1 c2
    go_wp2_with fail
    go_loopw [1, 19] (fun vv i wr => ∃ k : Nat, k ≤ args.length ∧ i = .int .i64 k ∧ Below B w wr ∧ wr.ownsRow B 50 2 vv (out ++ (t1, t2) :: flatEs (args.take k)).length ((out ++ (t1, t2) :: flatEs (args.take k)).flatMap encT)) (fun _ i _ => args.length - (intOf i).toNat)
    case atStart => exact ⟨0, Nat.zero_le _, rfl, hB2, by simpa [flatEs] using hown3⟩
    case round =>
      clear hB2 hown3 c2' hsz
      obtain ⟨k, hk, rfl, hB2, hown⟩ := hrel
      by_cases hlt : k < args.length
      · obtain ⟨b, off, u, f, rfl, hbm, hbl, hcell, hsub, hr⟩ := hc k hlt
        have hbB : b < B := HFP.out b (by simp [hbm])
        have hcell' : wr.cell? ⟨b, off + k, none⟩ = some u := (hB2.cell (p := ⟨b, off + k, none⟩) hbB).trans hcell
        have hr' : R_E f wr [u] args[k] := Below.keepK R_Ek hr hB2 (fun b hb => HFP.out b (by simp [hsub b hb]))
        have hsz := hB2.size
        have hft := flatEs_take args k hlt
        have q1 := HFX.out (k + 1)
        rw [hft, List.length_append] at q1
        have S2 := Lib.hid (HIH.out args[k] wr u _ f B _ (by omega) (by simp only [List.length_append, List.length_cons]; omega) hr' (fun b hb => HFP.out b (by simp [hsub b hb])) (by omega) hown)
        have HFT := Lib.hid hft
        clear hft hc hown hr hr' hcell
        go_wp2_with fail
        refine S2.out.mono ?_
        rintro e w3 ⟨⟨v3, rfl, hown3⟩, hb3⟩
        have hB3 := hB2.trans hb3
        rw [List.append_assoc, List.cons_append, ← HFT.out] at hown3
        clear S2 hB2 hb3
        go_wp2_with fail
        go_roundw
        case rel => exact ⟨k + 1, by omega, by go_num, hB3, hown3⟩
        case measure => simp [intOf]; omega
      · obtain rfl : args.length = k := by omega
        rw [List.take_length] at hown
        clear hc
        go_wp2_with fail
        go_ret
        exact ⟨⟨_, rfl, hown⟩, hB2⟩

set_option maxHeartbeats 400000 in
theorem listE (x : Ex) (w : World) (v : Value) (fp : List Nat) (hl : (flatE x).length ≤ 1000000) (hR : R_E fp w [v] x) :
    Calls Tryd.prog 23 #[v] w fun e w' => (∃ v', e = .returned v' ∧ New R_T1 w w' v' (flatE x)) ∧ Upd [] w w' := by
  have S2 := termsE _ x w v (.slice none 0 0) fp w.heap.size [] (Nat.le_refl _) (by simpa using hl) hR (R_Ek.lt hR) (Nat.le_refl _) (World.ownsRow_nil _ _ _ _)
  go_enter Tryd.func23, Tryd.ntmps23
  go_wp2_with fail
  refine S2.mono ?_
  rintro e w1 ⟨⟨v1, rfl, hown⟩, hb⟩
  go_wp2_with fail
  go_ret
  exact ⟨⟨_, rfl, New.ofOwns2 (e := 50) (by simpa using hown)⟩, Upd.ofBelow hb⟩

/-- a slice without its first element, whatever address its value bears. -/
theorem slF_tail {α : Type} {n : Nat} {enc : α → List Value} (he : ∀ x, (enc x).length = n) {fp : List Nat} {w : World} {b off len cap : Nat} {x : α} {xs : List α}
    (h : slF n enc fp w [.slice (some ⟨b, off, none⟩) len cap] (x :: xs)) (o' : Nat) (ho : xs ≠ [] → o' = off + n) :
    ∃ fp', slF n enc fp' w [.slice (some ⟨b, o', none⟩) (len - 1) (cap - 1)] xs ∧ (∀ c ∈ fp', c ∈ fp) := by
  obtain ⟨v, hv, a, cap', hv2, h1, h2, h3, h4⟩ := h
  cases hv
  simp only [Value.slice.injEq] at hv2
  obtain ⟨rfl, rfl, rfl⟩ := hv2
  simp only [List.length_cons] at *
  have hl : (xs.flatMap enc).length = xs.length * n := by
    clear h3 h4 ho
    induction xs with
    | nil => simp
    | cons y ys ih => rw [List.flatMap_cons, List.length_append, he, ih (by simp at h1; omega), List.length_cons, Nat.add_mul]; omega
  rcases h4 with ⟨h0, -⟩ | ⟨b', off', hb', rfl, hbl, hc⟩
  · omega
  · simp only [Option.some.injEq, Addr.mk.injEq, and_true] at hb'
    obtain ⟨rfl, rfl⟩ := hb'
    by_cases hx : xs = []
    · subst hx
      exact ⟨[], ⟨_, rfl, some ⟨b, o', none⟩, cap - 1, by simp, by simp, by omega, by simp, Or.inl ⟨rfl, rfl⟩⟩, by simp⟩
    · refine ⟨[b], ⟨_, rfl, _, cap - 1, by simp, by omega, by omega, hl, Or.inr ⟨b, o', rfl, rfl, hbl, fun j u hu => ?_⟩⟩, by simp⟩
      have := hc (n + j) u (by rw [List.flatMap_cons, List.getElem?_append_right (by rw [he]; omega), he, Nat.add_sub_cancel_left]; exact hu)
      rw [ho hx, Nat.add_assoc]; exact this

end Go.Proofs.YtpnokhhbakiiiaaDoor

/-
  OperandsOf, both sides.
-/
namespace Go.Proofs.YtpnokhhbakiiiaaDoor
open Go.RowKit

theorem Tryd.infoTS : (Tryd.prog.info? 24).map (fun i => (i.zero, i.size, i.bytes)) = some (some (.slice none 0 0), 1, 24) := by kernel_rfl

end Go.Proofs.YtpnokhhbakiiiaaDoor

/-
  Postfix form: the stack of trees, plainly.
-/
namespace Go.Proofs.YtpnokhhbakiiiaaDoor

end Go.Proofs.YtpnokhhbakiiiaaDoor

/-
  Values of trees, and folding, plainly.
-/
namespace Go.Proofs.YtpnokhhbakiiiaaDoor

end Go.Proofs.YtpnokhhbakiiiaaDoor

/-
  Values of operations and of trees: what the calls return.
-/
namespace Go.Proofs.YtpnokhhbakiiiaaDoor
open Go.RowKit

end Go.Proofs.YtpnokhhbakiiiaaDoor

/-
  More of the library: parts of slices, append behind a full slice expression, rows of a stack that is cut.
-/
namespace Go.Proofs.YtpnokhhbakiiiaaDoor
open Go.RowKit

theorem addr_add (b off j : Nat) : (⟨b, off, none⟩ : Addr).add j = ⟨b, off + j, none⟩ := by simp only [Addr.add]; split <;> simp_all

section
variable {P : Program} (w : World)

end

theorem ownsRow_take {w : World} {base : Nat} {e : TypeId} {size g n cap : Nat} {xs : List Value} (h : w.ownsRow base e size (.slice (some ⟨g, 0, none⟩) n cap) n xs) (m : Nat) (hm : m ≤ n) :
    w.ownsRow base e size (.slice (some ⟨g, 0, none⟩) m cap) m (xs.take (m * size)) := by
  have hle : m * size ≤ n * size := Nat.mul_le_mul_right _ hm
  refine ⟨by rw [List.length_take, h.1]; omega, ?_⟩
  rcases h.2 with ⟨h0, -⟩ | ⟨g', cap', cur, hv, h1, h2, h3, h4, h5, h6⟩
  · cases h0
  · cases hv
    exact Or.inr ⟨g, cap, cur, rfl, h1, h2, by omega, h4, h5, by rw [← h6, List.take_take, Nat.min_eq_left hle]⟩

theorem Rows.take {α : Type} {R : Rp α} {base : Nat} {ob : List Nat} {w : World} {us : List Value} {xs : List α} (h : Rows R base ob w us xs) (m : Nat) : Rows R base ob w (us.take m) (xs.take m) := by
  obtain ⟨fps, h1, h2, h3, h4, h5⟩ := h
  have hs : (fps.take m).flatten.Sublist fps.flatten := by
    conv => rhs; rw [← List.take_append_drop m fps, List.flatten_append]
    exact List.sublist_append_left _ _
  refine ⟨fps.take m, by simp [h1], by simp [h2], ⟨h3.1.sublist hs, fun b hb => h3.2 b (hs.subset hb)⟩, fun b hb => h4 b (hs.subset hb), fun i hi u f hu hf => ?_⟩
  simp at hi
  rw [List.getElem?_take, if_pos (by omega)] at hu hf
  simpa using h5 i (by omega) u f hu hf

theorem Acc.take {α : Type} {R : Rp α} {w0 w : World} {e : TypeId} {g n cap : Nat} {xs : List α} (h : Acc R w0 e w (.slice (some ⟨g, 0, none⟩) n cap) xs) (m : Nat) (hm : m ≤ xs.length) :
    n = xs.length ∧ Acc R w0 e w (.slice (some ⟨g, 0, none⟩) m cap) (xs.take m) := by
  obtain ⟨us, h1, h2⟩ := h
  have hn : n = xs.length := by
    rcases h1.2 with ⟨h0, -⟩ | ⟨g', cap', cur, hv, -⟩
    · cases h0
    · cases hv; rfl
  subst hn
  refine ⟨rfl, us.take m, ?_, ?_⟩
  · have := ownsRow_take h1 m hm
    rw [Nat.mul_one] at this
    rw [List.length_take, Nat.min_eq_left hm]; exact this
  · simpa [Value.ownBlock] using h2.take m


/-- a slice that is not empty, as the source of an append. -/
theorem slF_src {α : Type} {n : Nat} {enc : α → List Value} {fp : List Nat} {w : World} {v : Value} {xs : List α} (h : slF n enc fp w [v] xs) (h0 : 0 < xs.length) :
    ∃ b off cap, v = .slice (some ⟨b, off, none⟩) xs.length cap ∧ xs.length ≤ cap ∧ cap ≤ maxLen ∧ (xs.flatMap enc).length = xs.length * n ∧ ∀ j u, (xs.flatMap enc)[j]? = some u → w.cell? ((⟨b, off, none⟩ : Addr).add j) = some u := by
  obtain ⟨v', hv, a, cap, rfl, h1, h2, h3, h4⟩ := h
  cases hv
  rcases h4 with ⟨h0', -⟩ | ⟨b, off, rfl, -, -, hc⟩
  · omega
  · exact ⟨b, off, cap, rfl, h1, h2, h3, fun j u hu => by rw [addr_add]; exact hc j u hu⟩

theorem Acc.cap {α : Type} {R : Rp α} {w0 w : World} {e : TypeId} {g n cap : Nat} {xs : List α} (h : Acc R w0 e w (.slice (some ⟨g, 0, none⟩) n cap) xs) :
    n = xs.length ∧ n ≤ cap ∧ cap ≤ maxLen := by
  obtain ⟨us, h1, h2⟩ := h
  generalize hx : xs.length = m at h1
  rcases h1.2 with ⟨h0, -⟩ | ⟨g', cap', cur, hv, -, -, h3, h4, -⟩
  · cases h0
  · cases hv; exact ⟨rfl, h3, h4⟩


/-- A slice of one-cell elements that a call collects by append; the elements' memory may be older, its blocks are of G. -/
def Got {α : Type} (R : Rp α) (base : Nat) (G : Nat → Prop) (e : TypeId) (w : World) (v : Value) (xs : List α) : Prop :=
  ∃ us fps, w.ownsRow base e 1 v xs.length us ∧ List.length fps = xs.length ∧ (∀ b ∈ List.flatten fps, v.ownBlock ≠ some b ∧ G b) ∧
    ∀ i (h : i < xs.length) u (f : List Nat), us[i]? = some u → fps[i]? = some f → R f w [u] xs[i]

namespace Got
variable {α : Type} {R : Rp α} {base : Nat} {G : Nat → Prop} {e : TypeId} {w w1 w2 : World} {v : Value} {xs : List α}

theorem nil (R : Rp α) (base : Nat) (G : Nat → Prop) (e : TypeId) (w : World) : Got R base G e w (.slice none 0 0) [] :=
  ⟨[], [], World.ownsRow_nil _ _ _ _, rfl, by simp, by simp⟩

theorem own (h : Got R base G e w v xs) : ∃ us, w.ownsRow base e 1 v xs.length us := by obtain ⟨us, _, h, _⟩ := h; exact ⟨us, h⟩

theorem upd (K : Kept R) (h : Got R base G e w v xs) {f : List Nat} (hu : Upd f w w1) (hf : ∀ b ∈ f, b < base ∧ ¬ G b) : Got R base G e w1 v xs := by
  obtain ⟨us, fps, h1, h2, h3, h4⟩ := h
  refine ⟨us, fps, ?_, h2, h3, fun i hi u g hu' hg => K.upd (h4 i hi u g hu' hg) hu fun b hb hm => (hf b hm).2 (h3 b (List.mem_flatten.2 ⟨_, List.mem_of_getElem? hg, hb⟩)).2⟩
  obtain ⟨g1, g2⟩ := h1
  refine ⟨g1, ?_⟩
  rcases g2 with g2 | ⟨g, cap, cur, hv, hb, hh, q1, q2, q3, q4⟩
  · exact Or.inl g2
  · refine Or.inr ⟨g, cap, cur, hv, hb, ?_, q1, q2, q3, q4⟩
    rw [hu.block g (Array.getElem?_eq_some_iff.1 hh).1 (fun hm => by have := (hf g hm).1; omega)]; exact hh

theorem slP (h : Got R base G e w v xs) : ∃ fp, slP R fp w [v] xs ∧ ∀ b ∈ fp, base ≤ b ∨ G b := by
  obtain ⟨us, fps, h1, h2, h3, h4⟩ := h
  obtain ⟨fb, g1, g2, g3, g4⟩ := Flat.ofOwns h1
  refine ⟨fb ++ fps.flatten, ⟨v, us, fb, fps, rfl, g1, h2, rfl, h4⟩, fun b hb => ?_⟩
  rcases List.mem_append.1 hb with hb | hb
  · exact Or.inl (g3 b hb)
  · exact Or.inr (h3 b hb).2

/-- behind an append of one element u, boxed in a new block. -/
theorem push (K : Kept R) (h : Got R base G e w v xs) {us : List Value} (hus : w.ownsRow base e 1 v xs.length us) {u : Value} {x : α} {g : List Nat} (hx : R g w [u] x) (hg : ∀ b ∈ g, v.ownBlock ≠ some b ∧ G b) (o : Obj) {v2 : Value}
    (h2 : w2.ownsRow base e 1 v2 (xs.length + 1) (us ++ [u])) (hgr : (w.alloc o).grownBy w2 v.ownBlock)
    (ht : ∀ b, v2.ownBlock = some b → v.ownBlock = some b ∨ (w.alloc o).heap.size ≤ b) : Got R base G e w2 v2 (xs ++ [x]) := by
  obtain ⟨us', fps, h1, q2, q3, q4⟩ := h
  have hu3 : Upd v.ownBlock.toList w w2 := ((Upd.refl _ _).alloc o).grown hgr (fun k hk => Or.inr (by simp [hk]))
  have hsame : us' = us := by
    rcases h1.2 with ⟨hv, h0⟩ | ⟨b, cap, cur, hv, hb, hh, r1, r2, r3, r4⟩
    · have e1 : us' = [] := List.eq_nil_of_length_eq_zero (by have := h1.1; rw [h0] at this; simpa using this)
      have e2 : us = [] := List.eq_nil_of_length_eq_zero (by have := hus.1; rw [h0] at this; simpa using this)
      rw [e1, e2]
    · subst hv
      rcases hus.2 with ⟨hv', _⟩ | ⟨b', cap', cur', hv', hb', hh', r1', r2', r3', r4'⟩
      · cases hv'
      · simp only [Value.slice.injEq, Option.some.injEq, Addr.mk.injEq, and_true] at hv'
        obtain ⟨rfl, _, rfl⟩ := hv'
        rw [hh] at hh'
        cases hh'
        rw [← r4, ← r4']
  subst hsame
  have hul : us'.length = xs.length := by rw [h1.1, Nat.mul_one]
  have hlt : ∀ b ∈ fps.flatten, b < w.heap.size := by
    intro b hb
    obtain ⟨f, hf, hbf⟩ := List.mem_flatten.1 hb
    obtain ⟨i, hi, rfl⟩ := List.mem_iff_getElem.1 hf
    exact K.lt (q4 i (by omega) us'[i] fps[i] (by simp) (by simp)) b hbf
  have hnot : ∀ b, v.ownBlock ≠ some b → b < w.heap.size → v2.ownBlock ≠ some b := by
    intro b hb hl he
    rcases ht b he with h | h
    · exact hb h
    · simp at h; omega
  refine ⟨us' ++ [u], fps ++ [g], by simpa using h2, by simp [q2], ?_, ?_⟩
  · intro b hb
    rw [List.flatten_append] at hb
    rcases List.mem_append.1 hb with hb | hb
    · exact ⟨hnot b (q3 b hb).1 (hlt b hb), (q3 b hb).2⟩
    · have hb' : b ∈ g := by simpa using hb
      exact ⟨hnot b (hg b hb').1 (K.lt hx b hb'), (hg b hb').2⟩
  · intro i hi u' f hu' hf'
    by_cases hlt' : i < xs.length
    · rw [List.getElem?_append_left (by omega)] at hu' hf'
      rw [List.getElem_append_left hlt']
      exact K.upd (q4 i hlt' u' f hu' hf') hu3 (fun b hb hm => (q3 b (List.mem_flatten.2 ⟨_, List.mem_of_getElem? hf', hb⟩)).1 (by simpa using hm))
    · have ei : i = xs.length := by simp at hi; omega
      subst ei
      rw [List.getElem?_append_right (by omega)] at hu' hf'
      rw [hul, Nat.sub_self] at hu'
      rw [q2, Nat.sub_self] at hf'
      simp at hu' hf'
      subst hu' hf'
      simpa using K.upd hx hu3 (fun b hb hm => (hg b hb).1 (by simpa using hm))
end Got

theorem cell_new (w : World) (cs : Array Value) (T : TypeId) (B : Nat) (hB : w.heap.size = B) (j : Nat) (u : Value) (h : cs[j]? = some u) : (w.alloc (.cells cs T)).cell? ⟨B, j, none⟩ = some u := by
  subst hB
  rw [cell_of_row _ _ _ _ _ _ (heap_alloc_new w _)]; exact h

end Go.Proofs.YtpnokhhbakiiiaaDoor

/-
  Folding, the program's side.
-/
namespace Go.Proofs.YtpnokhhbakiiiaaDoor
open Go.RowKit

end Go.Proofs.YtpnokhhbakiiiaaDoor

/-
  Folding, the reference's side.
-/
namespace Go.Proofs.YtpnokhhbakiiiaaDoor
open Go.RowKit

end Go.Proofs.YtpnokhhbakiiiaaDoor

/-
  A number in decimal: the reference's digits.
-/
namespace Go.Proofs.YtpnokhhbakiiiaaDoor
open Go.RowKit

abbrev es (l : List UInt8) : Value := .string ⟨l.toArray⟩
end Go.Proofs.YtpnokhhbakiiiaaDoor

/-
  The text of an expression, plainly.
-/
namespace Go.Proofs.YtpnokhhbakiiiaaDoor
open Go.RowKit

def opT (op : Int) : List UInt8 := [[43], [45], [42], [61], [35], [60], [60, 61], [38], [124]].getD op.toNat []
def lvl (op : Int) : Int := [4, 4, 5, 3, 3, 3, 3, 2, 1].getD op.toNat 0
def lvE : Ex → Int | .mk t _ => if t.1 = 2 then lvl t.2 else 9
def isOp : Ex → Bool | .mk t _ => t.1 == 2
def par (b : Bool) (l : List UInt8) : List UInt8 := if b then ([40] ++ l) ++ [41] else l
mutual
def textE : Ex → List UInt8
  | .mk t args => if t.1 = 0 then Lib.itoa t.2 else if t.1 = 1 then [118] ++ Lib.itoa t.2 else if t.1 = 3 then [33] ++ par ((args.map isOp).getD 0 false) ((textEs args).getD 0 [])
    else (par (decide ((args.map lvE).getD 0 9 < lvl t.2)) ((textEs args).getD 0 []) ++ opT t.2) ++ par (decide ((args.map lvE).getD 1 9 ≤ lvl t.2)) ((textEs args).getD 1 [])
def textEs : List Ex → List (List UInt8)
  | [] => []
  | x :: xs => textE x :: textEs xs
end

end Go.Proofs.YtpnokhhbakiiiaaDoor

/-
  Expressions parsed: the parser by levels and the machine with waiting operators give the same terms; plain.
-/
namespace Go.Proofs.YtpnokhhbakiiiaaDoor
open Go.RowKit

/-- tokens. -/
inductive Tk where
  | op (o : Nat)
  | bang
  | lpar
  | rpar
  | num (n : Int)
  | var (k : Int)
deriving DecidableEq

/-- the level of the operator that is next, 0 if none is. -/
def nlv : List Tk → Int
  | .op o :: _ => lvl o
  | _ => 0
theorem lvl_bd (o : Nat) (h : o < 9) : 1 ≤ lvl o ∧ lvl o ≤ 5 := by
  rcases (show o = 0 ∨ o = 1 ∨ o = 2 ∨ o = 3 ∨ o = 4 ∨ o = 5 ∨ o = 6 ∨ o = 7 ∨ o = 8 by omega) with h | h | h | h | h | h | h | h | h <;> subst h <;> decide

/-- what is parsed: an operand, an expression of operators with at least a level, the rest of one behind an operand. -/
inductive Md where
  | opd
  | exp (l : Int)
  | lop (l : Int) (x : Ex)

/-- parsing by levels. -/
inductive Ps : Md → List Tk → Ex → List Tk → Prop
  | num (n : Int) (r : List Tk) : Ps .opd (.num n :: r) (.mk (0, n) []) r
  | var (k : Int) (r : List Tk) : Ps .opd (.var k :: r) (.mk (1, k) []) r
  | bang {r r' : List Tk} {x : Ex} : Ps .opd r x r' → Ps .opd (.bang :: r) (.mk (3, 0) [x]) r'
  | par {r r' : List Tk} {x : Ex} : Ps (.exp 1) r x (.rpar :: r') → Ps .opd (.lpar :: r) x r'
  | exp {l : Int} {r r1 r2 : List Tk} {x y : Ex} : Ps .opd r x r1 → Ps (.lop l x) r1 y r2 → Ps (.exp l) r y r2
  | stop {l : Int} {x : Ex} {r : List Tk} : nlv r < l → Ps (.lop l x) r x r
  | more {l : Int} {x y z : Ex} {o : Nat} {r r1 r2 : List Tk} : o < 9 → l ≤ lvl o → Ps (.exp (lvl o + 1)) r y r1 → Ps (.lop l (.mk (2, (o : Int)) [x, y])) r1 z r2 → Ps (.lop l x) (.op o :: r) z r2

/-- the tokens have no error: an operand or an operator is due, so many parentheses are open. -/
def okT : Bool → Nat → List Tk → Bool
  | true, _, [] => false
  | false, d, [] => d == 0
  | true, d, .bang :: r => okT true d r
  | true, d, .lpar :: r => okT true (d + 1) r
  | true, d, .num _ :: r => okT false d r
  | true, d, .var _ :: r => okT false d r
  | true, _, .op _ :: _ => false
  | true, _, .rpar :: _ => false
  | false, d, .op o :: r => decide (o < 9) && okT true d r
  | false, d, .rpar :: r => decide (0 < d) && okT false (d - 1) r
  | false, _, .bang :: _ => false
  | false, _, .lpar :: _ => false
  | false, _, .num _ :: _ => false
  | false, _, .var _ :: _ => false

theorem ps_total (N : Nat) : ∀ (toks : List Tk) (d : Nat), toks.length ≤ N →
    (okT true d toks = true → ∃ x r, Ps .opd toks x r ∧ okT false d r = true ∧ r.length < toks.length) ∧
    (∀ (l : Int) (x : Ex), okT false d toks = true → 1 ≤ l → ∃ z r, Ps (.lop l x) toks z r ∧ okT false d r = true ∧ nlv r < l ∧ r.length ≤ toks.length) := by
  induction N with
  | zero =>
    intro toks d hl
    have : toks = [] := List.eq_nil_of_length_eq_zero (by omega)
    subst this
    refine ⟨fun h => by simp [okT] at h, fun l x h h1 => ⟨x, [], Ps.stop (by show (0 : Int) < l; omega), h, by show (0 : Int) < l; omega, Nat.le_refl _⟩⟩
  | succ N ih =>
    intro toks d hl
    refine ⟨fun h => ?_, fun l x h h1 => ?_⟩
    · match toks, hl, h with
      | [], _, h => simp [okT] at h
      | .op o :: r, _, h => simp [okT] at h
      | .rpar :: r, _, h => simp [okT] at h
      | .num n :: r, _, h => exact ⟨_, r, Ps.num n r, by simpa [okT] using h, by simp⟩
      | .var n :: r, _, h => exact ⟨_, r, Ps.var n r, by simpa [okT] using h, by simp⟩
      | .bang :: r, hl, h =>
        obtain ⟨x, r', h2, h3, h4⟩ := (ih r d (by simpa using hl)).1 (by simpa [okT] using h)
        exact ⟨_, r', Ps.bang h2, h3, by simp; omega⟩
      | .lpar :: r, hl, h =>
        obtain ⟨x, r1, h2, h3, h4⟩ := (ih r (d + 1) (by simpa using hl)).1 (by simpa [okT] using h)
        simp only [List.length_cons] at hl
        obtain ⟨z, r2, k2, k3, k4, k5⟩ := (ih r1 (d + 1) (by omega)).2 1 x h3 (by omega)
        match r2, k2, k3, k4, k5 with
        | [], _, k3, _, _ => simp [okT] at k3
        | .op o :: r', _, k3, k4, _ =>
          simp only [okT, Bool.and_eq_true, decide_eq_true_eq] at k3
          have := lvl_bd o k3.1
          have k4 : lvl o < 1 := k4
          omega
        | .rpar :: r', k2, k3, _, k5 =>
          simp only [okT, Bool.and_eq_true, decide_eq_true_eq, Nat.add_sub_cancel] at k3
          simp only [List.length_cons] at k5
          exact ⟨z, r', Ps.par (Ps.exp h2 k2), k3.2, by simp only [List.length_cons]; omega⟩
        | .bang :: r', _, k3, _, _ => simp [okT] at k3
        | .lpar :: r', _, k3, _, _ => simp [okT] at k3
        | .num _ :: r', _, k3, _, _ => simp [okT] at k3
        | .var _ :: r', _, k3, _, _ => simp [okT] at k3
    · by_cases hn : nlv toks < l
      · exact ⟨x, toks, Ps.stop hn, h, hn, Nat.le_refl _⟩
      · match toks, hl, h, hn with
        | [], _, _, hn => exact absurd (show (0 : Int) < l by omega) hn
        | .rpar :: r, _, _, hn => exact absurd (show (0 : Int) < l by omega) hn
        | .bang :: r, _, h, _ => simp [okT] at h
        | .lpar :: r, _, h, _ => simp [okT] at h
        | .num _ :: r, _, h, _ => simp [okT] at h
        | .var _ :: r, _, h, _ => simp [okT] at h
        | .op o :: r, hl, h, hn =>
          have hn : ¬ (lvl o < l) := hn
          simp only [okT, Bool.and_eq_true, decide_eq_true_eq] at h
          simp only [List.length_cons] at hl
          have hb := lvl_bd o h.1
          obtain ⟨x1, r1, a1, a2, a3⟩ := (ih r d (by omega)).1 h.2
          obtain ⟨y, r2, b1, b2, b3, b4⟩ := (ih r1 d (by omega)).2 (lvl o + 1) x1 a2 (by omega)
          obtain ⟨z, r3, c1, c2, c3, c4⟩ := (ih r2 d (by omega)).2 l (.mk (2, (o : Int)) [x, y]) b2 h1
          exact ⟨z, r3, Ps.more h.1 (by omega) (Ps.exp a1 b1) c1, c2, c3, by simp only [List.length_cons]; omega⟩
/-- tokens without an error are parsed. -/
theorem ps_all {toks : List Tk} (h : okT true 0 toks = true) : ∃ x, Ps (.exp 1) toks x [] := by
  obtain ⟨x, r, h1, h2, -⟩ := (ps_total toks.length toks 0 (Nat.le_refl _)).1 h
  obtain ⟨z, r2, k1, k2, k3, -⟩ := (ps_total r.length r 0 (Nat.le_refl _)).2 1 x h2 (by omega)
  match r2, k1, k2, k3 with
  | [], k1, _, _ => exact ⟨z, Ps.exp h1 k1⟩
  | .op o :: r', _, k2, k3 =>
    simp only [okT, Bool.and_eq_true, decide_eq_true_eq] at k2
    have := lvl_bd o k2.1
    have k3 : lvl o < 1 := k3
    omega
  | .rpar :: r', _, k2, _ => simp [okT] at k2
  | .bang :: r', _, k2, _ => simp [okT] at k2
  | .lpar :: r', _, k2, _ => simp [okT] at k2
  | .num _ :: r', _, k2, _ => simp [okT] at k2
  | .var _ :: r', _, k2, _ => simp [okT] at k2
theorem ps_next {m : Md} {toks r : List Tk} {x : Ex} (h : Ps m toks x r) : (∀ l, m = .exp l → nlv r < l) ∧ ∀ l y, m = .lop l y → nlv r < l := by
  induction h with
  | num => exact ⟨fun l h => (by cases h), fun l y h => by cases h⟩
  | var => exact ⟨fun l h => (by cases h), fun l y h => by cases h⟩
  | bang => exact ⟨fun l h => (by cases h), fun l y h => by cases h⟩
  | par => exact ⟨fun l h => (by cases h), fun l y h => by cases h⟩
  | exp _ _ _ ih => exact ⟨fun l h => by cases h; exact ih.2 _ _ rfl, fun l y h => by cases h⟩
  | stop h1 => exact ⟨fun l h => (by cases h), fun l y h => by cases h; exact h1⟩
  | more _ _ _ _ _ ih => exact ⟨fun l h => (by cases h), fun l y h => by cases h; exact ih.2 _ _ rfl⟩
theorem ps_len {m : Md} {toks r : List Tk} {x : Ex} (h : Ps m toks x r) : r.length ≤ toks.length ∧ (m = .opd → r.length < toks.length) := by
  induction h with
  | num => exact ⟨by simp, fun _ => by simp⟩
  | var => exact ⟨by simp, fun _ => by simp⟩
  | bang _ ih => simp only [List.length_cons]; exact ⟨by omega, fun _ => by omega⟩
  | par _ ih => simp only [List.length_cons] at ih ⊢; exact ⟨by omega, fun _ => by omega⟩
  | exp _ _ ih1 ih2 => exact ⟨by omega, fun h => by cases h⟩
  | stop _ => exact ⟨Nat.le_refl _, fun h => by cases h⟩
  | more _ _ _ _ ih1 ih2 => simp only [List.length_cons]; exact ⟨by omega, fun h => by cases h⟩

/-- the machine: parts (the last one first) and waiting operators (9 a negation, 10 a parenthesis). -/
def apF (P : List (List Tm)) (o : Nat) : List (List Tm) :=
  if o = 9 then (match P with | x :: P => ((3, 0) :: x) :: P | [] => []) else (match P with | y :: x :: P => (((2, (o : Int)) :: x) ++ y) :: P | P => P)
def redF (P : List (List Tm)) (V : List Nat) : List (List Tm) := V.foldl apF P
def popF (L : Int) : List (List Tm) → List Nat → List (List Tm) × List Nat
  | P, [] => (P, [])
  | P, w :: W => if w ≠ 10 ∧ (w = 9 ∨ L ≤ lvl w) then popF L (apF P w) W else (P, w :: W)
def closeF : List (List Tm) → List Nat → List (List Tm) × List Nat
  | P, [] => (P, [])
  | P, w :: W => if w = 10 then (P, W) else closeF (apF P w) W
def syF : Bool → List (List Tm) → List Nat → List Tk → List (List Tm)
  | true, P, W, .bang :: r => syF true P (9 :: W) r
  | true, P, W, .lpar :: r => syF true P (10 :: W) r
  | true, P, W, .num n :: r => syF false ([(0, n)] :: P) W r
  | true, P, W, .var k :: r => syF false ([(1, k)] :: P) W r
  | false, P, W, .rpar :: r => syF false (closeF P W).1 (closeF P W).2 r
  | false, P, W, .op o :: r => syF true (popF (lvl o) P W).1 (o :: (popF (lvl o) P W).2) r
  | _, P, W, _ => redF P W

theorem pop_all (L : Int) : ∀ (V : List Nat) (P : List (List Tm)) (W : List Nat), (∀ v : Nat, v ∈ V → v = 9 ∨ (v < 9 ∧ L ≤ lvl v)) → popF L P (V ++ W) = popF L (redF P V) W
  | [], _, _, _ => rfl
  | v :: V, P, W, h => by
    have h1 := h v List.mem_cons_self
    show (if v ≠ 10 ∧ (v = 9 ∨ L ≤ lvl v) then popF L (apF P v) (V ++ W) else _) = _
    rw [if_pos (by rcases h1 with h | h <;> omega)]
    exact pop_all L V _ W fun u hu => h u (List.mem_cons_of_mem _ hu)
theorem close_all : ∀ (V : List Nat) (P : List (List Tm)) (W : List Nat), (∀ v : Nat, v ∈ V → v ≠ 10) → closeF P (V ++ 10 :: W) = (redF P V, W)
  | [], _, _, _ => by simp [closeF, redF]
  | v :: V, P, W, h => by
    show (if v = 10 then _ else closeF (apF P v) (V ++ 10 :: W)) = _
    rw [if_neg (h v List.mem_cons_self)]
    exact close_all V _ W fun u hu => h u (List.mem_cons_of_mem _ hu)
/-- the waiting operators stay where they are before an operator of at least a level. -/
def StopW (W : List Nat) (l : Int) : Prop := W = [] ∨ ∃ v W', W = v :: W' ∧ (v = 10 ∨ (v < 9 ∧ lvl v < l))
theorem pop_stop {L l : Int} {W : List Nat} (h : StopW W l) (hl : l ≤ L) (P : List (List Tm)) : popF L P W = (P, W) := by
  rcases h with rfl | ⟨v, W', rfl, h⟩
  · rfl
  · show (if v ≠ 10 ∧ (v = 9 ∨ L ≤ lvl v) then _ else _) = _
    rw [if_neg]
    rintro ⟨h1, h2⟩
    rcases h with h | h
    · exact h1 h
    · rcases h2 with h2 | h2 <;> omega
theorem apF_op (x y : List Tm) (P : List (List Tm)) (o : Nat) (h : o < 9) : apF (y :: x :: P) o = (((2, (o : Int)) :: x) ++ y) :: P := by
  unfold apF
  rw [if_neg (by omega)]

/-- the machine makes the terms of what is parsed. -/
theorem sy_ps {m : Md} {toks r : List Tk} {x : Ex} (h : Ps m toks x r) :
    (m = .opd → ∀ P W, ∃ P' V, syF true P W toks = syF false P' (V ++ W) r ∧ (∀ v : Nat, v ∈ V → v = 9) ∧ redF P' V = flatE x :: P) ∧
    (∀ l, m = .exp l → ∀ P W, StopW W l → ∃ P' V, syF true P W toks = syF false P' (V ++ W) r ∧ (∀ v : Nat, v ∈ V → v = 9 ∨ (v < 9 ∧ l ≤ lvl v)) ∧ redF P' V = flatE x :: P) ∧
    (∀ l y, m = .lop l y → ∀ P W P0 V0, (∀ v : Nat, v ∈ V0 → v = 9 ∨ (v < 9 ∧ l ≤ lvl v ∧ nlv toks ≤ lvl v)) → redF P0 V0 = flatE y :: P → StopW W l →
      ∃ P' V, syF false P0 (V0 ++ W) toks = syF false P' (V ++ W) r ∧ (∀ v : Nat, v ∈ V → v = 9 ∨ (v < 9 ∧ l ≤ lvl v)) ∧ redF P' V = flatE x :: P) := by
  induction h with
  | num n r =>
    refine ⟨fun _ P W => ⟨_, [], rfl, by simp, ?_⟩, fun l h => (by cases h), fun l y h => by cases h⟩
    simp [redF, flatE, flatEs]
  | var n r =>
    refine ⟨fun _ P W => ⟨_, [], rfl, by simp, ?_⟩, fun l h => (by cases h), fun l y h => by cases h⟩
    simp [redF, flatE, flatEs]
  | bang _ ih =>
    refine ⟨fun _ P W => ?_, fun l h => (by cases h), fun l y h => by cases h⟩
    obtain ⟨P', V, h1, h2, h3⟩ := ih.1 rfl P (9 :: W)
    refine ⟨P', V ++ [9], by rw [List.append_assoc]; exact h1, fun v hv => ?_, ?_⟩
    · rcases List.mem_append.1 hv with h | h
      · exact h2 v h
      · simpa using h
    · unfold redF at h3 ⊢
      rw [List.foldl_append, h3]
      simp [apF, flatE, flatEs]
  | par _ ih =>
    refine ⟨fun _ P W => ?_, fun l h => (by cases h), fun l y h => by cases h⟩
    obtain ⟨P', V, h1, h2, h3⟩ := ih.2.1 1 rfl P (10 :: W) (Or.inr ⟨10, W, rfl, Or.inl rfl⟩)
    refine ⟨flatE _ :: P, [], ?_, by simp, rfl⟩
    show syF true P (10 :: W) _ = _
    rw [h1]
    show syF false (closeF P' (V ++ 10 :: W)).1 (closeF P' (V ++ 10 :: W)).2 _ = _
    rw [close_all V P' W (fun v hv => by rcases h2 v hv with h | h <;> omega), h3]
    rfl
  | exp h1 h2 ih1 ih2 =>
    rename_i l r r1 r2 x y
    refine ⟨fun h => (by cases h), fun l' h P W hs => ?_, fun l y h => by cases h⟩
    cases h
    obtain ⟨P1, V1, a1, a2, a3⟩ := ih1.1 rfl P W
    obtain ⟨P2, V2, b1, b2, b3⟩ := ih2.2.2 l x rfl P W P1 V1 (fun v hv => Or.inl (a2 v hv)) a3 hs
    exact ⟨P2, V2, a1.trans b1, b2, b3⟩
  | stop h1 =>
    rename_i l x r
    refine ⟨fun h => (by cases h), fun l' h => (by cases h), fun l' y h P W P0 V0 hv hr hs => ?_⟩
    cases h
    exact ⟨P0, V0, rfl, fun v hv2 => by rcases hv v hv2 with h | h; exact Or.inl h; exact Or.inr ⟨h.1, h.2.1⟩, hr⟩
  | more ho hlo h1 h2 ih1 ih2 =>
    rename_i l x y z o r r1 r2
    refine ⟨fun h => (by cases h), fun l' h => (by cases h), fun l' y' h P W P0 V0 hv hr hs => ?_⟩
    cases h
    have hpop : popF (lvl o) P0 (V0 ++ W) = (flatE x :: P, W) := by
      rw [pop_all (lvl o) V0 P0 W (fun v hv2 => by
        rcases hv v hv2 with h | h
        · exact Or.inl h
        · exact Or.inr ⟨h.1, h.2.2⟩), hr, pop_stop hs hlo]
    obtain ⟨P1, V1, a1, a2, a3⟩ := ih1.2.1 (lvl o + 1) rfl (flatE x :: P) (o :: W) (Or.inr ⟨o, W, rfl, Or.inr ⟨ho, by omega⟩⟩)
    have hnx := (ps_next h1).1 _ rfl
    obtain ⟨P2, V2, b1, b2, b3⟩ := ih2.2.2 l _ rfl P W P1 (V1 ++ [o]) (fun v hv2 => by
        rcases List.mem_append.1 hv2 with h | h
        · rcases a2 v h with h | h
          · exact Or.inl h
          · exact Or.inr ⟨h.1, by omega, by omega⟩
        · have : v = o := by simpa using h
          subst this
          exact Or.inr ⟨ho, hlo, by omega⟩) (by
        unfold redF at a3 ⊢
        rw [List.foldl_append, a3]
        show apF (flatE y :: flatE x :: P) o = _
        rw [apF_op _ _ _ _ ho]
        simp [flatE, flatEs]) hs
    refine ⟨P2, V2, ?_, b2, b3⟩
    show syF true (popF (lvl o) P0 (V0 ++ W)).1 (o :: (popF (lvl o) P0 (V0 ++ W)).2) r = _
    rw [hpop]
    show syF true (flatE x :: P) (o :: W) r = _
    rw [a1, ← b1, List.append_assoc]
    rfl
/-- parsed tokens lead to one part: the terms. -/
theorem sy_all {toks : List Tk} {x : Ex} (h : Ps (.exp 1) toks x []) : syF true [] [] toks = [flatE x] := by
  obtain ⟨P', V, h1, -, h3⟩ := (sy_ps h).2.1 1 rfl [] [] (Or.inl rfl)
  rw [h1, List.append_nil]
  unfold syF
  exact h3

end Go.Proofs.YtpnokhhbakiiiaaDoor

/-
  Numbers in decimal, plainly: what is read back is what was written, and nothing else is read.
-/
namespace Go.Proofs.YtpnokhhbakiiiaaDoor

def isDig (b : UInt8) : Bool := decide (48 ≤ b.toNat ∧ b.toNat ≤ 57)
/-- the number that digits spell, behind others. -/
def valD (acc : Nat) (l : List UInt8) : Nat := l.foldl (fun a b => a * 10 + (b.toNat - 48)) acc
theorem valD_nil (acc : Nat) : valD acc [] = acc := by rw [valD, List.foldl_nil]
theorem valD_cons (acc : Nat) (b : UInt8) (r : List UInt8) : valD acc (b :: r) = valD (acc * 10 + (b.toNat - 48)) r := by rw [valD, List.foldl_cons, valD]

theorem valD_append (acc : Nat) (a b : List UInt8) : valD acc (a ++ b) = valD (valD acc a) b := by rw [valD, List.foldl_append, valD, valD]
theorem dig_nat {k : Nat} (h : k < 10) : (UInt8.ofNat (48 + k)).toNat = 48 + k := by
  rw [UInt8.toNat_ofNat', Nat.mod_eq_of_lt (by omega)]
theorem isDig_nat {k : Nat} (h : k < 10) : isDig (UInt8.ofNat (48 + k)) = true := by
  unfold isDig; rw [dig_nat h]; simp; omega

theorem valD_dec (u : Nat) : valD 0 (Lib.decDigits u) = u := by
  induction u using Nat.strongRecOn with
  | _ u ih =>
    rw [Lib.decDigits]
    split
    · rename_i h
      simp only [valD_cons, valD_nil]; rw [dig_nat h]; omega
    · rename_i h
      rw [valD_append, ih (u / 10) (by omega)]
      simp only [valD_cons, valD_nil]; rw [dig_nat (Nat.mod_lt _ (by omega))]; omega
theorem dec_digits (u : Nat) : (Lib.decDigits u).all isDig = true := by
  induction u using Nat.strongRecOn with
  | _ u ih =>
    rw [Lib.decDigits]
    split
    · rename_i h; simp only [List.all_cons, List.all_nil, Bool.and_true]; exact isDig_nat h
    · rename_i h
      rw [List.all_append, ih (u / 10) (by omega)]
      simp only [List.all_cons, List.all_nil, Bool.and_true, Bool.true_and]; exact isDig_nat (Nat.mod_lt u (by omega))
theorem dec_ne (u : Nat) : Lib.decDigits u ≠ [] := by
  intro h
  have := Lib.decDigits_length u
  rw [h] at this
  have := Lib.nDigits_pos u
  simp at *; omega
/-- no leading zero, but at 0 itself. -/
theorem dec_head (u : Nat) (h : 0 < u) : ∃ b r, Lib.decDigits u = b :: r ∧ b.toNat ≠ 48 := by
  induction u using Nat.strongRecOn with
  | _ u ih =>
    rw [Lib.decDigits]
    split
    · rename_i h1; exact ⟨_, [], rfl, by rw [dig_nat h1]; omega⟩
    · rename_i h1
      obtain ⟨b, r, e, hb⟩ := ih (u / 10) (by omega) (by omega)
      exact ⟨b, r ++ [UInt8.ofNat (48 + u % 10)], by rw [e]; rfl, hb⟩

theorem valD_ge (acc : Nat) (l : List UInt8) : acc ≤ valD acc l := by
  induction l generalizing acc with
  | nil => rw [valD_nil]; exact Nat.le_refl _
  | cons b l ih => rw [valD_cons]; have := ih (acc * 10 + (b.toNat - 48)); omega
theorem valD_lt (acc : Nat) (l : List UInt8) (h : l.all isDig = true) : valD acc l < (acc + 1) * 10 ^ l.length := by
  induction l generalizing acc with
  | nil => simp [valD_nil]
  | cons b l ih =>
    rw [List.all_cons, Bool.and_eq_true] at h
    have hb : 48 ≤ b.toNat ∧ b.toNat ≤ 57 := by have := h.1; unfold isDig at this; simpa using this
    have := ih (acc * 10 + (b.toNat - 48)) h.2
    simp only [valD_cons, List.length_cons, Nat.pow_succ]
    refine Nat.lt_of_lt_of_le this ?_
    rw [Nat.mul_comm (10 ^ l.length) 10, ← Nat.mul_assoc]
    exact Nat.mul_le_mul_right _ (by omega)

/-- digits behind a number are the digits of what they spell. -/
theorem dec_valD (acc : Nat) (h0 : 0 < acc) (l : List UInt8) (h : l.all isDig = true) : Lib.decDigits (valD acc l) = Lib.decDigits acc ++ l := by
  induction l generalizing acc with
  | nil => simp [valD_nil]
  | cons b l ih =>
    rw [List.all_cons, Bool.and_eq_true] at h
    have hb : 48 ≤ b.toNat ∧ b.toNat ≤ 57 := by have := h.1; unfold isDig at this; simpa using this
    rw [valD_cons, ih _ (by omega) h.2]
    have hd : Lib.decDigits (acc * 10 + (b.toNat - 48)) = Lib.decDigits acc ++ [b] := by
      conv => lhs; rw [Lib.decDigits]
      rw [dif_neg (by omega)]
      have e1 : (acc * 10 + (b.toNat - 48)) / 10 = acc := by omega
      have e2 : (acc * 10 + (b.toNat - 48)) % 10 = b.toNat - 48 := by omega
      have e3 : 48 + (b.toNat - 48) = b.toNat := by omega
      rw [e1, e2, e3, UInt8.ofNat_toNat]
    rw [hd, List.append_assoc]; rfl

theorem dec_of {b : UInt8} {l : List UInt8} (h : (b :: l).all isDig = true) (h0 : b.toNat ≠ 48 ∨ l = []) : Lib.decDigits (valD 0 (b :: l)) = b :: l := by
  rw [List.all_cons, Bool.and_eq_true] at h
  have hb : 48 ≤ b.toNat ∧ b.toNat ≤ 57 := by have := h.1; unfold isDig at this; simpa using this
  have hone : Lib.decDigits (b.toNat - 48) = [b] := by
    rw [Lib.decDigits_one (by omega)]
    have e3 : 48 + (b.toNat - 48) = b.toNat := by omega
    rw [e3, UInt8.ofNat_toNat]
  rw [valD_cons, Nat.zero_mul, Nat.zero_add]
  rcases h0 with h0 | rfl
  · rw [dec_valD _ (by omega) _ h.2, hone]; rfl
  · simpa [valD_nil] using hone

/-- the sign and the digits of a text. -/
def negL (l : List UInt8) : Bool := match l with | [] => false | b :: _ => b == 45
def digL (l : List UInt8) : List UInt8 := if negL l then l.tail else l
/-- the number with a decimal form of at most 18 digits. -/
def numF (l : List UInt8) : Option Int :=
  if digL l = [] ∨ 18 < (digL l).length ∨ ((digL l).head? = some 48 ∧ 1 < l.length) ∨ (digL l).all isDig = false then none
  else some (if negL l then -(valD 0 (digL l) : Int) else (valD 0 (digL l) : Int))

theorem itoa_shape (v : Int) : (0 ≤ v ∧ negL (Lib.itoa v) = false ∧ digL (Lib.itoa v) = Lib.decDigits v.toNat) ∨ (v < 0 ∧ negL (Lib.itoa v) = true ∧ digL (Lib.itoa v) = Lib.decDigits v.natAbs) := by
  by_cases h : v < 0
  · refine Or.inr ⟨h, ?_, ?_⟩ <;> simp [Lib.itoa, h, negL, digL]
  · refine Or.inl ⟨by omega, ?_⟩
    have hi : Lib.itoa v = Lib.decDigits v.toNat := by simp [Lib.itoa, h]
    rw [hi]
    have hn : negL (Lib.decDigits v.toNat) = false := by
      have := dec_digits v.toNat
      match hd : Lib.decDigits v.toNat with
      | [] => rfl
      | b :: r =>
        rw [hd, List.all_cons, Bool.and_eq_true] at this
        have hb : 48 ≤ b.toNat ∧ b.toNat ≤ 57 := by have := this.1; unfold isDig at this; simpa using this
        simp only [negL, beq_eq_false_iff_ne, ne_eq]
        intro e; rw [e] at hb; simp at hb
    exact ⟨hn, by simp [digL, hn]⟩

theorem numF_itoa (v : Int) (h : (digL (Lib.itoa v)).length ≤ 18) : numF (Lib.itoa v) = some v := by
  rcases itoa_shape v with ⟨h0, h1, h2⟩ | ⟨h0, h1, h2⟩
  · unfold numF
    rw [h2] at h ⊢
    rw [h1, if_neg]
    · rw [valD_dec]; simp; omega
    · rintro (h3 | h3 | ⟨h3, h4⟩ | h3)
      · exact dec_ne _ h3
      · omega
      · by_cases hz : v = 0
        · subst hz; simp [Lib.itoa, Lib.decDigits] at h4
        · obtain ⟨b, r, e, hb⟩ := dec_head v.toNat (by omega)
          rw [e] at h3
          simp at h3; rw [h3] at hb; simp at hb
      · rw [dec_digits] at h3; cases h3
  · unfold numF
    rw [h2] at h ⊢
    rw [h1, if_neg]
    · rw [valD_dec]; simp; omega
    · rintro (h3 | h3 | ⟨h3, h4⟩ | h3)
      · exact dec_ne _ h3
      · omega
      · obtain ⟨b, r, e, hb⟩ := dec_head v.natAbs (by omega)
        rw [e] at h3
        simp at h3; rw [h3] at hb; simp at hb
      · rw [dec_digits] at h3; cases h3

theorem numF_some {l : List UInt8} {n : Int} (h : numF l = some n) : l = Lib.itoa n ∧ (digL l).length ≤ 18 ∧ n.natAbs < 10 ^ 18 := by
  unfold numF at h
  split at h
  · cases h
  · rename_i hc
    simp only [not_or, Bool.not_eq_false] at hc
    obtain ⟨h1, h2, h3, h4⟩ := hc
    simp only [Option.some.injEq] at h
    have hlt : valD 0 (digL l) < 10 ^ 18 := by
      have := valD_lt 0 (digL l) h4
      have hp : 10 ^ (digL l).length ≤ 10 ^ 18 := Nat.pow_le_pow_right (by omega) (by omega)
      omega
    refine ⟨?_, by omega, by subst h; split <;> omega⟩
    cases l with
    | nil => simp [digL, negL] at h1
    | cons b r =>
      have hnb : negL (b :: r) = (b == 45) := rfl
      by_cases hb : b = 45
      · subst hb
        have hl : negL (45 :: r) = true := rfl
        have hd : digL (45 :: r) = r := by simp [digL, hl]
        rw [hd] at h h1 h3 h4 hlt
        rw [hl] at h
        simp only [if_true] at h
        subst h
        cases r with
        | nil => exact absurd rfl h1
        | cons c r' =>
          have hc : c.toNat ≠ 48 := by
            intro e
            refine h3 ⟨?_, by simp⟩
            have : c = 48 := UInt8.toNat_inj.1 (by rw [e]; rfl)
            simp [this]
          have hdec := dec_of (b := c) (l := r') h4 (Or.inl hc)
          have hpos : 1 ≤ valD 0 (c :: r') := by
            rw [List.all_cons, Bool.and_eq_true] at h4
            have hb : 48 ≤ c.toNat ∧ c.toNat ≤ 57 := by have := h4.1; unfold isDig at this; simpa using this
            have := valD_ge (0 * 10 + (c.toNat - 48)) r'
            rw [valD_cons]; omega
          rw [Lib.itoa_neg _ hpos, hdec]
      · have hl : negL (b :: r) = false := by rw [hnb]; simpa using hb
        have hd : digL (b :: r) = b :: r := by simp [digL, hl]
        rw [hd] at h h1 h3 h4 hlt
        rw [hl] at h
        simp only [Bool.false_eq_true, if_false] at h
        subst h
        have hc : b.toNat ≠ 48 ∨ r = [] := by
          by_cases hr : r = []
          · exact Or.inr hr
          · left
            intro e
            refine h3 ⟨?_, ?_⟩
            · have : b = 48 := UInt8.toNat_inj.1 (by rw [e]; rfl)
              simp [this]
            · cases r with
              | nil => exact absurd rfl hr
              | cons c r => simp
        rw [Lib.itoa_nonneg, dec_of h4 hc]

theorem parseUintM_dec (M acc : Nat) (l : List UInt8) (h : l.all isDig = true) (hM : valD acc l ≤ M) (hM2 : valD acc l < 10 ^ 18) : Lib.parseUintM M acc l = .ok (valD acc l) := by
  induction l generalizing acc with
  | nil => rw [valD_nil]; rfl
  | cons b l ih =>
    rw [List.all_cons, Bool.and_eq_true] at h
    have hb : 48 ≤ b.toNat ∧ b.toNat ≤ 57 := by have := h.1; unfold isDig at this; simpa using this
    rw [valD_cons] at hM hM2 ⊢
    have hge := valD_ge (acc * 10 + (b.toNat - 48)) l
    rw [Lib.parseUintM, if_pos hb, if_neg (by omega), if_neg (by omega)]
    exact ih _ h.2 hM hM2

theorem parse_itoa (v : Int) (h : v.natAbs < 10 ^ 18) : Lib.parseIntB 64 (Lib.itoa v) = .ok v := by
  by_cases hv : v < 0
  · have e : Lib.itoa v = 45 :: Lib.decDigits v.natAbs := by simp [Lib.itoa, hv]
    rw [e]
    have hp := parseUintM_dec (2 ^ 64 - 1) 0 (Lib.decDigits v.natAbs) (dec_digits _) (by rw [valD_dec]; omega) (by rw [valD_dec]; exact h)
    rw [valD_dec] at hp
    have e45 : UInt8.toNat 45 = 45 := rfl
    simp only [Lib.parseIntB, Lib.parseUintB, e45, or_true, if_true, if_neg (dec_ne _), hp, not_true, false_and, if_false, true_and]
    rw [if_neg (by omega)]
    congr 1; omega
  · have e : Lib.itoa v = Lib.decDigits v.toNat := by simp [Lib.itoa, hv]
    rw [e]
    have hp := parseUintM_dec (2 ^ 64 - 1) 0 (Lib.decDigits v.toNat) (dec_digits _) (by rw [valD_dec]; omega) (by rw [valD_dec]; omega)
    rw [valD_dec] at hp
    have hd := dec_digits v.toNat
    have hne := dec_ne v.toNat
    match hl : Lib.decDigits v.toNat, hne with
    | b :: r, _ =>
      rw [hl] at hp hd
      rw [List.all_cons, Bool.and_eq_true] at hd
      have hb : 48 ≤ b.toNat ∧ b.toNat ≤ 57 := by have := hd.1; unfold isDig at this; simpa using this
      simp only [Lib.parseIntB, Lib.parseUintB]
      have h43 : ¬ (b.toNat = 43 ∨ b.toNat = 45) := by omega
      have h45 : ¬ b.toNat = 45 := by omega
      rw [if_neg h43, if_neg (by simp), hp]
      simp only [h45, not_false_eq_true, true_and, false_and, if_false]
      rw [if_neg (by omega)]
      congr 1; omega

end Go.Proofs.YtpnokhhbakiiiaaDoor

/-
  Expressions parsed: tokens of a text, the first error; plain.
-/
namespace Go.Proofs.YtpnokhhbakiiiaaDoor
open Go.RowKit

def opIx (t : List UInt8) : Option Nat := (List.range 9).find? fun o => opT o == t
def smallF (lim : Int) (t : List UInt8) : Option Int := match numF t with | some n => if 0 ≤ n ∧ n < lim then some n else none | none => none
def varF : List UInt8 → Option Int
  | c :: r => if c = 118 then smallF 29 r else none
  | [] => none
/-- the token that a text is. -/
def kdF (t : List UInt8) : Option Tk :=
  match opIx t with
  | some o => some (.op o)
  | none => if t = [33] then some .bang else if t = [40] then some .lpar else if t = [41] then some .rpar else match smallF 64 t with | some n => some (.num n) | none => (varF t).map .var
theorem opIx_lt {t : List UInt8} {o : Nat} (h : opIx t = some o) : o < 9 ∧ opT o = t := by
  unfold opIx at h
  have h1 := List.mem_of_find?_eq_some h
  have h2 := List.find?_some h
  exact ⟨by simpa using h1, by simpa using h2⟩
theorem kdF_op {t : List UInt8} {o : Nat} (h : kdF t = some (.op o)) : o < 9 ∧ opIx t = some o := by
  unfold kdF at h
  cases ho : opIx t with
  | some o' => rw [ho] at h; cases h; exact ⟨(opIx_lt ho).1, rfl⟩
  | none =>
    rw [ho] at h
    simp only at h
    split at h
    · cases h
    · split at h
      · cases h
      · split at h
        · cases h
        · split at h
          · cases h
          · cases hv : varF t <;> rw [hv] at h <;> cases h
/-- how many bytes the token that begins a text has. -/
def cutF : List UInt8 → Nat
  | [] => 0
  | c :: r => if isDig c || c == 118 then 1 + (r.takeWhile isDig).length else if c == 60 && r.head? == some 61 then 2 else 1
theorem cutF_pos {s : List UInt8} (h : s ≠ []) : 1 ≤ cutF s ∧ cutF s ≤ s.length := by
  cases s with
  | nil => exact absurd rfl h
  | cons c r =>
    unfold cutF
    have h1 : (r.takeWhile isDig).length ≤ r.length := (List.takeWhile_prefix _).length_le
    simp only [List.length_cons]
    split
    · omega
    · split
      · rename_i h2
        cases r with
        | nil => simp at h2
        | cons d r => simp only [List.length_cons]; omega
      · omega
def toksF : Nat → List UInt8 → Nat → List (List UInt8 × Nat) × Int
  | 0, _, _ => ([], -1)
  | _ + 1, [], _ => ([], -1)
  | f + 1, c :: r, n =>
    if c = 32 then toksF f r (n + 1)
    else if (kdF ((c :: r).take (cutF (c :: r)))).isSome then (((c :: r).take (cutF (c :: r)), n) :: (toksF f ((c :: r).drop (cutF (c :: r))) (n + cutF (c :: r))).1, (toksF f ((c :: r).drop (cutF (c :: r))) (n + cutF (c :: r))).2)
    else ([], n)
theorem toksF_fuel : ∀ (f g : Nat) (s : List UInt8) (n : Nat), s.length ≤ f → s.length ≤ g → toksF f s n = toksF g s n
  | 0, 0, _, _, _, _ => rfl
  | 0, g + 1, s, n, h, _ => by
    have : s = [] := List.eq_nil_of_length_eq_zero (by omega)
    subst this; rfl
  | f + 1, 0, s, n, _, h => by
    have : s = [] := List.eq_nil_of_length_eq_zero (by omega)
    subst this; rfl
  | f + 1, g + 1, [], n, _, _ => rfl
  | f + 1, g + 1, c :: r, n, h1, h2 => by
    have hp := cutF_pos (s := c :: r) (by simp)
    simp only [List.length_cons] at h1 h2 hp
    unfold toksF
    rw [toksF_fuel f g r (n + 1) (by omega) (by omega), toksF_fuel f g ((c :: r).drop (cutF (c :: r))) (n + cutF (c :: r)) (by rw [List.length_drop, List.length_cons]; omega) (by rw [List.length_drop, List.length_cons]; omega)]
/-- the tokens of a text from an offset on, and the offset at which no token begins, or -1. -/
def tkS (s : List UInt8) (n : Nat) : List (List UInt8 × Nat) × Int := toksF s.length (s.drop n) n
theorem tkS_end {s : List UInt8} {n : Nat} (h : s.length ≤ n) : tkS s n = ([], -1) := by
  unfold tkS
  rw [List.drop_of_length_le h]
  cases s <;> rfl
theorem toksF_cons (f : Nat) (c : UInt8) (r : List UInt8) (n : Nat) : toksF (f + 1) (c :: r) n =
    if c = 32 then toksF f r (n + 1)
    else if (kdF ((c :: r).take (cutF (c :: r)))).isSome then (((c :: r).take (cutF (c :: r)), n) :: (toksF f ((c :: r).drop (cutF (c :: r))) (n + cutF (c :: r))).1, (toksF f ((c :: r).drop (cutF (c :: r))) (n + cutF (c :: r))).2)
    else ([], n) := rfl
theorem tkS_step {s : List UInt8} {n : Nat} (h : n < s.length) : tkS s n =
    if s[n] = 32 then tkS s (n + 1)
    else if (kdF ((s.drop n).take (cutF (s.drop n)))).isSome then (((s.drop n).take (cutF (s.drop n)), n) :: (tkS s (n + cutF (s.drop n))).1, (tkS s (n + cutF (s.drop n))).2)
    else ([], n) := by
  have hd := List.drop_eq_getElem_cons h
  have hp := cutF_pos (s := s.drop n) (by rw [hd]; exact List.cons_ne_nil _ _)
  obtain ⟨f, hf⟩ : ∃ f, s.length = f + 1 := ⟨s.length - 1, by omega⟩
  have h1 : toksF s.length (s.drop (n + 1)) (n + 1) = toksF f (s.drop (n + 1)) (n + 1) := toksF_fuel _ _ _ _ (by simp) (by simp; omega)
  have h2 : toksF s.length (s.drop (n + cutF (s.drop n))) (n + cutF (s.drop n)) = toksF f (s.drop (n + cutF (s.drop n))) (n + cutF (s.drop n)) := toksF_fuel _ _ _ _ (by simp) (by simp; omega)
  have key := toksF_cons f s[n] (s.drop (n + 1)) n
  rw [← hd, List.drop_drop, ← hf, ← h1, ← h2] at key
  exact key
theorem tkS_kd (s : List UInt8) : ∀ (k n : Nat), s.length - n ≤ k → ∀ e ∈ (tkS s n).1, (kdF e.1).isSome = true ∧ e.2 ≤ s.length ∧ e.1.length ≤ s.length
  | 0, n, h, e, he => by rw [tkS_end (by omega)] at he; simp at he
  | k + 1, n, h, e, he => by
    by_cases hn : n < s.length
    · have hp := cutF_pos (s := s.drop n) (by rw [List.drop_eq_getElem_cons hn]; exact List.cons_ne_nil _ _)
      rw [tkS_step hn] at he
      split at he
      · exact tkS_kd s k (n + 1) (by omega) e he
      · split at he
        · rename_i hk
          rcases List.mem_cons.1 he with h1 | h1
          · subst h1
            refine ⟨hk, by simp only; omega, ?_⟩
            simp only [List.length_take, List.length_drop]; omega
          · exact tkS_kd s k _ (by omega) e h1
        · simp at he
    · rw [tkS_end (by omega)] at he; simp at he
theorem tkS_len (s : List UInt8) : ∀ (k n : Nat), s.length - n ≤ k → (tkS s n).1.length ≤ s.length - n
  | 0, n, h => by rw [tkS_end (by omega)]; simp
  | k + 1, n, h => by
    by_cases hn : n < s.length
    · have hp := cutF_pos (s := s.drop n) (by rw [List.drop_eq_getElem_cons hn]; exact List.cons_ne_nil _ _)
      rw [tkS_step hn]
      split
      · have := tkS_len s k (n + 1) (by omega); omega
      · split
        · have := tkS_len s k (n + cutF (s.drop n)) (by omega)
          simp only [List.length_cons]
          omega
        · simp
    · rw [tkS_end (by omega)]; simp
/-- the first error: an operand or an operator is due, so many parentheses are open. -/
def errF (bad : Int) (len : Nat) : Bool → Nat → List (List UInt8 × Nat) → Int
  | b, d, [] => if 0 ≤ bad then bad else if b || decide (0 < d) then len else -1
  | true, d, (t, n) :: r => match kdF t with
    | some .bang => errF bad len true d r
    | some .lpar => errF bad len true (d + 1) r
    | some (.num _) => errF bad len false d r
    | some (.var _) => errF bad len false d r
    | _ => n
  | false, d, (t, n) :: r => match kdF t with
    | some (.op _) => errF bad len true d r
    | some .rpar => if 0 < d then errF bad len false (d - 1) r else n
    | _ => n
def kinds (L : List (List UInt8 × Nat)) : List Tk := L.map fun e => (kdF e.1).getD .bang
theorem err_ok (bad : Int) (len : Nat) : ∀ (L : List (List UInt8 × Nat)) (b : Bool) (d : Nat), errF bad len b d L < 0 → okT b d (kinds L) = true ∧ bad < 0
  | [], b, d, h => by
    unfold errF at h
    split at h
    · omega
    · split at h
      · omega
      · rename_i h1 h2
        simp only [Bool.or_eq_true, decide_eq_true_eq, not_or] at h2
        cases b
        · refine ⟨?_, by omega⟩
          show (d == 0) = true
          simp; omega
        · exact absurd rfl h2.1
  | (t, n) :: r, true, d, h => by
    unfold errF at h
    simp only [kinds, List.map_cons]
    cases hk : kdF t with
    | none => rw [hk] at h; simp only at h; omega
    | some k =>
      rw [hk] at h
      cases k with
      | op o => simp only at h; omega
      | rpar => simp only at h; omega
      | bang => exact err_ok bad len r true d h
      | lpar => exact err_ok bad len r true (d + 1) h
      | num m => exact err_ok bad len r false d h
      | var m => exact err_ok bad len r false d h
  | (t, n) :: r, false, d, h => by
    unfold errF at h
    simp only [kinds, List.map_cons]
    cases hk : kdF t with
    | none => rw [hk] at h; simp only at h; omega
    | some k =>
      rw [hk] at h
      cases k with
      | op o =>
        have := err_ok bad len r true d h
        refine ⟨?_, this.2⟩
        show (decide (o < 9) && okT true d _) = true
        rw [decide_eq_true (kdF_op hk).1]
        exact this.1
      | rpar =>
        simp only at h
        split at h
        · rename_i hd
          have := err_ok bad len r false (d - 1) h
          refine ⟨?_, this.2⟩
          show (decide (0 < d) && okT false (d - 1) _) = true
          rw [decide_eq_true hd]
          exact this.1
        · omega
      | bang => simp only at h; omega
      | lpar => simp only at h; omega
      | num m => simp only at h; omega
      | var m => simp only at h; omega

/-- what is parsed, the offset of the first error, and the error. -/
def parseF (s : List UInt8) : List Tm × Int × Int :=
  if 400 < s.length then ([], 0, 2)
  else if 0 ≤ errF (tkS s 0).2 s.length true 0 (tkS s 0).1 then ([], errF (tkS s 0).2 s.length true 0 (tkS s 0).1, 8)
  else if 60 < ((syF true [] [] (kinds (tkS s 0).1)).headD []).length then ([], 0, 5)
  else ((syF true [] [] (kinds (tkS s 0).1)).headD [], 0, 0)
/-- without an error the tokens are parsed, and the machine gives the terms. -/
theorem parse_tree {s : List UInt8} (h : errF (tkS s 0).2 s.length true 0 (tkS s 0).1 < 0) : ∃ x, Ps (.exp 1) (kinds (tkS s 0).1) x [] ∧ (syF true [] [] (kinds (tkS s 0).1)).headD [] = flatE x := by
  obtain ⟨x, hx⟩ := ps_all (err_ok _ _ _ _ _ h).1
  exact ⟨x, hx, by rw [sy_all hx]; rfl⟩

end Go.Proofs.YtpnokhhbakiiiaaDoor

/-
  The text of an expression: what the program's calls return.
-/
namespace Go.Proofs.YtpnokhhbakiiiaaDoor
open Go.RowKit

/-- the tables of the operators. -/
structure Glob (w : World) : Prop where
  ops : ∀ i : Nat, i < 9 → w.cell? ⟨0, i, none⟩ = some (es (opT i))
  lvs : ∀ i : Nat, i < 9 → w.cell? ⟨1, i, none⟩ = some (ei (lvl i))
theorem Glob.upd {w w1 : World} (h : Glob w) (hu : Upd [] w w1) : Glob w1 := ⟨fun i hi => hu.keep (h.ops i hi), fun i hi => hu.keep (h.lvs i hi)⟩
theorem Glob.drewN {w : World} (h : Glob w) (n : Nat) : Glob (w.drewN n) := ⟨h.ops, h.lvs⟩

end Go.Proofs.YtpnokhhbakiiiaaDoor

/-
  Texts cut at a byte, plainly.
-/
namespace Go.Proofs.YtpnokhhbakiiiaaDoor

theorem dec_no (u : Nat) (c : UInt8) (h : isDig c = false) : c ∉ Lib.decDigits u := fun hm => by
  have := List.all_eq_true.1 (dec_digits u) c hm
  rw [h] at this; cases this
theorem itoa_no (n : Int) (c : UInt8) (h : isDig c = false) (h2 : c ≠ 45) : c ∉ Lib.itoa n := by
  unfold Lib.itoa
  split
  · rw [List.mem_cons, not_or]; exact ⟨h2, dec_no _ c h⟩
  · exact dec_no _ c h

end Go.Proofs.YtpnokhhbakiiiaaDoor

/-
  Lists of values.
-/
namespace Go.Proofs.YtpnokhhbakiiiaaDoor
open Go.RowKit

end Go.Proofs.YtpnokhhbakiiiaaDoor

/-
  Names and labels, plainly; both sides' ways to read a label agree; what is made is read back.
-/
namespace Go.Proofs.YtpnokhhbakiiiaaDoor

end Go.Proofs.YtpnokhhbakiiiaaDoor

/-
  Names and labels: what the program's calls return.
-/
namespace Go.Proofs.YtpnokhhbakiiiaaDoor
open Go.RowKit

theorem isDigitI (b : UInt8) (w : World) : Calls Tryd.prog 34 #[.int .u8 (b.toNat : Int)] w fun e w' => e = .returned (.bool (isDig b)) ∧ w = w' := by
  by_cases h1 : 48 ≤ b.toNat
  · by_cases h2 : b.toNat ≤ 57
    · have HR := Lib.hid (show isDig b = true by simp [isDig]; omega)
      have g1 : (48 : Int) ≤ (b.toNat : Int) := by omega
      have g2 : (b.toNat : Int) ≤ 57 := by omega
      go_enter Tryd.func34, Tryd.ntmps34
      go_wp2_with fail
      go_ret
      exact ⟨by rw [HR.out]; rfl, rfl⟩
    · have HR := Lib.hid (show isDig b = false by simp [isDig]; omega)
      have g1 : (48 : Int) ≤ (b.toNat : Int) := by omega
      have g2 : ¬ (b.toNat : Int) ≤ 57 := by omega
      go_enter Tryd.func34, Tryd.ntmps34
      go_wp2_with fail
      go_ret
      exact ⟨by rw [HR.out]; rfl, rfl⟩
  · have HR := Lib.hid (show isDig b = false by simp [isDig]; omega)
    have g1 : ¬ (48 : Int) ≤ (b.toNat : Int) := by omega
    go_enter Tryd.func34, Tryd.ntmps34
    go_wp2_with fail
    go_ret
    exact ⟨by rw [HR.out]; rfl, rfl⟩

end Go.Proofs.YtpnokhhbakiiiaaDoor

/-
  Numbers in decimal: what the program's calls return.
-/
namespace Go.Proofs.YtpnokhhbakiiiaaDoor
open Go.RowKit

theorem Upd.var {P : Program} {w w1 : World} {n : String} {cs : Array Value} (hu : Upd [] w w1) (h : w.var? P n = some cs) : w1.var? P n = some cs := by
  unfold World.var? at h ⊢
  cases hg : P.globalNamed n with
  | none => rw [hg] at h; cases h
  | some g =>
    rw [hg] at h
    simp only [Option.bind_some] at h ⊢
    have hlt : g < w.heap.size := by
      rcases Nat.lt_or_ge g w.heap.size with h1 | h1
      · exact h1
      · rw [Array.getElem?_eq_none h1] at h; cases h
    rw [hu.block g hlt (by simp)]
    exact h

theorem Upd.grow (w : World) (k : Nat) (os : Array Obj) : Upd [] w (Sort.grow (w.drewN k) os) := by
  refine ⟨rfl, rfl, rfl, ?_, fun i hi _ => ?_⟩
  · show w.heap.size ≤ (w.heap ++ os).size
    rw [Array.size_append]; omega
  · show (w.heap ++ os)[i]? = w.heap[i]?
    rw [Array.getElem?_append_left hi]

theorem parse_range {l : List UInt8} {v : Int} (h : Lib.parseIntB 64 l = .ok v) : -9223372036854775808 ≤ v ∧ v ≤ 9223372036854775807 := by
  unfold Lib.parseIntB at h
  cases l with
  | nil => cases h
  | cons c r =>
    simp only at h
    split at h
    · cases h
    · cases h
    · split at h
      · cases h
      · split at h
        · cases h
        · rename_i h1 h2
          simp only [Lib.NumEnd.ok.injEq] at h
          subst h
          by_cases hc : c.toNat = 45
          · simp only [hc, not_true_eq_false, true_and, false_and, not_false_eq_true] at h1 h2
            simp only [hc, if_true]; omega
          · simp only [hc, not_false_eq_true, true_and, false_and] at h1 h2
            simp only [hc, if_false]; omega

theorem digL_trim (s : List UInt8) : Lib.trimPrefix s [45] = digL s := by
  cases s with
  | nil => rfl
  | cons b r =>
    by_cases hb : b = 45
    · subst hb; simp [Lib.trimPrefix, Lib.hasPrefix, digL, negL, List.isPrefixOf]
    · have h1 : (b == 45) = false := by simpa using hb
      have h2 : ((45 : UInt8) == b) = false := by simpa using fun e => hb e.symm
      simp [Lib.trimPrefix, Lib.hasPrefix, digL, negL, List.isPrefixOf, h1, h2]

def NumV (s : List UInt8) (w : World) (e : Ending) (w' : World) : Prop := e = .returned (.tuple #[.int .i64 ((numF s).getD 0), .bool (numF s).isSome]) ∧ Upd [] w w'

end Go.Proofs.YtpnokhhbakiiiaaDoor

/-
  Numbers as texts, read by the program: in a world whose tables of numbers and errors are laid (for seats without the variable MaxLen).
-/
namespace Go.Proofs.YtpnokhhbakiiiaaDoor
open Go.RowKit

/-- the variables of the library that reading numbers wants. -/
structure EnvT (w : World) : Prop where
  tab : Lib.TabIs Tryd.prog w "internal/strconv.uint64pow10" .u64 Lib.pow10Tab
  syn : ∃ tp p, w.var? Tryd.prog "strconv.ErrSyntax" = some #[.iface tp p]
  rng : ∃ tp p, w.var? Tryd.prog "strconv.ErrRange" = some #[.iface tp p]
theorem EnvT.upd {w w1 : World} (h : EnvT w) (hu : Upd [] w w1) : EnvT w1 :=
  ⟨hu.var h.tab, h.syn.imp fun _ hs => hs.imp fun _ hs => hu.var hs, h.rng.imp fun _ hs => hs.imp fun _ hs => hu.var hs⟩

theorem decimalT (n : Int) (w : World) (h0 : -9223372036854775808 ≤ n) (h1 : n ≤ 9223372036854775807) (he : EnvT w) :
    Calls Tryd.prog 32 #[.int .i64 n] w fun e w' => e = .returned (es (Lib.itoa n)) ∧ Upd [] w w' := by
  have S1 := Lib.hid (Tryd.strconv_FormatInt_10 n h0 h1 w he.tab)
  clear he h0 h1
  go_enter Tryd.func32, Tryd.ntmps32
  go_wp2_with fail
  refine S1.out.mono ?_
  rintro e w1 ⟨rfl, k, os, rfl⟩
  have HU := Lib.hid (Upd.grow w k os)
  generalize Sort.grow (w.drewN k) os = w1 at *
  clear S1
  go_wp2_with fail
  go_ret
  exact ⟨rfl, HU.out⟩

set_option maxRecDepth 20000 in
set_option maxHeartbeats 2000000 in
theorem readDecimalT (s : List UInt8) (w : World) (hl : s.length ≤ 2000000) (he : EnvT w) : Calls Tryd.prog 64 #[es s] w (NumV s w) := by
  have S1 := Lib.hid (Tryd.strings_TrimPrefix ⟨s.toArray⟩ ⟨#[45]⟩ w)
  have e1 : Lib.trimPrefix (⟨s.toArray⟩ : ByteArray).data.toList (⟨#[45]⟩ : ByteArray).data.toList = digL s := digL_trim s
  rw [e1] at S1
  clear e1
  have hdl : (digL s).length ≤ s.length := by
    unfold digL; split <;> simp
  by_cases hlen : 18 < (digL s).length
  · have HR := Lib.hid (show numF s = none by unfold numF; rw [if_pos (Or.inr (Or.inl hlen))])
    generalize digL s = d at *
    have g1 : (18 : Int) < (d.length : Int) := by omega
    clear hlen he
    go_enter Tryd.func64, Tryd.ntmps64
    go_wp2_with fail
    refine S1.out.mono ?_
    rintro e w1 ⟨rfl, rfl⟩
    clear S1
    go_wp2_with fail
    go_ret2
    exact ⟨by rw [HR.out]; rfl, Upd.refl _ _⟩
  · have hsz : (⟨s.toArray⟩ : ByteArray).size = s.length := rfl
    rcases hp : Lib.parseIntB 64 s with v | _ | _
    rotate_left
    · skip
      have HR := Lib.hid (show numF s = none by
        cases hn : numF s with
        | none => rfl
        | some n =>
          obtain ⟨a, -, b⟩ := numF_some hn
          rw [a, parse_itoa n b] at hp; cases hp)
      obtain ⟨tp, p, hsyn⟩ := he.syn
      have S2 := Lib.hid (Tryd.strconv_ParseInt_10_at64_syntax_var ⟨s.toArray⟩ (by rw [hsz]; omega) hp tp p w hsyn)
      clear hsyn hp hsz he
      generalize digL s = d at *
      have g1 : ¬ (18 : Int) < (d.length : Int) := by omega
      clear hlen
      go_enter Tryd.func64, Tryd.ntmps64
      go_wp2_with fail
      refine S1.out.mono ?_
      rintro e w1 ⟨rfl, rfl⟩
      clear S1
      go_wp2_with fail
      refine S2.out.mono ?_
      rintro e w1 ⟨N, rfl, -, -, hb⟩
      have HU := Lib.hid (Upd.ofBelow hb)
      clear S2 hb
      go_wp2_with fail
      go_ret2
      exact ⟨by rw [HR.out]; rfl, HU.out⟩
    · skip
      have HR := Lib.hid (show numF s = none by
        cases hn : numF s with
        | none => rfl
        | some n =>
          obtain ⟨a, -, b⟩ := numF_some hn
          rw [a, parse_itoa n b] at hp; cases hp)
      obtain ⟨tp, p, hsyn⟩ := he.rng
      have S2 := Lib.hid (Tryd.strconv_ParseInt_10_at64_range_var ⟨s.toArray⟩ (by rw [hsz]; omega) hp tp p w hsyn)
      clear hsyn hp hsz he
      generalize digL s = d at *
      have g1 : ¬ (18 : Int) < (d.length : Int) := by omega
      clear hlen
      go_enter Tryd.func64, Tryd.ntmps64
      go_wp2_with fail
      refine S1.out.mono ?_
      rintro e w1 ⟨rfl, rfl⟩
      clear S1
      go_wp2_with fail
      refine S2.out.mono ?_
      rintro e w1 ⟨N, rfl, -, -, hb⟩
      have HU := Lib.hid (Upd.ofBelow hb)
      clear S2 hb
      go_wp2_with fail
      go_ret2
      exact ⟨by rw [HR.out]; rfl, HU.out⟩
    · skip
      obtain ⟨v0, v1⟩ := parse_range hp
      have S2 := Lib.hid (Tryd.strconv_ParseInt_10_at64_ok ⟨s.toArray⟩ (by rw [hsz]; omega) v hp w)
      have HR := Lib.hid (show numF s = if Lib.itoa v = s then some v else none by
        split
        · rename_i h
          rw [← h]; exact numF_itoa v (by rw [h]; omega)
        · rename_i h
          cases hn : numF s with
          | none => rfl
          | some n =>
            exfalso
            obtain ⟨a, -, b⟩ := numF_some hn
            rw [a, parse_itoa n b] at hp
            cases hp
            exact h a.symm)
      have S3 := Lib.hid (fun w1 (hu : Upd [] w w1) => decimalT v w1 v0 v1 (he.upd hu))
      clear hp hsz he
      generalize digL s = d at *
      have g1 : ¬ (18 : Int) < (d.length : Int) := by omega
      clear hlen
      go_enter Tryd.func64, Tryd.ntmps64
      go_wp2_with fail
      refine S1.out.mono ?_
      rintro e wa ⟨rfl, rfl⟩
      clear S1
      go_wp2_with fail
      refine S2.out.mono ?_
      rintro e w1 ⟨rfl, hw⟩
      have hu : Upd [] wa w1 := by
        rcases hw with rfl | ⟨t, rfl⟩
        · exact Upd.refl _ _
        · exact Upd.ofBelow (Lib.bytesWorld_below _ _ _)
      have S4 := Lib.hid (S3.out w1 hu)
      have HU := Lib.hid hu
      clear S2 S3 hw hu
      go_wp2_with fail
      refine S4.out.mono ?_
      rintro e w2 ⟨rfl, hu2⟩
      have HU2 := Lib.hid (HU.out.trans hu2)
      clear S4 HU hu2
      by_cases heq : Lib.itoa v = s
      · have HR2 := Lib.hid (HR.out.trans (if_pos heq))
        rw [heq]
        clear HR heq
        go_wp2_with fail
        go_ret2
        exact ⟨by rw [HR2.out]; rfl, HU2.out⟩
      · have HR2 := Lib.hid (HR.out.trans (if_neg heq))
        clear HR
        generalize Lib.itoa v = A at *
        have hne : (A == s) = false := by simpa using heq
        go_wp2_with fail
        go_ret2
        exact ⟨by rw [HR2.out]; rfl, HU2.out⟩

end Go.Proofs.YtpnokhhbakiiiaaDoor

/-
  The source of choices of the reference: what its calls return, and what they leave.
-/
namespace Go.Proofs.YtpnokhhbakiiiaaDoor
open Go.RowKit

abbrev R_B : Rp (List Int) := slF 1 (fun n => [Value.int .u8 n])
theorem R_Bk : Kept R_B := slF_kept _ _
def bytesOk (xs : List Int) : Prop := ∀ x ∈ xs, 0 ≤ x ∧ x ≤ 255

/-- the source at block p, behind at most N choices. -/
def IsSrc (N p : Nat) (w : World) : Prop := ∃ (cv : Value) (code : List Int) (fc : List Nat) (at' seed : Int), w.cell? ⟨p, 0, none⟩ = some cv ∧ w.cell? ⟨p, 1, none⟩ = some (ei at') ∧ w.cell? ⟨p, 2, none⟩ = some (.int .u64 seed) ∧
  R_B fc w [cv] code ∧ bytesOk code ∧ code.length ≤ 1048576 ∧ 0 ≤ at' ∧ at' ≤ N ∧ 0 ≤ seed ∧ seed ≤ 18446744073709551615 ∧ Own [p] w ∧ ∀ c ∈ fc, c < p

theorem IsSrc.mono {N M p : Nat} {w : World} (h : IsSrc N p w) (hNM : N ≤ M) : IsSrc M p w := by
  obtain ⟨cv, code, fc, a, s, h1, h2, h3, h4, h5, h6, h7, h8, h9⟩ := h
  exact ⟨cv, code, fc, a, s, h1, h2, h3, h4, h5, h6, h7, by omega, h9⟩
theorem IsSrc.lt {N p : Nat} {w : World} (h : IsSrc N p w) : p < w.heap.size := by
  obtain ⟨cv, code, fc, a, s, h1, -⟩ := h; exact World.block_lt_of_cell? w _ h1
theorem IsSrc.upd {N p : Nat} {w w1 : World} (h : IsSrc N p w) (hu : Upd [] w w1) : IsSrc N p w1 := by
  obtain ⟨cv, code, fc, a, s, h1, h2, h3, h4, h5, h6, h7, h8, h9, h10, h11, h12⟩ := h
  exact ⟨cv, code, fc, a, s, hu.keep h1, hu.keep h2, hu.keep h3, R_Bk.upd h4 hu (by simp), h5, h6, h7, h8, h9, h10, h11.upd hu (by simp), h12⟩

/-- the source is kept where newer blocks are written. -/
theorem IsSrc.other {N p : Nat} {w w1 : World} {f : List Nat} (h : IsSrc N p w) (hu : Upd f w w1) (hf : ∀ b ∈ f, p < b) : IsSrc N p w1 := by
  have hpf : p ∉ f := fun hm => by have := hf p hm; omega
  obtain ⟨cv, code, fc, a, s, h1, h2, h3, h4, h5, h6, h7, h8, h9, h10, h11, h12⟩ := h
  have hb := hu.block p (World.block_lt_of_cell? w _ h1) hpf
  exact ⟨cv, code, fc, a, s, (World.cell?_of_block (a := ⟨p, 0, none⟩) hb).trans h1, (World.cell?_of_block (a := ⟨p, 1, none⟩) hb).trans h2, (World.cell?_of_block (a := ⟨p, 2, none⟩) hb).trans h3,
    R_Bk.upd h4 hu (fun b hb hm => by have := hf b hm; have := h12 b hb; omega), h5, h6, h7, h8, h9, h10, h11.upd hu (by simpa using hpf), h12⟩

end Go.Proofs.YtpnokhhbakiiiaaDoor

/-
  Lists of texts in memory.
-/
namespace Go.Proofs.YtpnokhhbakiiiaaDoor
open Go.RowKit

abbrev RS : Rp (List (List UInt8)) := slF 1 (fun s => [es s])
end Go.Proofs.YtpnokhhbakiiiaaDoor

/-
  The laws' helper functions over lists of texts.
-/
namespace Go.Proofs.YtpnokhhbakiiiaaDoor
open Go.RowKit

abbrev R_S1 : Rp (List (List UInt8)) := RS
/-- the text that marks the number k. -/
def mtx (k : Int) : List UInt8 := 109 :: Lib.decDigits k.toNat

/-- n marks from k on. -/
def mkS (k : Int) (n : Nat) : List (List UInt8) := (upFrom k n).map mtx
@[simp] theorem mkS_length (k : Int) (n : Nat) : (mkS k n).length = n := by simp [mkS]
theorem mkS_get (k : Int) (n i : Nat) (h : i < n) : (mkS k n)[i]? = some (mtx (k + i)) := by
  unfold mkS; rw [List.getElem?_map, upFrom_get k n i h]; rfl
end Go.Proofs.YtpnokhhbakiiiaaDoor

/-
  Names and labels by the reference: what its calls return.
-/
namespace Go.Proofs.YtpnokhhbakiiiaaDoor
open Go.RowKit

theorem digitS (b : UInt8) (w : World) : Calls Tryd.prog 46 #[.int .u8 (b.toNat : Int)] w fun e w' => e = .returned (.bool (isDig b)) ∧ w = w' := by
  by_cases h1 : 48 ≤ b.toNat
  · by_cases h2 : b.toNat ≤ 57
    · have HR := Lib.hid (show isDig b = true by simp [isDig]; omega)
      have g1 : (48 : Int) ≤ (b.toNat : Int) := by omega
      have g2 : (b.toNat : Int) ≤ 57 := by omega
      go_enter Tryd.func46, Tryd.ntmps46
      go_wp2_with fail
      go_ret
      exact ⟨by rw [HR.out]; rfl, rfl⟩
    · have HR := Lib.hid (show isDig b = false by simp [isDig]; omega)
      have g1 : (48 : Int) ≤ (b.toNat : Int) := by omega
      have g2 : ¬ (b.toNat : Int) ≤ 57 := by omega
      go_enter Tryd.func46, Tryd.ntmps46
      go_wp2_with fail
      go_ret
      exact ⟨by rw [HR.out]; rfl, rfl⟩
  · have HR := Lib.hid (show isDig b = false by simp [isDig]; omega)
    have g1 : ¬ (48 : Int) ≤ (b.toNat : Int) := by omega
    go_enter Tryd.func46, Tryd.ntmps46
    go_wp2_with fail
    go_ret
    exact ⟨by rw [HR.out]; rfl, rfl⟩

end Go.Proofs.YtpnokhhbakiiiaaDoor

/-
  The order of texts.
-/
namespace Go.Proofs.YtpnokhhbakiiiaaDoor
open Go.RowKit

end Go.Proofs.YtpnokhhbakiiiaaDoor

/-
  Lists of names: whether one is valid, and whether a name is in it; both sides.
-/
namespace Go.Proofs.YtpnokhhbakiiiaaDoor
open Go.RowKit

/-- where a name first stands in a list, or -1. -/
def placeS (x : List UInt8) : List (List UInt8) → Int
  | [] => -1
  | s :: r => if s = x then 0 else if placeS x r < 0 then -1 else placeS x r + 1
theorem placeS_at {x : List UInt8} : ∀ {l : List (List UInt8)} (k : Nat) (hk : k < l.length), (∀ j (_ : j < k) (hj : j < l.length), l[j] ≠ x) → l[k] = x → placeS x l = k
  | [], k, hk, _, _ => by simp at hk
  | s :: r, 0, _, _, h => by simp at h; simp [placeS, h]
  | s :: r, k + 1, hk, hn, h => by
    have h0 : s ≠ x := hn 0 (by omega) (by simp)
    have ih := placeS_at (x := x) (l := r) k (by simpa using hk) (fun j hj hj2 => by have := hn (j + 1) (by omega) (by simpa using hj2); rwa [List.getElem_cons_succ] at this) (by rwa [List.getElem_cons_succ] at h)
    rw [placeS, if_neg h0, ih, if_neg (by omega)]; omega
theorem placeS_none {x : List UInt8} : ∀ {l : List (List UInt8)}, (∀ j (hj : j < l.length), l[j] ≠ x) → placeS x l = -1
  | [], _ => rfl
  | s :: r, hn => by
    have h0 : s ≠ x := hn 0 (by simp)
    have ih := placeS_none (x := x) (l := r) (fun j hj => by have := hn (j + 1) (by simpa using hj); rwa [List.getElem_cons_succ] at this)
    rw [placeS, if_neg h0, ih, if_pos (by omega)]
set_option maxRecDepth 20000 in
set_option maxHeartbeats 2000000 in
theorem indexSS (v : Value) (xs : List (List UInt8)) (x : List UInt8) (w : World) (fp : List Nat) (hR : R_S1 fp w [v] xs) :
    Calls Tryd.prog 57 #[v, es x] w fun e w' => e = .returned (.int .i64 (placeS x xs)) ∧ Upd [] w w' := by
  obtain ⟨a, c, rfl, hl1, hm1, hc⟩ := slF1_open hR
  unfold maxLen at hm1
  have HC := Lib.hid hc
  have HF := Lib.hid (fun k (hk : k < xs.length) (h1 : ∀ j (_ : j < k) (hj : j < xs.length), xs[j] ≠ x) (h2 : xs[k] = x) => placeS_at k hk h1 h2)
  have HN := Lib.hid (fun (h : ∀ j (hj : j < xs.length), xs[j] ≠ x) => placeS_none h)
  clear hR hc
  generalize placeS x xs = Z at *
  go_enter Tryd.func57, Tryd.ntmps57
  go_wp2_with fail
  go_loopw [8] (fun iv wr => ∃ k m : Nat, k ≤ xs.length ∧ iv = .int .i64 k ∧ wr = w.drewN m ∧ Hid (∀ j (_ : j < k) (hj : j < xs.length), xs[j] ≠ x)) (fun iv _ => xs.length - (intOf iv).toNat)
  case atStart => exact ⟨0, 0, Nat.zero_le _, rfl, rfl, Lib.hid (fun j hj => absurd hj (Nat.not_lt_zero _))⟩
  case round =>
    obtain ⟨k, m, hk, rfl, rfl, HI⟩ := hrel
    by_cases hlt : k < xs.length
    · obtain ⟨b, off, rfl, -, -, hcell⟩ := HC.out k hlt
      have HFK := Lib.hid (HF.out k hlt HI.out)
      have HIK := Lib.hid (fun (h : xs[k] ≠ x) j (hjk : j < k + 1) (hj : j < xs.length) => (show xs[j] ≠ x by
        by_cases e : j = k
        · subst e; exact h
        · exact HI.out j (by omega) hj))
      clear HF HC
      generalize xs[k] = y at *
      by_cases hy : y = x
      · have hy2 : (x == y) = true := by simp [hy]
        have hy1 : (y == x) = true := by simp [hy]
        have HZ := Lib.hid (HFK.out hy)
        clear HFK HIK hy
        go_wp2_with fail
        (try go_quiet (fail))
        (try go_wp2_with fail)
        go_ret
        exact ⟨by rw [HZ.out]; rfl, by first | exact (Upd.refl _ _).drewN _ | (rw [drewN_add]; exact (Upd.refl _ _).drewN _)⟩
      · have hy2 : (x == y) = false := by simp [Ne.symm hy]
        have hy1 : (y == x) = false := by simp [hy]
        replace HIK := Lib.hid (HIK.out hy)
        clear HFK hy
        go_wp2_with fail
        (try go_quiet (fail))
        (try go_wp2_with fail)
        go_roundw
        case rel => exact ⟨k + 1, _, by omega, by go_num, rfl, HIK⟩
        case measure => simp [intOf]; omega
    · have HZ := Lib.hid (HN.out (fun j hj => HI.out j (by omega) hj))
      go_wp2_with fail
      go_ret
      exact ⟨by rw [HZ.out]; rfl, (Upd.refl _ _).drewN _⟩

end Go.Proofs.YtpnokhhbakiiiaaDoor

/-
  A text divided at each byte by the reference.
-/
namespace Go.Proofs.YtpnokhhbakiiiaaDoor
open Go.RowKit

theorem extract_list (l : List UInt8) (a b : Nat) : (⟨l.toArray⟩ : ByteArray).extract a b = ⟨((l.drop a).take (b - a)).toArray⟩ := by
  apply ByteArray.ext
  apply Array.ext'
  simp [ByteArray.data_extract, List.take_drop]
  first | done | (rw [List.drop_take]) | skip

end Go.Proofs.YtpnokhhbakiiiaaDoor

/-
  Expressions parsed: the program reads tokens.
-/
namespace Go.Proofs.YtpnokhhbakiiiaaDoor
open Go.RowKit

/-- the texts of the operators. -/
def opL : List (List UInt8) := [[43], [45], [42], [61], [35], [60], [60, 61], [38], [124]]
theorem opL_get (j : Nat) (h : j < 9) : opL[j]? = some (opT j) := by
  rcases (show j = 0 ∨ j = 1 ∨ j = 2 ∨ j = 3 ∨ j = 4 ∨ j = 5 ∨ j = 6 ∨ j = 7 ∨ j = 8 by omega) with h | h | h | h | h | h | h | h | h <;> subst h <;> rfl
theorem opL_at (j : Nat) (h : j < opL.length) : opL[j] = opT j := by
  have h1 := opL_get j h
  rw [List.getElem?_eq_getElem h] at h1
  exact Option.some.inj h1
theorem opL_read {w : World} (h : Glob w) : ∃ f, RS f w [.slice (some ⟨0, 0, none⟩) 9 9] opL := by
  have h0 := h.ops 0 (by omega)
  have hlt : 0 < w.heap.size := by
    rcases Nat.lt_or_ge 0 w.heap.size with h1 | h1
    · exact h1
    · unfold World.cell? at h0
      rw [Array.getElem?_eq_none h1] at h0; simp at h0
  have hlen : opL.length = 9 := rfl
  refine ⟨[0], _, rfl, some ⟨0, 0, none⟩, 9, rfl, by rw [hlen]; exact Nat.le_refl _, by simp [maxLen], rfl, Or.inr ⟨_, 0, rfl, rfl, hlt, fun j u hj => ?_⟩⟩
  rw [flatMap_single] at hj
  have hj9 : j < 9 := by
    rcases Nat.lt_or_ge j 9 with h | h
    · exact h
    · rw [List.getElem?_eq_none (by simpa [hlen] using h)] at hj; cases hj
  rw [Nat.zero_add, h.ops j hj9]
  rw [List.getElem?_map, opL_get j hj9] at hj
  exact hj
theorem place_op (t : List UInt8) : (∃ o : Nat, opIx t = some o ∧ placeS t opL = o ∧ o < 9) ∨ (opIx t = none ∧ placeS t opL = -1) := by
  cases ho : opIx t with
  | none =>
    refine Or.inr ⟨rfl, placeS_none fun j hj => ?_⟩
    unfold opIx at ho
    rw [List.find?_eq_none] at ho
    have := ho j (by have h9 : opL.length = 9 := rfl; rw [List.mem_range]; omega)
    rw [opL_at j hj]
    simpa using this
  | some o =>
    have h1 := opIx_lt ho
    refine Or.inl ⟨o, rfl, placeS_at o h1.1 (fun j hj hj2 => ?_) (by rw [opL_at o h1.1]; exact h1.2), h1.1⟩
    unfold opIx at ho
    rw [List.find?_range_eq_some] at ho
    have := ho.2.2 j hj
    rw [opL_at j hj2]
    simpa using this

set_option maxRecDepth 20000 in
set_option maxHeartbeats 1000000 in
theorem readOpI (t : List UInt8) (w : World) (hG : Glob w) : Calls Tryd.prog 38 #[es t] w fun e w' => e = .returned (.tuple #[.int .i64 (((opIx t).map Int.ofNat).getD 0), .bool (opIx t).isSome]) ∧ Upd [] w w' := by
  obtain ⟨f, hR⟩ := opL_read hG
  have S1 := Lib.hid (indexSS _ opL t w f hR)
  have HP := Lib.hid (place_op t)
  clear hR hG
  go_enter Tryd.func38, Tryd.ntmps38
  go_wp2_with fail
  refine S1.out.mono ?_
  rintro e w1 ⟨rfl, hu⟩
  have HU := Lib.hid hu
  clear S1 hu
  generalize placeS t opL = Z at *
  rcases HP.out with ⟨o, h1, rfl, h3⟩ | ⟨h1, rfl⟩
  · have HX := Lib.hid h1
    have h4 : ¬ ((o : Int) < 0) := by omega
    clear HP h1
    go_wp2_with fail
    go_ret2
    exact ⟨by rw [HX.out]; rfl, HU.out⟩
  · have HX := Lib.hid h1
    clear HP h1
    go_wp2_with fail
    go_ret2
    exact ⟨by rw [HX.out]; rfl, HU.out⟩

set_option maxRecDepth 20000 in
set_option maxHeartbeats 1000000 in
theorem digitsEndI (s : List UInt8) (n : Nat) (w : World) (hl : s.length ≤ 2000000) (hn : n ≤ s.length) :
    Calls Tryd.prog 35 #[es s, .int .i64 n] w fun e w' => e = .returned (.int .i64 ((n + ((s.drop n).takeWhile isDig).length : Nat) : Int)) ∧ Upd [] w w' := by
  have HD := Lib.hid isDigitI
  obtain ⟨Z, hZ⟩ : ∃ Z, n + ((s.drop n).takeWhile isDig).length = Z := ⟨_, rfl⟩
  rw [hZ]
  have HZ := Lib.hid hZ
  clear hZ
  go_enter Tryd.func35, Tryd.ntmps35
  go_wp2_with fail
  go_loopw [1] (fun iv wr => ∃ k : Nat, k ≤ s.length ∧ iv = .int .i64 k ∧ Hid (k + ((s.drop k).takeWhile isDig).length = Z) ∧ Hid (Upd [] w wr)) (fun iv _ => s.length - (intOf iv).toNat)
  case atStart => exact ⟨n, hn, rfl, HZ, Lib.hid (Upd.refl _ _)⟩
  case round =>
    clear HZ
    obtain ⟨wo, rfl⟩ : ∃ wo : World, wo = wr := ⟨_, rfl⟩
    obtain ⟨k, hk, rfl, HZ, HU⟩ := hrel
    by_cases hlt : k < s.length
    · obtain ⟨b, hb⟩ : ∃ b, s[k] = b := ⟨_, rfl⟩
      have hix : (⟨s.toArray⟩ : ByteArray)[k]'(by simpa [ByteArray.size] using hlt) = b := by rw [← hb]; simp [ByteArray.getElem_eq_getElem_data]
      have hkl : (k : Int) < (s.length : Int) := by omega
      have D1 := Lib.hid (HD.out b wo)
      have HT := Lib.hid (show (s.drop k).takeWhile isDig = if isDig b then b :: (s.drop (k + 1)).takeWhile isDig else [] by
        rw [List.drop_eq_getElem_cons hlt, hb, List.takeWhile_cons])
      generalize isDig b = q at *
      clear hb
      go_wp2_with fail
      refine D1.out.mono ?_
      rintro e w1 ⟨rfl, rfl⟩
      clear D1
      cases q with
      | true =>
        have HX := Lib.hid (show k + 1 + ((s.drop (k + 1)).takeWhile isDig).length = Z by have h1 := HZ.out; rw [HT.out, if_pos rfl, List.length_cons] at h1; omega)
        clear HT HZ
        go_wp2_with fail
        go_roundw
        case rel => exact ⟨k + 1, by omega, by go_num, HX, HU⟩
        case measure => simp [intOf]; omega
      | false =>
        have HX := Lib.hid (show k = Z by have h1 := HZ.out; rw [HT.out, if_neg (by simp)] at h1; simpa using h1)
        clear HT HZ
        go_wp2_with fail
        go_ret
        exact ⟨by rw [← HX.out]; rfl, HU.out⟩
    · obtain rfl : k = s.length := by omega
      have HX := Lib.hid (show s.length = Z by have h1 := HZ.out; rw [List.drop_of_length_le (Nat.le_refl _)] at h1; simpa using h1)
      clear HZ
      go_wp2_with fail
      go_ret
      exact ⟨by rw [← HX.out]; rfl, HU.out⟩

theorem smallF_iff (lim : Int) (t : List UInt8) : (smallF lim t).isSome = ((numF t).isSome && inB ((numF t).getD 0) 0 (lim - 1)) ∧ ∀ k, smallF lim t = some k → (numF t).getD 0 = k := by
  unfold smallF
  cases numF t with
  | none => exact ⟨rfl, fun k h => by cases h⟩
  | some n =>
    refine ⟨?_, fun k h => ?_⟩
    · simp only [Option.isSome_some, Bool.true_and, Option.getD_some]
      by_cases h : 0 ≤ n ∧ n < lim
      · rw [if_pos h, inB_mk (by omega)]; rfl
      · rw [if_neg h, inB_no (by omega)]; rfl
    · simp only at h
      split at h
      · cases h; rfl
      · cases h

set_option maxRecDepth 20000 in
set_option maxHeartbeats 1000000 in
theorem numberTokenI (lim : Int) (t : List UInt8) (w : World) (hl : t.length ≤ 2000000) (h1 : 1 ≤ lim) (h2 : lim ≤ 1000) (he : EnvT w) :
    Calls Tryd.prog 55 #[es t, .int .i64 lim] w fun e w' => (∃ N : Int, e = .returned (.tuple #[.int .i64 N, .bool (smallF lim t).isSome]) ∧ Hid (∀ k, smallF lim t = some k → N = k)) ∧ Upd [] w w' := by
  have S1 := Lib.hid (readDecimalT t w hl he)
  have HW := Lib.hid (fun n (W : World) => within n 0 (lim - 1) W)
  have HS := Lib.hid (smallF_iff lim t)
  have hw : IntKind.i64.wrap (lim - 1) = lim - 1 := by rw [IntKind.wrap_i64]; omega
  clear he hl
  generalize smallF lim t = Q at *
  go_enter Tryd.func55, Tryd.ntmps55
  go_wp2_with fail
  refine S1.out.mono ?_
  rintro e w1 ⟨rfl, hu⟩
  have HU := Lib.hid hu
  clear S1 hu
  obtain ⟨qn, hqn⟩ : ∃ q, (numF t).isSome = q := ⟨_, rfl⟩
  rw [hqn] at HS ⊢
  clear hqn
  generalize (numF t).getD 0 = N at *
  have W1 := Lib.hid (HW.out N w1)
  generalize inB N 0 (lim - 1) = qi at *
  cases qn with
  | false =>
    have HX := Lib.hid (show Q.isSome = false by rw [HS.out.1]; rfl)
    have HY := Lib.hid HS.out.2
    clear HS HW W1
    go_wp2_with fail
    go_ret2
    exact ⟨⟨N, by rw [HX.out]; rfl, HY⟩, HU.out⟩
  | true =>
    have HX := Lib.hid (show Q.isSome = qi by rw [HS.out.1]; rfl)
    have HY := Lib.hid HS.out.2
    clear HS HW
    go_wp2_with fail
    refine W1.out.mono ?_
    rintro e w2 ⟨rfl, rfl⟩
    clear W1
    go_wp2_with fail
    go_ret2
    exact ⟨⟨N, by rw [HX.out]; rfl, HY⟩, HU.out⟩

theorem cut_v (t : List UInt8) : (∃ r, t = 118 :: r ∧ Lib.hasPrefix t [118] = true ∧ Lib.trimPrefix t [118] = r) ∨ (Lib.hasPrefix t [118] = false ∧ Lib.trimPrefix t [118] = t ∧ varF t = none) := by
  cases t with
  | nil => exact Or.inr ⟨rfl, rfl, rfl⟩
  | cons c r =>
    by_cases h : c = 118
    · subst h
      refine Or.inl ⟨r, rfl, ?_, ?_⟩ <;> simp [Lib.trimPrefix, Lib.hasPrefix, List.isPrefixOf]
    · have h2 : Lib.hasPrefix (c :: r) [118] = false := by
        simp only [Lib.hasPrefix, List.isPrefixOf, Bool.and_true]
        exact beq_eq_false_iff_ne.2 (Ne.symm h)
      exact Or.inr ⟨h2, by unfold Lib.trimPrefix; rw [h2]; rfl, by show (if c = 118 then smallF 29 r else none) = none; rw [if_neg h]⟩

set_option maxRecDepth 20000 in
set_option maxHeartbeats 1000000 in
theorem variableTokenI (t : List UInt8) (w : World) (hl : t.length ≤ 2000000) (he : EnvT w) :
    Calls Tryd.prog 56 #[es t] w fun e w' => (∃ N : Int, e = .returned (.tuple #[.int .i64 N, .bool (varF t).isSome]) ∧ Hid (∀ k, varF t = some k → N = k)) ∧ Upd [] w w' := by
  have S1 := Lib.hid (Tryd.strings_CutPrefix ⟨t.toArray⟩ ⟨#[118]⟩ w)
  have e1 : (⟨t.toArray⟩ : ByteArray).data.toList = t := rfl
  have e2 : (⟨#[118]⟩ : ByteArray).data.toList = [118] := rfl
  rw [e1, e2] at S1
  clear e1 e2
  rcases cut_v t with ⟨r, rfl, h1, h2⟩ | ⟨h1, h2, h3⟩
  · rw [h1, h2] at S1
    have S2 := Lib.hid (numberTokenI 29 r w (by simp at hl; omega) (by omega) (by omega) he)
    have HV := Lib.hid (show varF (118 :: r) = smallF 29 r from rfl)
    generalize varF (118 :: r) = V at *
    clear h1 h2 he hl
    go_enter Tryd.func56, Tryd.ntmps56
    go_wp2_with fail
    refine S1.out.mono ?_
    rintro e w1 ⟨rfl, rfl⟩
    clear S1
    go_wp2_with fail
    refine S2.out.mono ?_
    rintro e w2 ⟨⟨N, rfl, HN⟩, hu⟩
    have HU := Lib.hid hu
    clear S2 hu
    generalize smallF 29 r = Q at *
    obtain ⟨q, hq⟩ : ∃ q, Q.isSome = q := ⟨_, rfl⟩
    rw [hq]
    have HQ := Lib.hid (show V.isSome = q by rw [HV.out, hq])
    have HN2 := Lib.hid (show ∀ k, V = some k → N = k by rw [HV.out]; exact HN.out)
    clear hq HV HN
    go_wp2_with fail
    go_ret2
    exact ⟨⟨N, by rw [HQ.out]; rfl, HN2⟩, HU.out⟩
  · rw [h1, h2] at S1
    have S2 := Lib.hid (numberTokenI 29 t w hl (by omega) (by omega) he)
    have HV := Lib.hid h3
    clear h1 h2 h3 he hl
    go_enter Tryd.func56, Tryd.ntmps56
    go_wp2_with fail
    refine S1.out.mono ?_
    rintro e w1 ⟨rfl, rfl⟩
    clear S1
    go_wp2_with fail
    refine S2.out.mono ?_
    rintro e w2 ⟨⟨N, rfl, HN⟩, hu⟩
    have HU := Lib.hid hu
    clear S2 hu HN
    generalize (smallF 29 t).isSome = q at *
    go_wp2_with fail
    go_ret2
    exact ⟨⟨N, by rw [HV.out]; rfl, Lib.hid (fun k h => by rw [HV.out] at h; cases h)⟩, HU.out⟩

end Go.Proofs.YtpnokhhbakiiiaaDoor

/-
  Slices of elements of three or four plain cells each.
-/
namespace Go.Proofs.YtpnokhhbakiiiaaDoor
open Go.RowKit

end Go.Proofs.YtpnokhhbakiiiaaDoor

/-
  Canonical forms, plainly; forests of the rest of a valid list of terms.
-/
namespace Go.Proofs.YtpnokhhbakiiiaaDoor

end Go.Proofs.YtpnokhhbakiiiaaDoor

/-
  The text of an expression: what the reference's calls return.
-/
namespace Go.Proofs.YtpnokhhbakiiiaaDoor
open Go.RowKit

def lv7 : Ex → Int | .mk t _ => if t.1 = 2 then lvl t.2 else if t.1 = 3 then 6 else 7
set_option maxRecDepth 20000 in
theorem l04LevelS (q : Nat) (hq : q < 9) (w : World) : Calls Tryd.prog 49 #[.int .i64 q] w fun e w' => e = .returned (ei (lvl q)) ∧ w = w' := by
  rcases (by omega : q = 0 ∨ q = 1 ∨ q = 2 ∨ q = 3 ∨ q = 4 ∨ q = 5 ∨ q = 6 ∨ q = 7 ∨ q = 8) with rfl | rfl | rfl | rfl | rfl | rfl | rfl | rfl | rfl
  all_goals
    go_enter Tryd.func49, Tryd.ntmps49
    go_wp2_with fail
    go_ret
    exact ⟨by simp [lvl], rfl⟩

set_option maxRecDepth 20000 in
theorem l04OpsS (w : World) : Calls Tryd.prog 61 #[] w fun e w' => e = .returned (.slice (some ⟨w.heap.size, 0, none⟩) 9 9) ∧ Upd [] w w' ∧ w.heap.size < w'.heap.size ∧ ∀ q : Nat, q < 9 → w'.cell? ⟨w.heap.size, q, none⟩ = some (es (opT q)) := by
  have hc := fun (q : Nat) (hq : q < 9) => cell_new w #[es [43], es [45], es [42], es [61], es [35], es [60], es [60, 61], es [38], es [124]] 9 _ rfl q (es (opT q)) (by
    rcases (by omega : q = 0 ∨ q = 1 ∨ q = 2 ∨ q = 3 ∨ q = 4 ∨ q = 5 ∨ q = 6 ∨ q = 7 ∨ q = 8) with rfl | rfl | rfl | rfl | rfl | rfl | rfl | rfl | rfl <;> simp [opT])
  have HC := Lib.hid hc
  clear hc
  go_enter Tryd.func61, Tryd.ntmps61
  go_wp2_with fail
  go_ret
  exact ⟨rfl, (Upd.refl _ _).alloc _, by simp, HC.out⟩

theorem ownsRow_grown {w w1 : World} {base : Nat} {e : TypeId} {size : Nat} {v : Value} {n : Nat} {xs : List Value} (h : w.ownsRow base e size v n xs) {row : Option Nat} (hg : w.grownBy w1 row) (hd : ∀ b, v.ownBlock = some b → row ≠ some b) : w1.ownsRow base e size v n xs := by
  refine h.kept (row := row) hg ?_
  cases hv : v.ownBlock with
  | none => exact Or.inl rfl
  | some b => exact Or.inr (fun e => hd b hv e.symm)

def txs (xs : List Ex) : List Value := xs.reverse.map fun x => es (textE x)
def lvs (xs : List Ex) : List Value := xs.reverse.map fun x => ei (lv7 x)
theorem txs_cons (x : Ex) (xs : List Ex) : txs (x :: xs) = txs xs ++ [es (textE x)] := by simp [txs]
theorem lvs_cons (x : Ex) (xs : List Ex) : lvs (x :: xs) = lvs xs ++ [ei (lv7 x)] := by simp [lvs]
/-- the two stacks, apart. -/
structure Stk (w0 w : World) (tv lv : Value) (xs : List Ex) : Prop where
  t : w.ownsRow w0.heap.size 9 1 tv xs.length (txs xs)
  l : w.ownsRow w0.heap.size 2 1 lv xs.length (lvs xs)
  apart : ∀ b, tv.ownBlock = some b → lv.ownBlock ≠ some b

theorem Stk.done {w0 wA w3 w4 : World} {tvc lvc tv' lv' : Value} {ys : List Ex} {x : Ex} {o : Obj} (hl : wA.ownsRow w0.heap.size 2 1 lvc ys.length (lvs ys))
    (hap : ∀ b, tvc.ownBlock = some b → lvc.ownBlock ≠ some b) (h3 : w3.ownsRow w0.heap.size 9 1 tv' (ys.length + 1) (txs ys ++ [es (textE x)])) (ht3 : ∀ b, tv'.ownBlock = some b → tvc.ownBlock = some b ∨ wA.heap.size ≤ b)
    (h4 : w4.ownsRow w0.heap.size 2 1 lv' (ys.length + 1) (lvs ys ++ [ei (lv7 x)])) (hg4 : (w3.alloc o).grownBy w4 lvc.ownBlock) (ht4 : ∀ b, lv'.ownBlock = some b → lvc.ownBlock = some b ∨ (w3.alloc o).heap.size ≤ b) : Stk w0 w4 tv' lv' (x :: ys) := by
  have hd : ∀ b, tv'.ownBlock = some b → lvc.ownBlock ≠ some b := by
    intro b hb hlb
    rcases ht3 b hb with h | h
    · exact hap b h hlb
    · have := (hl.lt b hlb).2; omega
  refine ⟨?_, by rw [lvs_cons]; simpa using h4, ?_⟩
  · rw [txs_cons]
    exact ownsRow_grown (ownsRow_upd (by simpa using h3) ((Upd.refl [] _).alloc o)) hg4 hd
  · intro b hb hlb
    rcases ht4 b hlb with h | h
    · exact hd b hb h
    · have := (h3.lt b hb).2; simp at h; omega

theorem Stk.levels {w0 wA w3 : World} {tvc lvc : Value} {ys : List Ex} {o : Obj} (hl : wA.ownsRow w0.heap.size 2 1 lvc ys.length (lvs ys))
    (hap : ∀ b, tvc.ownBlock = some b → lvc.ownBlock ≠ some b) (hg3 : wA.grownBy w3 tvc.ownBlock) : (w3.alloc o).ownsRow w0.heap.size 2 1 lvc ys.length (lvs ys) :=
  ownsRow_upd (ownsRow_grown hl hg3 (fun b hb h => hap b h hb)) ((Upd.refl [] _).alloc o)

end Go.Proofs.YtpnokhhbakiiiaaDoor

/-
  A number in decimal, read by the reference. (Printed by gennum.py: the two signs alike.)
-/
namespace Go.Proofs.YtpnokhhbakiiiaaDoor
open Go.RowKit

def NumS (l : List UInt8) (w : World) (e : Ending) (w' : World) : Prop := e = .returned (.tuple #[.int .i64 ((numF l).getD 0), .bool (numF l).isSome]) ∧ w = w'

theorem valD_take (d : List UInt8) (q : Nat) (hq : q < d.length) : valD 0 (d.take (q + 1)) = valD 0 (d.take q) * 10 + (d[q].toNat - 48) := by
  rw [List.take_succ_eq_append_getElem hq, valD_append, valD_cons, valD_nil]
theorem valD_take_lt (d : List UInt8) (q : Nat) (h18 : d.length ≤ 18) (h : (d.take q).all isDig = true) : valD 0 (d.take q) < 1000000000000000000 := by
  have h1 := valD_lt 0 (d.take q) h
  have h2 : (d.take q).length ≤ 18 := by rw [List.length_take]; omega
  have h3 : 10 ^ (d.take q).length ≤ 10 ^ 18 := Nat.pow_le_pow_right (by omega) h2
  omega
theorem valD_take_lt17 (d : List UInt8) (q : Nat) (h18 : d.length ≤ 18) (hq : q < d.length) (h : (d.take q).all isDig = true) : valD 0 (d.take q) < 100000000000000000 := by
  have h1 := valD_lt 0 (d.take q) h
  have h2 : (d.take q).length ≤ 17 := by rw [List.length_take]; omega
  have h3 : 10 ^ (d.take q).length ≤ 10 ^ 17 := Nat.pow_le_pow_right (by omega) h2
  omega
theorem all_take_succ (d : List UInt8) (q : Nat) (hq : q < d.length) (h : (d.take q).all isDig = true) (h2 : isDig d[q] = true) : (d.take (q + 1)).all isDig = true := by
  rw [List.take_succ_eq_append_getElem hq, List.all_append, h]; simp [h2]
theorem all_bad (d : List UInt8) (q : Nat) (hq : q < d.length) (h2 : isDig d[q] = false) : d.all isDig = false := by
  cases h : d.all isDig with
  | false => rfl
  | true => rw [List.all_eq_true.1 h d[q] (List.getElem_mem hq)] at h2; cases h2
theorem byte_ne {b : UInt8} {n : Nat} (hn : n < 256) (h : b ≠ UInt8.ofNat n) : ((b.toNat : Int) == (n : Int)) = false := by
  simp; intro h2; apply h; apply UInt8.toNat_inj.1; simp; omega

set_option maxRecDepth 20000 in
set_option maxHeartbeats 4000000 in
theorem numberS0 (l d : List UInt8) (w : World) (hl : l.length ≤ 2000000) (hneg : negL l = false) (hd : digL l = d) (hlen : l.length = d.length + 0) (hpos : 0 < l.length)
    (hget : ∀ q (hq : q < d.length) (hq2 : q < l.length), l[q] = d[q]) (c : UInt8) (hc : l[0] = c) (hc45 : c ≠ 45) :
    Calls Tryd.prog 60 #[es l] w (NumS l w) := by
  have hix0 : (⟨l.toArray⟩ : ByteArray)[0]'(by simpa [ByteArray.size] using hpos) = c := by rw [← hc]; simp [ByteArray.getElem_eq_getElem_data]
  have gp : (0 : Int) < (l.length : Int) := by omega
  have HLEN := Lib.hid hlen
  have g45 := byte_ne (n := 45) (by omega) hc45
  clear hc
  by_cases hd0 : d = []
  · have HR := Lib.hid (show numF l = none by unfold numF; rw [hd, if_pos (Or.inl hd0)])
    have hl1 : l.length = 0 := by rw [hlen, hd0]; simp
    exact absurd hl1 (by omega)
  · have hdpos : 0 < d.length := List.length_pos_iff.2 hd0
    have g1 : ((l.length : Int) == 0) = false := by rw [beq_eq_false_iff_ne]; omega
    by_cases h18 : 18 < d.length
    · have HR := Lib.hid (show numF l = none by unfold numF; rw [hd, if_pos (Or.inr (Or.inl h18))])
      have g2 : (18 : Int) < (l.length : Int) := by omega
      clear hget hd0 hneg hd hlen h18 hdpos
      go_enter Tryd.func60, Tryd.ntmps60
      go_wp2_with fail
      go_ret2
      exact ⟨by rw [HR.out]; rfl, rfl⟩
    · have g2 : ¬ (18 : Int) < (l.length : Int) := by omega
      obtain ⟨x, hx⟩ : ∃ x, d[0] = x := ⟨_, rfl⟩
      have hat : 0 < l.length := by omega
      have hixa : (⟨l.toArray⟩ : ByteArray)[0]'(by simpa [ByteArray.size] using hat) = x := by
        rw [← hx, ← hget 0 hdpos (by omega)]; simp [ByteArray.getElem_eq_getElem_data]
      have hxc : x = c := hixa.symm.trans hix0
      subst hxc
      clear hix0
      have hhead : d.head? = some x := by rw [← hx]; cases d with
        | nil => simp at hdpos
        | cons y d => rfl
      by_cases hz : x = 48 ∧ 1 < l.length
      · have HR := Lib.hid (show numF l = none by unfold numF; rw [hd, if_pos (Or.inr (Or.inr (Or.inl ⟨by rw [hhead, hz.1], hz.2⟩)))])
        obtain ⟨hz1, hz2⟩ := hz
        subst hz1
        have g3 : (1 : Int) < (l.length : Int) := by omega
        clear hget hd0 hneg hd hx hhead hlen
        go_enter Tryd.func60, Tryd.ntmps60
        go_wp2_with fail
        go_ret2
        exact ⟨by rw [HR.out]; rfl, rfl⟩
      · have HF := Lib.hid (show numF l = if d.all isDig = false then none else some ((valD 0 d : Int)) by
          unfold numF
          rw [hd, hneg]
          by_cases ha : d.all isDig = false
          · rw [if_pos (Or.inr (Or.inr (Or.inr ha))), if_pos ha]
          · rw [if_neg, if_neg ha]
            · simp
            · rintro (h | h | h | h)
              · exact hd0 h
              · exact h18 h
              · rw [hhead] at h; exact hz ⟨by simpa using h.1, h.2⟩
              · exact ha h)
        have hcase : Hid (∀ K : Prop, (((x.toNat : Int) == 48) = false → K) → (x = 48 → ¬ (1 : Int) < (l.length : Int) → K) → K) := Lib.hid (fun K h1 h2 => by
          by_cases h : x = 48
          · exact h2 h (fun h3 => hz ⟨h, by omega⟩)
          · exact h1 (byte_ne (n := 48) (by omega) h))
        have HG := Lib.hid hget
        clear hget hd0 hneg hd hx hhead hz hlen
        refine hcase.out _ ?_ ?_
        · intro gz
          clear hcase
          go_enter Tryd.func60, Tryd.ntmps60
          go_wp2_with fail
          go_loop [5, 6] (fun n i => ∃ q : Nat, q ≤ d.length ∧ i = .int .i64 (q : Nat) ∧ n = .int .i64 (valD 0 (d.take q) : Nat) ∧ Hid ((d.take q).all isDig = true)) (fun n i => l.length - (intOf i).toNat)
          case atStart => exact ⟨0, Nat.zero_le _, rfl, rfl, Lib.hid rfl⟩
          case round =>
            try clear hixa
            try clear hix0
            obtain ⟨q, hq, rfl, rfl, HA⟩ := hrel
            have hql : q ≤ l.length := by have hlen := HLEN.out; omega
            have hvl := valD_take_lt d q (by omega) HA.out
            by_cases hlt : q < d.length
            · have hlt2 : q < l.length := by have hlen := HLEN.out; omega
              obtain ⟨b, hb⟩ : ∃ b, d[q] = b := ⟨_, rfl⟩
              have hixq : (⟨l.toArray⟩ : ByteArray)[q]'(by simpa [ByteArray.size] using hlt2) = b := by rw [← hb, ← HG.out q hlt hlt2]; simp [ByteArray.getElem_eq_getElem_data]
              have S1 := Lib.hid (digitS b w)
              cases hdg : isDig b with
              | false =>
                have HR := Lib.hid (show numF l = none by rw [HF.out, if_pos (all_bad d q hlt (by rw [hb]; exact hdg))])
                rw [hdg] at S1
                clear hdg hb
                go_wp2_with fail
                refine S1.out.mono ?_
                rintro e w1 ⟨rfl, rfl⟩
                clear S1
                go_wp2_with fail
                go_ret2
                exact ⟨by rw [HR.out]; rfl, rfl⟩
              | true =>
                have hd2 : 48 ≤ b.toNat ∧ b.toNat ≤ 57 := by simpa [isDig] using hdg
                have HV := Lib.hid (valD_take d q hlt)
                have hvl7 := valD_take_lt17 d q (by omega) hlt HA.out
                have HA2 := Lib.hid (all_take_succ d q hlt HA.out (by rw [hb]; exact hdg))
                rw [hb] at HV
                rw [hdg] at S1
                generalize valD 0 (d.take q) = V at *
                clear hdg hb HA
                go_wp2_with fail
                refine S1.out.mono ?_
                rintro e w1 ⟨rfl, rfl⟩
                clear S1
                go_wp2_with fail
                go_round
                case rel => exact ⟨q + 1, by omega, by go_num, by rw [HV.out]; exact congrArg _ (by omega), HA2⟩
                case measure => simp [intOf]; omega
            · have hend : ¬ ((q : Nat) : Int) < (l.length : Int) := by have hlen := HLEN.out; omega
              obtain rfl : q = d.length := by omega
              have hall := HA.out
              rw [List.take_of_length_le (Nat.le_refl _)] at hall
              have HR := Lib.hid (show numF l = some ((valD 0 d : Int)) by rw [HF.out, if_neg (by rw [hall]; simp)])
              rw [List.take_of_length_le (Nat.le_refl _)] at hvl ⊢
              generalize valD 0 d = V at *
              clear HA HF hall
              go_wp2_with fail
              go_ret2
              exact ⟨by rw [HR.out]; first | rfl | (simp; try omega), rfl⟩
        · intro gz1 gz2
          subst gz1
          clear hcase
          go_enter Tryd.func60, Tryd.ntmps60
          go_wp2_with fail
          go_loop [5, 6] (fun n i => ∃ q : Nat, q ≤ d.length ∧ i = .int .i64 (q : Nat) ∧ n = .int .i64 (valD 0 (d.take q) : Nat) ∧ Hid ((d.take q).all isDig = true)) (fun n i => l.length - (intOf i).toNat)
          case atStart => exact ⟨0, Nat.zero_le _, rfl, rfl, Lib.hid rfl⟩
          case round =>
            try clear hixa
            try clear hix0
            obtain ⟨q, hq, rfl, rfl, HA⟩ := hrel
            have hql : q ≤ l.length := by have hlen := HLEN.out; omega
            have hvl := valD_take_lt d q (by omega) HA.out
            by_cases hlt : q < d.length
            · have hlt2 : q < l.length := by have hlen := HLEN.out; omega
              obtain ⟨b, hb⟩ : ∃ b, d[q] = b := ⟨_, rfl⟩
              have hixq : (⟨l.toArray⟩ : ByteArray)[q]'(by simpa [ByteArray.size] using hlt2) = b := by rw [← hb, ← HG.out q hlt hlt2]; simp [ByteArray.getElem_eq_getElem_data]
              have S1 := Lib.hid (digitS b w)
              cases hdg : isDig b with
              | false =>
                have HR := Lib.hid (show numF l = none by rw [HF.out, if_pos (all_bad d q hlt (by rw [hb]; exact hdg))])
                rw [hdg] at S1
                clear hdg hb
                go_wp2_with fail
                refine S1.out.mono ?_
                rintro e w1 ⟨rfl, rfl⟩
                clear S1
                go_wp2_with fail
                go_ret2
                exact ⟨by rw [HR.out]; rfl, rfl⟩
              | true =>
                have hd2 : 48 ≤ b.toNat ∧ b.toNat ≤ 57 := by simpa [isDig] using hdg
                have HV := Lib.hid (valD_take d q hlt)
                have hvl7 := valD_take_lt17 d q (by omega) hlt HA.out
                have HA2 := Lib.hid (all_take_succ d q hlt HA.out (by rw [hb]; exact hdg))
                rw [hb] at HV
                rw [hdg] at S1
                generalize valD 0 (d.take q) = V at *
                clear hdg hb HA
                go_wp2_with fail
                refine S1.out.mono ?_
                rintro e w1 ⟨rfl, rfl⟩
                clear S1
                go_wp2_with fail
                go_round
                case rel => exact ⟨q + 1, by omega, by go_num, by rw [HV.out]; exact congrArg _ (by omega), HA2⟩
                case measure => simp [intOf]; omega
            · have hend : ¬ ((q : Nat) : Int) < (l.length : Int) := by have hlen := HLEN.out; omega
              obtain rfl : q = d.length := by omega
              have hall := HA.out
              rw [List.take_of_length_le (Nat.le_refl _)] at hall
              have HR := Lib.hid (show numF l = some ((valD 0 d : Int)) by rw [HF.out, if_neg (by rw [hall]; simp)])
              rw [List.take_of_length_le (Nat.le_refl _)] at hvl ⊢
              generalize valD 0 d = V at *
              clear HA HF hall
              go_wp2_with fail
              go_ret2
              exact ⟨by rw [HR.out]; first | rfl | (simp; try omega), rfl⟩

set_option maxRecDepth 20000 in
set_option maxHeartbeats 4000000 in
theorem numberS1 (l d : List UInt8) (w : World) (hl : l.length ≤ 2000000) (hneg : negL l = true) (hd : digL l = d) (hlen : l.length = d.length + 1) (hpos : 0 < l.length)
    (hget : ∀ q (hq : q < d.length) (hq2 : 1 + q < l.length), l[1 + q] = d[q]) (c : UInt8) (hc : l[0] = c) (hc45 : c = 45) :
    Calls Tryd.prog 60 #[es l] w (NumS l w) := by
  have hix0 : (⟨l.toArray⟩ : ByteArray)[0]'(by simpa [ByteArray.size] using hpos) = c := by rw [← hc]; simp [ByteArray.getElem_eq_getElem_data]
  have gp : (0 : Int) < (l.length : Int) := by omega
  have HLEN := Lib.hid hlen
  subst hc45
  clear hc
  by_cases hd0 : d = []
  · have HR := Lib.hid (show numF l = none by unfold numF; rw [hd, if_pos (Or.inl hd0)])
    have hl1 : l.length = 1 := by rw [hlen, hd0]; simp
    have gl1 : (l.length : Int) = 1 := by omega
    clear hget hd0 hneg hd hlen hl1
    go_enter Tryd.func60, Tryd.ntmps60
    go_wp2_with fail
    go_ret2
    exact ⟨by rw [HR.out]; rfl, rfl⟩
  · have hdpos : 0 < d.length := List.length_pos_iff.2 hd0
    have g1 : ((l.length : Int) == 1) = false := by rw [beq_eq_false_iff_ne]; omega
    by_cases h18 : 18 < d.length
    · have HR := Lib.hid (show numF l = none by unfold numF; rw [hd, if_pos (Or.inr (Or.inl h18))])
      have g2 : (18 : Int) < (l.length : Int) - 1 := by omega
      clear hget hd0 hneg hd hlen h18 hdpos
      go_enter Tryd.func60, Tryd.ntmps60
      go_wp2_with fail
      go_ret2
      exact ⟨by rw [HR.out]; rfl, rfl⟩
    · have g2 : ¬ (18 : Int) < (l.length : Int) - 1 := by omega
      obtain ⟨x, hx⟩ : ∃ x, d[0] = x := ⟨_, rfl⟩
      have hat : 1 < l.length := by omega
      have hixa : (⟨l.toArray⟩ : ByteArray)[1]'(by simpa [ByteArray.size] using hat) = x := by
        rw [← hx, ← hget 0 hdpos (by omega)]; simp [ByteArray.getElem_eq_getElem_data]
      skip
      have hhead : d.head? = some x := by rw [← hx]; cases d with
        | nil => simp at hdpos
        | cons y d => rfl
      by_cases hz : x = 48 ∧ 1 < l.length
      · have HR := Lib.hid (show numF l = none by unfold numF; rw [hd, if_pos (Or.inr (Or.inr (Or.inl ⟨by rw [hhead, hz.1], hz.2⟩)))])
        obtain ⟨hz1, hz2⟩ := hz
        subst hz1
        have g3 : (1 : Int) < (l.length : Int) := by omega
        clear hget hd0 hneg hd hx hhead hlen
        go_enter Tryd.func60, Tryd.ntmps60
        go_wp2_with fail
        go_ret2
        exact ⟨by rw [HR.out]; rfl, rfl⟩
      · have HF := Lib.hid (show numF l = if d.all isDig = false then none else some (-(valD 0 d : Int)) by
          unfold numF
          rw [hd, hneg]
          by_cases ha : d.all isDig = false
          · rw [if_pos (Or.inr (Or.inr (Or.inr ha))), if_pos ha]
          · rw [if_neg, if_neg ha]
            · simp
            · rintro (h | h | h | h)
              · exact hd0 h
              · exact h18 h
              · rw [hhead] at h; exact hz ⟨by simpa using h.1, h.2⟩
              · exact ha h)
        have hcase : Hid (∀ K : Prop, (((x.toNat : Int) == 48) = false → K) → (x = 48 → ¬ (1 : Int) < (l.length : Int) → K) → K) := Lib.hid (fun K h1 h2 => by
          by_cases h : x = 48
          · exact h2 h (fun h3 => hz ⟨h, by omega⟩)
          · exact h1 (byte_ne (n := 48) (by omega) h))
        have HG := Lib.hid hget
        clear hget hd0 hneg hd hx hhead hz hlen
        refine hcase.out _ ?_ ?_
        · intro gz
          clear hcase
          go_enter Tryd.func60, Tryd.ntmps60
          go_wp2_with fail
          go_loop [5, 6] (fun n i => ∃ q : Nat, q ≤ d.length ∧ i = .int .i64 (1 + q : Nat) ∧ n = .int .i64 (valD 0 (d.take q) : Nat) ∧ Hid ((d.take q).all isDig = true)) (fun n i => l.length - (intOf i).toNat)
          case atStart => exact ⟨0, Nat.zero_le _, rfl, rfl, Lib.hid rfl⟩
          case round =>
            try clear hixa
            try clear hix0
            obtain ⟨q, hq, rfl, rfl, HA⟩ := hrel
            have hql : 1 + q ≤ l.length := by have hlen := HLEN.out; omega
            have hvl := valD_take_lt d q (by omega) HA.out
            by_cases hlt : q < d.length
            · have hlt2 : 1 + q < l.length := by have hlen := HLEN.out; omega
              obtain ⟨b, hb⟩ : ∃ b, d[q] = b := ⟨_, rfl⟩
              have hixq : (⟨l.toArray⟩ : ByteArray)[1 + q]'(by simpa [ByteArray.size] using hlt2) = b := by rw [← hb, ← HG.out q hlt hlt2]; simp [ByteArray.getElem_eq_getElem_data]
              have S1 := Lib.hid (digitS b w)
              cases hdg : isDig b with
              | false =>
                have HR := Lib.hid (show numF l = none by rw [HF.out, if_pos (all_bad d q hlt (by rw [hb]; exact hdg))])
                rw [hdg] at S1
                clear hdg hb
                go_wp2_with fail
                refine S1.out.mono ?_
                rintro e w1 ⟨rfl, rfl⟩
                clear S1
                go_wp2_with fail
                go_ret2
                exact ⟨by rw [HR.out]; rfl, rfl⟩
              | true =>
                have hd2 : 48 ≤ b.toNat ∧ b.toNat ≤ 57 := by simpa [isDig] using hdg
                have HV := Lib.hid (valD_take d q hlt)
                have hvl7 := valD_take_lt17 d q (by omega) hlt HA.out
                have HA2 := Lib.hid (all_take_succ d q hlt HA.out (by rw [hb]; exact hdg))
                rw [hb] at HV
                rw [hdg] at S1
                generalize valD 0 (d.take q) = V at *
                clear hdg hb HA
                go_wp2_with fail
                refine S1.out.mono ?_
                rintro e w1 ⟨rfl, rfl⟩
                clear S1
                go_wp2_with fail
                go_round
                case rel => exact ⟨q + 1, by omega, by go_num, by rw [HV.out]; exact congrArg _ (by omega), HA2⟩
                case measure => simp [intOf]; omega
            · have hend : ¬ ((1 + q : Nat) : Int) < (l.length : Int) := by have hlen := HLEN.out; omega
              obtain rfl : q = d.length := by omega
              have hall := HA.out
              rw [List.take_of_length_le (Nat.le_refl _)] at hall
              have HR := Lib.hid (show numF l = some (-(valD 0 d : Int)) by rw [HF.out, if_neg (by rw [hall]; simp)])
              rw [List.take_of_length_le (Nat.le_refl _)] at hvl ⊢
              generalize valD 0 d = V at *
              clear HA HF hall
              go_wp2_with fail
              go_ret2
              exact ⟨by rw [HR.out]; first | rfl | (simp; try omega), rfl⟩
        · intro gz1 gz2
          exact absurd (show (1 : Int) < (l.length : Int) by have hlen := HLEN.out; omega) gz2

theorem numberS (l : List UInt8) (w : World) (hl : l.length ≤ 2000000) : Calls Tryd.prog 60 #[es l] w (NumS l w) := by
  cases l with
  | nil =>
    have HR := Lib.hid (show numF [] = none by rfl)
    go_enter Tryd.func60, Tryd.ntmps60
    go_wp2_with fail
    go_ret2
    exact ⟨by rw [HR.out]; rfl, rfl⟩
  | cons c r =>
    by_cases hc : c = 45
    · exact numberS1 (c :: r) r w hl (by simp [negL, hc]) (by simp [digL, negL, hc]) (by simp) (by simp) (fun q hq hq2 => by
        have e : (c :: r)[1 + q]? = r[q]? := by rw [Nat.add_comm]; rfl
        rw [List.getElem?_eq_getElem hq2, List.getElem?_eq_getElem hq] at e
        exact Option.some.inj e) c rfl hc
    · exact numberS0 (c :: r) (c :: r) w hl (by simp [negL, hc]) (by simp [digL, negL, hc]) (by simp) (by simp) (fun q hq hq2 => rfl) c rfl hc

end Go.Proofs.YtpnokhhbakiiiaaDoor

/-
  Readings of slices whose elements are several cells each and hold memory of their own.
-/
namespace Go.Proofs.YtpnokhhbakiiiaaDoor
open Go.RowKit

theorem flat_len {β : Type} {n : Nat} : ∀ {us : List (List β)}, (∀ u ∈ us, u.length = n) → us.flatten.length = us.length * n
  | [], _ => by simp
  | u :: us, h => by
    rw [List.flatten_cons, List.length_append, h u (by simp), flat_len (fun v hv => h v (by simp [hv])), List.length_cons, Nat.add_mul]
    omega
theorem flat_at {β : Type} {n : Nat} : ∀ {us : List (List β)}, (∀ u ∈ us, u.length = n) → ∀ {i : Nat} {u : List β}, us[i]? = some u → ∀ {j : Nat} {c : β}, u[j]? = some c → us.flatten[i * n + j]? = some c
  | [], _, i, u, hu, _, _, _ => by simp at hu
  | v :: us, h, i, u, hu, j, c, hc => by
    have hv := h v (by simp)
    rw [List.flatten_cons]
    cases i with
    | zero =>
      simp at hu; subst hu
      rw [Nat.zero_mul, Nat.zero_add, List.getElem?_append_left (List.getElem?_eq_some_iff.1 hc).1]; exact hc
    | succ i =>
      simp at hu
      rw [List.getElem?_append_right (by rw [Nat.add_mul]; omega), hv, show (i + 1) * n + j - n = i * n + j by rw [Nat.add_mul]; omega]
      exact flat_at (fun x hx => h x (by simp [hx])) hu hc

/-- A slice whose elements are n cells each, and hold memory of their own. -/
def slQ {α : Type} (n : Nat) (R : Rp α) : Rp (List α) := fun fp w cs xs =>
  ∃ (a : Option Addr) (cap : Nat) (us : List (List Value)) (fb : List Nat) (fps : List (List Nat)), cs = [.slice a xs.length cap] ∧ xs.length ≤ cap ∧ cap ≤ maxLen ∧ us.length = xs.length ∧ (∀ u ∈ us, u.length = n) ∧ fps.length = xs.length ∧ fp = fb ++ fps.flatten ∧
    ((xs.length = 0 ∧ fb = []) ∨ ∃ b off, a = some ⟨b, off, none⟩ ∧ fb = [b] ∧ b < w.heap.size ∧ ∀ (i j : Nat) (u : List Value) (c : Value), us[i]? = some u → u[j]? = some c → w.cell? ⟨b, off + i * n + j, none⟩ = some c) ∧
    ∀ i (h : i < xs.length) u (f : List Nat), us[i]? = some u → fps[i]? = some f → R f w u xs[i]

/-- Elements of several cells each, with memory of their own, from block base on and apart from the blocks ob. -/
def RowsQ {α : Type} (n : Nat) (R : Rp α) (base : Nat) (ob : List Nat) (w : World) (us : List (List Value)) (xs : List α) : Prop :=
  ∃ fps : List (List Nat), fps.length = xs.length ∧ us.length = xs.length ∧ (∀ u ∈ us, u.length = n) ∧ Own fps.flatten w ∧ (∀ b ∈ fps.flatten, base ≤ b ∧ b ∉ ob) ∧
    ∀ i (h : i < xs.length) u (f : List Nat), us[i]? = some u → fps[i]? = some f → R f w u xs[i]

/-- What a call makes anew, as several cells. -/
def NewQ {α : Type} (R : Rp α) (w w' : World) (u : List Value) (x : α) : Prop :=
  ∃ fp, R fp w' u x ∧ Own fp w' ∧ ∀ b ∈ fp, w.heap.size ≤ b

namespace RowsQ
variable {α : Type} {n : Nat} {R : Rp α} {base : Nat} {ob : List Nat} {w w1 : World} {us : List (List Value)} {xs : List α}

theorem nil (n : Nat) (R : Rp α) (base : Nat) (ob : List Nat) (w : World) : RowsQ n R base ob w [] [] := ⟨[], rfl, rfl, by simp, Own.nil w, by simp, by simp⟩
theorem length (h : RowsQ n R base ob w us xs) : us.length = xs.length := by obtain ⟨_, _, h, _⟩ := h; exact h
theorem each (h : RowsQ n R base ob w us xs) : ∀ u ∈ us, u.length = n := by obtain ⟨_, _, _, h, _⟩ := h; exact h
theorem flat (h : RowsQ n R base ob w us xs) : us.flatten.length = xs.length * n := by rw [flat_len h.each, h.length]

theorem upd (K : Kept R) (h : RowsQ n R base ob w us xs) {f : List Nat} (hu : Upd f w w1) (hf : ∀ b ∈ f, b ∈ ob ∨ b < base) : RowsQ n R base ob w1 us xs := by
  obtain ⟨fps, h1, h2, h6, h3, h4, h5⟩ := h
  have hd : ∀ b ∈ fps.flatten, b ∉ f := fun b hb hm => by
    rcases hf b hm with h | h
    · exact (h4 b hb).2 h
    · have := (h4 b hb).1; omega
  refine ⟨fps, h1, h2, h6, h3.upd hu hd, h4, fun i hi u f' hu' hf' => K.upd (h5 i hi u f' hu' hf') hu fun b hb => hd b (List.mem_flatten.2 ⟨_, List.mem_of_getElem? hf', hb⟩)⟩

theorem ob' (h : RowsQ n R base ob w us xs) {ob2 : List Nat} (hb : ∀ b ∈ ob2, b ∈ ob ∨ b < base ∨ w.heap.size ≤ b) : RowsQ n R base ob2 w us xs := by
  obtain ⟨fps, h1, h2, h6, h3, h4, h5⟩ := h
  refine ⟨fps, h1, h2, h6, h3, fun b hb' => ⟨(h4 b hb').1, fun hm => ?_⟩, h5⟩
  rcases hb b hm with h | h | h
  · exact (h4 b hb').2 h
  · have := (h4 b hb').1; omega
  · have := h3.lt b hb'; omega

theorem push (K : Kept R) (h : RowsQ n R base ob w us xs) {u : List Value} {x : α} (hu : Upd [] w w1) (hn : NewQ R w w1 u x) (hl : u.length = n) (hb : base ≤ w.heap.size) (hob : ∀ b ∈ ob, b < w.heap.size) :
    RowsQ n R base ob w1 (us ++ [u]) (xs ++ [x]) := by
  obtain ⟨fps, h1, h2, h6, h3, h4, h5⟩ := h.upd K hu (by simp)
  obtain ⟨fps', h1', h2', h6', h3', h4', h5'⟩ := h
  obtain ⟨fp, g1, g2, g3⟩ := hn
  have hlt : ∀ b ∈ fps'.flatten, b < w.heap.size := h3'.lt
  refine ⟨fps' ++ [fp], by simp [h1'], by simp [h2], ?_, ⟨?_, ?_⟩, ?_, ?_⟩
  · intro v hv
    rcases List.mem_append.1 hv with hv | hv
    · exact h6 v hv
    · simp at hv; subst hv; exact hl
  · rw [List.flatten_append, List.nodup_append]
    refine ⟨h3'.1, by simpa using g2.1, fun a ha b hb' e => ?_⟩
    subst e
    have := hlt a ha
    have := g3 a (by simpa using hb')
    omega
  · intro b hb'
    rw [List.flatten_append] at hb'
    rcases List.mem_append.1 hb' with hb' | hb'
    · exact (h3'.upd hu (by simp)).2 b hb'
    · exact g2.2 b (by simpa using hb')
  · intro b hb'
    rw [List.flatten_append] at hb'
    rcases List.mem_append.1 hb' with hb' | hb'
    · exact h4' b hb'
    · have := g3 b (by simpa using hb')
      exact ⟨by omega, fun hm => by have := hob b hm; omega⟩
  · intro i hi u' f' hu' hf'
    by_cases e : i < xs.length
    · rw [List.getElem?_append_left (by omega)] at hu' hf'
      rw [List.getElem_append_left e]
      exact K.upd (h5' i e u' f' hu' hf') hu (by simp)
    · have ei : i = xs.length := by simp at hi; omega
      subst ei
      rw [List.getElem?_append_right (by omega)] at hu' hf'
      rw [h2, Nat.sub_self] at hu'
      rw [h1', Nat.sub_self] at hf'
      simp at hu' hf'
      subst hu' hf'
      simpa using g1

theorem new (h : RowsQ n R base ob w us xs) {w0 : World} {e : TypeId} {v : Value} (ho : w.ownsRow w0.heap.size e n v xs.length us.flatten) (hob : ∀ b, v.ownBlock = some b → b ∈ ob) (hb : w0.heap.size ≤ base) :
    New (slQ n R) w0 w v xs := by
  obtain ⟨fps, h1, h2, h6, h3, h4, h5⟩ := h
  obtain ⟨fb, ⟨a, cap, rfl, q1, q2, -, q4⟩, g2, g3, g4⟩ := Flat.ofOwns ho
  refine ⟨fb ++ fps.flatten, ⟨a, cap, us, fb, fps, rfl, q1, q2, h2, h6, h1, rfl, ?_, h5⟩, ⟨?_, ?_⟩, ?_⟩
  · rcases q4 with q4 | ⟨b, off, rfl, rfl, hbl, hc⟩
    · exact Or.inl q4
    · refine Or.inr ⟨b, off, rfl, rfl, hbl, fun i j u c hu hj => ?_⟩
      rw [Nat.add_assoc]
      exact hc _ _ (flat_at h6 hu hj)
  · rw [List.nodup_append]
    refine ⟨g2.1, h3.1, fun a ha b hb' e => ?_⟩
    subst e
    exact (h4 a hb').2 (hob a (g4 a ha))
  · intro b hb'
    rcases List.mem_append.1 hb' with hb' | hb'
    · exact g2.2 b hb'
    · exact h3.2 b hb'
  · intro b hb'
    rcases List.mem_append.1 hb' with hb' | hb'
    · exact g3 b hb'
    · have := (h4 b hb').1; omega
end RowsQ

theorem Upd.cellF {f : List Nat} {w w1 : World} {b : Nat} (hu : Upd f w w1) (hb : b ∉ f) (hl : b < w.heap.size) (o : Nat) : w1.cell? ⟨b, o, none⟩ = w.cell? ⟨b, o, none⟩ := by
  unfold World.cell?
  rw [hu.block b hl hb]
theorem Upd.row {f : List Nat} {w w1 : World} (h : Upd f w w1) {g : Nat} (hg : w.heap.size ≤ g ∨ g ∈ f) (cs : Array Value) : Upd f w (w1.setRow g cs) :=
  h.fresh (f := [g]) ⟨rfl, rfl, rfl, by simp [World.setRow], fun k _ hf => setRow_other _ _ _ _ (by simpa using hf)⟩ (by simpa using hg)
/-- memory made between two worlds, as it lies later. -/
structure Part {α : Type} (R : Rp α) (lo hi : Nat) (w : World) (v : Value) (x : α) (fp : List Nat) : Prop where
  r : R fp w [v] x
  o : Own fp w
  b : ∀ b ∈ fp, lo ≤ b ∧ b < hi
theorem Part.of {α : Type} {R : Rp α} (K : Kept R) {w w1 : World} {v : Value} {x : α} (h : New R w w1 v x) : ∃ fp, Part R w.heap.size w1.heap.size w1 v x fp := by
  obtain ⟨fp, h1, h2, h3⟩ := h
  exact ⟨fp, h1, h2, fun b hb => ⟨h3 b hb, K.lt h1 b hb⟩⟩
theorem Part.upd {α : Type} {R : Rp α} (K : Kept R) {lo hi : Nat} {w w1 : World} {v : Value} {x : α} {fp f : List Nat} (h : Part R lo hi w v x fp) (hu : Upd f w w1) (hf : ∀ b ∈ f, b < lo ∨ hi ≤ b) : Part R lo hi w1 v x fp := by
  have hd : ∀ b ∈ fp, b ∉ f := fun b hb hm => by have := h.b b hb; have := hf b hm; omega
  exact ⟨K.upd h.r hu hd, h.o.upd hu hd, h.b⟩
/-- outside of a part of block b the cells are as they were. -/
def FarEq (w w' : World) (b lo hi : Nat) : Prop := ∀ o, (o < lo ∨ hi ≤ o) → w'.cell? ⟨b, o, none⟩ = w.cell? ⟨b, o, none⟩
theorem FarEq.refl (w : World) (b lo hi : Nat) : FarEq w w b lo hi := fun _ _ => rfl
theorem FarEq.upd {w w1 w2 : World} {b lo hi : Nat} {f : List Nat} (h : FarEq w w1 b lo hi) (hu : Upd f w1 w2) (hb : b ∉ f) (hl : b < w1.heap.size) : FarEq w w2 b lo hi := fun o ho => (hu.cellF hb hl o).trans (h o ho)
theorem FarEq.put {w w1 w2 : World} {b lo hi j : Nat} (h : FarEq w w1 b lo hi) (hc : ∀ o, o ≠ j → w2.cell? ⟨b, o, none⟩ = w1.cell? ⟨b, o, none⟩) (hj : lo ≤ j ∧ j < hi) : FarEq w w2 b lo hi := fun o ho => (hc o (by omega)).trans (h o ho)

/-- three blocks in a row: what came in, the result's, and the one under way. -/
structure Three (w W : World) (T1 T2 : TypeId) (B : Nat) (p z o : List Value) : Prop where
  base : w.heap.size = B
  upd : Upd [] w W
  h0 : W.heap[B]? = some (.cells p.toArray T1 (0, 0))
  h1 : W.heap[B + 1]? = some (.cells z.toArray T2 (0, 0))
  h2 : W.heap[B + 2]? = some (.cells o.toArray T2 (0, 0))
namespace Three
variable {w W W' : World} {T1 T2 : TypeId} {B : Nat} {p z o : List Value}
theorem size (h : Three w W T1 T2 B p z o) : B + 2 < W.heap.size := (Array.getElem?_eq_some_iff.1 h.h2).1
theorem call (h : Three w W T1 T2 B p z o) (hu : Upd [] W W') : Three w W' T1 T2 B p z o :=
  ⟨h.base, h.upd.trans hu, by rw [hu.block _ (Array.getElem?_eq_some_iff.1 h.h0).1 (by simp)]; exact h.h0, by rw [hu.block _ (Array.getElem?_eq_some_iff.1 h.h1).1 (by simp)]; exact h.h1, by rw [hu.block _ (Array.getElem?_eq_some_iff.1 h.h2).1 (by simp)]; exact h.h2⟩
theorem store (h : Three w W T1 T2 B p z o) (j : Nat) (v : Value) : Three w (W.setCell ⟨B + 2, j, none⟩ v) T1 T2 B p z (o.set j v) := by
  refine ⟨h.base, h.upd.setCell (Or.inl (by rw [h.base]; simp)) _, ?_, ?_, ?_⟩
  · rw [Below.heap_setCell _ _ _ _ (by simp)]; exact h.h0
  · rw [Below.heap_setCell _ _ _ _ (by simp)]; exact h.h1
  · simp [World.setCell, Array.getElem?_modify, h.h2]
theorem pc (h : Three w W T1 T2 B p z o) (j : Nat) (c : Value) (hc : p[j]? = some c) : W.cell? ⟨B, j, none⟩ = some c := by simp [World.cell?, h.h0, hc]
theorem oc (h : Three w W T1 T2 B p z o) (j : Nat) (c : Value) (hc : o[j]? = some c) : W.cell? ⟨B + 2, j, none⟩ = some c := by simp [World.cell?, h.h2, hc]
end Three

end Go.Proofs.YtpnokhhbakiiiaaDoor

/-
  Lists of numbers and lists of expressions under the names that the printed texts want.
-/
namespace Go.Proofs.YtpnokhhbakiiiaaDoor
open Go.RowKit

end Go.Proofs.YtpnokhhbakiiiaaDoor

/-
  Append of a whole slice to an owned row, whatever the slice: a law for the walks; slices.Clone and the reference's copies.
-/
namespace Go.Proofs.YtpnokhhbakiiiaaDoor
open Go.RowKit

section
variable {P : Program} {w : World}
end

theorem one_T1 (xs : List Tm) : ∀ u ∈ xs.flatMap (fun t => [ei t.1, ei t.2]), u.oneCell' = true := by
  intro u hu
  obtain ⟨t, -, ht⟩ := List.mem_flatMap.1 hu
  simp at ht
  rcases ht with rfl | rfl <;> rfl
end Go.Proofs.YtpnokhhbakiiiaaDoor

/-
  The laws' helper functions over edges, and over systems of states and edges.
-/
namespace Go.Proofs.YtpnokhhbakiiiaaDoor
open Go.RowKit Go.ChangeShapes

/-- an edge: from, label, to. -/
structure Ed where
  fr : Int
  lb : Int
  to : Int
deriving DecidableEq
end Go.Proofs.YtpnokhhbakiiiaaDoor

/-
  Systems copied and compared by the laws' helper functions.
-/
namespace Go.Proofs.YtpnokhhbakiiiaaDoor
open Go.RowKit Go.ChangeShapes

end Go.Proofs.YtpnokhhbakiiiaaDoor

/-
  Reading numbers, texts and edges, plainly: a reader of a given number of bytes a number.
-/
namespace Go.Proofs.YtpnokhhbakiiiaaDoor
open Go.RowKit

end Go.Proofs.YtpnokhhbakiiiaaDoor

/-
  A system that is being read: its block, its two rows, and what appends to them leave.
-/
namespace Go.Proofs.YtpnokhhbakiiiaaDoor
open Go.RowKit

theorem ownsRow_keep {w w' : World} {base : Nat} {e : TypeId} {size : Nat} {v : Value} {n : Nat} {xs : List Value} (h : w.ownsRow base e size v n xs) (hk : ∀ g, v.ownBlock = some g → w'.heap[g]? = w.heap[g]?) : w'.ownsRow base e size v n xs := by
  refine ⟨h.1, ?_⟩
  rcases h.2 with h2 | ⟨g, cap, cur, rfl, hb, hh, r⟩
  · exact Or.inl h2
  · exact Or.inr ⟨g, cap, cur, rfl, hb, by rw [hk g rfl]; exact hh, r⟩
variable {H p T : Nat} {w W W' : World} {a b : Int} {L : List (List UInt8)} {E : List Ed} {v1 v2 : Value} {o o' : Obj}
end Go.Proofs.YtpnokhhbakiiiaaDoor

/-
  What the listed tables give the walks.
-/
namespace Go.Proofs.YtpnokhhbakiiiaaDoor
open Go.RowKit

/-- an array of strings that reads as these texts holds them, cell for cell. -/
theorem strs_of_array {H : Type} {enc : TypeId × Value → H} {P : Program} {w : World} {base : Nat} {sp : Nat → Bool} {held : Bool} {fuel : Nat} {t e : TypeId} {n : Nat} {cs : List Value} {zs : List (List UInt8)} {p : List MemPlace}
    (ht : P.underlying t = some (.array n e)) (he : P.underlying e = some .string) (hce : P.cellsOf e = 1) (hct : P.cellsOf t = n)
    (h : DataW.trod enc P w base sp held fuel t cs = some (.agg (zs.map fun z => .lit (.string z)), p)) : cs = zs.map es := by
  obtain ⟨xs, m, rfl, hx, hl, hxl, hall⟩ := DataW.trod_array ht h
  have hxs : xs.map (·.1) = zs.map fun z => (DataW.lit (.string z) : DataW H) := by
    have := congrArg Prod.fst hx
    simpa using this.symm
  have hzl : zs.length = n := by
    have := congrArg List.length hxs
    simp at this
    omega
  apply List.ext_getElem?
  intro i
  by_cases hi : i < n
  · have h1 := hall i hi
    obtain ⟨b, hb⟩ : ∃ b, xs[i]? = some b := ⟨xs[i]'(by omega), List.getElem?_eq_getElem (by omega)⟩
    rw [hb, hce, Nat.mul_one] at h1
    obtain ⟨s, hc, rfl, _⟩ := DataW.trod_string he h1
    have h2 : cs[i]? = some (.string s) := by
      have := congrArg (·[0]?) hc
      simpa [List.getElem?_take, List.getElem?_drop] using this
    have h3 : (xs.map (·.1))[i]? = some (DataW.lit (.string s.data.toList) : DataW H) := by simp [hb]
    rw [hxs] at h3
    simp only [List.getElem?_map, Option.map_eq_some_iff, DataW.lit.injEq, Lit.string.injEq] at h3
    obtain ⟨z, hz, rfl⟩ := h3
    simp [h2, hz]
  · rw [List.getElem?_eq_none (by omega), List.getElem?_eq_none (by simp; omega)]

theorem glob_of {W : World} {do' dl : DataW Unit} {no nl : String} (ho : Lib.VarReads Tryd.prog W no do') (hl : Lib.VarReads Tryd.prog W nl dl)
    (hdo : do' = .agg (([[43], [45], [42], [61], [35], [60], [60, 61], [38], [124]] : List (List UInt8)).map fun z => .lit (.string z)))
    (hdl : dl = Lib.tabData .i64 [4, 4, 5, 3, 3, 3, 3, 2, 1])
    (hno : Tryd.prog.globalNamed no = some 0) (hnl : Tryd.prog.globalNamed nl = some 1)
    (hto : (Tryd.prog.globals[0]?).map (·.type) = some 69) (htl : (Tryd.prog.globals[1]?).map (·.type) = some 89)
    (hc9 : Tryd.prog.cellsOf 69 = 9) (hcs : Tryd.prog.cellsOf 9 = 1) (hc9' : Tryd.prog.cellsOf 89 = 9) (hci : Tryd.prog.cellsOf 2 = 1) : Glob W := by
  obtain ⟨g, t, cs, fuel, p, hg, ht, hv, hd⟩ := ho
  obtain ⟨g', t', cs', fuel', p', hg', ht', hv', hd'⟩ := hl
  obtain rfl := Option.some.inj (hno.symm.trans hg)
  obtain rfl := Option.some.inj (hnl.symm.trans hg')
  obtain rfl := Option.some.inj (hto.symm.trans ht)
  obtain rfl := Option.some.inj (htl.symm.trans ht')
  subst hdo hdl
  have e1 := strs_of_array Tryd.underlying69 Tryd.underlying9 hcs hc9 hd
  have e2 := Lib.cells_of_tab Tryd.underlying89 Tryd.underlying2 hci hc9' hd'
  constructor
  · intro i hi
    rw [World.var?_cell hg hv i, ← Array.getElem?_toList, e1]
    rcases (by omega : i = 0 ∨ i = 1 ∨ i = 2 ∨ i = 3 ∨ i = 4 ∨ i = 5 ∨ i = 6 ∨ i = 7 ∨ i = 8) with rfl | rfl | rfl | rfl | rfl | rfl | rfl | rfl | rfl <;> simp [opT]
  · intro i hi
    rw [World.var?_cell hg' hv' i, ← Array.getElem?_toList, e2]
    rcases (by omega : i = 0 ∨ i = 1 ∨ i = 2 ∨ i = 3 ∨ i = 4 ∨ i = 5 ∨ i = 6 ∨ i = 7 ∨ i = 8) with rfl | rfl | rfl | rfl | rfl | rfl | rfl | rfl | rfl <;> simp [lvl]

end Go.Proofs.YtpnokhhbakiiiaaDoor

/-
  The form's reading of bytes.
-/
namespace Go.Proofs.YtpnokhhbakiiiaaDoor
open Go.RowKit

end Go.Proofs.YtpnokhhbakiiiaaDoor

/-
  The form's reading of texts and lists of texts.
-/
namespace Go.Proofs.YtpnokhhbakiiiaaDoor
open Go.RowKit Go.ChangeShapes Go.WideShapes Go.Deep

theorem str_len {H : Type} {enc : TypeId × Value → H} {w : World} {t : TypeId} {l : List UInt8} {d : DataW H} {ps : List MemPlace} (ht : Tryd.prog.underlying t = some .string)
    (h : DataW.Trod enc Tryd.prog w 0 (fun _ => true) true t (.string ⟨l.toArray⟩) d ps) : l.length ≤ 9223372036854775807 := by
  obtain ⟨fuel, hf⟩ := h
  obtain ⟨s, hv, -, hs⟩ := DataW.trod_string ht hf
  simp [Value.cells] at hv
  subst hv
  have h2 : (⟨l.toArray⟩ : ByteArray).size = l.length := rfl
  rw [h2] at hs
  simp only [maxLen] at hs
  omega

end Go.Proofs.YtpnokhhbakiiiaaDoor

/-
  What the listed variables give the walks of numbers' texts (tables and sentinels, no shape of the world).
-/
namespace Go.Proofs.YtpnokhhbakiiiaaDoor
open Go.RowKit Go.ChangeShapes

theorem errStarT : "*" ++ "errors.errorString" = "*errors.errorString" := by decide
theorem errRowT (u : TypeId) (h : Tryd.prog.typeName? 3 u = some "*errors.errorString") : u = 130 :=
  typeName_ptr_named (nm := "errors.errorString") (by rw [errStarT]; kernel_rfl) (by kernel_rfl) (by decide) u (by rw [errStarT]; exact h)

theorem envT_of {W : World} {r1 r2 r3 : List (String × DataW Unit)} {d : DataW Unit} {x1 x2 : List UInt8} (hd : d = Lib.tabData .u64 Lib.pow10Tab)
    (h1 : laidMet Tryd.prog (("internal/strconv.uint64pow10", d) :: r1) W)
    (h2 : laidMet Tryd.prog (("strconv.ErrRange", .iface "*errors.errorString" (.ptr (.agg [.lit (.string x1)]))) :: r2) W)
    (h3 : laidMet Tryd.prog (("strconv.ErrSyntax", .iface "*errors.errorString" (.ptr (.agg [.lit (.string x2)]))) :: r3) W) : EnvT W := by
  subst hd
  refine ⟨?_, ?_, ?_⟩
  · exact Lib.tabIs_of_head (g := 2) (t := 109) (e := 54) (n := 20) (by kernel_rfl) (by kernel_rfl) Tryd.underlying109 Tryd.underlying54 (by kernel_rfl) (by kernel_rfl) h1
  · obtain ⟨a, s, hv, -⟩ := laid_sentinel (g := 5) (ti := 104) (tp := 130) (te := 132) (ts := 9) h3 (by kernel_rfl) (by kernel_rfl) Tryd.underlying104 errRowT Tryd.underlying130 Tryd.underlying132 rfl rfl Tryd.underlying9 (by kernel_rfl) (by kernel_rfl)
    exact ⟨_, _, hv⟩
  · obtain ⟨a, s, hv, -⟩ := laid_sentinel (g := 6) (ti := 104) (tp := 130) (te := 132) (ts := 9) h2 (by kernel_rfl) (by kernel_rfl) Tryd.underlying104 errRowT Tryd.underlying130 Tryd.underlying132 rfl rfl Tryd.underlying9 (by kernel_rfl) (by kernel_rfl)
    exact ⟨_, _, hv⟩

end Go.Proofs.YtpnokhhbakiiiaaDoor
