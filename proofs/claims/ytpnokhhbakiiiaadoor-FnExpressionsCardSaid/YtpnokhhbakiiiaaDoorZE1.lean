/-
  Texts joined in one file: Lib, Harn, Open, HarnN, HarnT, HarnT2, Rel, Terms, Tree, TreeW, Ops, Post, Fold, Value, Lib2, FoldW, FoldS, Dec, TextP, PsP, NumP, PsT, TextI, SplitP, AreV, LabP, LabI, LabE, LabF, Src, LabB, HarnS, LabSp, OrdS, NamI, LabSq, PsI, Cells, Canon, TextS, LabSn, Lib3, HarnW, Lib4, HarnE, HarnL, DecQ, DecL, TextR, OpenB, Draw, CanonW, CanonV.
-/
import Derived.WalkKit
import Derived.WalkSpells
import Derived.WalkLawsBesides
import Derived.WalkSmall
import Derived.Lib.Hide
import Derived.Test.YtpnokhhbakiiiaaDoorRows
import Derived.Deep.QuietTactic
import Derived.BigQuiet
import Derived.ProofKit
import Derived.OpenShut
import Derived.ShutString
import Derived.ChangeOld
import Derived.Below
import Derived.Deep.Slices
import Derived.Deep.RegionHeld3
import Derived.Deep.RegionWith
import Derived.Deep.AppendLies
import Derived.Test.YtpnokhhbakiiiaaDoorProg
import Derived.Lib.ItoaNum
import Derived.Laws.IdiomStrings
import Derived.Lib.ItoaMem
import Derived.Lib.ParseIntB
import Derived.Test.YtpnokhhbakiiiaaDoorShelf
import Derived.Lib.Split
import Derived.Lib.Join
import Derived.Lib.Strings
import Derived.Laws.Bits64b
import Derived.Deep.MidRow
import Derived.Lib.SliceRun
import Derived.Deep.RegionLaw
/-
  Readings of slices with footprints, their frame rules, and worlds that differ in new blocks and given old blocks alone: a library for the walks, over any program.
-/
namespace Go.Proofs.YtpnokhhbakiiiaaDoor
open Go.RowKit

/-- w' is w with new blocks, and with writes to the old blocks of f alone. -/
structure Upd (f : List Nat) (w w' : World) : Prop where
  os : w'.os = w.os
  tape : w'.tape = w.tape
  output : w'.output = w.output
  size : w.heap.size ≤ w'.heap.size
  block : ∀ k, k < w.heap.size → k ∉ f → w'.heap[k]? = w.heap[k]?

namespace Upd
variable {f g : List Nat} {w w1 w2 : World}
theorem refl (f : List Nat) (w : World) : Upd f w w := ⟨rfl, rfl, rfl, Nat.le_refl _, fun _ _ _ => rfl⟩
theorem trans (h : Upd f w w1) (k : Upd f w1 w2) : Upd f w w2 :=
  ⟨k.os.trans h.os, k.tape.trans h.tape, k.output.trans h.output, Nat.le_trans h.size k.size,
   fun i hi hf => (k.block i (Nat.lt_of_lt_of_le hi h.size) hf).trans (h.block i hi hf)⟩
theorem mono (h : Upd f w w1) (hs : ∀ b ∈ f, b ∈ g) : Upd g w w1 :=
  ⟨h.os, h.tape, h.output, h.size, fun k hk hf => h.block k hk (fun hm => hf (hs k hm))⟩
/-- what is written is new since w. -/
theorem fresh (h : Upd g w w1) (k : Upd f w1 w2) (hf : ∀ b ∈ f, w.heap.size ≤ b ∨ b ∈ g) : Upd g w w2 :=
  ⟨k.os.trans h.os, k.tape.trans h.tape, k.output.trans h.output, Nat.le_trans h.size k.size,
   fun i hi hg => (k.block i (Nat.lt_of_lt_of_le hi h.size) (fun hm => by rcases hf i hm with h' | h'; · omega
                                                                          · exact hg h')).trans (h.block i hi hg)⟩
theorem drew (h : Upd f w w1) : Upd f w w1.drew := ⟨h.os, h.tape, h.output, h.size, h.block⟩
theorem drewN (h : Upd f w w1) (n : Nat) : Upd f w (w1.drewN n) := by
  have e : (w1.drewN n).heap = w1.heap := by simp
  refine ⟨?_, ?_, ?_, ?_, ?_⟩
  · exact h.os
  · exact h.tape
  · exact h.output
  · exact h.size
  · exact h.block
theorem alloc (h : Upd f w w1) (o : Obj) : Upd f w (w1.alloc o) :=
  h.trans ⟨rfl, rfl, rfl, by simp, fun k hk _ => Below.heap_alloc _ _ _ (by omega)⟩
theorem setCell (h : Upd f w w1) {p : Addr} (hp : w.heap.size ≤ p.block ∨ p.block ∈ f) (u : Value) : Upd f w (w1.setCell p u) :=
  h.fresh (f := [p.block]) ⟨rfl, rfl, rfl, by simp [World.setCell], fun k hk hf => Below.heap_setCell _ _ _ _ (by simpa using hf)⟩ (by simpa using hp)
theorem grown {row : Option Nat} (h : Upd f w w1) (hg : w1.grownBy w2 row) (hr : ∀ k, row = some k → w.heap.size ≤ k ∨ k ∈ f) : Upd f w w2 :=
  h.fresh (f := row.toList) ⟨hg.os, hg.tape, hg.output, hg.size, fun k hk hf => hg.block k hk (fun e => hf (by simp [← e]))⟩
    (fun b hb => hr b (by simpa using hb))
theorem below (h : Upd [] w w1) : Below w.heap.size w w1 := ⟨h.os, h.tape, h.output, h.size, fun k hk => h.block k hk (by simp)⟩
theorem ofBelow (h : Below w.heap.size w w1) : Upd [] w w1 := ⟨h.os, h.tape, h.output, h.size, fun k hk _ => h.block k hk⟩
end Upd

/-- v is a slice of k elements of n cells each; its cells, one behind the other, are cs; the block that it lies in is fp. -/
def Flat (fp : List Nat) (w : World) (v : Value) (n k : Nat) (cs : List Value) : Prop :=
  ∃ a cap, v = .slice a k cap ∧ k ≤ cap ∧ cap ≤ maxLen ∧ cs.length = k * n ∧
    ((k = 0 ∧ fp = []) ∨ ∃ b off, a = some ⟨b, off, none⟩ ∧ fp = [b] ∧ b < w.heap.size ∧ ∀ j u, cs[j]? = some u → w.cell? ⟨b, off + j, none⟩ = some u)

theorem Flat.lt {fp : List Nat} {w : World} {v : Value} {n k : Nat} {cs : List Value} (h : Flat fp w v n k cs) : ∀ b ∈ fp, b < w.heap.size := by
  obtain ⟨a, cap, -, -, -, -, ⟨-, rfl⟩ | ⟨b, off, -, rfl, hb, -⟩⟩ := h <;> simp_all

theorem Flat.frame {fp : List Nat} {w w' : World} {v : Value} {n k : Nat} {cs : List Value} (h : Flat fp w v n k cs)
    (hs : w.heap.size ≤ w'.heap.size) (hb : ∀ b ∈ fp, w'.heap[b]? = w.heap[b]?) : Flat fp w' v n k cs := by
  obtain ⟨a, cap, rfl, h1, h2, h3, h4⟩ := h
  refine ⟨a, cap, rfl, h1, h2, h3, ?_⟩
  rcases h4 with h4 | ⟨b, off, rfl, rfl, hbl, hc⟩
  · exact Or.inl h4
  · exact Or.inr ⟨b, off, rfl, rfl, by omega, fun j u hu => by
      rw [World.cell?_of_block (w := w) (hb b (by simp))]; exact hc j u hu⟩

theorem Flat.upd {fp f : List Nat} {w w' : World} {v : Value} {n k : Nat} {cs : List Value} (h : Flat fp w v n k cs)
    (hu : Upd f w w') (hd : ∀ b ∈ fp, b ∉ f) : Flat fp w' v n k cs :=
  h.frame hu.size fun b hb => hu.block b (h.lt b hb) (hd b hb)

/-- The blocks of fp are different rows of cells, none of which is frozen. -/
def Own (fp : List Nat) (w : World) : Prop := fp.Nodup ∧ ∀ b ∈ fp, ∃ c t, w.heap[b]? = some (.cells c t (0, 0))

theorem Own.nil (w : World) : Own [] w := ⟨List.nodup_nil, by simp⟩
theorem Own.frame {fp : List Nat} {w w' : World} (h : Own fp w) (hb : ∀ b ∈ fp, w'.heap[b]? = w.heap[b]?) : Own fp w' :=
  ⟨h.1, fun b hm => by rw [hb b hm]; exact h.2 b hm⟩
theorem Own.lt {fp : List Nat} {w : World} (h : Own fp w) : ∀ b ∈ fp, b < w.heap.size := fun b hb => by
  obtain ⟨c, t, hc⟩ := h.2 b hb; exact (Array.getElem?_eq_some_iff.1 hc).1
theorem Own.upd {fp f : List Nat} {w w' : World} (h : Own fp w) (hu : Upd f w w') (hd : ∀ b ∈ fp, b ∉ f) : Own fp w' :=
  h.frame fun b hb => hu.block b (h.lt b hb) (hd b hb)
theorem Own.frozen {fp : List Nat} {w : World} (h : Own fp w) {b : Nat} (hb : b ∈ fp) (o : Nat) : w.frozen? ⟨b, o, none⟩ = false := by
  obtain ⟨c, t, hc⟩ := h.2 b hb; simp [World.frozen?, hc]
theorem Own.setCell {fp : List Nat} {w : World} (h : Own fp w) (p : Addr) (u : Value) : Own fp (w.setCell p u) :=
  ⟨h.1, fun b hb => by
    obtain ⟨c, t, hc⟩ := h.2 b hb
    by_cases e : b = p.block
    · subst e; refine ⟨if p.spot.isSome then c else c.setIfInBounds p.off u, t, ?_⟩; simp [World.setCell, Array.getElem?_modify, hc]
    · exact ⟨c, t, by rw [Below.heap_setCell _ _ _ _ e]; exact hc⟩⟩

theorem Flat.ofOwns {w : World} {base : Nat} {e : TypeId} {size : Nat} {v : Value} {n : Nat} {xs : List Value} (h : w.ownsRow base e size v n xs) :
    ∃ fp, Flat fp w v size n xs ∧ Own fp w ∧ (∀ b ∈ fp, base ≤ b) ∧ (∀ b ∈ fp, v.ownBlock = some b) := by
  obtain ⟨hl, ⟨rfl, rfl⟩ | ⟨g, cap, cur, rfl, hg, hh, hn, hm, hc, ht⟩⟩ := h
  · exact ⟨[], ⟨none, 0, rfl, Nat.le_refl _, by simp [maxLen], hl, Or.inl ⟨rfl, rfl⟩⟩, Own.nil _, by simp, by simp⟩
  · refine ⟨[g], ⟨_, cap, rfl, hn, hm, hl, Or.inr ⟨g, 0, rfl, rfl, (Array.getElem?_eq_some_iff.1 hh).1, fun j u hu => ?_⟩⟩, ⟨by simp, by simpa using ⟨cur, e, hh⟩⟩, by simpa using hg, by simp [Value.ownBlock]⟩
    have hj : j < n * size := by rw [← hl]; exact (List.getElem?_eq_some_iff.1 hu).1
    rw [← ht, List.getElem?_take, if_pos hj] at hu
    simpa [World.cell?, hh] using hu

/-- A reading: its footprint, the world, the cells, what they read as. -/
abbrev Rp (α : Type) := List Nat → World → List Value → α → Prop

/-- A slice whose elements hold no memory: enc gives an element's n cells. -/
def slF {α : Type} (n : Nat) (enc : α → List Value) : Rp (List α) := fun fp w cs xs => ∃ v, cs = [v] ∧ Flat fp w v n xs.length (xs.flatMap enc)

/-- A slice whose elements are one cell each, and hold memory of their own. -/
def slP {α : Type} (R : Rp α) : Rp (List α) := fun fp w cs xs =>
  ∃ v us fb fps, cs = [v] ∧ Flat fb w v 1 xs.length us ∧ List.length fps = xs.length ∧ fp = fb ++ List.flatten fps ∧
    ∀ i (h : i < xs.length) u (f : List Nat), us[i]? = some u → fps[i]? = some f → R f w [u] xs[i]

/-- What holds of a reading: it is kept where its blocks are. -/
structure Kept {α : Type} (R : Rp α) : Prop where
  lt : ∀ {fp w cs x}, R fp w cs x → ∀ b ∈ fp, b < w.heap.size
  frame : ∀ {fp w w' cs x}, R fp w cs x → w.heap.size ≤ w'.heap.size → (∀ b ∈ fp, w'.heap[b]? = w.heap[b]?) → R fp w' cs x

theorem Kept.upd {α : Type} {R : Rp α} (K : Kept R) {fp f w w' cs x} (h : R fp w cs x) (hu : Upd f w w') (hd : ∀ b ∈ fp, b ∉ f) : R fp w' cs x :=
  K.frame h hu.size fun b hb => hu.block b (K.lt h b hb) (hd b hb)

theorem slF_kept {α : Type} (n : Nat) (enc : α → List Value) : Kept (slF n enc) :=
  ⟨fun ⟨_, _, h⟩ => h.lt, fun ⟨v, e, h⟩ hs hb => ⟨v, e, h.frame hs hb⟩⟩

theorem flatMap_single {α β : Type} (f : α → β) (xs : List α) : xs.flatMap (fun x => [f x]) = xs.map f := by
  induction xs with
  | nil => rfl
  | cons a l ih => rw [List.flatMap_cons, ih]; rfl

/-- an element of a slice whose elements are one cell each and hold no memory. -/
theorem slF1_open {α : Type} {enc : α → Value} {fp : List Nat} {w : World} {v : Value} {xs : List α} (h : slF 1 (fun x => [enc x]) fp w [v] xs) :
    ∃ a cap, v = .slice a xs.length cap ∧ xs.length ≤ cap ∧ cap ≤ maxLen ∧
      ∀ i (h : i < xs.length), ∃ b off, a = some ⟨b, off, none⟩ ∧ fp = [b] ∧ b < w.heap.size ∧ w.cell? ⟨b, off + i, none⟩ = some (enc xs[i]) := by
  obtain ⟨v', hv, a, cap, rfl, h1, h2, h3, h4⟩ := h
  cases hv
  refine ⟨a, cap, rfl, h1, h2, fun i hi => ?_⟩
  rcases h4 with ⟨h0, -⟩ | ⟨b, off, rfl, rfl, hbl, hc⟩
  · omega
  · refine ⟨b, off, rfl, rfl, hbl, hc i _ ?_⟩
    rw [flatMap_single]; simp [hi]

/-- What a call makes anew reads so, and is its own. -/
def New {α : Type} (R : Rp α) (w w' : World) (v : Value) (x : α) : Prop :=
  ∃ fp, R fp w' [v] x ∧ Own fp w' ∧ ∀ b ∈ fp, w.heap.size ≤ b

theorem New.ofOwns {α : Type} {enc : α → Value} {w w' : World} {e : TypeId} {v : Value} {xs : List α}
    (h : w'.ownsRow w.heap.size e 1 v xs.length (xs.map enc)) : New (slF 1 (fun x => [enc x])) w w' v xs := by
  obtain ⟨fp, h1, h2, h3, -⟩ := Flat.ofOwns h
  exact ⟨fp, ⟨v, rfl, by rw [flatMap_single]; exact h1⟩, h2, h3⟩

/-- the numbers from k on, n of them. -/
def upFrom (k : Int) : Nat → List Int
  | 0 => []
  | n + 1 => k :: upFrom (k + 1) n

@[simp] theorem upFrom_length (k : Int) (n : Nat) : (upFrom k n).length = n := by
  induction n generalizing k with
  | zero => rfl
  | succ n ih => simp [upFrom, ih]

theorem upFrom_get (k : Int) (n i : Nat) (h : i < n) : (upFrom k n)[i]? = some (k + i) := by
  induction n generalizing k i with
  | zero => omega
  | succ n ih =>
    cases i with
    | zero => simp [upFrom]
    | succ i => simp only [upFrom, List.getElem?_cons_succ]; rw [ih _ _ (by omega)]; congr 1; omega

theorem drewN_add (w : World) (a b : Nat) : (w.drewN a).drewN b = w.drewN (a + b) := by
  simp [World.drewN, Nat.add_assoc]

theorem Kept.drewN {α : Type} {R : Rp α} (K : Kept R) {fp w cs x} (h : R fp w cs x) (n : Nat) : R fp (w.drewN n) cs x :=
  K.frame h (Nat.le_refl _) (fun _ _ => rfl)

theorem Kept.new {α : Type} {R : Rp α} (K : Kept R) {w w1 w2 : World} {v : Value} {x : α} {f : List Nat} (h : New R w w1 v x) (hu : Upd f w1 w2) (hf : ∀ b ∈ f, b < w.heap.size) : New R w w2 v x := by
  obtain ⟨fp, h1, h2, h3⟩ := h
  have hd : ∀ b ∈ fp, b ∉ f := fun b hb hm => by have := hf b hm; have := h3 b hb; omega
  exact ⟨fp, K.upd h1 hu hd, h2.upd hu hd, h3⟩

theorem slP_open {α : Type} {R : Rp α} {fp : List Nat} {w : World} {v : Value} {xs : List α} (h : slP R fp w [v] xs) :
    ∃ a cap, v = .slice a xs.length cap ∧ xs.length ≤ cap ∧ cap ≤ maxLen ∧
      ∀ i (h : i < xs.length), ∃ b off u f, a = some ⟨b, off, none⟩ ∧ b ∈ fp ∧ b < w.heap.size ∧ w.cell? ⟨b, off + i, none⟩ = some u ∧ (∀ c ∈ f, c ∈ fp) ∧ R f w [u] xs[i] := by
  obtain ⟨v', us, fb, fps, hv, ⟨a, cap, rfl, h1, h2, h3, h4⟩, hl, rfl, hr⟩ := h
  cases hv
  refine ⟨a, cap, rfl, h1, h2, fun i hi => ?_⟩
  rcases h4 with ⟨h0, -⟩ | ⟨b, off, rfl, rfl, hbl, hc⟩
  · omega
  · have hu : us[i]? = some us[i] := by simp
    have hf : fps[i]? = some fps[i] := by simp
    exact ⟨b, off, us[i], fps[i], rfl, by simp, hbl, hc i _ hu, fun c hc => List.mem_append_right _ (List.mem_flatten.2 ⟨_, List.mem_of_getElem? hf, hc⟩), hr i hi _ _ hu hf⟩

/-- Elements of one cell each, with memory of their own, from block base on and apart from the blocks ob. -/
def Rows {α : Type} (R : Rp α) (base : Nat) (ob : List Nat) (w : World) (us : List Value) (xs : List α) : Prop :=
  ∃ fps : List (List Nat), fps.length = xs.length ∧ us.length = xs.length ∧ Own fps.flatten w ∧ (∀ b ∈ fps.flatten, base ≤ b ∧ b ∉ ob) ∧
    ∀ i (h : i < xs.length) u (f : List Nat), us[i]? = some u → fps[i]? = some f → R f w [u] xs[i]

namespace Rows
variable {α : Type} {R : Rp α} {base : Nat} {ob : List Nat} {w w1 : World} {us : List Value} {xs : List α}

theorem nil (R : Rp α) (base : Nat) (ob : List Nat) (w : World) : Rows R base ob w [] [] := ⟨[], rfl, rfl, Own.nil w, by simp, by simp⟩

theorem length (h : Rows R base ob w us xs) : us.length = xs.length := by obtain ⟨_, _, h, _⟩ := h; exact h

theorem upd (K : Kept R) (h : Rows R base ob w us xs) {f : List Nat} (hu : Upd f w w1) (hf : ∀ b ∈ f, b ∈ ob ∨ b < base) : Rows R base ob w1 us xs := by
  obtain ⟨fps, h1, h2, h3, h4, h5⟩ := h
  have hd : ∀ b ∈ fps.flatten, b ∉ f := fun b hb hm => by
    rcases hf b hm with h | h
    · exact (h4 b hb).2 h
    · have := (h4 b hb).1; omega
  refine ⟨fps, h1, h2, h3.upd hu hd, h4, fun i hi u f' hu' hf' => K.upd (h5 i hi u f' hu' hf') hu fun b hb => hd b (List.mem_flatten.2 ⟨_, List.mem_of_getElem? hf', hb⟩)⟩

theorem ob' (h : Rows R base ob w us xs) {ob2 : List Nat} (hb : ∀ b ∈ ob2, b ∈ ob ∨ b < base ∨ w.heap.size ≤ b) : Rows R base ob2 w us xs := by
  obtain ⟨fps, h1, h2, h3, h4, h5⟩ := h
  refine ⟨fps, h1, h2, h3, fun b hb' => ⟨(h4 b hb').1, fun hm => ?_⟩, h5⟩
  rcases hb b hm with h | h | h
  · exact (h4 b hb').2 h
  · have := (h4 b hb').1; omega
  · have := h3.lt b hb'; omega

theorem push (K : Kept R) (h : Rows R base ob w us xs) {u : Value} {x : α} (hu : Upd [] w w1) (hn : New R w w1 u x) (hb : base ≤ w.heap.size) (hob : ∀ b ∈ ob, b < w.heap.size) :
    Rows R base ob w1 (us ++ [u]) (xs ++ [x]) := by
  obtain ⟨fps, h1, h2, h3, h4, h5⟩ := h.upd K hu (by simp)
  obtain ⟨fps', h1', h2', h3', h4', h5'⟩ := h
  obtain ⟨fp, g1, g2, g3⟩ := hn
  have hlt : ∀ b ∈ fps'.flatten, b < w.heap.size := h3'.lt
  refine ⟨fps' ++ [fp], by simp [h1'], by simp [h2], ⟨?_, ?_⟩, ?_, ?_⟩
  · rw [List.flatten_append, List.nodup_append]
    refine ⟨h3'.1, by simpa using g2.1, fun a ha b hb' e => ?_⟩
    subst e
    have := hlt a ha
    have := g3 a (by simpa using hb')
    omega
  · intro b hb'
    rw [List.flatten_append] at hb'
    rcases List.mem_append.1 hb' with hb' | hb'
    · exact (h3'.upd hu (by simp)).2 b hb'
    · exact g2.2 b (by simpa using hb')
  · intro b hb'
    rw [List.flatten_append] at hb'
    rcases List.mem_append.1 hb' with hb' | hb'
    · exact h4' b hb'
    · have := g3 b (by simpa using hb')
      exact ⟨by omega, fun hm => by have := hob b hm; omega⟩
  · intro i hi u' f' hu' hf'
    by_cases e : i < xs.length
    · rw [List.getElem?_append_left (by omega)] at hu' hf'
      rw [List.getElem_append_left e]
      exact K.upd (h5' i e u' f' hu' hf') hu (by simp)
    · have ei : i = xs.length := by simp at hi; omega
      subst ei
      rw [List.getElem?_append_right (by omega)] at hu' hf'
      rw [h2, Nat.sub_self] at hu'
      rw [h1', Nat.sub_self] at hf'
      simp at hu' hf'
      subst hu' hf'
      simpa using g1

theorem new (h : Rows R base ob w us xs) {w0 : World} {e : TypeId} {v : Value} (ho : w.ownsRow w0.heap.size e 1 v xs.length us) (hob : ∀ b, v.ownBlock = some b → b ∈ ob) (hb : w0.heap.size ≤ base) :
    New (slP R) w0 w v xs := by
  obtain ⟨fps, h1, h2, h3, h4, h5⟩ := h
  obtain ⟨fb, g1, g2, g3, g4⟩ := Flat.ofOwns ho
  refine ⟨fb ++ fps.flatten, ⟨v, us, fb, fps, rfl, g1, h1, rfl, h5⟩, ⟨?_, ?_⟩, ?_⟩
  · rw [List.nodup_append]
    refine ⟨g2.1, h3.1, fun a ha b hb' e => ?_⟩
    subst e
    exact (h4 a hb').2 (hob a (g4 a ha))
  · intro b hb'
    rcases List.mem_append.1 hb' with hb' | hb'
    · exact g2.2 b hb'
    · exact h3.2 b hb'
  · intro b hb'
    rcases List.mem_append.1 hb' with hb' | hb'
    · exact g3 b hb'
    · have := (h4 b hb').1; omega
end Rows

section
variable {P : Program} (w : World)

/-- append, with where the result lies: where it was, or in a new block. -/
theorem run_append_tight (base : Nat) (t ty e : TypeId) (i : TypeInfo) (z : Value) (size bytes : Nat) (ht : P.underlying t = some (.slice e)) (hi : P.info? e = some i) (hz : i.zero = some z)
    (hsize : i.size = size) (hby : i.bytes = bytes) (hzs : z.cells.size = size) (hsz : 0 < size)
    (v : Value) (n : Nat) (xs : List Value) (hown : w.ownsRow base e size v n xs)
    (a : Addr) (m c : Nat) (news : List Value) (hl : news.length = m * size) (hnews : ∀ j u, news[j]? = some u → w.cell? (a.add j) = some u) (h1 : ∀ u ∈ news, u.oneCell' = true)
    (h63 : n + m ≤ maxLen) (hbytes : (n + m) * bytes ≤ 140737488355328) (hbase : base ≤ w.heap.size) :
    ∃ v' w', (Builtin.append_ #[t, t] ty #[v, .slice (some a) m c]).run P w = .ok v' w' ∧ w'.ownsRow base e size v' (n + m) (xs ++ news) ∧ w.grownBy w' v.ownBlock ∧
      (∀ b, v'.ownBlock = some b → v.ownBlock = some b ∨ w.heap.size ≤ b) := by
  obtain ⟨v', w', hr, h2, h3, -⟩ := run_append_own (P := P) w base t ty e i z size bytes ht hi hz hsize hby hzs hsz v n xs hown a m c news hl hnews h1 h63 hbytes hbase
  refine ⟨v', w', hr, h2, h3, fun b hb => ?_⟩
  subst hsize
  subst hby
  have hsmall : n + m ≤ 9223372036854775807 := by simp only [maxLen] at h63; omega
  rcases hown.2 with ⟨rfl, rfl⟩ | ⟨g, cap, cur, rfl, hbg, hg, hnc, hcm, hcs, htake⟩
  · have hx : xs = [] := List.eq_nil_of_length_eq_zero (by simpa using hown.1)
    subst hx
    obtain ⟨v2, w2, hr2, h22, -, -⟩ := run_append_own (P := P) w w.heap.size t ty e i z _ _ ht hi hz rfl rfl hzs hsz _ 0 [] (World.ownsRow_nil w _ e i.size) a m c news hl hnews h1 h63 hbytes (Nat.le_refl _)
    rw [hr] at hr2
    cases hr2
    rcases h22.2 with ⟨rfl, -⟩ | ⟨g, cap, cur, rfl, hbg, -⟩
    · simp [Value.ownBlock] at hb
    · simp [Value.ownBlock] at hb; omega
  · by_cases hroom : n + m ≤ cap
    · have hfit : n * i.size + news.length ≤ cur.size := by rw [hl, hcs, ← Nat.add_mul]; exact Nat.mul_le_mul_right _ hroom
      have hr2 := run_append_room (P := P) w t ty e i ht hi g n cap cur hg a m c news hl hnews h1 hroom hfit
      rw [hr] at hr2
      cases hr2
      exact Or.inl hb
    · have holds : ∀ j u, xs[j]? = some u → w.cell? ((⟨g, 0, none⟩ : Addr).add j) = some u := hown.cells (g := g) rfl
      have hr2 := run_append_grow (P := P) w t ty e i z ht hi hz ⟨g, 0, none⟩ n cap xs hown.1 holds a m c news hl hnews (by omega) (by omega) (growslice_fits (by omega) hbytes)
      rw [hr] at hr2
      cases hr2
      simp [Value.ownBlock] at hb; omega

theorem wpList_append_tight {ops : Array Oper} {rest : List Oper} {o : Oper} {a : Act} {Q : Exit → Act → World → Prop} (hgd : o.guard = none) (s x : Operand) (t : TypeId)
    (ho : o.op = .call { callee := .builtin .append, args := #[s, x], argTypes := #[t, t] })
    (base : Nat) (e : TypeId) (i : TypeInfo) (z : Value) (size bytes : Nat) (ht : P.underlying t = some (.slice e)) (hi : P.info? e = some i) (hz : i.zero = some z)
    (hsize : i.size = size) (hby : i.bytes = bytes) (hzs : z.cells.size = size) (hsz : 0 < size)
    (v : Value) (n : Nat) (xs : List Value) (hs : a.eval s = v) (hown : w.ownsRow base e size v n xs)
    (ad : Addr) (m c : Nat) (news : List Value) (hx : a.eval x = .slice (some ad) m c) (hl : news.length = m * size) (hnews : ∀ j u, news[j]? = some u → w.cell? (ad.add j) = some u) (h1 : ∀ u ∈ news, u.oneCell' = true)
    (h63 : n + m ≤ maxLen) (hbytes : (n + m) * bytes ≤ 140737488355328) (hbase : base ≤ w.heap.size)
    (h : ∀ v' w', w'.ownsRow base e size v' (n + m) (xs ++ news) → w.grownBy w' v.ownBlock → (∀ b, v'.ownBlock = some b → v.ownBlock = some b ∨ w.heap.size ≤ b) → wpList P ops Q rest (a.put o.dst v') w') : wpList P ops Q (o :: rest) a w := by
  refine wpList_plain hgd fun _ hK => ?_
  obtain ⟨v', w', hr, h2, h3, h4⟩ := run_append_tight (P := P) w base t o.type e i z size bytes ht hi hz hsize hby hzs hsz v n xs hown ad m c news hl hnews h1 h63 hbytes hbase
  unfold Oper.wp execOp
  simp only [ho, resolve, invoke, builtin, Sem.run_bind, Sem.run_pure, Result.andThen_ok, List.map_toArray, List.map_cons, List.map_nil, hs, hx, hr]
  exact hK _ _ (h v' w' h2 h3 h4)
end

theorem New.form {α : Type} {enc : α → List Value} {n : Nat} {w w' : World} {v : Value} {x : List α} (h : New (slF n enc) w w' v x) : ∃ a cap, v = .slice a x.length cap := by
  obtain ⟨fp, ⟨v', hv, a, cap, rfl, -⟩, -⟩ := h
  cases hv; exact ⟨_, _, rfl⟩
/-- A slice of one-cell elements with memory of their own that a call collects by append: e is the element's type. -/
def Acc {α : Type} (R : Rp α) (w0 : World) (e : TypeId) (w : World) (v : Value) (xs : List α) : Prop :=
  ∃ us, w.ownsRow w0.heap.size e 1 v xs.length us ∧ Rows R w0.heap.size v.ownBlock.toList w us xs

namespace Acc
variable {α : Type} {R : Rp α} {w0 w w1 w2 : World} {e : TypeId} {v : Value} {xs : List α}

theorem nil (R : Rp α) (w0 : World) (e : TypeId) (w : World) : Acc R w0 e w (.slice none 0 0) [] := ⟨[], World.ownsRow_nil _ _ _ _, Rows.nil _ _ _ _⟩

theorem upd (K : Kept R) (h : Acc R w0 e w v xs) (hu : Upd [] w w1) : Acc R w0 e w1 v xs := by
  obtain ⟨us, h1, h2⟩ := h
  exact ⟨us, h1.kept (row := none) ⟨hu.os, hu.tape, hu.output, hu.size, fun k hk _ => hu.block k hk (by simp)⟩ (by cases v.ownBlock <;> simp), h2.upd K hu (by simp)⟩

theorem new (h : Acc R w0 e w v xs) : New (slP R) w0 w v xs := by
  obtain ⟨us, h1, h2⟩ := h
  exact h2.new h1 (fun b hb => by simp [hb]) (Nat.le_refl _)

/-- Behind an append of one element u, made between w and w1, boxed in a new block: what the append's law leaves. -/
theorem push (K : Kept R) {us : List Value} (hown : w.ownsRow w0.heap.size e 1 v xs.length us) (hrows : Rows R w0.heap.size v.ownBlock.toList w us xs) (hs : w0.heap.size ≤ w.heap.size) {u : Value} {x : α} (hu : Upd [] w w1) (hn : New R w w1 u x) (o : Obj) {v2 : Value}
    (h2 : w2.ownsRow w0.heap.size e 1 v2 (xs.length + 1) (us ++ [u])) (hg : (w1.alloc o).grownBy w2 v.ownBlock)
    (ht : ∀ b, v2.ownBlock = some b → v.ownBlock = some b ∨ (w1.alloc o).heap.size ≤ b) : Acc R w0 e w2 v2 (xs ++ [x]) := by
  refine ⟨us ++ [u], by simpa using h2, ?_⟩
  have hob : ∀ b ∈ v.ownBlock.toList, b < w.heap.size := fun b hb => (hown.lt b (by simpa using hb)).2
  have hr1 := hrows.push K hu hn hs hob
  have hu2 : Upd [] w1 (w1.alloc o) := (Upd.refl _ _).alloc o
  have hr2 := hr1.upd K hu2 (by simp)
  have hu3 : Upd v.ownBlock.toList (w1.alloc o) w2 := (Upd.refl _ _).grown hg (fun k hk => Or.inr (by simp [hk]))
  have hr3 := Rows.ob' hr2 (ob2 := v.ownBlock.toList ++ v2.ownBlock.toList) (by
    intro b hb
    rcases List.mem_append.1 hb with hb | hb
    · exact Or.inl hb
    · rcases ht b (by simpa using hb) with h | h
      · exact Or.inl (by simp [h])
      · exact Or.inr (Or.inr h))
  have hr4 := hr3.upd K hu3 (fun b hb => Or.inl (List.mem_append_left _ hb))
  exact hr4.ob' (fun b hb => Or.inl (List.mem_append_right _ hb))
end Acc

theorem new_lit {α : Type} {enc : α → Value} (w : World) (e : TypeId) (xs : List α) (hl : xs.length ≤ maxLen) :
    New (slF 1 (fun x => [enc x])) w (w.alloc (.cells (xs.map enc).toArray e)) (.slice (some ⟨w.heap.size, 0, none⟩) xs.length xs.length) xs :=
  New.ofOwns (e := e) (by simpa using World.ownsRow_lit (base := w.heap.size) (e := e) (size := 1) w (xs.map enc).toArray xs.length (Nat.le_refl _) hl (by simp))

theorem New.nilF {α : Type} (n : Nat) (enc : α → List Value) (w w' : World) : New (slF n enc) w w' (.slice none 0 0) [] :=
  ⟨[], ⟨_, rfl, none, 0, rfl, Nat.le_refl _, by simp [maxLen], by simp, Or.inl ⟨rfl, rfl⟩⟩, Own.nil _, by simp⟩
theorem Kept.drew {α : Type} {R : Rp α} (K : Kept R) {fp w cs x} (h : R fp w cs x) : R fp w.drew cs x := K.frame h (Nat.le_refl _) (fun _ _ => rfl)
theorem Own.drew {fp : List Nat} {w : World} (h : Own fp w) : Own fp w.drew := h

theorem flatMap_two_get {α : Type} (e1 e2 : α → Value) (xs : List α) (i : Nat) (h : i < xs.length) :
    (xs.flatMap fun x => [e1 x, e2 x])[i * 2]? = some (e1 xs[i]) ∧ (xs.flatMap fun x => [e1 x, e2 x])[i * 2 + 1]? = some (e2 xs[i]) := by
  induction xs generalizing i with
  | nil => simp at h
  | cons x xs ih =>
    cases i with
    | zero => simp
    | succ i =>
      have h' : i < xs.length := by simpa using h
      obtain ⟨h1, h2⟩ := ih i h'
      rw [show (i + 1) * 2 = i * 2 + 1 + 1 from by omega]
      simp only [List.flatMap_cons, List.cons_append, List.nil_append, List.getElem?_cons_succ, List.getElem_cons_succ]
      exact ⟨h1, h2⟩
/-- an element of a slice of elements of two cells. -/
theorem slF2_open {α : Type} {e1 e2 : α → Value} {fp : List Nat} {w : World} {v : Value} {xs : List α} (h : slF 2 (fun x => [e1 x, e2 x]) fp w [v] xs) :
    ∃ a cap, v = .slice a xs.length cap ∧ xs.length ≤ cap ∧ cap ≤ maxLen ∧
      ∀ i (h : i < xs.length), ∃ b off, a = some ⟨b, off, none⟩ ∧ fp = [b] ∧ b < w.heap.size ∧ w.cell? ⟨b, off + i * 2, none⟩ = some (e1 xs[i]) ∧ w.cell? ⟨b, off + i * 2 + 1, none⟩ = some (e2 xs[i]) := by
  obtain ⟨v', hv, a, cap, rfl, h1, h2, h3, h4⟩ := h
  cases hv
  refine ⟨a, cap, rfl, h1, h2, fun i hi => ?_⟩
  rcases h4 with ⟨h0, -⟩ | ⟨b, off, rfl, rfl, hbl, hc⟩
  · omega
  · obtain ⟨g1, g2⟩ := flatMap_two_get e1 e2 xs i hi
    exact ⟨b, off, rfl, rfl, hbl, hc _ _ g1, by have := hc _ _ g2; rwa [← Nat.add_assoc] at this⟩

theorem New.ofOwns2 {α : Type} {e1 e2 : α → Value} {w w' : World} {e : TypeId} {v : Value} {xs : List α}
    (h : w'.ownsRow w.heap.size e 2 v xs.length (xs.flatMap fun x => [e1 x, e2 x])) : New (slF 2 (fun x => [e1 x, e2 x])) w w' v xs := by
  obtain ⟨fp, h1, h2, h3, -⟩ := Flat.ofOwns h
  exact ⟨fp, ⟨v, rfl, h1⟩, h2, h3⟩

theorem Upd.keep {w w1 : World} {p : Addr} {v : Value} (hu : Upd [] w w1) (h : w.cell? p = some v) : w1.cell? p = some v :=
  (hu.below.cell (World.block_lt_of_cell? w p h)).trans h

theorem Acc.other {α : Type} {R : Rp α} (K : Kept R) {w0 w w1 : World} {e : TypeId} {v : Value} {xs : List α} (h : Acc R w0 e w v xs) {b : Nat} (hu : Upd [b] w w1) (hb : b < w0.heap.size) : Acc R w0 e w1 v xs := by
  obtain ⟨us, h1, h2⟩ := h
  refine ⟨us, h1.kept (row := some b) ⟨hu.os, hu.tape, hu.output, hu.size, fun k hk hne => hu.block k hk (by simpa using hne)⟩ ?_, h2.upd K hu (by simp; omega)⟩
  cases hv : v.ownBlock with
  | none => exact Or.inl rfl
  | some g =>
    right
    have := (h1.lt g hv).1
    intro e; cases e; omega

theorem ownsRow_form {w : World} {base : Nat} {e : TypeId} {size : Nat} {v : Value} {n : Nat} {xs : List Value} (h : w.ownsRow base e size v n xs) : ∃ a c, v = .slice a n c := by
  rcases h.2 with ⟨rfl, rfl⟩ | ⟨g, cap, cur, rfl, -⟩
  · exact ⟨_, _, rfl⟩
  · exact ⟨_, _, rfl⟩

theorem ownsRow_upd {w w1 : World} {base : Nat} {e : TypeId} {size : Nat} {v : Value} {n : Nat} {xs : List Value} (h : w.ownsRow base e size v n xs) (hu : Upd [] w w1) : w1.ownsRow base e size v n xs :=
  h.kept (row := none) ⟨hu.os, hu.tape, hu.output, hu.size, fun k hk _ => hu.block k hk (by simp)⟩ (by cases v.ownBlock <;> simp)

theorem New.mono {α : Type} {R : Rp α} {w0 w w' : World} {v : Value} {x : α} (h : New R w w' v x) (hs : w0.heap.size ≤ w.heap.size) : New R w0 w' v x := by
  obtain ⟨fp, h1, h2, h3⟩ := h
  exact ⟨fp, h1, h2, fun b hb => Nat.le_trans hs (h3 b hb)⟩

end Go.Proofs.YtpnokhhbakiiiaaDoor

/-
  The laws' helper functions over lists of numbers: what each call returns and makes.
-/
namespace Go.Proofs.YtpnokhhbakiiiaaDoor
open Go.RowKit

abbrev ei (n : Int) : Value := .int .i64 n
abbrev R1 : Rp (List Int) := slF 1 (fun n => [ei n])
/-- the rows of a matrix, numbered through. -/
def mk2 : Int → List (List Int) → List (List Int)
  | _, [] => []
  | k, r :: rs => upFrom k r.length :: mk2 (k + r.length) rs
def tot (xss : List (List Int)) : Int := (xss.map (fun r => (r.length : Int))).sum
@[simp] theorem mk2_length (k : Int) (xss : List (List Int)) : (mk2 k xss).length = xss.length := by
  induction xss generalizing k with
  | nil => rfl
  | cons r rs ih => simp [mk2, ih]
theorem tot_nonneg (xss : List (List Int)) : 0 ≤ tot xss := by
  unfold tot; induction xss with
  | nil => simp
  | cons r rs ih => simp only [List.map_cons, List.sum_cons]; omega
end Go.Proofs.YtpnokhhbakiiiaaDoor

/-
  From the form's own reading of an argument to the readings of Lib: slices, and slices of slices, of whatever elements.
-/
namespace Go.Proofs.YtpnokhhbakiiiaaDoor
open Go.RowKit Go.ChangeShapes Go.WideShapes Go.Deep

/-- What the form reads at type t reads by R, with a fact on the value. -/
def Opens {α : Type} (P : Program) (t : TypeId) (R : Rp α) (φ : α → Prop) : Prop :=
  ∀ {H : Type} {enc : TypeId × Value → H} {w : World} {fuel : Nat} {cs : List Value} {x : DataW H × List MemPlace},
    DataW.trod enc P w 0 (fun _ => true) true fuel t cs = some x → ∃ a fp, R fp w cs a ∧ φ a

theorem list_choice {α : Type} (Q : Nat → α → Prop) : ∀ n, (∀ i, i < n → ∃ a, Q i a) → ∃ l : List α, l.length = n ∧ ∀ i a, l[i]? = some a → Q i a
  | 0, _ => ⟨[], rfl, by simp⟩
  | n + 1, h => by
    obtain ⟨l, hl, hq⟩ := list_choice Q n (fun i hi => h i (by omega))
    obtain ⟨a, ha⟩ := h n (by omega)
    refine ⟨l ++ [a], by simp [hl], fun i b hb => ?_⟩
    by_cases hi : i < n
    · rw [List.getElem?_append_left (by omega)] at hb; exact hq i b hb
    · by_cases he : i = n
      · subst he
        rw [List.getElem?_append_right (by omega), hl, Nat.sub_self] at hb
        simp at hb; subst hb; exact ha
      · rw [List.getElem?_eq_none (by simp [hl]; omega)] at hb; cases hb

theorem flat_of_cells {w : World} {a : Addr} {len cap : Nat} {us : List Value} (hl : us.length = len) (h1 : len ≤ cap) (h2 : cap ≤ maxLen) (h : ∀ i u, us[i]? = some u → w.cell? (a.add i) = some u) :
    ∃ fb, Flat fb w (.slice (some a) len cap) 1 len us := by
  by_cases h0 : len = 0
  · exact ⟨[], _, cap, rfl, h1, h2, by simpa using hl, Or.inl ⟨h0, rfl⟩⟩
  · have hc := h 0 us[0] (by simp)
    have hs : a.spot = none := by simpa [Addr.add] using World.cell?_spot hc
    obtain ⟨b, off, spot⟩ := a
    simp at hs
    subst hs
    refine ⟨[b], _, cap, rfl, h1, h2, by simpa using hl, Or.inr ⟨b, off, rfl, rfl, ?_, fun j u hu => ?_⟩⟩
    · exact World.block_lt_of_cell? w ⟨b, off, none⟩ (by simpa [Addr.add] using hc)
    · have := h j u hu
      by_cases hj : j = 0
      · subst hj; simpa [Addr.add] using this
      · simpa [Addr.add, hj] using this

theorem flat_nil (w : World) (n : Nat) : Flat [] w (.slice none 0 0) n 0 [] := ⟨none, 0, rfl, Nat.le_refl _, by simp [maxLen], by simp, Or.inl ⟨rfl, rfl⟩⟩

/-- slices of one-cell values that hold no memory. -/
theorem opens_slF1 {α : Type} {P : Program} {t e : TypeId} {encv : α → Value} {φ : α → Prop} (ht : P.underlying t = some (.slice e)) (hc : P.cellsOf e = 1)
    (h : ∀ {H : Type} {enc : TypeId × Value → H} {w : World} {fuel : Nat} {v : Value} {x : DataW H × List MemPlace}, DataW.trod enc P w 0 (fun _ => true) true fuel e [v] = some x → ∃ a, v = encv a ∧ φ a) :
    Opens P t (slF 1 (fun x => [encv x])) (fun xs => ∀ x ∈ xs, φ x) := by
  intro H enc w fuel cs x hx
  rcases open_slice1 ht hc hx with ⟨rfl, -⟩ | ⟨a, len, cap, m, n, V, D, Pl, rfl, -, hl, hm, hmm, -, hel⟩
  · exact ⟨[], [], ⟨_, rfl, flat_nil w 1⟩, by simp⟩
  · have hlm : len ≤ m := by subst hmm; simpa using hl
    obtain ⟨l, hll, hlq⟩ := list_choice (fun i (y : α) => V i = encv y ∧ φ y) len (fun i hi => h (hel i (by omega)).2)
    obtain ⟨fb, hfb⟩ := flat_of_cells (w := w) (a := a) (len := len) (cap := cap) (us := l.map encv) (by simpa using hll) hl hm (by
      intro i u hu
      rw [List.getElem?_map] at hu
      cases hli : l[i]? with
      | none => simp [hli] at hu
      | some y =>
        simp [hli] at hu
        subst hu
        have hi : i < len := by rw [← hll]; exact (List.getElem?_eq_some_iff.1 hli).1
        rw [(hel i (by omega)).1, (hlq i y hli).1])
    refine ⟨l, fb, ⟨_, rfl, by rw [flatMap_single, hll]; exact hfb⟩, fun x hx => ?_⟩
    obtain ⟨i, hi, rfl⟩ := List.mem_iff_getElem.1 hx
    exact (hlq i _ (by simp)).2

theorem opens_ints {P : Program} {t e : TypeId} {k : IntKind} (ht : P.underlying t = some (.slice e)) (he : P.underlying e = some (.int k)) (hc : P.cellsOf e = 1) :
    Opens P t (slF 1 (fun x => [Value.int k x])) (fun xs => ∀ x ∈ xs, (Lit.int k x).wf = true) :=
  opens_slF1 ht hc (by
    intro H enc w fuel v x hx
    obtain ⟨a, e0, rfl, wa⟩ := DataW.trod_int he hx
    simp at e0
    exact ⟨a, e0, wa⟩)

theorem Opens.of {α : Type} {P : Program} {t : TypeId} {R : Rp α} {φ : α → Prop} (h : Opens P t R φ) {H : Type} {enc : TypeId × Value → H} {w : World} {v : Value} {d : DataW H} {ps : List MemPlace}
    (hv : v.cells = #[v]) (hd : DataW.Trod enc P w 0 (fun _ => true) true t v d ps) : ∃ a fp, R fp w [v] a ∧ φ a := by
  obtain ⟨fuel, hf⟩ := hd
  rw [hv] at hf
  exact h hf

end Go.Proofs.YtpnokhhbakiiiaaDoor

/-
  The helper functions over []int64 and [][]int64 under one scheme of names: sz, to, eq, mark, held.
-/
namespace Go.Proofs.YtpnokhhbakiiiaaDoor
open Go.RowKit

end Go.Proofs.YtpnokhhbakiiiaaDoor

/-
  The laws' helper functions over terms (a kind and a value) and lists of terms.
-/
namespace Go.Proofs.YtpnokhhbakiiiaaDoor
open Go.RowKit Go.ChangeShapes

abbrev Tm := Int × Int
abbrev R_T1 : Rp (List Tm) := slF 2 (fun t => [ei t.1, ei t.2])
theorem R_T1k : Kept R_T1 := slF_kept _ _
def mkF_T1 (x : List Tm) : Int := 2 * x.length
theorem Tryd.infoT : (Tryd.prog.info? 50).map (fun i => (i.zero, i.size, i.bytes)) = some (some (.agg #[.int .i64 0, .int .i64 0]), 2, 16) := by kernel_rfl

/-- the terms numbered through from k0 on. -/
def upT (k0 : Int) : Nat → List Tm
  | 0 => []
  | n + 1 => (k0, k0 + 1) :: upT (k0 + 2) n
@[simp] theorem upT_length (k0 : Int) (n : Nat) : (upT k0 n).length = n := by
  induction n generalizing k0 with
  | zero => rfl
  | succ n ih => simp [upT, ih]
theorem upT_snoc (k0 : Int) (n : Nat) : upT k0 (n + 1) = upT k0 n ++ [(k0 + 2 * n, k0 + 2 * n + 1)] := by
  induction n generalizing k0 with
  | zero => simp [upT]
  | succ n ih =>
    rw [upT, ih, upT, List.cons_append, show k0 + 2 + 2 * (n : Int) = k0 + 2 * ((n + 1 : Nat) : Int) from by omega]
end Go.Proofs.YtpnokhhbakiiiaaDoor

/-
  The laws' helper functions over slices of slices (T2): what each call returns and makes.
-/
namespace Go.Proofs.YtpnokhhbakiiiaaDoor
open Go.RowKit

def mkF_T2 (xss : List (List Tm)) : Int := (xss.map mkF_T1).sum
def mkd_T2 : Int → List (List Tm) → List (List Tm)
  | _, [] => []
  | k, r :: rs => (fun (k : Int) (r : List Tm) => upT k r.length) k r :: mkd_T2 (k + mkF_T1 r) rs
@[simp] theorem mkd_T2_length (k : Int) (xss : List (List Tm)) : (mkd_T2 k xss).length = xss.length := by
  induction xss generalizing k with
  | nil => rfl
  | cons r rs ih => simp [mkd_T2, ih]
theorem mkd_T2_append (k : Int) (xs ys : List (List Tm)) : mkd_T2 k (xs ++ ys) = mkd_T2 k xs ++ mkd_T2 (k + mkF_T2 xs) ys := by
  induction xs generalizing k with
  | nil => simp [mkd_T2, mkF_T2]
  | cons r rs ih => simp only [List.cons_append, mkd_T2, ih, mkF_T2, List.map_cons, List.sum_cons, Int.add_assoc]
end Go.Proofs.YtpnokhhbakiiiaaDoor

/-
  The functions over relations: what each call returns and makes.
-/
namespace Go.Proofs.YtpnokhhbakiiiaaDoor
open Go.RowKit

def inB (a lo hi : Int) : Bool := decide (lo ≤ a) && decide (a ≤ hi)
theorem inB_true {a lo hi : Int} (h : inB a lo hi = true) : lo ≤ a ∧ a ≤ hi := by simpa [inB] using h
theorem inB_false {a lo hi : Int} (h : inB a lo hi = false) : ¬ (lo ≤ a ∧ a ≤ hi) := by simpa [inB, Decidable.imp_iff_not_or] using h
theorem inB_mk {a lo hi : Int} (h : lo ≤ a ∧ a ≤ hi) : inB a lo hi = true := by simpa [inB] using h
theorem inB_no {a lo hi : Int} (h : ¬ (lo ≤ a ∧ a ≤ hi)) : inB a lo hi = false := by
  cases e : inB a lo hi
  · rfl
  · exact absurd (inB_true e) h

set_option maxHeartbeats 400000 in
theorem within (a b c : Int) (w : World) :
    Calls Tryd.prog 50 #[.int .i64 a, .int .i64 b, .int .i64 c] w fun e w' => e = .returned (.bool (inB a b c)) ∧ w = w' := by
  by_cases h1 : b ≤ a
  · go_enter Tryd.func50, Tryd.ntmps50
    go_wp2
    go_ret
    exact ⟨by simp [inB, h1], rfl⟩
  · have e : inB a b c = false := inB_no (by omega)
    go_enter Tryd.func50, Tryd.ntmps50
    go_wp2
    go_ret
    exact ⟨rfl, rfl⟩

end Go.Proofs.YtpnokhhbakiiiaaDoor

/-
  Terms: arity, validity, the count of operands still wanted; both sides' functions on them.
-/
namespace Go.Proofs.YtpnokhhbakiiiaaDoor
open Go.RowKit

def arity (t : Tm) : Int := if t.1 = 2 then 2 else if t.1 = 3 then 1 else 0
def tOk (t : Tm) (nv : Int) : Bool :=
  if t.1 = 0 then inB t.2 0 63 else if t.1 = 1 then inB t.2 0 (nv - 1) else if t.1 = 2 then inB t.2 0 8 else if t.1 = 3 then t.2 == 0 else false
/-- how many operands are wanted behind terms, n before them; none where a term is out of place or wrong. -/
def run (nv : Int) : List Tm → Int → Option Int
  | [], n => some n
  | t :: ts, n => if n = 0 then none else if tOk t nv then run nv ts (n + (arity t - 1)) else none
def isE (e : List Tm) (nv most : Int) : Bool := decide ((e.length : Int) ≤ most) && (run nv e 1 == some 0)
def validE (e : List Tm) (nv most : Int) : Bool := inB nv 0 29 && inB most 1 60 && isE e nv most

theorem arity_bd (t : Tm) : 0 ≤ arity t ∧ arity t ≤ 2 := by unfold arity; split <;> (try split) <;> omega

set_option maxHeartbeats 400000 in
theorem operands (a b : Int) (w : World) : Calls Tryd.prog 52 #[.agg #[ei a, ei b]] w fun e w' => e = .returned (.int .i64 (arity (a, b))) ∧ Upd [] w w' := by
  by_cases h2 : a = 2
  · subst h2
    go_enter Tryd.func52, Tryd.ntmps52
    go_wp2
    go_ret
    exact ⟨rfl, (Upd.refl _ _).alloc _⟩
  · by_cases h3 : a = 3
    · subst h3
      go_enter Tryd.func52, Tryd.ntmps52
      go_wp2
      go_ret
      exact ⟨rfl, (Upd.refl _ _).alloc _⟩
    · have e : arity (a, b) = 0 := by simp [arity, h2, h3]
      have HE := Lib.hid e
      have g2 : (a == 2) = false := by simp [h2]
      have g3 : (a == 3) = false := by simp [h3]
      clear e h2 h3
      go_enter Tryd.func52, Tryd.ntmps52
      go_wp2
      go_ret
      exact ⟨by rw [HE.out]; rfl, (Upd.refl _ _).alloc _⟩

set_option maxHeartbeats 400000 in
theorem isValue (a : Int) (w : World) : Calls Tryd.prog 62 #[.int .i64 a] w fun e w' => e = .returned (.bool (inB a 0 63)) ∧ w = w' := by
  go_enter Tryd.func62, Tryd.ntmps62
  go_wp2_with (go_at_call 50; refine (within _ _ _ _).mono ?_; rintro e w' ⟨rfl, rfl⟩)
  go_ret
  exact ⟨rfl, rfl⟩

set_option maxHeartbeats 800000 in
theorem termValid (a b nv : Int) (w : World) (h0 : 0 ≤ nv) (h1 : nv ≤ 29) : Calls Tryd.prog 51 #[.agg #[ei a, ei b], .int .i64 nv] w fun e w' => e = .returned (.bool (tOk (a, b) nv)) ∧ Upd [] w w' := by
  have hU : ∀ o, Upd [] w (w.alloc o) := fun o => (Upd.refl _ _).alloc _
  have HU := Lib.hid hU
  clear hU
  by_cases h2 : a = 0
  · subst h2
    go_enter Tryd.func51, Tryd.ntmps51
    go_wp2_with (go_at_call 62; refine (isValue _ _).mono ?_; rintro e w' ⟨rfl, rfl⟩)
    go_ret
    exact ⟨rfl, HU.out _⟩
  · by_cases h3 : a = 1
    · subst h3
      go_enter Tryd.func51, Tryd.ntmps51
      go_wp2_with (go_at_call 50; refine (within _ _ _ _).mono ?_; rintro e w' ⟨rfl, rfl⟩)
      go_ret
      exact ⟨rfl, HU.out _⟩
    · by_cases h4 : a = 2
      · subst h4
        go_enter Tryd.func51, Tryd.ntmps51
        go_wp2_with (go_at_call 50; refine (within _ _ _ _).mono ?_; rintro e w' ⟨rfl, rfl⟩)
        go_ret
        exact ⟨rfl, HU.out _⟩
      · by_cases h5 : a = 3
        · subst h5
          have e : tOk (3, b) nv = (b == 0) := rfl
          have HE := Lib.hid e
          clear e
          go_enter Tryd.func51, Tryd.ntmps51
          go_wp2
          go_ret
          exact ⟨by rw [HE.out]; rfl, HU.out _⟩
        · have e : tOk (a, b) nv = false := by simp [tOk, h2, h3, h4, h5]
          have HE := Lib.hid e
          have g2 : (a == 0) = false := by simp [h2]
          have g3 : (a == 1) = false := by simp [h3]
          have g4 : (a == 2) = false := by simp [h4]
          have g5 : (a == 3) = false := by simp [h5]
          clear e h2 h3 h4 h5
          go_enter Tryd.func51, Tryd.ntmps51
          go_wp2
          go_ret
          exact ⟨by rw [HE.out]; rfl, HU.out _⟩

theorem run_step (nv : Int) (e : List Tm) (k : Nat) (n : Int) (hk : k < e.length) :
    run nv (e.drop k) n = if n = 0 then none else if tOk e[k] nv then run nv (e.drop (k + 1)) (n + (arity e[k] - 1)) else none := by
  rw [List.drop_eq_getElem_cons hk, run]

theorem isE_len {e : List Tm} {nv most : Int} (h : isE e nv most = true) : 1 ≤ e.length ∧ (e.length : Int) ≤ most := by
  unfold isE at h
  rw [Bool.and_eq_true] at h
  refine ⟨?_, by simpa using h.1⟩
  match e, h.2 with
  | [], h => simp [run] at h
  | _ :: _, _ => simp

set_option maxHeartbeats 1000000 in
theorem validTerms (v : Value) (e : List Tm) (nv most : Int) (w : World) (fp : List Nat) (hR : R_T1 fp w [v] e) :
    Calls Tryd.prog 29 #[v, .int .i64 nv, .int .i64 most] w fun r w' => r = .returned (.bool (validE e nv most)) ∧ Upd [] w w' := by
  obtain ⟨a, cap, rfl, g1, g2, hc⟩ := slF2_open hR
  unfold maxLen at g2
  clear hR
  cases h1 : inB nv 0 29
  · have hE : validE e nv most = false := by simp [validE, h1]
    have HE := Lib.hid hE
    clear hE hc
    go_enter Tryd.func29, Tryd.ntmps29
    go_wp2_with (go_at_call 50; refine (within _ _ _ _).mono ?_; rintro e w' ⟨rfl, rfl⟩)
    go_ret
    exact ⟨by rw [HE.out]; rfl, Upd.refl _ _⟩
  · cases h2 : inB most 1 60
    · have hE : validE e nv most = false := by simp [validE, h2]
      have HE := Lib.hid hE
      clear hE hc
      go_enter Tryd.func29, Tryd.ntmps29
      go_wp2_with (go_at_call 50; refine (within _ _ _ _).mono ?_; rintro e w' ⟨rfl, rfl⟩)
      go_ret
      exact ⟨by rw [HE.out]; rfl, Upd.refl _ _⟩
    · have h1' := inB_true h1
      have h2' := inB_true h2
      cases h3 : inB (e.length : Int) 1 most
      · have hE : validE e nv most = false := by
          have h3' := inB_false h3
          cases hi : isE e nv most
          · simp [validE, hi]
          · have := isE_len hi; exfalso; apply h3'; omega
        have HE := Lib.hid hE
        clear hE hc
        go_enter Tryd.func29, Tryd.ntmps29
        go_wp2_with (go_at_call 50; refine (within _ _ _ _).mono ?_; rintro e w' ⟨rfl, rfl⟩)
        go_ret
        exact ⟨by rw [HE.out]; rfl, Upd.refl _ _⟩
      · have h3' := inB_true h3
        have hE : validE e nv most = (run nv e 1 == some 0) := by
          unfold validE isE; rw [h1, h2, decide_eq_true h3'.2]; rfl
        have HE := Lib.hid hE
        clear hE
        go_enter Tryd.func29, Tryd.ntmps29
        go_wp2_with (go_at_call 50; refine (within _ _ _ _).mono ?_; rintro e w' ⟨rfl, rfl⟩)
        go_loopw [7, 27] (fun nn i wr => ∃ (k : Nat) (n : Int), k ≤ e.length ∧ i = .int .i64 k ∧ nn = .int .i64 n ∧ 0 ≤ n ∧ n ≤ 1 + k ∧ run nv (e.drop k) n = run nv e 1 ∧ Upd [] w wr) (fun _ i _ => e.length - (intOf i).toNat)
        case atStart => exact ⟨0, 1, Nat.zero_le _, rfl, rfl, by omega, by omega, rfl, Upd.refl _ _⟩
        case round =>
          obtain ⟨k, n, hk, rfl, rfl, hn0, hn1, hrun, hU⟩ := hrel
          have HRUN := Lib.hid hrun
          clear hrun
          by_cases hlt : k < e.length
          · obtain ⟨b, off, rfl, -, hb, q1, q2⟩ := hc k hlt
            have t1 : wr.cell? ⟨b, off + k * 2, none⟩ = some (ei e[k].1) := (hU.below.cell hb).trans q1
            have t2 : wr.cell? ⟨b, off + k * 2 + 1, none⟩ = some (ei e[k].2) := (hU.below.cell hb).trans q2
            have hs := run_step nv e k n hlt
            have HS := Lib.hid hs
            have har := arity_bd e[k]
            rw [show e[k] = (e[k].1, e[k].2) from rfl] at HS har
            generalize e[k].1 = x at *
            generalize e[k].2 = y at *
            clear hc hs q1 q2
            have hUa := hU.alloc (.cells #[.int .i64 x, .int .i64 y] 50)
            by_cases hz : n = 0
            · subst hz
              have hres : validE e nv most = false := by rw [HE.out, ← HRUN.out, HS.out]; rfl
              have HRES := Lib.hid hres
              clear hres
              go_wp2_with fail
              go_ret
              exact ⟨by rw [HRES.out]; rfl, hUa⟩
            · have hz' : (n == 0) = false := by simp [hz]
              have HZ := Lib.hid hz
              have hz1 : 1 ≤ n := by omega
              clear hz
              cases ht : tOk (x, y) nv
              · have hres : validE e nv most = false := by rw [HE.out, ← HRUN.out, HS.out, if_neg HZ.out, ht]; rfl
                have HRES := Lib.hid hres
                clear hres
                go_wp2_with fail
                refine (termValid x y nv _ h1'.1 h1'.2).mono ?_
                rintro r w1 ⟨rfl, hu1⟩
                have hU1 := hUa.trans hu1
                go_wp2_with fail
                go_ret
                exact ⟨by rw [HRES.out]; rfl, hU1⟩
              · have hrun2 := HRUN.out
                rw [HS.out, if_neg HZ.out, ht, if_pos rfl] at hrun2
                have HR2 := Lib.hid hrun2
                clear hrun2
                go_wp2_with fail
                refine (termValid x y nv _ h1'.1 h1'.2).mono ?_
                rintro r w1 ⟨rfl, hu1⟩
                have hU1 := hUa.trans hu1
                have s1 : w1.cell? ⟨wr.heap.size, 0, none⟩ = some (ei x) := hu1.keep (by simp)
                have s2 : w1.cell? ⟨wr.heap.size, 1, none⟩ = some (ei y) := hu1.keep (by simp)
                clear hu1 hUa hU
                go_wp2_with fail
                refine (operands x y _).mono ?_
                rintro r w2 ⟨rfl, hu2⟩
                have hU2 := hU1.trans hu2
                clear hu2 hU1 s1 s2 t1 t2
                generalize arity (x, y) = A at *
                go_wp2_with fail
                go_roundw
                case rel => exact ⟨k + 1, n + (A - 1), by omega, by go_num, rfl, by omega, by omega, HR2.out, hU2⟩
                case measure => simp [intOf]; omega
          · obtain rfl : k = e.length := by omega
            have hrun := HRUN.out
            rw [List.drop_length, run] at hrun
            have hres : validE e nv most = (n == 0) := by rw [HE.out, ← hrun]; rfl
            have HRES := Lib.hid hres
            clear hres hrun hc
            go_wp2_with fail
            go_ret
            exact ⟨by rw [HRES.out]; rfl, hU⟩

def eOk (e : List Tm) : Bool := isE e 29 60

set_option maxHeartbeats 400000 in
theorem termsOk (v : Value) (e : List Tm) (w : World) (fp : List Nat) (hR : R_T1 fp w [v] e) :
    Calls Tryd.prog 17 #[v] w fun r w' => r = .returned (.bool (eOk e)) ∧ Upd [] w w' := by
  have hv : validE e 29 60 = eOk e := by unfold validE eOk; simp [inB]
  have HV := Lib.hid hv
  clear hv
  obtain ⟨a, cap, rfl, g1, g2, -⟩ := slF2_open hR
  go_enter Tryd.func17, Tryd.ntmps17
  go_wp2_with fail
  refine (validTerms _ e 29 60 _ fp hR).mono ?_
  rintro r w1 ⟨rfl, hu⟩
  go_wp2_with fail
  go_ret
  exact ⟨by rw [← HV.out]; rfl, hu⟩

end Go.Proofs.YtpnokhhbakiiiaaDoor

/-
  Expressions as trees: how a tree lies in memory; the terms of a tree in order; a valid list of terms is one tree's.
-/
namespace Go.Proofs.YtpnokhhbakiiiaaDoor
open Go.RowKit

inductive Ex where
  | mk (t : Tm) (args : List Ex)

mutual
def RE : Ex → List Nat → World → List Value → Prop
  | .mk t args, fp, w, cs => ∃ b s fa us fb fps, cs = [.pointer (some ⟨b, 0, none⟩)] ∧ fp = b :: fa ∧ w.cell? ⟨b, 0, none⟩ = some (ei t.1) ∧ w.cell? ⟨b, 1, none⟩ = some (ei t.2) ∧ w.cell? ⟨b, 2, none⟩ = some s ∧
      Flat fb w s 1 args.length us ∧ List.length fps = args.length ∧ fa = fb ++ List.flatten fps ∧ REs args fps w us
def REs : List Ex → List (List Nat) → World → List Value → Prop
  | [], _, _, _ => True
  | x :: xs, fps, w, us => ∃ f fs u vs, fps = f :: fs ∧ us = u :: vs ∧ RE x f w [u] ∧ REs xs fs w vs
end

mutual
def flatE : Ex → List Tm
  | .mk t args => t :: flatEs args
def flatEs : List Ex → List Tm
  | [] => []
  | x :: xs => flatE x ++ flatEs xs
end

mutual
def okE : Ex → Bool
  | .mk t args => decide ((args.length : Int) = arity t) && okEs args
def okEs : List Ex → Bool
  | [] => true
  | x :: xs => okE x && okEs xs
end

abbrev R_E : Rp Ex := fun fp w cs x => RE x fp w cs

theorem REs_get : ∀ (xs : List Ex) (fps : List (List Nat)) (w : World) (us : List Value), REs xs fps w us → ∀ i (h : i < xs.length) u (f : List Nat), us[i]? = some u → fps[i]? = some f → RE xs[i] f w [u]
  | [], _, _, _, _, i, h, _, _, _, _ => by simp at h
  | x :: xs, fps, w, us, hr, i, h, u, f, hu, hf => by
    obtain ⟨f0, fs, u0, vs, rfl, rfl, h1, h2⟩ := hr
    cases i with
    | zero => simp at hu hf; subst hu hf; exact h1
    | succ i => exact REs_get xs fs w vs h2 i (by simpa using h) u f (by simpa using hu) (by simpa using hf)

theorem REs_mk : ∀ (xs : List Ex) (fps : List (List Nat)) (w : World) (us : List Value), fps.length = xs.length → us.length = xs.length →
    (∀ i (h : i < xs.length) u (f : List Nat), us[i]? = some u → fps[i]? = some f → RE xs[i] f w [u]) → REs xs fps w us
  | [], _, _, _, _, _, _ => trivial
  | x :: xs, fps, w, us, h1, h2, h => by
    match fps, us, h1, h2 with
    | f :: fs, u :: vs, h1, h2 =>
      exact ⟨f, fs, u, vs, rfl, rfl, h 0 (by simp) u f rfl rfl, REs_mk xs fs w vs (by simpa using h1) (by simpa using h2) (fun i hi u' f' hu hf => h (i + 1) (by simpa using hi) u' f' (by simpa using hu) (by simpa using hf))⟩

theorem R_E_open {fp : List Nat} {w : World} {v : Value} {t : Tm} {args : List Ex} (h : R_E fp w [v] (.mk t args)) :
    ∃ b s fa, v = .pointer (some ⟨b, 0, none⟩) ∧ fp = b :: fa ∧ w.cell? ⟨b, 0, none⟩ = some (ei t.1) ∧ w.cell? ⟨b, 1, none⟩ = some (ei t.2) ∧ w.cell? ⟨b, 2, none⟩ = some s ∧ slP R_E fa w [s] args := by
  simp only [R_E, RE] at h
  obtain ⟨b, s, fa, us, fb, fps, hv, rfl, h1, h2, h3, h4, h5, rfl, h6⟩ := h
  simp at hv
  exact ⟨b, s, _, hv, rfl, h1, h2, h3, s, us, fb, fps, rfl, h4, h5, rfl, REs_get _ _ _ _ h6⟩

theorem R_E_mk {w : World} {t : Tm} {args : List Ex} {b : Nat} {s : Value} {fa : List Nat} (h1 : w.cell? ⟨b, 0, none⟩ = some (ei t.1)) (h2 : w.cell? ⟨b, 1, none⟩ = some (ei t.2)) (h3 : w.cell? ⟨b, 2, none⟩ = some s)
    (h : slP R_E fa w [s] args) : R_E (b :: fa) w [.pointer (some ⟨b, 0, none⟩)] (.mk t args) := by
  obtain ⟨v, us, fb, fps, hv, h4, h5, rfl, h6⟩ := h
  cases hv
  have hl : us.length = args.length := by obtain ⟨_, _, _, _, _, h, _⟩ := h4; simpa using h
  simp only [R_E, RE]
  exact ⟨b, s, _, us, fb, fps, rfl, rfl, h1, h2, h3, h4, h5, rfl, REs_mk _ _ _ _ h5 hl h6⟩

theorem R_E_form {fp : List Nat} {w : World} {v : Value} {x : Ex} (h : R_E fp w [v] x) : ∃ b, v = .pointer (some ⟨b, 0, none⟩) := by
  obtain ⟨t, args⟩ := x
  obtain ⟨b, -, -, rfl, -⟩ := R_E_open h
  exact ⟨b, rfl⟩

mutual
theorem RE_lt : ∀ (x : Ex) (fp : List Nat) (w : World) (cs : List Value), RE x fp w cs → ∀ b ∈ fp, b < w.heap.size
  | .mk t args, fp, w, cs, h, b, hb => by
    simp only [RE] at h
    obtain ⟨b0, s, fa, us, fb, fps, -, rfl, h1, -, -, h4, h5, rfl, h6⟩ := h
    rcases List.mem_cons.1 hb with rfl | hb
    · exact World.block_lt_of_cell? w _ h1
    · rcases List.mem_append.1 hb with hb | hb
      · exact h4.lt b hb
      · exact REs_lt args fps w us h5 h6 b hb
theorem REs_lt : ∀ (xs : List Ex) (fps : List (List Nat)) (w : World) (us : List Value), fps.length = xs.length → REs xs fps w us → ∀ b ∈ fps.flatten, b < w.heap.size
  | [], fps, _, _, h, _, b, hb => by simp at h; subst h; simp at hb
  | x :: xs, fps, w, us, hl, h, b, hb => by
    simp only [REs] at h
    obtain ⟨f, fs, u, vs, rfl, rfl, h1, h2⟩ := h
    rw [List.flatten_cons] at hb
    rcases List.mem_append.1 hb with hb | hb
    · exact RE_lt x f w [u] h1 b hb
    · exact REs_lt xs fs w vs (by simpa using hl) h2 b hb
end

mutual
theorem RE_frame : ∀ (x : Ex) (fp : List Nat) (w w' : World) (cs : List Value), RE x fp w cs → w.heap.size ≤ w'.heap.size → (∀ b ∈ fp, w'.heap[b]? = w.heap[b]?) → RE x fp w' cs
  | .mk t args, fp, w, w', cs, h, hs, hb => by
    simp only [RE] at h ⊢
    obtain ⟨b0, s, fa, us, fb, fps, rfl, rfl, h1, h2, h3, h4, h5, rfl, h6⟩ := h
    have hb0 := hb b0 (by simp)
    refine ⟨b0, s, _, us, fb, fps, rfl, rfl, ?_, ?_, ?_, h4.frame hs (fun b h => hb b (by simp [h])), h5, rfl, REs_frame args fps w w' us h6 hs (fun b h => hb b (by simp only [List.mem_cons, List.mem_append]; exact Or.inr (Or.inr h)))⟩
    · rw [World.cell?_of_block (w := w) hb0]; exact h1
    · rw [World.cell?_of_block (w := w) hb0]; exact h2
    · rw [World.cell?_of_block (w := w) hb0]; exact h3
theorem REs_frame : ∀ (xs : List Ex) (fps : List (List Nat)) (w w' : World) (us : List Value), REs xs fps w us → w.heap.size ≤ w'.heap.size → (∀ b ∈ fps.flatten, w'.heap[b]? = w.heap[b]?) → REs xs fps w' us
  | [], _, _, _, _, _, _, _ => trivial
  | x :: xs, fps, w, w', us, h, hs, hb => by
    simp only [REs] at h ⊢
    obtain ⟨f, fs, u, vs, rfl, rfl, h1, h2⟩ := h
    exact ⟨f, fs, u, vs, rfl, rfl, RE_frame x f w w' [u] h1 hs (fun b h => hb b (by rw [List.flatten_cons]; exact List.mem_append_left _ h)), REs_frame xs fs w w' vs h2 hs (fun b h => hb b (by rw [List.flatten_cons]; exact List.mem_append_right _ h))⟩
end

theorem R_Ek : Kept R_E := ⟨fun h => RE_lt _ _ _ _ h, fun h hs hb => RE_frame _ _ _ _ _ h hs hb⟩

theorem flatEs_append (xs ys : List Ex) : flatEs (xs ++ ys) = flatEs xs ++ flatEs ys := by
  induction xs with
  | nil => rfl
  | cons x xs ih => simp [flatEs, ih]
theorem okEs_append (xs ys : List Ex) : okEs (xs ++ ys) = (okEs xs && okEs ys) := by
  induction xs with
  | nil => simp [okEs]
  | cons x xs ih => simp [okEs, ih, Bool.and_assoc]
theorem flatE_pos (x : Ex) : 1 ≤ (flatE x).length := by cases x; simp [flatE]

/-- terms behind which no operand is wanted are the terms of trees. -/
theorem trees_of_run (nv : Int) : ∀ (ts : List Tm) (n : Nat), run nv ts n = some 0 → ∃ xs : List Ex, xs.length = n ∧ okEs xs = true ∧ flatEs xs = ts
  | [], n, h => ⟨[], by simp [run] at h; simp; omega, rfl, rfl⟩
  | t :: ts, n, h => by
    rw [run] at h
    by_cases hn : (n : Int) = 0
    · simp [hn] at h
    · rw [if_neg hn] at h
      by_cases ht : tOk t nv = true
      · rw [if_pos ht] at h
        have hb := arity_bd t
        obtain ⟨m, hm⟩ : ∃ m : Nat, arity t = m := ⟨(arity t).toNat, by omega⟩
        rw [hm, show ((n : Int) + ((m : Int) - 1)) = ((n - 1 + m : Nat) : Int) from by omega] at h
        obtain ⟨xs, h1, h2, h3⟩ := trees_of_run nv ts (n - 1 + m) h
        refine ⟨.mk t (xs.take m) :: xs.drop m, by simp; omega, ?_, ?_⟩
        · have hok : okEs (xs.take m) = true ∧ okEs (xs.drop m) = true := by
            have := h2; rw [← List.take_append_drop m xs, okEs_append, Bool.and_eq_true] at this; exact this
          simp only [okEs, okE, hok.1, hok.2, Bool.and_true, decide_eq_true_eq, hm]
          simp; omega
        · simp only [flatEs, flatE]
          rw [List.cons_append, ← flatEs_append, List.take_append_drop, h3]
      · rw [if_neg ht] at h; cases h

theorem tree_of_ok {e : List Tm} (h : eOk e = true) : ∃ x : Ex, okE x = true ∧ flatE x = e := by
  unfold eOk isE at h
  rw [Bool.and_eq_true] at h
  have h2 : run 29 e ((1 : Nat) : Int) = some 0 := by simpa using h.2
  obtain ⟨xs, h3, h4, h5⟩ := trees_of_run 29 e 1 h2
  match xs, h3 with
  | [x], _ => exact ⟨x, by simpa [okEs] using h4, by simpa [flatEs] using h5⟩

end Go.Proofs.YtpnokhhbakiiiaaDoor

/-
  The terms of a tree in order; a tree out of terms: what each call returns and makes.
-/
namespace Go.Proofs.YtpnokhhbakiiiaaDoor
open Go.RowKit

abbrev encT (t : Tm) : List Value := [ei t.1, ei t.2]

theorem Tryd.infoE : (Tryd.prog.info? 37).map (fun i => (i.zero, i.size, i.bytes)) = some (some (.pointer none), 1, 8) := by kernel_rfl

theorem flatEs_take (xs : List Ex) (k : Nat) (h : k < xs.length) : flatEs (xs.take (k + 1)) = flatEs (xs.take k) ++ flatE xs[k] := by
  rw [List.take_succ_eq_append_getElem h, flatEs_append]; simp [flatEs]
theorem flatEs_take_le (xs : List Ex) (k : Nat) : (flatEs (xs.take k)).length ≤ (flatEs xs).length := by
  conv => rhs; rw [← List.take_append_drop k xs, flatEs_append, List.length_append]
  omega

theorem Below.keepK {α : Type} {R : Rp α} (K : Kept R) {B : Nat} {w w' : World} {fp cs x} (h : R fp w cs x) (hb : Below B w w') (hf : ∀ b ∈ fp, b < B) : R fp w' cs x :=
  K.frame h hb.size fun b hm => hb.block b (hf b hm)

set_option maxHeartbeats 1000000 in
theorem termsE (n : Nat) : ∀ (x : Ex) (w : World) (v vo : Value) (fp : List Nat) (B : Nat) (out : List Tm), (flatE x).length ≤ n → out.length + (flatE x).length ≤ 1000000 →
    R_E fp w [v] x → (∀ b ∈ fp, b < B) → B ≤ w.heap.size → w.ownsRow B 50 2 vo out.length (out.flatMap encT) →
    Calls Tryd.prog 42 #[v, vo] w fun e w' => (∃ v', e = .returned v' ∧ w'.ownsRow B 50 2 v' (out ++ flatE x).length ((out ++ flatE x).flatMap encT)) ∧ Below B w w' := by
  induction n with
  | zero => intro x w v vo fp B out hn; have := flatE_pos x; omega
  | succ n ih =>
    intro x w v vo fp B out hn hlen hR hfp hB hown
    obtain ⟨i0, hi, hz0, hz1, hz2⟩ := info_parts Tryd.infoT
    obtain ⟨t, args⟩ := x
    obtain ⟨b0, s, fa, rfl, rfl, c0, c1, c2, hargs⟩ := R_E_open hR
    obtain ⟨a, cap, rfl, h1, h2, hc⟩ := slP_open hargs
    unfold maxLen at h2
    simp only [flatE, List.length_cons] at hn hlen
    have hfx : ∀ k, (flatEs (args.take k)).length ≤ (flatEs args).length := flatEs_take_le args
    have HFX := Lib.hid hfx
    have HFP := Lib.hid hfp
    have HIH := Lib.hid ih
    have hb0 : b0 < B := hfp b0 (by simp)
    obtain ⟨t1, t2⟩ := t
    clear hfx hfp ih hR
    go_enter Tryd.func42, Tryd.ntmps42
    go_wp2_with (first
      | (at_builtin; refine wpList_append_tight _ rfl _ _ 24 rfl B 50 i0 (.agg #[.int .i64 0, .int .i64 0]) 2 16 Tryd.underlying24 hi hz0 hz1 hz2 rfl (by decide) _ _ _ rfl (hown.alloc _) ⟨w.heap.size, 0, none⟩ 1 1 [ei t1, ei t2] rfl rfl ?c1 ?c2 ?c3 ?c4 ?c5 ?_)
      | fail)
    case c2 => exact ⟨rfl, rfl⟩
    case c3 => unfold maxLen; omega
    case c4 => omega
    case c5 => omega
    intro v2 w2 hown2 hg2 ht2
    have hB2 : Below B w w2 := ((Below.refl B w).alloc hB _).grown hg2 (by simp; omega) (fun k hk => (hown.lt k hk).1)
    have hown3 : w2.ownsRow B 50 2 v2 (out ++ [(t1, t2)]).length ((out ++ [(t1, t2)]).flatMap encT) := by simpa using hown2
    have c2' : w2.cell? ⟨b0, 2, none⟩ = some (.slice a args.length cap) := (hB2.cell (p := ⟨b0, 2, none⟩) hb0).trans c2
    have hsz := hB2.size
    clear hown hown2 hg2 ht2 c0 c1 c2
    go_wp2_with fail
    go_loopw [1, 19] (fun vv i wr => ∃ k : Nat, k ≤ args.length ∧ i = .int .i64 k ∧ Below B w wr ∧ wr.ownsRow B 50 2 vv (out ++ (t1, t2) :: flatEs (args.take k)).length ((out ++ (t1, t2) :: flatEs (args.take k)).flatMap encT)) (fun _ i _ => args.length - (intOf i).toNat)
    case atStart => exact ⟨0, Nat.zero_le _, rfl, hB2, by simpa [flatEs] using hown3⟩
    case round =>
      clear hB2 hown3 c2' hsz
      obtain ⟨k, hk, rfl, hB2, hown⟩ := hrel
      by_cases hlt : k < args.length
      · obtain ⟨b, off, u, f, rfl, hbm, hbl, hcell, hsub, hr⟩ := hc k hlt
        have hbB : b < B := HFP.out b (by simp [hbm])
        have hcell' : wr.cell? ⟨b, off + k, none⟩ = some u := (hB2.cell (p := ⟨b, off + k, none⟩) hbB).trans hcell
        have hr' : R_E f wr [u] args[k] := Below.keepK R_Ek hr hB2 (fun b hb => HFP.out b (by simp [hsub b hb]))
        have hsz := hB2.size
        have hft := flatEs_take args k hlt
        have q1 := HFX.out (k + 1)
        rw [hft, List.length_append] at q1
        have S2 := Lib.hid (HIH.out args[k] wr u _ f B _ (by omega) (by simp only [List.length_append, List.length_cons]; omega) hr' (fun b hb => HFP.out b (by simp [hsub b hb])) (by omega) hown)
        have HFT := Lib.hid hft
        clear hft hc hown hr hr' hcell
        go_wp2_with fail
        refine S2.out.mono ?_
        rintro e w3 ⟨⟨v3, rfl, hown3⟩, hb3⟩
        have hB3 := hB2.trans hb3
        rw [List.append_assoc, List.cons_append, ← HFT.out] at hown3
        clear S2 hB2 hb3
        go_wp2_with fail
        go_roundw
        case rel => exact ⟨k + 1, by omega, by go_num, hB3, hown3⟩
        case measure => simp [intOf]; omega
      · obtain rfl : args.length = k := by omega
        rw [List.take_length] at hown
        clear hc
        go_wp2_with fail
        go_ret
        exact ⟨⟨_, rfl, hown⟩, hB2⟩

set_option maxHeartbeats 400000 in
theorem listE (x : Ex) (w : World) (v : Value) (fp : List Nat) (hl : (flatE x).length ≤ 1000000) (hR : R_E fp w [v] x) :
    Calls Tryd.prog 23 #[v] w fun e w' => (∃ v', e = .returned v' ∧ New R_T1 w w' v' (flatE x)) ∧ Upd [] w w' := by
  have S2 := termsE _ x w v (.slice none 0 0) fp w.heap.size [] (Nat.le_refl _) (by simpa using hl) hR (R_Ek.lt hR) (Nat.le_refl _) (World.ownsRow_nil _ _ _ _)
  go_enter Tryd.func23, Tryd.ntmps23
  go_wp2_with fail
  refine S2.mono ?_
  rintro e w1 ⟨⟨v1, rfl, hown⟩, hb⟩
  go_wp2_with fail
  go_ret
  exact ⟨⟨_, rfl, New.ofOwns2 (e := 50) (by simpa using hown)⟩, Upd.ofBelow hb⟩

/-- a slice without its first element, whatever address its value bears. -/
theorem slF_tail {α : Type} {n : Nat} {enc : α → List Value} (he : ∀ x, (enc x).length = n) {fp : List Nat} {w : World} {b off len cap : Nat} {x : α} {xs : List α}
    (h : slF n enc fp w [.slice (some ⟨b, off, none⟩) len cap] (x :: xs)) (o' : Nat) (ho : xs ≠ [] → o' = off + n) :
    ∃ fp', slF n enc fp' w [.slice (some ⟨b, o', none⟩) (len - 1) (cap - 1)] xs ∧ (∀ c ∈ fp', c ∈ fp) := by
  obtain ⟨v, hv, a, cap', hv2, h1, h2, h3, h4⟩ := h
  cases hv
  simp only [Value.slice.injEq] at hv2
  obtain ⟨rfl, rfl, rfl⟩ := hv2
  simp only [List.length_cons] at *
  have hl : (xs.flatMap enc).length = xs.length * n := by
    clear h3 h4 ho
    induction xs with
    | nil => simp
    | cons y ys ih => rw [List.flatMap_cons, List.length_append, he, ih (by simp at h1; omega), List.length_cons, Nat.add_mul]; omega
  rcases h4 with ⟨h0, -⟩ | ⟨b', off', hb', rfl, hbl, hc⟩
  · omega
  · simp only [Option.some.injEq, Addr.mk.injEq, and_true] at hb'
    obtain ⟨rfl, rfl⟩ := hb'
    by_cases hx : xs = []
    · subst hx
      exact ⟨[], ⟨_, rfl, some ⟨b, o', none⟩, cap - 1, by simp, by simp, by omega, by simp, Or.inl ⟨rfl, rfl⟩⟩, by simp⟩
    · refine ⟨[b], ⟨_, rfl, _, cap - 1, by simp, by omega, by omega, hl, Or.inr ⟨b, o', rfl, rfl, hbl, fun j u hu => ?_⟩⟩, by simp⟩
      have := hc (n + j) u (by rw [List.flatMap_cons, List.getElem?_append_right (by rw [he]; omega), he, Nat.add_sub_cancel_left]; exact hu)
      rw [ho hx, Nat.add_assoc]; exact this

set_option maxHeartbeats 2000000 in
theorem treeFrom (n : Nat) : ∀ (x : Ex) (rest : List Tm) (w : World) (v : Value) (fp : List Nat), (flatE x).length ≤ n → okE x = true → (flatE x).length ≤ 100 → R_T1 fp w [v] (flatE x ++ rest) →
    Calls Tryd.prog 30 #[v] w fun e w' => (∃ v' vr fr, e = .returned (.tuple #[v', vr]) ∧ New R_E w w' v' x ∧ R_T1 fr w' [vr] rest ∧ ∀ b ∈ fr, b ∈ fp) ∧ Upd [] w w' := by
  induction n with
  | zero => intro x rest w v fp hn; have := flatE_pos x; omega
  | succ n ih =>
    intro x rest w v fp hn hok h100 hR
    obtain ⟨i0, hi, hz0, hz1, hz2⟩ := info_parts Tryd.infoE
    obtain ⟨⟨t1, t2⟩, args⟩ := x
    simp only [okE, Bool.and_eq_true, decide_eq_true_eq] at hok
    simp only [flatE, List.cons_append] at hR hn h100
    have hR0 := hR
    obtain ⟨a, cap, rfl, h1, h2, hc⟩ := slF2_open hR
    obtain ⟨b, off, rfl, hfp, hbl, q1, q2⟩ := hc 0 (by simp)
    simp only [List.length_cons, List.getElem_cons_zero] at *
    unfold maxLen at h2
    have HIH := Lib.hid ih
    have HOK := Lib.hid hok
    have HR := Lib.hid hR0
    rw [Nat.zero_mul, Nat.add_zero] at q1 q2
    clear hc hR hR0
    generalize hL : (flatEs args ++ rest).length = L at *
    have HL := Lib.hid hL
    clear ih hok hL
    by_cases hcap : cap = 1
    · have hL0 : L = 0 := by omega
      have hnil : flatEs args ++ rest = [] := List.eq_nil_of_length_eq_zero (by rw [HL.out]; exact hL0)
      obtain ⟨hna, hnr⟩ := List.append_eq_nil_iff.1 hnil
      have hargs : args = [] := by
        match args, hna with
        | [], _ => rfl
        | y :: ys, h => exfalso; have := flatE_pos y; simp only [flatEs, List.append_eq_nil_iff] at h; rw [h.1] at this; simp at this
      subst hargs hnr hL0
      have hz : arity (t1, t2) = 0 := by have := HOK.out.1; simpa using this.symm
      subst hcap
      have HRS := Lib.hid (show ∀ w' : World, R_T1 [] w' [.slice (some ⟨b, off, none⟩) 0 0] ([] : List Tm) from fun w' => ⟨_, rfl, some ⟨b, off, none⟩, 0, rfl, Nat.le_refl _, by simp [maxLen], by simp, Or.inl ⟨rfl, rfl⟩⟩)
      have HZ := Lib.hid hz
      clear HR hz hnil hna
      go_enter Tryd.func30, Tryd.ntmps30
      go_wp2_with fail
      refine (operands t1 t2 _).mono ?_
      rintro e w1 ⟨rfl, hu1⟩
      rw [HZ.out]
      have hU1 : Upd [] w w1 := ((Upd.refl [] w).alloc _).trans hu1
      have c0 : w1.cell? ⟨w.heap.size, 0, none⟩ = some (ei t1) := hu1.keep (by simp)
      have c1 : w1.cell? ⟨w.heap.size, 1, none⟩ = some (ei t2) := hu1.keep (by simp)
      have c2 : w1.cell? ⟨w.heap.size, 2, none⟩ = some (.slice none 0 0) := hu1.keep (by simp)
      have hown0 : Own [w.heap.size] w1 := (show Own [w.heap.size] (w.alloc (.cells #[ei t1, ei t2, .slice none 0 0] 67)) from ⟨by simp, by
        intro b hb
        obtain rfl : b = w.heap.size := by simpa using hb
        exact ⟨_, _, heap_alloc_new w _⟩⟩).upd hu1 (by simp)
      have HN := Lib.hid (show New R_E w w1 (.pointer (some ⟨w.heap.size, 0, none⟩)) (.mk (t1, t2) []) from
        ⟨[w.heap.size], R_E_mk c0 c1 c2 ⟨_, [], [], [], rfl, flat_nil w1 1, rfl, rfl, by simp⟩, hown0, by simp⟩)
      clear hu1 c0 c1 c2 hown0 q1 q2
      go_wp2_with fail
      go_loopw [5, 18] (fun rv i wr => rv = .slice (some ⟨b, off, none⟩) 0 0 ∧ i = .int .i64 0 ∧ wr = w1) (fun _ _ _ => 0)
      case atStart => exact ⟨rfl, rfl, rfl⟩
      case round =>
        obtain ⟨rfl, rfl, rfl⟩ := hrel
        go_wp2_with fail
        go_ret2
        exact ⟨⟨_, _, [], rfl, HN.out, HRS.out _, by simp⟩, hU1⟩
    · obtain ⟨fp1, htl, hfs⟩ := slF_tail (n := 2) (by intro x; rfl) HR.out (off + 2) (fun _ => rfl)
      simp only [Nat.add_sub_cancel] at htl
      have HTL := Lib.hid htl
      have HFS := Lib.hid hfs
      clear htl hfs
      go_enter Tryd.func30, Tryd.ntmps30
      go_wp2_with fail
      refine (operands t1 t2 _).mono ?_
      rintro e w1 ⟨rfl, hu1⟩
      have hU1 : Upd [] w w1 := ((Upd.refl [] w).alloc _).trans hu1
      obtain ⟨m, hm⟩ : ∃ m : Nat, arity (t1, t2) = m := ⟨args.length, HOK.out.1.symm⟩
      have HM := Lib.hid (show m = args.length by have := HOK.out.1; omega)
      have hm2 : args.length ≤ 2 := by have := HOK.out.1; have := arity_bd (t1, t2); omega
      rw [hm]
      have c0 : w1.cell? ⟨w.heap.size, 0, none⟩ = some (ei t1) := hu1.keep (by simp)
      have c1 : w1.cell? ⟨w.heap.size, 1, none⟩ = some (ei t2) := hu1.keep (by simp)
      have c2 : w1.cell? ⟨w.heap.size, 2, none⟩ = some (.slice none 0 0) := hu1.keep (by simp)
      have hown0 : Own [w.heap.size] w1 := (show Own [w.heap.size] (w.alloc (.cells #[ei t1, ei t2, .slice none 0 0] 67)) from ⟨by simp, by
        intro b hb
        obtain rfl : b = w.heap.size := by simpa using hb
        exact ⟨_, _, heap_alloc_new w _⟩⟩).upd hu1 (by simp)
      have hT1 : ∀ b ∈ fp1, b < w.heap.size := fun b hb => by
        have := HFS.out b hb
        rw [hfp] at this
        simp at this; omega
      have hrest1 := R_T1k.upd HTL.out hU1 (by simp)
      have HT1 := Lib.hid hT1
      clear hm hu1 HTL HR hT1 q1 q2
      go_wp2_with fail
      go_loopw [5, 18] (fun rv i wr => ∃ (k : Nat) (vo : Value) (fr : List Nat), k ≤ args.length ∧ i = .int .i64 k ∧ Upd [] w wr ∧ wr.cell? ⟨w.heap.size, 0, none⟩ = some (ei t1) ∧ wr.cell? ⟨w.heap.size, 1, none⟩ = some (ei t2) ∧
          wr.cell? ⟨w.heap.size, 2, none⟩ = some vo ∧ Own [w.heap.size] wr ∧ Acc R_E (w.alloc (.cells #[ei t1, ei t2, .slice none 0 0] 67)) 37 wr vo (args.take k) ∧ R_T1 fr wr [rv] (flatEs (args.drop k) ++ rest) ∧ ∀ b ∈ fr, b ∈ fp1)
        (fun _ i _ => args.length - (intOf i).toNat)
      case atStart => exact ⟨0, _, fp1, Nat.zero_le _, rfl, hU1, c0, c1, c2, hown0, Acc.nil _ _ _ _, hrest1, fun b hb => hb⟩
      case round =>
        clear hU1 c0 c1 c2 hown0 hrest1
        obtain ⟨k, vo, fr, hk, rfl, hU, c0, c1, c2, hown0, hacc, hrest, hfr⟩ := hrel
        have HFR := Lib.hid hfr
        clear hfr
        by_cases hlt : k < args.length
        · have hmk : k < m := by rw [HM.out]; exact hlt
          have hfd : flatEs (args.drop k) = flatE args[k] ++ flatEs (args.drop (k + 1)) := by rw [List.drop_eq_getElem_cons hlt]; rfl
          have hlen1 : (flatE args[k]).length + (flatEs (args.drop (k + 1))).length ≤ (flatEs args).length := by
            have e1 : flatEs args = flatEs (args.take k) ++ flatEs (args.drop k) := by rw [← flatEs_append, List.take_append_drop]
            rw [e1, hfd, List.length_append, List.length_append]; omega
          have hoky : okE args[k] = true := by
            have h2 := HOK.out.2
            rw [← List.take_append_drop k args, okEs_append, List.drop_eq_getElem_cons hlt] at h2
            simp only [okEs, Bool.and_eq_true] at h2
            exact h2.2.1
          rw [hfd, List.append_assoc] at hrest
          have S2 := Lib.hid (HIH.out args[k] (flatEs (args.drop (k + 1)) ++ rest) wr _ fr (by omega) hoky (by omega) hrest)
          have hts := List.take_succ_eq_append_getElem hlt
          have HTS := Lib.hid hts
          clear hfd hlen1 hoky hrest hts
          go_wp2_with fail
          refine S2.out.mono ?_
          rintro e w2 ⟨⟨v', vr, fr2, rfl, hnew, hrest2, hfr2⟩, hu2⟩
          have hU2 := hU.trans hu2
          have c0' := hu2.keep c0
          have c1' := hu2.keep c1
          have c2' := hu2.keep c2
          have hown0' := hown0.upd hu2 (by simp)
          obtain ⟨us, hou, hrows⟩ := hacc
          have hou2 := hou.kept (row := none) ⟨hu2.os, hu2.tape, hu2.output, hu2.size, fun k hk _ => hu2.block k hk (by simp)⟩ (by cases vo.ownBlock <;> simp)
          have hsz := hU.size
          have hsz0 : w.heap.size < wr.heap.size := World.block_lt_of_cell? wr _ c0
          have hsz2 := hu2.size
          have hform : ∃ b, v' = .pointer (some ⟨b, 0, none⟩) := by obtain ⟨f9, h9, -⟩ := hnew; exact R_E_form h9
          obtain ⟨pb, rfl⟩ := hform
          have hlk : (args.take k).length ≤ 100 := by
            have : (args.take k).length ≤ m := by rw [HM.out, List.length_take]; omega
            have h9 := arity_bd (t1, t2)
            have h10 := HOK.out.1
            rw [List.length_take]; omega
          have HFR2 := Lib.hid (fun b hb => HFR.out b (hfr2 b hb) : ∀ b ∈ fr2, b ∈ fp1)
          have hfz : w2.frozen? ⟨w.heap.size, 2, none⟩ = false := hown0'.frozen (by simp) _
          clear S2 hU c0 c1 c2 hown0 hfr2 HFR
          go_wp2_with (first
            | (at_builtin; refine wpList_append_tight _ rfl _ _ 65 rfl (w.alloc (.cells #[ei t1, ei t2, .slice none 0 0] 67)).heap.size 37 i0 (.pointer none) 1 8 Tryd.underlying65 hi hz0 hz1 hz2 rfl (by decide) _ _ _ rfl (hou2.alloc _) ⟨w2.heap.size, 0, none⟩ 1 1 [.pointer (some ⟨pb, 0, none⟩)] rfl rfl ?c1 ?c2 ?c3 ?c4 ?c5 ?_)
            | fail)
          case c1 => intro j u hj; match j, hj with | 0, hj => simp at hj; subst hj; simp [Addr.add]
          case c2 => intro u hu; simp at hu; subst hu; rfl
          case c3 => unfold maxLen; omega
          case c4 => omega
          case c5 => simp; omega
          intro v2 w3 hown3 hg3 ht3
          obtain ⟨a2, cc2, rfl⟩ := ownsRow_form hown3
          have hlus : us.length = k := by have := hrows.length; rw [this, List.length_take]; omega
          have hacc2 := Acc.push R_Ek hou hrows (by simp; omega) hu2 hnew _ (by simpa [Nat.min_eq_left hk] using hown3) hg3 (by simpa using ht3)
          have hu3 : Upd vo.ownBlock.toList (w2.alloc (.cells #[.pointer (some ⟨pb, 0, none⟩)] 37)) w3 := (Upd.refl _ _).grown hg3 (fun k hk => Or.inr (by simp [hk]))
          have hvo : ∀ b ∈ vo.ownBlock.toList, w.heap.size + 1 ≤ b := fun b hb => by have := (hou.lt b (by simpa using hb)).1; simpa using this
          have hne : ∀ b ∈ [w.heap.size], b ∉ vo.ownBlock.toList := fun b hb hm => by have := hvo b hm; simp at hb; omega
          have hU3 : Upd [] w w3 := (hU2.alloc _).fresh hu3 (fun b hb => Or.inl (by have := hvo b hb; omega))
          have hblk : w3.heap[w.heap.size]? = (w2.alloc (.cells #[.pointer (some ⟨pb, 0, none⟩)] 37)).heap[w.heap.size]? := hu3.block _ (by simp; omega) (hne _ (by simp))
          have hblk2 : w3.heap[w.heap.size]? = w2.heap[w.heap.size]? := by rw [hblk, Below.heap_alloc _ _ _ (by omega)]
          have d0 : w3.cell? ⟨w.heap.size, 0, none⟩ = some (ei t1) := (World.cell?_of_block (w := w2) hblk2).trans c0'
          have d1 : w3.cell? ⟨w.heap.size, 1, none⟩ = some (ei t2) := (World.cell?_of_block (w := w2) hblk2).trans c1'
          have d2 : w3.cell? ⟨w.heap.size, 2, none⟩ = some vo := (World.cell?_of_block (w := w2) hblk2).trans c2'
          have hown4 : Own [w.heap.size] w3 := hown0'.frame (by intro b hb; obtain rfl : b = w.heap.size := (by simpa using hb); exact hblk2)
          have hfz3 : w3.frozen? ⟨w.heap.size, 2, none⟩ = false := hown4.frozen (by simp) _
          have hrest3 : R_T1 fr2 (w3.setCell ⟨w.heap.size, 2, none⟩ (.slice a2 (k + 1) cc2)) [vr] (flatEs (args.drop (k + 1)) ++ rest) := by
            refine R_T1k.frame hrest2 (by have := hU3.size; have := hu3.size; simp [World.setCell] at *; omega) (fun b hb => ?_)
            have hb1 := HT1.out b (HFR2.out b hb)
            rw [Below.heap_setCell _ _ _ _ (by simp; omega), hu3.block b (by simp; omega) (fun hm => by have := hvo b hm; omega), Below.heap_alloc _ _ _ (by omega)]
          have hus4 : Upd [w.heap.size] w3 (w3.setCell ⟨w.heap.size, 2, none⟩ (.slice a2 (k + 1) cc2)) := (Upd.refl _ _).setCell (by simp) _
          have hacc4 := hacc2.other R_Ek hus4 (by simp)
          rw [← HTS.out] at hacc4
          have HP := Lib.hid (And.intro hrest3 (And.intro hacc4 (And.intro (hU3.setCell (p := ⟨w.heap.size, 2, none⟩) (Or.inl (Nat.le_refl _)) (.slice a2 (k + 1) cc2)) (hown4.setCell ⟨w.heap.size, 2, none⟩ (.slice a2 (k + 1) cc2)))))
          clear hrest3 hus4 hacc4 hown4 hblk hblk2 hne hvo hu3 hU3 hg3 ht3 hown3 hacc2 hou hou2 hrows hnew hrest2 c0' c1' c2' hown0' hu2 hU2 hfz HTS
          go_wp2
          go_roundw
          case rel =>
            refine ⟨k + 1, .slice a2 (k + 1) cc2, fr2, by omega, by go_num, HP.out.2.2.1, ?_, ?_, ?_, HP.out.2.2.2, HP.out.2.1, HP.out.1, HFR2.out⟩
            · exact (World.cell?_setCell_other _ _ _ _ (by simp)).trans d0
            · exact (World.cell?_setCell_other _ _ _ _ (by simp)).trans d1
            · exact World.cell?_setCell_same _ _ _ d2
          case measure => simp [intOf]; omega
        · have hkm : k = args.length := by omega
          subst hkm
          have hmk : ¬ args.length < m := by rw [HM.out]; omega
          rw [List.drop_length] at hrest
          rw [List.take_length] at hacc
          have hsz0 : w.heap.size < wr.heap.size := World.block_lt_of_cell? wr _ c0
          obtain ⟨fa, g1, g2, g3⟩ := hacc.new
          obtain ⟨vo', us', fb', fps', hv', h1', h2', h3', h4'⟩ := g1
          have HN := Lib.hid (show New R_E w wr (.pointer (some ⟨w.heap.size, 0, none⟩)) (.mk (t1, t2) args) from
            ⟨w.heap.size :: fa, R_E_mk c0 c1 c2 ⟨vo', us', fb', fps', hv', h1', h2', h3', h4'⟩, ⟨by rw [List.nodup_cons]; exact ⟨fun hm => by have := g3 _ hm; simp at this; omega, g2.1⟩, by
              intro b hb
              rcases List.mem_cons.1 hb with rfl | hb
              · exact hown0.2 _ (by simp)
              · exact g2.2 b hb⟩, by
              intro b hb
              rcases List.mem_cons.1 hb with rfl | hb
              · exact Nat.le_refl _
              · have := g3 b hb; simp at this; omega⟩)
          have HFE := Lib.hid (fun b hb => HFS.out b (HFR.out b hb) : ∀ b ∈ fr, b ∈ fp)
          clear hacc g2 g3 h1' h4' c0 c1 c2 hown0 HFR
          go_wp2_with fail
          go_ret2
          exact ⟨⟨_, _, fr, rfl, HN.out, by simpa [flatEs] using hrest, HFE.out⟩, hU⟩

end Go.Proofs.YtpnokhhbakiiiaaDoor

/-
  OperandsOf, both sides.
-/
namespace Go.Proofs.YtpnokhhbakiiiaaDoor
open Go.RowKit

noncomputable def treeOf (e : List Tm) (h : eOk e = true) : Ex := Classical.choose (tree_of_ok h)
theorem treeOf_ok (e : List Tm) (h : eOk e = true) : okE (treeOf e h) = true ∧ flatE (treeOf e h) = e := Classical.choose_spec (tree_of_ok h)
theorem eOk_len {e : List Tm} (h : eOk e = true) : 1 ≤ e.length ∧ e.length ≤ 60 := by have := isE_len h; omega

set_option maxHeartbeats 400000 in
theorem treeE (x : Ex) (w : World) (v : Value) (fp : List Nat) (hok : okE x = true) (hl : (flatE x).length ≤ 100) (hR : R_T1 fp w [v] (flatE x)) :
    Calls Tryd.prog 18 #[v] w fun e w' => (∃ v', e = .returned v' ∧ New R_E w w' v' x) ∧ Upd [] w w' := by
  have S2 := treeFrom _ x [] w v fp (Nat.le_refl _) hok hl (by simpa using hR)
  obtain ⟨a, cap, rfl, g1, g2, -⟩ := slF2_open hR
  go_enter Tryd.func18, Tryd.ntmps18
  go_wp2_with fail
  refine S2.mono ?_
  rintro e w1 ⟨⟨v1, vr, fr, rfl, hn, -, -⟩, hu⟩
  go_wp2_with fail
  go_ret
  exact ⟨⟨_, rfl, hn⟩, hu⟩

end Go.Proofs.YtpnokhhbakiiiaaDoor

/-
  Postfix form: the stack of trees, plainly.
-/
namespace Go.Proofs.YtpnokhhbakiiiaaDoor

mutual
theorem run_tree (nv : Int) : ∀ (x : Ex) (rest : List Tm) (n : Nat), okE x = true → (flatE x).all (fun t => tOk t nv) = true → run nv (flatE x ++ rest) ((n + 1 : Nat) : Int) = run nv rest n
  | .mk t args, rest, n, h, ha => by
    simp only [okE, Bool.and_eq_true, decide_eq_true_eq] at h
    simp only [flatE, List.all_cons, Bool.and_eq_true] at ha
    rw [flatE, List.cons_append, run, if_neg (by omega), if_pos ha.1, show (((n + 1 : Nat) : Int) + (arity t - 1)) = ((n + args.length : Nat) : Int) from by omega]
    exact run_trees nv args rest n h.2 ha.2
theorem run_trees (nv : Int) : ∀ (xs : List Ex) (rest : List Tm) (n : Nat), okEs xs = true → (flatEs xs).all (fun t => tOk t nv) = true → run nv (flatEs xs ++ rest) ((n + xs.length : Nat) : Int) = run nv rest n
  | [], rest, n, _, _ => by simp [flatEs]
  | x :: xs, rest, n, h, ha => by
    simp only [okEs, Bool.and_eq_true] at h
    simp only [flatEs, List.all_append, Bool.and_eq_true] at ha
    rw [flatEs, List.append_assoc, List.length_cons, show n + (xs.length + 1) = (n + xs.length) + 1 from by omega, run_tree nv x _ _ h.1 ha.1]
    exact run_trees nv xs rest n h.2 ha.2
end

theorem run_all (nv : Int) : ∀ (ts : List Tm) (n : Int), run nv ts n ≠ none → ts.all (fun t => tOk t nv) = true
  | [], _, _ => rfl
  | t :: ts, n, h => by
    rw [run] at h
    split at h
    · exact absurd rfl h
    · split at h
      · rename_i ht
        rw [List.all_cons, ht, run_all nv ts _ h]; rfl
      · exact absurd rfl h

theorem eOk_tree (x : Ex) (h : okE x = true) : eOk (flatE x) = (decide ((flatE x).length ≤ 60) && (flatE x).all (fun t => tOk t 29)) := by
  unfold eOk isE
  cases ha : (flatE x).all (fun t => tOk t 29)
  · have : (run 29 (flatE x) 1 == some 0) = false := by
      cases hr : run 29 (flatE x) 1 with
      | none => rfl
      | some m => have := run_all 29 (flatE x) 1 (by rw [hr]; simp); rw [this] at ha; cases ha
    rw [this]; simp
  · have := run_tree 29 x [] 0 h ha
    simp only [List.append_nil, run] at this
    rw [show ((0 + 1 : Nat) : Int) = 1 from rfl] at this
    rw [this]
    simp only [Int.natCast_zero, beq_self_eq_true, Bool.and_true]
    rw [decide_eq_decide]; omega

end Go.Proofs.YtpnokhhbakiiiaaDoor

/-
  Values of trees, and folding, plainly.
-/
namespace Go.Proofs.YtpnokhhbakiiiaaDoor

/-- a tree with valid terms for a number of variables. -/
def goodE (nv : Int) (x : Ex) : Bool := okE x && (flatE x).all (fun t => tOk t nv)
def goodEs (nv : Int) (xs : List Ex) : Bool := okEs xs && (flatEs xs).all (fun t => tOk t nv)

theorem goodEs_cons (nv : Int) (x : Ex) (xs : List Ex) : goodEs nv (x :: xs) = (goodE nv x && goodEs nv xs) := by
  simp only [goodEs, goodE, okEs, flatEs, List.all_append]
  cases okE x <;> cases okEs xs <;> simp
theorem goodE_mk (nv : Int) (t : Tm) (args : List Ex) : goodE nv (.mk t args) = (decide ((args.length : Int) = arity t) && tOk t nv && goodEs nv args) := by
  simp only [goodE, goodEs, okE, flatE, List.all_cons]
  cases decide ((args.length : Int) = arity t) <;> cases tOk t nv <;> cases okEs args <;> simp

theorem tOk_kind {t : Tm} {nv : Int} (h : tOk t nv = true) : t.1 = 0 ∨ t.1 = 1 ∨ t.1 = 2 ∨ t.1 = 3 := by
  unfold tOk at h
  repeat' split at h
  all_goals first | omega | cases h

theorem eOk_good {e : List Tm} (h : eOk e = true) (x : Ex) (hok : okE x = true) (hfl : flatE x = e) : goodE 29 x = true := by
  have ha : (flatE x).all (fun t => tOk t 29) = true := by
    rw [hfl]
    unfold eOk isE at h
    rw [Bool.and_eq_true] at h
    exact run_all 29 e 1 (by have := h.2; intro hh; rw [hh] at this; simp at this)
  unfold goodE; rw [hok, ha]; rfl

end Go.Proofs.YtpnokhhbakiiiaaDoor

/-
  Values of operations and of trees: what the calls return.
-/
namespace Go.Proofs.YtpnokhhbakiiiaaDoor
open Go.RowKit

end Go.Proofs.YtpnokhhbakiiiaaDoor

/-
  More of the library: parts of slices, append behind a full slice expression, rows of a stack that is cut.
-/
namespace Go.Proofs.YtpnokhhbakiiiaaDoor
open Go.RowKit

theorem addr_add (b off j : Nat) : (⟨b, off, none⟩ : Addr).add j = ⟨b, off + j, none⟩ := by simp only [Addr.add]; split <;> simp_all

section
variable {P : Program} (w : World)

end

theorem ownsRow_take {w : World} {base : Nat} {e : TypeId} {size g n cap : Nat} {xs : List Value} (h : w.ownsRow base e size (.slice (some ⟨g, 0, none⟩) n cap) n xs) (m : Nat) (hm : m ≤ n) :
    w.ownsRow base e size (.slice (some ⟨g, 0, none⟩) m cap) m (xs.take (m * size)) := by
  have hle : m * size ≤ n * size := Nat.mul_le_mul_right _ hm
  refine ⟨by rw [List.length_take, h.1]; omega, ?_⟩
  rcases h.2 with ⟨h0, -⟩ | ⟨g', cap', cur, hv, h1, h2, h3, h4, h5, h6⟩
  · cases h0
  · cases hv
    exact Or.inr ⟨g, cap, cur, rfl, h1, h2, by omega, h4, h5, by rw [← h6, List.take_take, Nat.min_eq_left hle]⟩

theorem Rows.take {α : Type} {R : Rp α} {base : Nat} {ob : List Nat} {w : World} {us : List Value} {xs : List α} (h : Rows R base ob w us xs) (m : Nat) : Rows R base ob w (us.take m) (xs.take m) := by
  obtain ⟨fps, h1, h2, h3, h4, h5⟩ := h
  have hs : (fps.take m).flatten.Sublist fps.flatten := by
    conv => rhs; rw [← List.take_append_drop m fps, List.flatten_append]
    exact List.sublist_append_left _ _
  refine ⟨fps.take m, by simp [h1], by simp [h2], ⟨h3.1.sublist hs, fun b hb => h3.2 b (hs.subset hb)⟩, fun b hb => h4 b (hs.subset hb), fun i hi u f hu hf => ?_⟩
  simp at hi
  rw [List.getElem?_take, if_pos (by omega)] at hu hf
  simpa using h5 i (by omega) u f hu hf

theorem Acc.take {α : Type} {R : Rp α} {w0 w : World} {e : TypeId} {g n cap : Nat} {xs : List α} (h : Acc R w0 e w (.slice (some ⟨g, 0, none⟩) n cap) xs) (m : Nat) (hm : m ≤ xs.length) :
    n = xs.length ∧ Acc R w0 e w (.slice (some ⟨g, 0, none⟩) m cap) (xs.take m) := by
  obtain ⟨us, h1, h2⟩ := h
  have hn : n = xs.length := by
    rcases h1.2 with ⟨h0, -⟩ | ⟨g', cap', cur, hv, -⟩
    · cases h0
    · cases hv; rfl
  subst hn
  refine ⟨rfl, us.take m, ?_, ?_⟩
  · have := ownsRow_take h1 m hm
    rw [Nat.mul_one] at this
    rw [List.length_take, Nat.min_eq_left hm]; exact this
  · simpa [Value.ownBlock] using h2.take m


/-- a slice that is not empty, as the source of an append. -/
theorem slF_src {α : Type} {n : Nat} {enc : α → List Value} {fp : List Nat} {w : World} {v : Value} {xs : List α} (h : slF n enc fp w [v] xs) (h0 : 0 < xs.length) :
    ∃ b off cap, v = .slice (some ⟨b, off, none⟩) xs.length cap ∧ xs.length ≤ cap ∧ cap ≤ maxLen ∧ (xs.flatMap enc).length = xs.length * n ∧ ∀ j u, (xs.flatMap enc)[j]? = some u → w.cell? ((⟨b, off, none⟩ : Addr).add j) = some u := by
  obtain ⟨v', hv, a, cap, rfl, h1, h2, h3, h4⟩ := h
  cases hv
  rcases h4 with ⟨h0', -⟩ | ⟨b, off, rfl, -, -, hc⟩
  · omega
  · exact ⟨b, off, cap, rfl, h1, h2, h3, fun j u hu => by rw [addr_add]; exact hc j u hu⟩

theorem Acc.cap {α : Type} {R : Rp α} {w0 w : World} {e : TypeId} {g n cap : Nat} {xs : List α} (h : Acc R w0 e w (.slice (some ⟨g, 0, none⟩) n cap) xs) :
    n = xs.length ∧ n ≤ cap ∧ cap ≤ maxLen := by
  obtain ⟨us, h1, h2⟩ := h
  generalize hx : xs.length = m at h1
  rcases h1.2 with ⟨h0, -⟩ | ⟨g', cap', cur, hv, -, -, h3, h4, -⟩
  · cases h0
  · cases hv; exact ⟨rfl, h3, h4⟩


/-- A slice of one-cell elements that a call collects by append; the elements' memory may be older, its blocks are of G. -/
def Got {α : Type} (R : Rp α) (base : Nat) (G : Nat → Prop) (e : TypeId) (w : World) (v : Value) (xs : List α) : Prop :=
  ∃ us fps, w.ownsRow base e 1 v xs.length us ∧ List.length fps = xs.length ∧ (∀ b ∈ List.flatten fps, v.ownBlock ≠ some b ∧ G b) ∧
    ∀ i (h : i < xs.length) u (f : List Nat), us[i]? = some u → fps[i]? = some f → R f w [u] xs[i]

namespace Got
variable {α : Type} {R : Rp α} {base : Nat} {G : Nat → Prop} {e : TypeId} {w w1 w2 : World} {v : Value} {xs : List α}

theorem nil (R : Rp α) (base : Nat) (G : Nat → Prop) (e : TypeId) (w : World) : Got R base G e w (.slice none 0 0) [] :=
  ⟨[], [], World.ownsRow_nil _ _ _ _, rfl, by simp, by simp⟩

theorem own (h : Got R base G e w v xs) : ∃ us, w.ownsRow base e 1 v xs.length us := by obtain ⟨us, _, h, _⟩ := h; exact ⟨us, h⟩

theorem upd (K : Kept R) (h : Got R base G e w v xs) {f : List Nat} (hu : Upd f w w1) (hf : ∀ b ∈ f, b < base ∧ ¬ G b) : Got R base G e w1 v xs := by
  obtain ⟨us, fps, h1, h2, h3, h4⟩ := h
  refine ⟨us, fps, ?_, h2, h3, fun i hi u g hu' hg => K.upd (h4 i hi u g hu' hg) hu fun b hb hm => (hf b hm).2 (h3 b (List.mem_flatten.2 ⟨_, List.mem_of_getElem? hg, hb⟩)).2⟩
  obtain ⟨g1, g2⟩ := h1
  refine ⟨g1, ?_⟩
  rcases g2 with g2 | ⟨g, cap, cur, hv, hb, hh, q1, q2, q3, q4⟩
  · exact Or.inl g2
  · refine Or.inr ⟨g, cap, cur, hv, hb, ?_, q1, q2, q3, q4⟩
    rw [hu.block g (Array.getElem?_eq_some_iff.1 hh).1 (fun hm => by have := (hf g hm).1; omega)]; exact hh

theorem slP (h : Got R base G e w v xs) : ∃ fp, slP R fp w [v] xs ∧ ∀ b ∈ fp, base ≤ b ∨ G b := by
  obtain ⟨us, fps, h1, h2, h3, h4⟩ := h
  obtain ⟨fb, g1, g2, g3, g4⟩ := Flat.ofOwns h1
  refine ⟨fb ++ fps.flatten, ⟨v, us, fb, fps, rfl, g1, h2, rfl, h4⟩, fun b hb => ?_⟩
  rcases List.mem_append.1 hb with hb | hb
  · exact Or.inl (g3 b hb)
  · exact Or.inr (h3 b hb).2

/-- behind an append of one element u, boxed in a new block. -/
theorem push (K : Kept R) (h : Got R base G e w v xs) {us : List Value} (hus : w.ownsRow base e 1 v xs.length us) {u : Value} {x : α} {g : List Nat} (hx : R g w [u] x) (hg : ∀ b ∈ g, v.ownBlock ≠ some b ∧ G b) (o : Obj) {v2 : Value}
    (h2 : w2.ownsRow base e 1 v2 (xs.length + 1) (us ++ [u])) (hgr : (w.alloc o).grownBy w2 v.ownBlock)
    (ht : ∀ b, v2.ownBlock = some b → v.ownBlock = some b ∨ (w.alloc o).heap.size ≤ b) : Got R base G e w2 v2 (xs ++ [x]) := by
  obtain ⟨us', fps, h1, q2, q3, q4⟩ := h
  have hu3 : Upd v.ownBlock.toList w w2 := ((Upd.refl _ _).alloc o).grown hgr (fun k hk => Or.inr (by simp [hk]))
  have hsame : us' = us := by
    rcases h1.2 with ⟨hv, h0⟩ | ⟨b, cap, cur, hv, hb, hh, r1, r2, r3, r4⟩
    · have e1 : us' = [] := List.eq_nil_of_length_eq_zero (by have := h1.1; rw [h0] at this; simpa using this)
      have e2 : us = [] := List.eq_nil_of_length_eq_zero (by have := hus.1; rw [h0] at this; simpa using this)
      rw [e1, e2]
    · subst hv
      rcases hus.2 with ⟨hv', _⟩ | ⟨b', cap', cur', hv', hb', hh', r1', r2', r3', r4'⟩
      · cases hv'
      · simp only [Value.slice.injEq, Option.some.injEq, Addr.mk.injEq, and_true] at hv'
        obtain ⟨rfl, _, rfl⟩ := hv'
        rw [hh] at hh'
        cases hh'
        rw [← r4, ← r4']
  subst hsame
  have hul : us'.length = xs.length := by rw [h1.1, Nat.mul_one]
  have hlt : ∀ b ∈ fps.flatten, b < w.heap.size := by
    intro b hb
    obtain ⟨f, hf, hbf⟩ := List.mem_flatten.1 hb
    obtain ⟨i, hi, rfl⟩ := List.mem_iff_getElem.1 hf
    exact K.lt (q4 i (by omega) us'[i] fps[i] (by simp) (by simp)) b hbf
  have hnot : ∀ b, v.ownBlock ≠ some b → b < w.heap.size → v2.ownBlock ≠ some b := by
    intro b hb hl he
    rcases ht b he with h | h
    · exact hb h
    · simp at h; omega
  refine ⟨us' ++ [u], fps ++ [g], by simpa using h2, by simp [q2], ?_, ?_⟩
  · intro b hb
    rw [List.flatten_append] at hb
    rcases List.mem_append.1 hb with hb | hb
    · exact ⟨hnot b (q3 b hb).1 (hlt b hb), (q3 b hb).2⟩
    · have hb' : b ∈ g := by simpa using hb
      exact ⟨hnot b (hg b hb').1 (K.lt hx b hb'), (hg b hb').2⟩
  · intro i hi u' f hu' hf'
    by_cases hlt' : i < xs.length
    · rw [List.getElem?_append_left (by omega)] at hu' hf'
      rw [List.getElem_append_left hlt']
      exact K.upd (q4 i hlt' u' f hu' hf') hu3 (fun b hb hm => (q3 b (List.mem_flatten.2 ⟨_, List.mem_of_getElem? hf', hb⟩)).1 (by simpa using hm))
    · have ei : i = xs.length := by simp at hi; omega
      subst ei
      rw [List.getElem?_append_right (by omega)] at hu' hf'
      rw [hul, Nat.sub_self] at hu'
      rw [q2, Nat.sub_self] at hf'
      simp at hu' hf'
      subst hu' hf'
      simpa using K.upd hx hu3 (fun b hb hm => (hg b hb).1 (by simpa using hm))
end Got

theorem own_new (w : World) (cs : Array Value) (T : TypeId) : Own [w.heap.size] (w.alloc (.cells cs T)) := by
  refine ⟨by simp, fun b hb => ?_⟩
  obtain rfl : b = w.heap.size := by simpa using hb
  exact ⟨_, _, heap_alloc_new w _⟩

theorem cell_new (w : World) (cs : Array Value) (T : TypeId) (B : Nat) (hB : w.heap.size = B) (j : Nat) (u : Value) (h : cs[j]? = some u) : (w.alloc (.cells cs T)).cell? ⟨B, j, none⟩ = some u := by
  subst hB
  rw [cell_of_row _ _ _ _ _ _ (heap_alloc_new w _)]; exact h

end Go.Proofs.YtpnokhhbakiiiaaDoor

/-
  Folding, the program's side.
-/
namespace Go.Proofs.YtpnokhhbakiiiaaDoor
open Go.RowKit

end Go.Proofs.YtpnokhhbakiiiaaDoor

/-
  Folding, the reference's side.
-/
namespace Go.Proofs.YtpnokhhbakiiiaaDoor
open Go.RowKit

theorem oneCells (ts : List Tm) : ∀ u ∈ ts.flatMap encT, u.oneCell' = true := by
  intro u hu
  obtain ⟨t, -, ht⟩ := List.mem_flatMap.1 hu
  simp at ht
  rcases ht with rfl | rfl <;> rfl

end Go.Proofs.YtpnokhhbakiiiaaDoor

/-
  A number in decimal: the reference's digits.
-/
namespace Go.Proofs.YtpnokhhbakiiiaaDoor
open Go.RowKit

abbrev es (l : List UInt8) : Value := .string ⟨l.toArray⟩
end Go.Proofs.YtpnokhhbakiiiaaDoor

/-
  The text of an expression, plainly.
-/
namespace Go.Proofs.YtpnokhhbakiiiaaDoor
open Go.RowKit

def opT (op : Int) : List UInt8 := [[43], [45], [42], [61], [35], [60], [60, 61], [38], [124]].getD op.toNat []
def lvl (op : Int) : Int := [4, 4, 5, 3, 3, 3, 3, 2, 1].getD op.toNat 0
def lvE : Ex → Int | .mk t _ => if t.1 = 2 then lvl t.2 else 9
def isOp : Ex → Bool | .mk t _ => t.1 == 2
def par (b : Bool) (l : List UInt8) : List UInt8 := if b then ([40] ++ l) ++ [41] else l
mutual
def textE : Ex → List UInt8
  | .mk t args => if t.1 = 0 then Lib.itoa t.2 else if t.1 = 1 then [118] ++ Lib.itoa t.2 else if t.1 = 3 then [33] ++ par ((args.map isOp).getD 0 false) ((textEs args).getD 0 [])
    else (par (decide ((args.map lvE).getD 0 9 < lvl t.2)) ((textEs args).getD 0 []) ++ opT t.2) ++ par (decide ((args.map lvE).getD 1 9 ≤ lvl t.2)) ((textEs args).getD 1 [])
def textEs : List Ex → List (List UInt8)
  | [] => []
  | x :: xs => textE x :: textEs xs
end

theorem opT_len (op : Int) : (opT op).length ≤ 2 := by
  unfold opT
  rw [List.getD_eq_getElem?_getD]
  generalize op.toNat = n
  match n with
  | 0 | 1 | 2 | 3 | 4 | 5 | 6 | 7 | 8 => simp
  | n + 9 => simp
theorem par_len (b : Bool) (l : List UInt8) : (par b l).length ≤ l.length + 2 := by
  cases b <;> simp [par]
theorem itoa_small {n : Int} (h0 : 0 ≤ n) (h1 : n ≤ 63) : (Lib.itoa n).length ≤ 2 := by
  obtain ⟨q, rfl⟩ : ∃ q : Nat, n = q := ⟨n.toNat, by omega⟩
  have : Lib.itoa (q : Int) = Lib.decDigits q := by simp [Lib.itoa]
  rw [this]
  by_cases h : q < 10
  · rw [Lib.decDigits_one h]; simp
  · rw [Lib.decDigits_two h (by omega)]; simp

mutual
theorem textE_len : ∀ x : Ex, goodE 29 x = true → (textE x).length ≤ 7 * (flatE x).length
  | .mk t args, h => by
    rw [goodE_mk] at h
    simp only [Bool.and_eq_true, decide_eq_true_eq] at h
    obtain ⟨⟨hl, hok⟩, hg⟩ := h
    have ih := textEs_len args hg
    have hi : t.1 = 0 ∨ t.1 = 1 → (Lib.itoa t.2).length ≤ 2 := by
      rintro (h | h)
      · simp [tOk, h] at hok; have := inB_true hok; exact itoa_small this.1 this.2
      · simp [tOk, h] at hok; have := inB_true hok; exact itoa_small this.1 (by omega)
    rw [textE, flatE, List.length_cons]
    split
    · rename_i h0; have := hi (Or.inl h0); omega
    · split
      · rename_i h1; have := hi (Or.inr h1); simp only [List.length_append, List.length_cons, List.length_nil]; omega
      · split
        · have := par_len ((args.map isOp).getD 0 false) ((textEs args).getD 0 [])
          simp only [List.length_append, List.length_cons, List.length_nil]
          have := ih.1; omega
        · have h1 := par_len (decide ((args.map lvE).getD 0 9 < lvl t.2)) ((textEs args).getD 0 [])
          have h2 := par_len (decide ((args.map lvE).getD 1 9 ≤ lvl t.2)) ((textEs args).getD 1 [])
          have h3 := opT_len t.2
          simp only [List.length_append]
          have := ih.2; omega
theorem textEs_len : ∀ xs : List Ex, goodEs 29 xs = true → ((textEs xs).getD 0 []).length ≤ 7 * (flatEs xs).length ∧ ((textEs xs).getD 0 []).length + ((textEs xs).getD 1 []).length ≤ 7 * (flatEs xs).length
  | [], _ => by simp [textEs, flatEs]
  | [x], h => by
    rw [goodEs_cons, Bool.and_eq_true] at h
    have := textE_len x h.1
    simp [textEs, flatEs]; omega
  | x :: y :: xs, h => by
    rw [goodEs_cons, goodEs_cons, Bool.and_eq_true, Bool.and_eq_true] at h
    have h1 := textE_len x h.1
    have h2 := textE_len y h.2.1
    simp [textEs, flatEs]; omega
end

end Go.Proofs.YtpnokhhbakiiiaaDoor

/-
  Expressions parsed: the parser by levels and the machine with waiting operators give the same terms; plain.
-/
namespace Go.Proofs.YtpnokhhbakiiiaaDoor
open Go.RowKit

/-- tokens. -/
inductive Tk where
  | op (o : Nat)
  | bang
  | lpar
  | rpar
  | num (n : Int)
  | var (k : Int)
deriving DecidableEq

/-- the level of the operator that is next, 0 if none is. -/
def nlv : List Tk → Int
  | .op o :: _ => lvl o
  | _ => 0
theorem lvl_bd (o : Nat) (h : o < 9) : 1 ≤ lvl o ∧ lvl o ≤ 5 := by
  rcases (show o = 0 ∨ o = 1 ∨ o = 2 ∨ o = 3 ∨ o = 4 ∨ o = 5 ∨ o = 6 ∨ o = 7 ∨ o = 8 by omega) with h | h | h | h | h | h | h | h | h <;> subst h <;> decide

/-- what is parsed: an operand, an expression of operators with at least a level, the rest of one behind an operand. -/
inductive Md where
  | opd
  | exp (l : Int)
  | lop (l : Int) (x : Ex)

/-- parsing by levels. -/
inductive Ps : Md → List Tk → Ex → List Tk → Prop
  | num (n : Int) (r : List Tk) : Ps .opd (.num n :: r) (.mk (0, n) []) r
  | var (k : Int) (r : List Tk) : Ps .opd (.var k :: r) (.mk (1, k) []) r
  | bang {r r' : List Tk} {x : Ex} : Ps .opd r x r' → Ps .opd (.bang :: r) (.mk (3, 0) [x]) r'
  | par {r r' : List Tk} {x : Ex} : Ps (.exp 1) r x (.rpar :: r') → Ps .opd (.lpar :: r) x r'
  | exp {l : Int} {r r1 r2 : List Tk} {x y : Ex} : Ps .opd r x r1 → Ps (.lop l x) r1 y r2 → Ps (.exp l) r y r2
  | stop {l : Int} {x : Ex} {r : List Tk} : nlv r < l → Ps (.lop l x) r x r
  | more {l : Int} {x y z : Ex} {o : Nat} {r r1 r2 : List Tk} : o < 9 → l ≤ lvl o → Ps (.exp (lvl o + 1)) r y r1 → Ps (.lop l (.mk (2, (o : Int)) [x, y])) r1 z r2 → Ps (.lop l x) (.op o :: r) z r2

/-- the tokens have no error: an operand or an operator is due, so many parentheses are open. -/
def okT : Bool → Nat → List Tk → Bool
  | true, _, [] => false
  | false, d, [] => d == 0
  | true, d, .bang :: r => okT true d r
  | true, d, .lpar :: r => okT true (d + 1) r
  | true, d, .num _ :: r => okT false d r
  | true, d, .var _ :: r => okT false d r
  | true, _, .op _ :: _ => false
  | true, _, .rpar :: _ => false
  | false, d, .op o :: r => decide (o < 9) && okT true d r
  | false, d, .rpar :: r => decide (0 < d) && okT false (d - 1) r
  | false, _, .bang :: _ => false
  | false, _, .lpar :: _ => false
  | false, _, .num _ :: _ => false
  | false, _, .var _ :: _ => false

theorem ps_total (N : Nat) : ∀ (toks : List Tk) (d : Nat), toks.length ≤ N →
    (okT true d toks = true → ∃ x r, Ps .opd toks x r ∧ okT false d r = true ∧ r.length < toks.length) ∧
    (∀ (l : Int) (x : Ex), okT false d toks = true → 1 ≤ l → ∃ z r, Ps (.lop l x) toks z r ∧ okT false d r = true ∧ nlv r < l ∧ r.length ≤ toks.length) := by
  induction N with
  | zero =>
    intro toks d hl
    have : toks = [] := List.eq_nil_of_length_eq_zero (by omega)
    subst this
    refine ⟨fun h => by simp [okT] at h, fun l x h h1 => ⟨x, [], Ps.stop (by show (0 : Int) < l; omega), h, by show (0 : Int) < l; omega, Nat.le_refl _⟩⟩
  | succ N ih =>
    intro toks d hl
    refine ⟨fun h => ?_, fun l x h h1 => ?_⟩
    · match toks, hl, h with
      | [], _, h => simp [okT] at h
      | .op o :: r, _, h => simp [okT] at h
      | .rpar :: r, _, h => simp [okT] at h
      | .num n :: r, _, h => exact ⟨_, r, Ps.num n r, by simpa [okT] using h, by simp⟩
      | .var n :: r, _, h => exact ⟨_, r, Ps.var n r, by simpa [okT] using h, by simp⟩
      | .bang :: r, hl, h =>
        obtain ⟨x, r', h2, h3, h4⟩ := (ih r d (by simpa using hl)).1 (by simpa [okT] using h)
        exact ⟨_, r', Ps.bang h2, h3, by simp; omega⟩
      | .lpar :: r, hl, h =>
        obtain ⟨x, r1, h2, h3, h4⟩ := (ih r (d + 1) (by simpa using hl)).1 (by simpa [okT] using h)
        simp only [List.length_cons] at hl
        obtain ⟨z, r2, k2, k3, k4, k5⟩ := (ih r1 (d + 1) (by omega)).2 1 x h3 (by omega)
        match r2, k2, k3, k4, k5 with
        | [], _, k3, _, _ => simp [okT] at k3
        | .op o :: r', _, k3, k4, _ =>
          simp only [okT, Bool.and_eq_true, decide_eq_true_eq] at k3
          have := lvl_bd o k3.1
          have k4 : lvl o < 1 := k4
          omega
        | .rpar :: r', k2, k3, _, k5 =>
          simp only [okT, Bool.and_eq_true, decide_eq_true_eq, Nat.add_sub_cancel] at k3
          simp only [List.length_cons] at k5
          exact ⟨z, r', Ps.par (Ps.exp h2 k2), k3.2, by simp only [List.length_cons]; omega⟩
        | .bang :: r', _, k3, _, _ => simp [okT] at k3
        | .lpar :: r', _, k3, _, _ => simp [okT] at k3
        | .num _ :: r', _, k3, _, _ => simp [okT] at k3
        | .var _ :: r', _, k3, _, _ => simp [okT] at k3
    · by_cases hn : nlv toks < l
      · exact ⟨x, toks, Ps.stop hn, h, hn, Nat.le_refl _⟩
      · match toks, hl, h, hn with
        | [], _, _, hn => exact absurd (show (0 : Int) < l by omega) hn
        | .rpar :: r, _, _, hn => exact absurd (show (0 : Int) < l by omega) hn
        | .bang :: r, _, h, _ => simp [okT] at h
        | .lpar :: r, _, h, _ => simp [okT] at h
        | .num _ :: r, _, h, _ => simp [okT] at h
        | .var _ :: r, _, h, _ => simp [okT] at h
        | .op o :: r, hl, h, hn =>
          have hn : ¬ (lvl o < l) := hn
          simp only [okT, Bool.and_eq_true, decide_eq_true_eq] at h
          simp only [List.length_cons] at hl
          have hb := lvl_bd o h.1
          obtain ⟨x1, r1, a1, a2, a3⟩ := (ih r d (by omega)).1 h.2
          obtain ⟨y, r2, b1, b2, b3, b4⟩ := (ih r1 d (by omega)).2 (lvl o + 1) x1 a2 (by omega)
          obtain ⟨z, r3, c1, c2, c3, c4⟩ := (ih r2 d (by omega)).2 l (.mk (2, (o : Int)) [x, y]) b2 h1
          exact ⟨z, r3, Ps.more h.1 (by omega) (Ps.exp a1 b1) c1, c2, c3, by simp only [List.length_cons]; omega⟩
/-- tokens without an error are parsed. -/
theorem ps_all {toks : List Tk} (h : okT true 0 toks = true) : ∃ x, Ps (.exp 1) toks x [] := by
  obtain ⟨x, r, h1, h2, -⟩ := (ps_total toks.length toks 0 (Nat.le_refl _)).1 h
  obtain ⟨z, r2, k1, k2, k3, -⟩ := (ps_total r.length r 0 (Nat.le_refl _)).2 1 x h2 (by omega)
  match r2, k1, k2, k3 with
  | [], k1, _, _ => exact ⟨z, Ps.exp h1 k1⟩
  | .op o :: r', _, k2, k3 =>
    simp only [okT, Bool.and_eq_true, decide_eq_true_eq] at k2
    have := lvl_bd o k2.1
    have k3 : lvl o < 1 := k3
    omega
  | .rpar :: r', _, k2, _ => simp [okT] at k2
  | .bang :: r', _, k2, _ => simp [okT] at k2
  | .lpar :: r', _, k2, _ => simp [okT] at k2
  | .num _ :: r', _, k2, _ => simp [okT] at k2
  | .var _ :: r', _, k2, _ => simp [okT] at k2
theorem ps_next {m : Md} {toks r : List Tk} {x : Ex} (h : Ps m toks x r) : (∀ l, m = .exp l → nlv r < l) ∧ ∀ l y, m = .lop l y → nlv r < l := by
  induction h with
  | num => exact ⟨fun l h => (by cases h), fun l y h => by cases h⟩
  | var => exact ⟨fun l h => (by cases h), fun l y h => by cases h⟩
  | bang => exact ⟨fun l h => (by cases h), fun l y h => by cases h⟩
  | par => exact ⟨fun l h => (by cases h), fun l y h => by cases h⟩
  | exp _ _ _ ih => exact ⟨fun l h => by cases h; exact ih.2 _ _ rfl, fun l y h => by cases h⟩
  | stop h1 => exact ⟨fun l h => (by cases h), fun l y h => by cases h; exact h1⟩
  | more _ _ _ _ _ ih => exact ⟨fun l h => (by cases h), fun l y h => by cases h; exact ih.2 _ _ rfl⟩
theorem ps_len {m : Md} {toks r : List Tk} {x : Ex} (h : Ps m toks x r) : r.length ≤ toks.length ∧ (m = .opd → r.length < toks.length) := by
  induction h with
  | num => exact ⟨by simp, fun _ => by simp⟩
  | var => exact ⟨by simp, fun _ => by simp⟩
  | bang _ ih => simp only [List.length_cons]; exact ⟨by omega, fun _ => by omega⟩
  | par _ ih => simp only [List.length_cons] at ih ⊢; exact ⟨by omega, fun _ => by omega⟩
  | exp _ _ ih1 ih2 => exact ⟨by omega, fun h => by cases h⟩
  | stop _ => exact ⟨Nat.le_refl _, fun h => by cases h⟩
  | more _ _ _ _ ih1 ih2 => simp only [List.length_cons]; exact ⟨by omega, fun h => by cases h⟩

/-- the machine: parts (the last one first) and waiting operators (9 a negation, 10 a parenthesis). -/
def apF (P : List (List Tm)) (o : Nat) : List (List Tm) :=
  if o = 9 then (match P with | x :: P => ((3, 0) :: x) :: P | [] => []) else (match P with | y :: x :: P => (((2, (o : Int)) :: x) ++ y) :: P | P => P)
def redF (P : List (List Tm)) (V : List Nat) : List (List Tm) := V.foldl apF P
def popF (L : Int) : List (List Tm) → List Nat → List (List Tm) × List Nat
  | P, [] => (P, [])
  | P, w :: W => if w ≠ 10 ∧ (w = 9 ∨ L ≤ lvl w) then popF L (apF P w) W else (P, w :: W)
def closeF : List (List Tm) → List Nat → List (List Tm) × List Nat
  | P, [] => (P, [])
  | P, w :: W => if w = 10 then (P, W) else closeF (apF P w) W
def syF : Bool → List (List Tm) → List Nat → List Tk → List (List Tm)
  | true, P, W, .bang :: r => syF true P (9 :: W) r
  | true, P, W, .lpar :: r => syF true P (10 :: W) r
  | true, P, W, .num n :: r => syF false ([(0, n)] :: P) W r
  | true, P, W, .var k :: r => syF false ([(1, k)] :: P) W r
  | false, P, W, .rpar :: r => syF false (closeF P W).1 (closeF P W).2 r
  | false, P, W, .op o :: r => syF true (popF (lvl o) P W).1 (o :: (popF (lvl o) P W).2) r
  | _, P, W, _ => redF P W

theorem pop_all (L : Int) : ∀ (V : List Nat) (P : List (List Tm)) (W : List Nat), (∀ v : Nat, v ∈ V → v = 9 ∨ (v < 9 ∧ L ≤ lvl v)) → popF L P (V ++ W) = popF L (redF P V) W
  | [], _, _, _ => rfl
  | v :: V, P, W, h => by
    have h1 := h v List.mem_cons_self
    show (if v ≠ 10 ∧ (v = 9 ∨ L ≤ lvl v) then popF L (apF P v) (V ++ W) else _) = _
    rw [if_pos (by rcases h1 with h | h <;> omega)]
    exact pop_all L V _ W fun u hu => h u (List.mem_cons_of_mem _ hu)
theorem close_all : ∀ (V : List Nat) (P : List (List Tm)) (W : List Nat), (∀ v : Nat, v ∈ V → v ≠ 10) → closeF P (V ++ 10 :: W) = (redF P V, W)
  | [], _, _, _ => by simp [closeF, redF]
  | v :: V, P, W, h => by
    show (if v = 10 then _ else closeF (apF P v) (V ++ 10 :: W)) = _
    rw [if_neg (h v List.mem_cons_self)]
    exact close_all V _ W fun u hu => h u (List.mem_cons_of_mem _ hu)
/-- the waiting operators stay where they are before an operator of at least a level. -/
def StopW (W : List Nat) (l : Int) : Prop := W = [] ∨ ∃ v W', W = v :: W' ∧ (v = 10 ∨ (v < 9 ∧ lvl v < l))
theorem pop_stop {L l : Int} {W : List Nat} (h : StopW W l) (hl : l ≤ L) (P : List (List Tm)) : popF L P W = (P, W) := by
  rcases h with rfl | ⟨v, W', rfl, h⟩
  · rfl
  · show (if v ≠ 10 ∧ (v = 9 ∨ L ≤ lvl v) then _ else _) = _
    rw [if_neg]
    rintro ⟨h1, h2⟩
    rcases h with h | h
    · exact h1 h
    · rcases h2 with h2 | h2 <;> omega
theorem apF_op (x y : List Tm) (P : List (List Tm)) (o : Nat) (h : o < 9) : apF (y :: x :: P) o = (((2, (o : Int)) :: x) ++ y) :: P := by
  unfold apF
  rw [if_neg (by omega)]

/-- the machine makes the terms of what is parsed. -/
theorem sy_ps {m : Md} {toks r : List Tk} {x : Ex} (h : Ps m toks x r) :
    (m = .opd → ∀ P W, ∃ P' V, syF true P W toks = syF false P' (V ++ W) r ∧ (∀ v : Nat, v ∈ V → v = 9) ∧ redF P' V = flatE x :: P) ∧
    (∀ l, m = .exp l → ∀ P W, StopW W l → ∃ P' V, syF true P W toks = syF false P' (V ++ W) r ∧ (∀ v : Nat, v ∈ V → v = 9 ∨ (v < 9 ∧ l ≤ lvl v)) ∧ redF P' V = flatE x :: P) ∧
    (∀ l y, m = .lop l y → ∀ P W P0 V0, (∀ v : Nat, v ∈ V0 → v = 9 ∨ (v < 9 ∧ l ≤ lvl v ∧ nlv toks ≤ lvl v)) → redF P0 V0 = flatE y :: P → StopW W l →
      ∃ P' V, syF false P0 (V0 ++ W) toks = syF false P' (V ++ W) r ∧ (∀ v : Nat, v ∈ V → v = 9 ∨ (v < 9 ∧ l ≤ lvl v)) ∧ redF P' V = flatE x :: P) := by
  induction h with
  | num n r =>
    refine ⟨fun _ P W => ⟨_, [], rfl, by simp, ?_⟩, fun l h => (by cases h), fun l y h => by cases h⟩
    simp [redF, flatE, flatEs]
  | var n r =>
    refine ⟨fun _ P W => ⟨_, [], rfl, by simp, ?_⟩, fun l h => (by cases h), fun l y h => by cases h⟩
    simp [redF, flatE, flatEs]
  | bang _ ih =>
    refine ⟨fun _ P W => ?_, fun l h => (by cases h), fun l y h => by cases h⟩
    obtain ⟨P', V, h1, h2, h3⟩ := ih.1 rfl P (9 :: W)
    refine ⟨P', V ++ [9], by rw [List.append_assoc]; exact h1, fun v hv => ?_, ?_⟩
    · rcases List.mem_append.1 hv with h | h
      · exact h2 v h
      · simpa using h
    · unfold redF at h3 ⊢
      rw [List.foldl_append, h3]
      simp [apF, flatE, flatEs]
  | par _ ih =>
    refine ⟨fun _ P W => ?_, fun l h => (by cases h), fun l y h => by cases h⟩
    obtain ⟨P', V, h1, h2, h3⟩ := ih.2.1 1 rfl P (10 :: W) (Or.inr ⟨10, W, rfl, Or.inl rfl⟩)
    refine ⟨flatE _ :: P, [], ?_, by simp, rfl⟩
    show syF true P (10 :: W) _ = _
    rw [h1]
    show syF false (closeF P' (V ++ 10 :: W)).1 (closeF P' (V ++ 10 :: W)).2 _ = _
    rw [close_all V P' W (fun v hv => by rcases h2 v hv with h | h <;> omega), h3]
    rfl
  | exp h1 h2 ih1 ih2 =>
    rename_i l r r1 r2 x y
    refine ⟨fun h => (by cases h), fun l' h P W hs => ?_, fun l y h => by cases h⟩
    cases h
    obtain ⟨P1, V1, a1, a2, a3⟩ := ih1.1 rfl P W
    obtain ⟨P2, V2, b1, b2, b3⟩ := ih2.2.2 l x rfl P W P1 V1 (fun v hv => Or.inl (a2 v hv)) a3 hs
    exact ⟨P2, V2, a1.trans b1, b2, b3⟩
  | stop h1 =>
    rename_i l x r
    refine ⟨fun h => (by cases h), fun l' h => (by cases h), fun l' y h P W P0 V0 hv hr hs => ?_⟩
    cases h
    exact ⟨P0, V0, rfl, fun v hv2 => by rcases hv v hv2 with h | h; exact Or.inl h; exact Or.inr ⟨h.1, h.2.1⟩, hr⟩
  | more ho hlo h1 h2 ih1 ih2 =>
    rename_i l x y z o r r1 r2
    refine ⟨fun h => (by cases h), fun l' h => (by cases h), fun l' y' h P W P0 V0 hv hr hs => ?_⟩
    cases h
    have hpop : popF (lvl o) P0 (V0 ++ W) = (flatE x :: P, W) := by
      rw [pop_all (lvl o) V0 P0 W (fun v hv2 => by
        rcases hv v hv2 with h | h
        · exact Or.inl h
        · exact Or.inr ⟨h.1, h.2.2⟩), hr, pop_stop hs hlo]
    obtain ⟨P1, V1, a1, a2, a3⟩ := ih1.2.1 (lvl o + 1) rfl (flatE x :: P) (o :: W) (Or.inr ⟨o, W, rfl, Or.inr ⟨ho, by omega⟩⟩)
    have hnx := (ps_next h1).1 _ rfl
    obtain ⟨P2, V2, b1, b2, b3⟩ := ih2.2.2 l _ rfl P W P1 (V1 ++ [o]) (fun v hv2 => by
        rcases List.mem_append.1 hv2 with h | h
        · rcases a2 v h with h | h
          · exact Or.inl h
          · exact Or.inr ⟨h.1, by omega, by omega⟩
        · have : v = o := by simpa using h
          subst this
          exact Or.inr ⟨ho, hlo, by omega⟩) (by
        unfold redF at a3 ⊢
        rw [List.foldl_append, a3]
        show apF (flatE y :: flatE x :: P) o = _
        rw [apF_op _ _ _ _ ho]
        simp [flatE, flatEs]) hs
    refine ⟨P2, V2, ?_, b2, b3⟩
    show syF true (popF (lvl o) P0 (V0 ++ W)).1 (o :: (popF (lvl o) P0 (V0 ++ W)).2) r = _
    rw [hpop]
    show syF true (flatE x :: P) (o :: W) r = _
    rw [a1, ← b1, List.append_assoc]
    rfl
/-- parsed tokens lead to one part: the terms. -/
theorem sy_all {toks : List Tk} {x : Ex} (h : Ps (.exp 1) toks x []) : syF true [] [] toks = [flatE x] := by
  obtain ⟨P', V, h1, -, h3⟩ := (sy_ps h).2.1 1 rfl [] [] (Or.inl rfl)
  rw [h1, List.append_nil]
  unfold syF
  exact h3

end Go.Proofs.YtpnokhhbakiiiaaDoor

/-
  Numbers in decimal, plainly: what is read back is what was written, and nothing else is read.
-/
namespace Go.Proofs.YtpnokhhbakiiiaaDoor

def isDig (b : UInt8) : Bool := decide (48 ≤ b.toNat ∧ b.toNat ≤ 57)
/-- the number that digits spell, behind others. -/
def valD (acc : Nat) (l : List UInt8) : Nat := l.foldl (fun a b => a * 10 + (b.toNat - 48)) acc
theorem valD_nil (acc : Nat) : valD acc [] = acc := by rw [valD, List.foldl_nil]
theorem valD_cons (acc : Nat) (b : UInt8) (r : List UInt8) : valD acc (b :: r) = valD (acc * 10 + (b.toNat - 48)) r := by rw [valD, List.foldl_cons, valD]

theorem valD_append (acc : Nat) (a b : List UInt8) : valD acc (a ++ b) = valD (valD acc a) b := by rw [valD, List.foldl_append, valD, valD]
theorem dig_nat {k : Nat} (h : k < 10) : (UInt8.ofNat (48 + k)).toNat = 48 + k := by
  rw [UInt8.toNat_ofNat', Nat.mod_eq_of_lt (by omega)]
theorem isDig_nat {k : Nat} (h : k < 10) : isDig (UInt8.ofNat (48 + k)) = true := by
  unfold isDig; rw [dig_nat h]; simp; omega

theorem valD_dec (u : Nat) : valD 0 (Lib.decDigits u) = u := by
  induction u using Nat.strongRecOn with
  | _ u ih =>
    rw [Lib.decDigits]
    split
    · rename_i h
      simp only [valD_cons, valD_nil]; rw [dig_nat h]; omega
    · rename_i h
      rw [valD_append, ih (u / 10) (by omega)]
      simp only [valD_cons, valD_nil]; rw [dig_nat (Nat.mod_lt _ (by omega))]; omega
theorem dec_digits (u : Nat) : (Lib.decDigits u).all isDig = true := by
  induction u using Nat.strongRecOn with
  | _ u ih =>
    rw [Lib.decDigits]
    split
    · rename_i h; simp only [List.all_cons, List.all_nil, Bool.and_true]; exact isDig_nat h
    · rename_i h
      rw [List.all_append, ih (u / 10) (by omega)]
      simp only [List.all_cons, List.all_nil, Bool.and_true, Bool.true_and]; exact isDig_nat (Nat.mod_lt u (by omega))
theorem dec_ne (u : Nat) : Lib.decDigits u ≠ [] := by
  intro h
  have := Lib.decDigits_length u
  rw [h] at this
  have := Lib.nDigits_pos u
  simp at *; omega
/-- no leading zero, but at 0 itself. -/
theorem dec_head (u : Nat) (h : 0 < u) : ∃ b r, Lib.decDigits u = b :: r ∧ b.toNat ≠ 48 := by
  induction u using Nat.strongRecOn with
  | _ u ih =>
    rw [Lib.decDigits]
    split
    · rename_i h1; exact ⟨_, [], rfl, by rw [dig_nat h1]; omega⟩
    · rename_i h1
      obtain ⟨b, r, e, hb⟩ := ih (u / 10) (by omega) (by omega)
      exact ⟨b, r ++ [UInt8.ofNat (48 + u % 10)], by rw [e]; rfl, hb⟩

theorem valD_ge (acc : Nat) (l : List UInt8) : acc ≤ valD acc l := by
  induction l generalizing acc with
  | nil => rw [valD_nil]; exact Nat.le_refl _
  | cons b l ih => rw [valD_cons]; have := ih (acc * 10 + (b.toNat - 48)); omega
theorem valD_lt (acc : Nat) (l : List UInt8) (h : l.all isDig = true) : valD acc l < (acc + 1) * 10 ^ l.length := by
  induction l generalizing acc with
  | nil => simp [valD_nil]
  | cons b l ih =>
    rw [List.all_cons, Bool.and_eq_true] at h
    have hb : 48 ≤ b.toNat ∧ b.toNat ≤ 57 := by have := h.1; unfold isDig at this; simpa using this
    have := ih (acc * 10 + (b.toNat - 48)) h.2
    simp only [valD_cons, List.length_cons, Nat.pow_succ]
    refine Nat.lt_of_lt_of_le this ?_
    rw [Nat.mul_comm (10 ^ l.length) 10, ← Nat.mul_assoc]
    exact Nat.mul_le_mul_right _ (by omega)

/-- digits behind a number are the digits of what they spell. -/
theorem dec_valD (acc : Nat) (h0 : 0 < acc) (l : List UInt8) (h : l.all isDig = true) : Lib.decDigits (valD acc l) = Lib.decDigits acc ++ l := by
  induction l generalizing acc with
  | nil => simp [valD_nil]
  | cons b l ih =>
    rw [List.all_cons, Bool.and_eq_true] at h
    have hb : 48 ≤ b.toNat ∧ b.toNat ≤ 57 := by have := h.1; unfold isDig at this; simpa using this
    rw [valD_cons, ih _ (by omega) h.2]
    have hd : Lib.decDigits (acc * 10 + (b.toNat - 48)) = Lib.decDigits acc ++ [b] := by
      conv => lhs; rw [Lib.decDigits]
      rw [dif_neg (by omega)]
      have e1 : (acc * 10 + (b.toNat - 48)) / 10 = acc := by omega
      have e2 : (acc * 10 + (b.toNat - 48)) % 10 = b.toNat - 48 := by omega
      have e3 : 48 + (b.toNat - 48) = b.toNat := by omega
      rw [e1, e2, e3, UInt8.ofNat_toNat]
    rw [hd, List.append_assoc]; rfl

theorem dec_of {b : UInt8} {l : List UInt8} (h : (b :: l).all isDig = true) (h0 : b.toNat ≠ 48 ∨ l = []) : Lib.decDigits (valD 0 (b :: l)) = b :: l := by
  rw [List.all_cons, Bool.and_eq_true] at h
  have hb : 48 ≤ b.toNat ∧ b.toNat ≤ 57 := by have := h.1; unfold isDig at this; simpa using this
  have hone : Lib.decDigits (b.toNat - 48) = [b] := by
    rw [Lib.decDigits_one (by omega)]
    have e3 : 48 + (b.toNat - 48) = b.toNat := by omega
    rw [e3, UInt8.ofNat_toNat]
  rw [valD_cons, Nat.zero_mul, Nat.zero_add]
  rcases h0 with h0 | rfl
  · rw [dec_valD _ (by omega) _ h.2, hone]; rfl
  · simpa [valD_nil] using hone

/-- the sign and the digits of a text. -/
def negL (l : List UInt8) : Bool := match l with | [] => false | b :: _ => b == 45
def digL (l : List UInt8) : List UInt8 := if negL l then l.tail else l
/-- the number with a decimal form of at most 18 digits. -/
def numF (l : List UInt8) : Option Int :=
  if digL l = [] ∨ 18 < (digL l).length ∨ ((digL l).head? = some 48 ∧ 1 < l.length) ∨ (digL l).all isDig = false then none
  else some (if negL l then -(valD 0 (digL l) : Int) else (valD 0 (digL l) : Int))

theorem itoa_shape (v : Int) : (0 ≤ v ∧ negL (Lib.itoa v) = false ∧ digL (Lib.itoa v) = Lib.decDigits v.toNat) ∨ (v < 0 ∧ negL (Lib.itoa v) = true ∧ digL (Lib.itoa v) = Lib.decDigits v.natAbs) := by
  by_cases h : v < 0
  · refine Or.inr ⟨h, ?_, ?_⟩ <;> simp [Lib.itoa, h, negL, digL]
  · refine Or.inl ⟨by omega, ?_⟩
    have hi : Lib.itoa v = Lib.decDigits v.toNat := by simp [Lib.itoa, h]
    rw [hi]
    have hn : negL (Lib.decDigits v.toNat) = false := by
      have := dec_digits v.toNat
      match hd : Lib.decDigits v.toNat with
      | [] => rfl
      | b :: r =>
        rw [hd, List.all_cons, Bool.and_eq_true] at this
        have hb : 48 ≤ b.toNat ∧ b.toNat ≤ 57 := by have := this.1; unfold isDig at this; simpa using this
        simp only [negL, beq_eq_false_iff_ne, ne_eq]
        intro e; rw [e] at hb; simp at hb
    exact ⟨hn, by simp [digL, hn]⟩

theorem numF_itoa (v : Int) (h : (digL (Lib.itoa v)).length ≤ 18) : numF (Lib.itoa v) = some v := by
  rcases itoa_shape v with ⟨h0, h1, h2⟩ | ⟨h0, h1, h2⟩
  · unfold numF
    rw [h2] at h ⊢
    rw [h1, if_neg]
    · rw [valD_dec]; simp; omega
    · rintro (h3 | h3 | ⟨h3, h4⟩ | h3)
      · exact dec_ne _ h3
      · omega
      · by_cases hz : v = 0
        · subst hz; simp [Lib.itoa, Lib.decDigits] at h4
        · obtain ⟨b, r, e, hb⟩ := dec_head v.toNat (by omega)
          rw [e] at h3
          simp at h3; rw [h3] at hb; simp at hb
      · rw [dec_digits] at h3; cases h3
  · unfold numF
    rw [h2] at h ⊢
    rw [h1, if_neg]
    · rw [valD_dec]; simp; omega
    · rintro (h3 | h3 | ⟨h3, h4⟩ | h3)
      · exact dec_ne _ h3
      · omega
      · obtain ⟨b, r, e, hb⟩ := dec_head v.natAbs (by omega)
        rw [e] at h3
        simp at h3; rw [h3] at hb; simp at hb
      · rw [dec_digits] at h3; cases h3

theorem numF_some {l : List UInt8} {n : Int} (h : numF l = some n) : l = Lib.itoa n ∧ (digL l).length ≤ 18 ∧ n.natAbs < 10 ^ 18 := by
  unfold numF at h
  split at h
  · cases h
  · rename_i hc
    simp only [not_or, Bool.not_eq_false] at hc
    obtain ⟨h1, h2, h3, h4⟩ := hc
    simp only [Option.some.injEq] at h
    have hlt : valD 0 (digL l) < 10 ^ 18 := by
      have := valD_lt 0 (digL l) h4
      have hp : 10 ^ (digL l).length ≤ 10 ^ 18 := Nat.pow_le_pow_right (by omega) (by omega)
      omega
    refine ⟨?_, by omega, by subst h; split <;> omega⟩
    cases l with
    | nil => simp [digL, negL] at h1
    | cons b r =>
      have hnb : negL (b :: r) = (b == 45) := rfl
      by_cases hb : b = 45
      · subst hb
        have hl : negL (45 :: r) = true := rfl
        have hd : digL (45 :: r) = r := by simp [digL, hl]
        rw [hd] at h h1 h3 h4 hlt
        rw [hl] at h
        simp only [if_true] at h
        subst h
        cases r with
        | nil => exact absurd rfl h1
        | cons c r' =>
          have hc : c.toNat ≠ 48 := by
            intro e
            refine h3 ⟨?_, by simp⟩
            have : c = 48 := UInt8.toNat_inj.1 (by rw [e]; rfl)
            simp [this]
          have hdec := dec_of (b := c) (l := r') h4 (Or.inl hc)
          have hpos : 1 ≤ valD 0 (c :: r') := by
            rw [List.all_cons, Bool.and_eq_true] at h4
            have hb : 48 ≤ c.toNat ∧ c.toNat ≤ 57 := by have := h4.1; unfold isDig at this; simpa using this
            have := valD_ge (0 * 10 + (c.toNat - 48)) r'
            rw [valD_cons]; omega
          rw [Lib.itoa_neg _ hpos, hdec]
      · have hl : negL (b :: r) = false := by rw [hnb]; simpa using hb
        have hd : digL (b :: r) = b :: r := by simp [digL, hl]
        rw [hd] at h h1 h3 h4 hlt
        rw [hl] at h
        simp only [Bool.false_eq_true, if_false] at h
        subst h
        have hc : b.toNat ≠ 48 ∨ r = [] := by
          by_cases hr : r = []
          · exact Or.inr hr
          · left
            intro e
            refine h3 ⟨?_, ?_⟩
            · have : b = 48 := UInt8.toNat_inj.1 (by rw [e]; rfl)
              simp [this]
            · cases r with
              | nil => exact absurd rfl hr
              | cons c r => simp
        rw [Lib.itoa_nonneg, dec_of h4 hc]

theorem parseUintM_dec (M acc : Nat) (l : List UInt8) (h : l.all isDig = true) (hM : valD acc l ≤ M) (hM2 : valD acc l < 10 ^ 18) : Lib.parseUintM M acc l = .ok (valD acc l) := by
  induction l generalizing acc with
  | nil => rw [valD_nil]; rfl
  | cons b l ih =>
    rw [List.all_cons, Bool.and_eq_true] at h
    have hb : 48 ≤ b.toNat ∧ b.toNat ≤ 57 := by have := h.1; unfold isDig at this; simpa using this
    rw [valD_cons] at hM hM2 ⊢
    have hge := valD_ge (acc * 10 + (b.toNat - 48)) l
    rw [Lib.parseUintM, if_pos hb, if_neg (by omega), if_neg (by omega)]
    exact ih _ h.2 hM hM2

theorem parse_itoa (v : Int) (h : v.natAbs < 10 ^ 18) : Lib.parseIntB 64 (Lib.itoa v) = .ok v := by
  by_cases hv : v < 0
  · have e : Lib.itoa v = 45 :: Lib.decDigits v.natAbs := by simp [Lib.itoa, hv]
    rw [e]
    have hp := parseUintM_dec (2 ^ 64 - 1) 0 (Lib.decDigits v.natAbs) (dec_digits _) (by rw [valD_dec]; omega) (by rw [valD_dec]; exact h)
    rw [valD_dec] at hp
    have e45 : UInt8.toNat 45 = 45 := rfl
    simp only [Lib.parseIntB, Lib.parseUintB, e45, or_true, if_true, if_neg (dec_ne _), hp, not_true, false_and, if_false, true_and]
    rw [if_neg (by omega)]
    congr 1; omega
  · have e : Lib.itoa v = Lib.decDigits v.toNat := by simp [Lib.itoa, hv]
    rw [e]
    have hp := parseUintM_dec (2 ^ 64 - 1) 0 (Lib.decDigits v.toNat) (dec_digits _) (by rw [valD_dec]; omega) (by rw [valD_dec]; omega)
    rw [valD_dec] at hp
    have hd := dec_digits v.toNat
    have hne := dec_ne v.toNat
    match hl : Lib.decDigits v.toNat, hne with
    | b :: r, _ =>
      rw [hl] at hp hd
      rw [List.all_cons, Bool.and_eq_true] at hd
      have hb : 48 ≤ b.toNat ∧ b.toNat ≤ 57 := by have := hd.1; unfold isDig at this; simpa using this
      simp only [Lib.parseIntB, Lib.parseUintB]
      have h43 : ¬ (b.toNat = 43 ∨ b.toNat = 45) := by omega
      have h45 : ¬ b.toNat = 45 := by omega
      rw [if_neg h43, if_neg (by simp), hp]
      simp only [h45, not_false_eq_true, true_and, false_and, if_false]
      rw [if_neg (by omega)]
      congr 1; omega

end Go.Proofs.YtpnokhhbakiiiaaDoor

/-
  Expressions parsed: tokens of a text, the first error; plain.
-/
namespace Go.Proofs.YtpnokhhbakiiiaaDoor
open Go.RowKit

def opIx (t : List UInt8) : Option Nat := (List.range 9).find? fun o => opT o == t
def smallF (lim : Int) (t : List UInt8) : Option Int := match numF t with | some n => if 0 ≤ n ∧ n < lim then some n else none | none => none
def varF : List UInt8 → Option Int
  | c :: r => if c = 118 then smallF 29 r else none
  | [] => none
/-- the token that a text is. -/
def kdF (t : List UInt8) : Option Tk :=
  match opIx t with
  | some o => some (.op o)
  | none => if t = [33] then some .bang else if t = [40] then some .lpar else if t = [41] then some .rpar else match smallF 64 t with | some n => some (.num n) | none => (varF t).map .var
theorem opIx_lt {t : List UInt8} {o : Nat} (h : opIx t = some o) : o < 9 ∧ opT o = t := by
  unfold opIx at h
  have h1 := List.mem_of_find?_eq_some h
  have h2 := List.find?_some h
  exact ⟨by simpa using h1, by simpa using h2⟩
theorem kdF_op {t : List UInt8} {o : Nat} (h : kdF t = some (.op o)) : o < 9 ∧ opIx t = some o := by
  unfold kdF at h
  cases ho : opIx t with
  | some o' => rw [ho] at h; cases h; exact ⟨(opIx_lt ho).1, rfl⟩
  | none =>
    rw [ho] at h
    simp only at h
    split at h
    · cases h
    · split at h
      · cases h
      · split at h
        · cases h
        · split at h
          · cases h
          · cases hv : varF t <;> rw [hv] at h <;> cases h
/-- how many bytes the token that begins a text has. -/
def cutF : List UInt8 → Nat
  | [] => 0
  | c :: r => if isDig c || c == 118 then 1 + (r.takeWhile isDig).length else if c == 60 && r.head? == some 61 then 2 else 1
theorem cutF_pos {s : List UInt8} (h : s ≠ []) : 1 ≤ cutF s ∧ cutF s ≤ s.length := by
  cases s with
  | nil => exact absurd rfl h
  | cons c r =>
    unfold cutF
    have h1 : (r.takeWhile isDig).length ≤ r.length := (List.takeWhile_prefix _).length_le
    simp only [List.length_cons]
    split
    · omega
    · split
      · rename_i h2
        cases r with
        | nil => simp at h2
        | cons d r => simp only [List.length_cons]; omega
      · omega
def toksF : Nat → List UInt8 → Nat → List (List UInt8 × Nat) × Int
  | 0, _, _ => ([], -1)
  | _ + 1, [], _ => ([], -1)
  | f + 1, c :: r, n =>
    if c = 32 then toksF f r (n + 1)
    else if (kdF ((c :: r).take (cutF (c :: r)))).isSome then (((c :: r).take (cutF (c :: r)), n) :: (toksF f ((c :: r).drop (cutF (c :: r))) (n + cutF (c :: r))).1, (toksF f ((c :: r).drop (cutF (c :: r))) (n + cutF (c :: r))).2)
    else ([], n)
theorem toksF_fuel : ∀ (f g : Nat) (s : List UInt8) (n : Nat), s.length ≤ f → s.length ≤ g → toksF f s n = toksF g s n
  | 0, 0, _, _, _, _ => rfl
  | 0, g + 1, s, n, h, _ => by
    have : s = [] := List.eq_nil_of_length_eq_zero (by omega)
    subst this; rfl
  | f + 1, 0, s, n, _, h => by
    have : s = [] := List.eq_nil_of_length_eq_zero (by omega)
    subst this; rfl
  | f + 1, g + 1, [], n, _, _ => rfl
  | f + 1, g + 1, c :: r, n, h1, h2 => by
    have hp := cutF_pos (s := c :: r) (by simp)
    simp only [List.length_cons] at h1 h2 hp
    unfold toksF
    rw [toksF_fuel f g r (n + 1) (by omega) (by omega), toksF_fuel f g ((c :: r).drop (cutF (c :: r))) (n + cutF (c :: r)) (by rw [List.length_drop, List.length_cons]; omega) (by rw [List.length_drop, List.length_cons]; omega)]
/-- the tokens of a text from an offset on, and the offset at which no token begins, or -1. -/
def tkS (s : List UInt8) (n : Nat) : List (List UInt8 × Nat) × Int := toksF s.length (s.drop n) n
theorem tkS_end {s : List UInt8} {n : Nat} (h : s.length ≤ n) : tkS s n = ([], -1) := by
  unfold tkS
  rw [List.drop_of_length_le h]
  cases s <;> rfl
theorem toksF_cons (f : Nat) (c : UInt8) (r : List UInt8) (n : Nat) : toksF (f + 1) (c :: r) n =
    if c = 32 then toksF f r (n + 1)
    else if (kdF ((c :: r).take (cutF (c :: r)))).isSome then (((c :: r).take (cutF (c :: r)), n) :: (toksF f ((c :: r).drop (cutF (c :: r))) (n + cutF (c :: r))).1, (toksF f ((c :: r).drop (cutF (c :: r))) (n + cutF (c :: r))).2)
    else ([], n) := rfl
theorem tkS_step {s : List UInt8} {n : Nat} (h : n < s.length) : tkS s n =
    if s[n] = 32 then tkS s (n + 1)
    else if (kdF ((s.drop n).take (cutF (s.drop n)))).isSome then (((s.drop n).take (cutF (s.drop n)), n) :: (tkS s (n + cutF (s.drop n))).1, (tkS s (n + cutF (s.drop n))).2)
    else ([], n) := by
  have hd := List.drop_eq_getElem_cons h
  have hp := cutF_pos (s := s.drop n) (by rw [hd]; exact List.cons_ne_nil _ _)
  obtain ⟨f, hf⟩ : ∃ f, s.length = f + 1 := ⟨s.length - 1, by omega⟩
  have h1 : toksF s.length (s.drop (n + 1)) (n + 1) = toksF f (s.drop (n + 1)) (n + 1) := toksF_fuel _ _ _ _ (by simp) (by simp; omega)
  have h2 : toksF s.length (s.drop (n + cutF (s.drop n))) (n + cutF (s.drop n)) = toksF f (s.drop (n + cutF (s.drop n))) (n + cutF (s.drop n)) := toksF_fuel _ _ _ _ (by simp) (by simp; omega)
  have key := toksF_cons f s[n] (s.drop (n + 1)) n
  rw [← hd, List.drop_drop, ← hf, ← h1, ← h2] at key
  exact key
theorem tkS_kd (s : List UInt8) : ∀ (k n : Nat), s.length - n ≤ k → ∀ e ∈ (tkS s n).1, (kdF e.1).isSome = true ∧ e.2 ≤ s.length ∧ e.1.length ≤ s.length
  | 0, n, h, e, he => by rw [tkS_end (by omega)] at he; simp at he
  | k + 1, n, h, e, he => by
    by_cases hn : n < s.length
    · have hp := cutF_pos (s := s.drop n) (by rw [List.drop_eq_getElem_cons hn]; exact List.cons_ne_nil _ _)
      rw [tkS_step hn] at he
      split at he
      · exact tkS_kd s k (n + 1) (by omega) e he
      · split at he
        · rename_i hk
          rcases List.mem_cons.1 he with h1 | h1
          · subst h1
            refine ⟨hk, by simp only; omega, ?_⟩
            simp only [List.length_take, List.length_drop]; omega
          · exact tkS_kd s k _ (by omega) e h1
        · simp at he
    · rw [tkS_end (by omega)] at he; simp at he
theorem tkS_len (s : List UInt8) : ∀ (k n : Nat), s.length - n ≤ k → (tkS s n).1.length ≤ s.length - n
  | 0, n, h => by rw [tkS_end (by omega)]; simp
  | k + 1, n, h => by
    by_cases hn : n < s.length
    · have hp := cutF_pos (s := s.drop n) (by rw [List.drop_eq_getElem_cons hn]; exact List.cons_ne_nil _ _)
      rw [tkS_step hn]
      split
      · have := tkS_len s k (n + 1) (by omega); omega
      · split
        · have := tkS_len s k (n + cutF (s.drop n)) (by omega)
          simp only [List.length_cons]
          omega
        · simp
    · rw [tkS_end (by omega)]; simp
/-- the first error: an operand or an operator is due, so many parentheses are open. -/
def errF (bad : Int) (len : Nat) : Bool → Nat → List (List UInt8 × Nat) → Int
  | b, d, [] => if 0 ≤ bad then bad else if b || decide (0 < d) then len else -1
  | true, d, (t, n) :: r => match kdF t with
    | some .bang => errF bad len true d r
    | some .lpar => errF bad len true (d + 1) r
    | some (.num _) => errF bad len false d r
    | some (.var _) => errF bad len false d r
    | _ => n
  | false, d, (t, n) :: r => match kdF t with
    | some (.op _) => errF bad len true d r
    | some .rpar => if 0 < d then errF bad len false (d - 1) r else n
    | _ => n
def kinds (L : List (List UInt8 × Nat)) : List Tk := L.map fun e => (kdF e.1).getD .bang
theorem err_ok (bad : Int) (len : Nat) : ∀ (L : List (List UInt8 × Nat)) (b : Bool) (d : Nat), errF bad len b d L < 0 → okT b d (kinds L) = true ∧ bad < 0
  | [], b, d, h => by
    unfold errF at h
    split at h
    · omega
    · split at h
      · omega
      · rename_i h1 h2
        simp only [Bool.or_eq_true, decide_eq_true_eq, not_or] at h2
        cases b
        · refine ⟨?_, by omega⟩
          show (d == 0) = true
          simp; omega
        · exact absurd rfl h2.1
  | (t, n) :: r, true, d, h => by
    unfold errF at h
    simp only [kinds, List.map_cons]
    cases hk : kdF t with
    | none => rw [hk] at h; simp only at h; omega
    | some k =>
      rw [hk] at h
      cases k with
      | op o => simp only at h; omega
      | rpar => simp only at h; omega
      | bang => exact err_ok bad len r true d h
      | lpar => exact err_ok bad len r true (d + 1) h
      | num m => exact err_ok bad len r false d h
      | var m => exact err_ok bad len r false d h
  | (t, n) :: r, false, d, h => by
    unfold errF at h
    simp only [kinds, List.map_cons]
    cases hk : kdF t with
    | none => rw [hk] at h; simp only at h; omega
    | some k =>
      rw [hk] at h
      cases k with
      | op o =>
        have := err_ok bad len r true d h
        refine ⟨?_, this.2⟩
        show (decide (o < 9) && okT true d _) = true
        rw [decide_eq_true (kdF_op hk).1]
        exact this.1
      | rpar =>
        simp only at h
        split at h
        · rename_i hd
          have := err_ok bad len r false (d - 1) h
          refine ⟨?_, this.2⟩
          show (decide (0 < d) && okT false (d - 1) _) = true
          rw [decide_eq_true hd]
          exact this.1
        · omega
      | bang => simp only at h; omega
      | lpar => simp only at h; omega
      | num m => simp only at h; omega
      | var m => simp only at h; omega

/-- what is parsed, the offset of the first error, and the error. -/
def parseF (s : List UInt8) : List Tm × Int × Int :=
  if 400 < s.length then ([], 0, 2)
  else if 0 ≤ errF (tkS s 0).2 s.length true 0 (tkS s 0).1 then ([], errF (tkS s 0).2 s.length true 0 (tkS s 0).1, 8)
  else if 60 < ((syF true [] [] (kinds (tkS s 0).1)).headD []).length then ([], 0, 5)
  else ((syF true [] [] (kinds (tkS s 0).1)).headD [], 0, 0)
/-- without an error the tokens are parsed, and the machine gives the terms. -/
theorem parse_tree {s : List UInt8} (h : errF (tkS s 0).2 s.length true 0 (tkS s 0).1 < 0) : ∃ x, Ps (.exp 1) (kinds (tkS s 0).1) x [] ∧ (syF true [] [] (kinds (tkS s 0).1)).headD [] = flatE x := by
  obtain ⟨x, hx⟩ := ps_all (err_ok _ _ _ _ _ h).1
  exact ⟨x, hx, by rw [sy_all hx]; rfl⟩

end Go.Proofs.YtpnokhhbakiiiaaDoor

/-
  The text of an expression: what the program's calls return.
-/
namespace Go.Proofs.YtpnokhhbakiiiaaDoor
open Go.RowKit

/-- the tables of the operators. -/
structure Glob (w : World) : Prop where
  ops : ∀ i : Nat, i < 9 → w.cell? ⟨0, i, none⟩ = some (es (opT i))
  lvs : ∀ i : Nat, i < 9 → w.cell? ⟨1, i, none⟩ = some (ei (lvl i))
theorem Glob.upd {w w1 : World} (h : Glob w) (hu : Upd [] w w1) : Glob w1 := ⟨fun i hi => hu.keep (h.ops i hi), fun i hi => hu.keep (h.lvs i hi)⟩
theorem Glob.drewN {w : World} (h : Glob w) (n : Nat) : Glob (w.drewN n) := ⟨h.ops, h.lvs⟩

set_option maxRecDepth 20000 in
set_option maxHeartbeats 1000000 in
theorem levelE (x : Ex) (w : World) (v : Value) (fp : List Nat) (hG : Glob w) (hg : goodE 29 x = true) (hR : R_E fp w [v] x) :
    Calls Tryd.prog 33 #[v] w fun e w' => e = .returned (ei (lvE x)) ∧ w = w' := by
  obtain ⟨⟨t1, t2⟩, args⟩ := x
  obtain ⟨b0, s, fa, rfl, rfl, c0, c1, c2, -⟩ := R_E_open hR
  rw [goodE_mk] at hg
  simp only [Bool.and_eq_true, decide_eq_true_eq] at hg
  have hok := hg.1.2
  clear hR hg
  by_cases h2 : t1 = 2
  · subst h2
    simp [tOk] at hok
    have hb := inB_true hok
    obtain ⟨q, rfl⟩ : ∃ q : Nat, t2 = q := ⟨t2.toNat, by omega⟩
    have hl := hG.lvs q (by omega)
    have HL := Lib.hid (show lvE (.mk (2, (q : Int)) args) = lvl q by simp [lvE])
    have hq : q < 9 := by omega
    generalize lvl q = L at *
    clear hok hG
    go_enter Tryd.func33, Tryd.ntmps33
    go_wp2_with fail
    go_ret
    exact ⟨by rw [HL.out]; rfl, rfl⟩
  · have HL := Lib.hid (show lvE (.mk (t1, t2) args) = 9 by simp [lvE, h2])
    have h2' : (t1 == 2) = false := by simpa using h2
    clear hok hG
    go_enter Tryd.func33, Tryd.ntmps33
    go_wp2_with fail
    go_ret
    exact ⟨by rw [HL.out]; rfl, rfl⟩

theorem decimalS (q : Nat) (hq : q < 100) (w : World) : Calls Tryd.prog 32 #[.int .i64 q] w fun e w' => e = .returned (es (Lib.itoa q)) ∧ w = w' := by
  have S1 := Lib.hid (Tryd.strconv_FormatInt_10_small q hq w)
  have HI := Lib.hid (show Lib.itoa (q : Int) = Lib.decDigits q by simp [Lib.itoa])
  go_enter Tryd.func32, Tryd.ntmps32
  go_wp2_with fail
  refine S1.out.mono ?_
  rintro e w1 ⟨rfl, rfl⟩
  go_wp2_with fail
  go_ret
  exact ⟨by rw [HI.out]; rfl, rfl⟩

theorem es_cat (a b : List UInt8) : (ByteArray.mk a.toArray ++ ByteArray.mk b.toArray) = ByteArray.mk (a ++ b).toArray := ByteArray.mk_append_mk a b
theorem es_par (T : List UInt8) : ((⟨#[40]⟩ : ByteArray) ++ ⟨T.toArray⟩ ++ ⟨#[41]⟩) = ⟨(([40] ++ T) ++ [41]).toArray⟩ := by rw [← es_cat, ← es_cat]

/-- a text in parentheses, or bare. -/
theorem inner (b : Bool) (v : Value) (T : List UInt8) (w w0 : World) (n : Nat) (hl : (T.length : Int) ≤ 100000) (h : ∀ n, Calls Tryd.prog 19 #[v] (w0.drewN n) fun e w' => e = .returned (es T) ∧ ∃ m, w' = w0.drewN m) (hw : w = w0.drewN n) :
    Calls Tryd.prog 31 #[v, .bool b] w fun e w' => e = .returned (es (par b T)) ∧ ∃ m, w' = w0.drewN m := by
  subst hw
  have S1 := Lib.hid (h n)
  clear h
  cases b
  · go_enter Tryd.func31, Tryd.ntmps31
    go_wp2_with fail
    refine S1.out.mono ?_
    rintro e w1 ⟨rfl, m, rfl⟩
    go_wp2_with fail
    go_ret
    exact ⟨rfl, _, rfl⟩
  · go_enter Tryd.func31, Tryd.ntmps31
    go_wp2_with fail
    refine S1.out.mono ?_
    rintro e w1 ⟨rfl, m, rfl⟩
    go_wp2_with fail
    go_ret
    exact ⟨by simp only [par, if_true, es_par]; rfl, _, rfl⟩

set_option maxRecDepth 20000 in
set_option maxHeartbeats 4000000 in
theorem textI (n : Nat) : ∀ (x : Ex) (w : World) (v : Value) (fp : List Nat), (flatE x).length ≤ n → (flatE x).length ≤ 1000 → goodE 29 x = true → Glob w → R_E fp w [v] x →
    Calls Tryd.prog 19 #[v] w fun e w' => e = .returned (es (textE x)) ∧ ∃ m, w' = w.drewN m := by
  induction n with
  | zero => intro x w v fp hn; have := flatE_pos x; omega
  | succ n ih =>
    intro x w v fp hn h1000 hg hG hR
    have hgx := hg
    have hRx := hR
    obtain ⟨⟨t1, t2⟩, args⟩ := x
    obtain ⟨b0, s, fa, rfl, rfl, c0, c1, c2, hargs⟩ := R_E_open hR
    rw [goodE_mk] at hg
    simp only [Bool.and_eq_true, decide_eq_true_eq] at hg
    obtain ⟨⟨hlen, hok⟩, hgs⟩ := hg
    simp only [flatE, List.length_cons] at hn h1000
    rcases tOk_kind hok with h | h | h | h
    · subst h
      simp [tOk] at hok
      have hb := inB_true hok
      obtain ⟨q, rfl⟩ : ∃ q : Nat, t2 = q := ⟨t2.toNat, by omega⟩
      have HRES := Lib.hid (show textE (.mk (0, (q : Int)) args) = Lib.itoa q by simp [textE])
      have S1 := Lib.hid (decimalS q (by omega) w)
      generalize Lib.itoa (q : Int) = T at *
      clear ih hok hgs hgx hRx hargs hG hR hlen
      go_enter Tryd.func19, Tryd.ntmps19
      go_wp2_with fail
      refine S1.out.mono ?_
      rintro e w1 ⟨rfl, rfl⟩
      go_wp2_with fail
      go_ret
      exact ⟨by rw [HRES.out]; rfl, 0, rfl⟩
    · subst h
      simp [tOk] at hok
      have hb := inB_true hok
      obtain ⟨q, rfl⟩ : ∃ q : Nat, t2 = q := ⟨t2.toNat, by omega⟩
      have HRES := Lib.hid (show textE (.mk (1, (q : Int)) args) = [118] ++ Lib.itoa q by simp [textE])
      have S1 := Lib.hid (decimalS q (by omega) w)
      have hil := itoa_small (n := q) (by omega) (by omega)
      generalize Lib.itoa (q : Int) = T at *
      clear ih hok hgs hgx hRx hargs hG hR hlen
      go_enter Tryd.func19, Tryd.ntmps19
      go_wp2_with fail
      refine S1.out.mono ?_
      rintro e w1 ⟨rfl, rfl⟩
      go_wp2_with fail
      go_ret
      exact ⟨by rw [HRES.out, es_cat]; rfl, 0, rfl⟩
    · subst h
      simp [tOk] at hok
      have hb := inB_true hok
      obtain ⟨q, rfl⟩ : ∃ q : Nat, t2 = q := ⟨t2.toNat, by omega⟩
      simp [arity] at hlen
      match args, hlen with
      | [x, y], _ =>
        obtain ⟨a, cap, rfl, g1, g2, hc⟩ := slP_open hargs
        obtain ⟨ba, oa, u0, f0, rfl, -, -, p0, -, r0⟩ := hc 0 (by simp)
        obtain ⟨ba', oa', u1, f1, hb', -, -, p1, -, r1⟩ := hc 1 (by simp)
        simp only [Option.some.injEq, Addr.mk.injEq, and_true] at hb'
        obtain ⟨rfl, rfl⟩ := hb'
        have p0 : w.cell? ⟨ba, oa, none⟩ = some u0 := p0
        unfold maxLen at g2
        rw [goodEs_cons, goodEs_cons, Bool.and_eq_true, Bool.and_eq_true] at hgs
        simp only [flatEs, List.append_nil, List.length_append] at hn h1000
        have hpx := flatE_pos x
        have hpy := flatE_pos y
        have hr0 : R_E f0 w [u0] x := r0
        have hr1 : R_E f1 w [u1] y := r1
        have hlx := textE_len x hgs.1
        have hly := textE_len y hgs.2.1
        have hop := opT_len q
        have hq : q < 9 := by omega
        have hgo := hG.ops q hq
        have L1 := fun n' => Calls.quiet_of_same (n := n') ((levelE _ (w.drewN n') _ _ (hG.drewN n') hgx (R_Ek.drewN hRx n')).mono (fun e w' h => ⟨h.1, h.2.symm⟩))
        have L2 := fun q n' => Calls.quiet_of_same (n := n') ((levelE x ((w.drewN q).drewN n') u0 f0 ((hG.drewN q).drewN n') hgs.1 (R_Ek.drewN (R_Ek.drewN hr0 q) n')).mono (fun e w' h => ⟨h.1, h.2.symm⟩))
        have L3 := fun q n' => Calls.quiet_of_same (n := n') ((levelE y ((w.drewN q).drewN n') u1 f1 ((hG.drewN q).drewN n') hgs.2.1 (R_Ek.drewN (R_Ek.drewN hr1 q) n')).mono (fun e w' h => ⟨h.1, h.2.symm⟩))
        have T1 := fun (b : Bool) (q : Nat) n' => inner b u0 (textE x) ((w.drewN q).drewN n') (w.drewN q) n' (by omega) (fun m => Calls.quiet_of (ih x ((w.drewN q).drewN m) u0 f0 (by omega) (by omega) hgs.1 ((hG.drewN q).drewN m) (R_Ek.drewN (R_Ek.drewN hr0 q) m))) rfl
        have T2 := fun (b : Bool) (q : Nat) n' => inner b u1 (textE y) ((w.drewN q).drewN n') (w.drewN q) n' (by omega) (fun m => Calls.quiet_of (ih y ((w.drewN q).drewN m) u1 f1 (by omega) (by omega) hgs.2.1 ((hG.drewN q).drewN m) (R_Ek.drewN (R_Ek.drewN hr1 q) m))) rfl
        have HRES := Lib.hid (show textE (.mk (2, (q : Int)) [x, y]) = (par (decide (lvE x < lvl q)) (textE x) ++ opT q) ++ par (decide (lvE y ≤ lvl q)) (textE y) by simp [textE, textEs])
        rw [show lvE (.mk (2, (q : Int)) [x, y]) = lvl q by simp [lvE]] at L1
        have ha := par_len (decide (lvE x < lvl q)) (textE x)
        have hb2 := par_len (decide (lvE y ≤ lvl q)) (textE y)
        obtain ⟨bx, rfl⟩ := R_E_form hr0
        obtain ⟨by', rfl⟩ := R_E_form hr1
        generalize lvE x = lx at *
        generalize lvE y = ly at *
        generalize lvl q = own at *
        have T1 := T1 (decide (lx < own))
        have T2 := T2 (decide (ly ≤ own))
        generalize par (decide (lx < own)) (textE x) = A at *
        generalize par (decide (ly ≤ own)) (textE y) = B at *
        generalize opT q = O at *
        have HL1 := Lib.hid L1
        have HL2 := Lib.hid L2
        have HL3 := Lib.hid L3
        have HT1 := Lib.hid T1
        have HT2 := Lib.hid T2
        have hA : (A.length : Int) ≤ 10000 := by omega
        have hB : (B.length : Int) ≤ 10000 := by omega
        have hO : (O.length : Int) ≤ 2 := by omega
        clear ih hok hgs hgx hRx hargs hG hR hc r0 r1 hr0 hr1 hlx hly ha hb2 L1 L2 L3 T1 T2 hb hop hn h1000 hpx hpy
        go_enter Tryd.func19, Tryd.ntmps19
        go_wp2_with fail
        go_quiet ((go_at_call 33; with_reducible exact HL1.out _))
        obtain ⟨wq, hwq⟩ : ∃ wq, w.drewN nq = wq := ⟨_, rfl⟩
        have q0 : wq.cell? ⟨b0, 0, none⟩ = some (ei 2) := by rw [← hwq]; exact c0
        have q1 : wq.cell? ⟨b0, 1, none⟩ = some (ei q) := by rw [← hwq]; exact c1
        have qo : wq.cell? ⟨0, q, none⟩ = some (es O) := by rw [← hwq]; exact hgo
        have M2 := HL2.out nq
        have M3 := HL3.out nq
        have N1 := HT1.out nq
        have N2 := HT2.out nq
        rw [hwq] at M2 M3 N1 N2
        have HM2 := Lib.hid M2
        have HM3 := Lib.hid M3
        have HN1 := Lib.hid N1
        have HN2 := Lib.hid N2
        rw [hwq]
        have HWQ := Lib.hid hwq
        clear hwq HL1 HL2 HL3 HT1 HT2 M2 M3 N1 N2 c0 c1 c2 p0 p1 hgo
        go_wp2_with fail
        go_quiet (first | (go_at_call 33; first | (with_reducible exact HM2.out _) | (with_reducible exact HM3.out _)) | (go_at_call 31; first | (with_reducible exact HN1.out _) | (with_reducible exact HN2.out _)))
        go_wp2_with fail
        go_ret
        exact ⟨by rw [HRES.out, es_cat, es_cat]; rfl, _, by rw [← HWQ.out, drewN_add]⟩
    · subst h
      simp [arity] at hlen
      match args, hlen with
      | [x], _ =>
        obtain ⟨a, cap, rfl, g1, g2, hc⟩ := slP_open hargs
        obtain ⟨ba, oa, u0, f0, rfl, -, -, p0, -, r0⟩ := hc 0 (by simp)
        have p0 : w.cell? ⟨ba, oa, none⟩ = some u0 := p0
        unfold maxLen at g2
        rw [goodEs_cons, Bool.and_eq_true] at hgs
        simp only [flatEs, List.append_nil] at hn h1000
        have hr0 : R_E f0 w [u0] x := r0
        have hlx := textE_len x hgs.1
        have hpar := par_len (isOp x) (textE x)
        have T1 := fun n' => inner (isOp x) u0 (textE x) (w.drewN n') w n' (by omega) (fun m => Calls.quiet_of (ih x (w.drewN m) u0 f0 (by omega) (by omega) hgs.1 (hG.drewN m) (R_Ek.drewN hr0 m))) rfl
        have HRES := Lib.hid (show textE (.mk (3, t2) [x]) = [33] ++ par (isOp x) (textE x) by simp [textE, textEs])
        obtain ⟨⟨k1, k2⟩, xargs⟩ := x
        obtain ⟨bx, sx, fx, rfl, -, d0, -, -, -⟩ := R_E_open hr0
        rw [show isOp (.mk (k1, k2) xargs) = (k1 == 2) from rfl] at *
        generalize par (k1 == 2) (textE (.mk (k1, k2) xargs)) = A at *
        have HT1 := Lib.hid T1
        have hA : (A.length : Int) ≤ 10000 := by omega
        have d0 : w.cell? ⟨bx, 0, none⟩ = some (ei k1) := d0
        clear ih hok hgs hgx hRx hargs hG hR hc r0 hr0 hlx hpar T1 hn h1000
        go_enter Tryd.func19, Tryd.ntmps19
        go_wp2_with fail
        go_quiet ((go_at_call 31; with_reducible exact HT1.out _))
        go_wp2_with fail
        go_ret
        exact ⟨by rw [HRES.out, es_cat]; rfl, _, rfl⟩

end Go.Proofs.YtpnokhhbakiiiaaDoor

/-
  Texts cut at a byte, plainly.
-/
namespace Go.Proofs.YtpnokhhbakiiiaaDoor

theorem dec_no (u : Nat) (c : UInt8) (h : isDig c = false) : c ∉ Lib.decDigits u := fun hm => by
  have := List.all_eq_true.1 (dec_digits u) c hm
  rw [h] at this; cases this
theorem itoa_no (n : Int) (c : UInt8) (h : isDig c = false) (h2 : c ≠ 45) : c ∉ Lib.itoa n := by
  unfold Lib.itoa
  split
  · rw [List.mem_cons, not_or]; exact ⟨h2, dec_no _ c h⟩
  · exact dec_no _ c h

end Go.Proofs.YtpnokhhbakiiiaaDoor

/-
  Lists of values.
-/
namespace Go.Proofs.YtpnokhhbakiiiaaDoor
open Go.RowKit

end Go.Proofs.YtpnokhhbakiiiaaDoor

/-
  Names and labels, plainly; both sides' ways to read a label agree; what is made is read back.
-/
namespace Go.Proofs.YtpnokhhbakiiiaaDoor

end Go.Proofs.YtpnokhhbakiiiaaDoor

/-
  Names and labels: what the program's calls return.
-/
namespace Go.Proofs.YtpnokhhbakiiiaaDoor
open Go.RowKit

theorem isDigitI (b : UInt8) (w : World) : Calls Tryd.prog 34 #[.int .u8 (b.toNat : Int)] w fun e w' => e = .returned (.bool (isDig b)) ∧ w = w' := by
  by_cases h1 : 48 ≤ b.toNat
  · by_cases h2 : b.toNat ≤ 57
    · have HR := Lib.hid (show isDig b = true by simp [isDig]; omega)
      have g1 : (48 : Int) ≤ (b.toNat : Int) := by omega
      have g2 : (b.toNat : Int) ≤ 57 := by omega
      go_enter Tryd.func34, Tryd.ntmps34
      go_wp2_with fail
      go_ret
      exact ⟨by rw [HR.out]; rfl, rfl⟩
    · have HR := Lib.hid (show isDig b = false by simp [isDig]; omega)
      have g1 : (48 : Int) ≤ (b.toNat : Int) := by omega
      have g2 : ¬ (b.toNat : Int) ≤ 57 := by omega
      go_enter Tryd.func34, Tryd.ntmps34
      go_wp2_with fail
      go_ret
      exact ⟨by rw [HR.out]; rfl, rfl⟩
  · have HR := Lib.hid (show isDig b = false by simp [isDig]; omega)
    have g1 : ¬ (48 : Int) ≤ (b.toNat : Int) := by omega
    go_enter Tryd.func34, Tryd.ntmps34
    go_wp2_with fail
    go_ret
    exact ⟨by rw [HR.out]; rfl, rfl⟩

end Go.Proofs.YtpnokhhbakiiiaaDoor

/-
  Numbers in decimal: what the program's calls return.
-/
namespace Go.Proofs.YtpnokhhbakiiiaaDoor
open Go.RowKit

theorem Upd.var {P : Program} {w w1 : World} {n : String} {cs : Array Value} (hu : Upd [] w w1) (h : w.var? P n = some cs) : w1.var? P n = some cs := by
  unfold World.var? at h ⊢
  cases hg : P.globalNamed n with
  | none => rw [hg] at h; cases h
  | some g =>
    rw [hg] at h
    simp only [Option.bind_some] at h ⊢
    have hlt : g < w.heap.size := by
      rcases Nat.lt_or_ge g w.heap.size with h1 | h1
      · exact h1
      · rw [Array.getElem?_eq_none h1] at h; cases h
    rw [hu.block g hlt (by simp)]
    exact h

theorem Upd.grow (w : World) (k : Nat) (os : Array Obj) : Upd [] w (Sort.grow (w.drewN k) os) := by
  refine ⟨rfl, rfl, rfl, ?_, fun i hi _ => ?_⟩
  · show w.heap.size ≤ (w.heap ++ os).size
    rw [Array.size_append]; omega
  · show (w.heap ++ os)[i]? = w.heap[i]?
    rw [Array.getElem?_append_left hi]

theorem parse_range {l : List UInt8} {v : Int} (h : Lib.parseIntB 64 l = .ok v) : -9223372036854775808 ≤ v ∧ v ≤ 9223372036854775807 := by
  unfold Lib.parseIntB at h
  cases l with
  | nil => cases h
  | cons c r =>
    simp only at h
    split at h
    · cases h
    · cases h
    · split at h
      · cases h
      · split at h
        · cases h
        · rename_i h1 h2
          simp only [Lib.NumEnd.ok.injEq] at h
          subst h
          by_cases hc : c.toNat = 45
          · simp only [hc, not_true_eq_false, true_and, false_and, not_false_eq_true] at h1 h2
            simp only [hc, if_true]; omega
          · simp only [hc, not_false_eq_true, true_and, false_and] at h1 h2
            simp only [hc, if_false]; omega

theorem digL_trim (s : List UInt8) : Lib.trimPrefix s [45] = digL s := by
  cases s with
  | nil => rfl
  | cons b r =>
    by_cases hb : b = 45
    · subst hb; simp [Lib.trimPrefix, Lib.hasPrefix, digL, negL, List.isPrefixOf]
    · have h1 : (b == 45) = false := by simpa using hb
      have h2 : ((45 : UInt8) == b) = false := by simpa using fun e => hb e.symm
      simp [Lib.trimPrefix, Lib.hasPrefix, digL, negL, List.isPrefixOf, h1, h2]

def NumV (s : List UInt8) (w : World) (e : Ending) (w' : World) : Prop := e = .returned (.tuple #[.int .i64 ((numF s).getD 0), .bool (numF s).isSome]) ∧ Upd [] w w'

end Go.Proofs.YtpnokhhbakiiiaaDoor

/-
  Numbers as texts, read by the program: in a world whose tables of numbers and errors are laid (for seats without the variable MaxLen).
-/
namespace Go.Proofs.YtpnokhhbakiiiaaDoor
open Go.RowKit

/-- the variables of the library that reading numbers wants. -/
structure EnvT (w : World) : Prop where
  tab : Lib.TabIs Tryd.prog w "internal/strconv.uint64pow10" .u64 Lib.pow10Tab
  syn : ∃ tp p, w.var? Tryd.prog "strconv.ErrSyntax" = some #[.iface tp p]
  rng : ∃ tp p, w.var? Tryd.prog "strconv.ErrRange" = some #[.iface tp p]
theorem EnvT.upd {w w1 : World} (h : EnvT w) (hu : Upd [] w w1) : EnvT w1 :=
  ⟨hu.var h.tab, h.syn.imp fun _ hs => hs.imp fun _ hs => hu.var hs, h.rng.imp fun _ hs => hs.imp fun _ hs => hu.var hs⟩

theorem decimalT (n : Int) (w : World) (h0 : -9223372036854775808 ≤ n) (h1 : n ≤ 9223372036854775807) (he : EnvT w) :
    Calls Tryd.prog 32 #[.int .i64 n] w fun e w' => e = .returned (es (Lib.itoa n)) ∧ Upd [] w w' := by
  have S1 := Lib.hid (Tryd.strconv_FormatInt_10 n h0 h1 w he.tab)
  clear he h0 h1
  go_enter Tryd.func32, Tryd.ntmps32
  go_wp2_with fail
  refine S1.out.mono ?_
  rintro e w1 ⟨rfl, k, os, rfl⟩
  have HU := Lib.hid (Upd.grow w k os)
  generalize Sort.grow (w.drewN k) os = w1 at *
  clear S1
  go_wp2_with fail
  go_ret
  exact ⟨rfl, HU.out⟩

set_option maxRecDepth 20000 in
set_option maxHeartbeats 2000000 in
theorem readDecimalT (s : List UInt8) (w : World) (hl : s.length ≤ 2000000) (he : EnvT w) : Calls Tryd.prog 64 #[es s] w (NumV s w) := by
  have S1 := Lib.hid (Tryd.strings_TrimPrefix ⟨s.toArray⟩ ⟨#[45]⟩ w)
  have e1 : Lib.trimPrefix (⟨s.toArray⟩ : ByteArray).data.toList (⟨#[45]⟩ : ByteArray).data.toList = digL s := digL_trim s
  rw [e1] at S1
  clear e1
  have hdl : (digL s).length ≤ s.length := by
    unfold digL; split <;> simp
  by_cases hlen : 18 < (digL s).length
  · have HR := Lib.hid (show numF s = none by unfold numF; rw [if_pos (Or.inr (Or.inl hlen))])
    generalize digL s = d at *
    have g1 : (18 : Int) < (d.length : Int) := by omega
    clear hlen he
    go_enter Tryd.func64, Tryd.ntmps64
    go_wp2_with fail
    refine S1.out.mono ?_
    rintro e w1 ⟨rfl, rfl⟩
    clear S1
    go_wp2_with fail
    go_ret2
    exact ⟨by rw [HR.out]; rfl, Upd.refl _ _⟩
  · have hsz : (⟨s.toArray⟩ : ByteArray).size = s.length := rfl
    rcases hp : Lib.parseIntB 64 s with v | _ | _
    rotate_left
    · skip
      have HR := Lib.hid (show numF s = none by
        cases hn : numF s with
        | none => rfl
        | some n =>
          obtain ⟨a, -, b⟩ := numF_some hn
          rw [a, parse_itoa n b] at hp; cases hp)
      obtain ⟨tp, p, hsyn⟩ := he.syn
      have S2 := Lib.hid (Tryd.strconv_ParseInt_10_at64_syntax_var ⟨s.toArray⟩ (by rw [hsz]; omega) hp tp p w hsyn)
      clear hsyn hp hsz he
      generalize digL s = d at *
      have g1 : ¬ (18 : Int) < (d.length : Int) := by omega
      clear hlen
      go_enter Tryd.func64, Tryd.ntmps64
      go_wp2_with fail
      refine S1.out.mono ?_
      rintro e w1 ⟨rfl, rfl⟩
      clear S1
      go_wp2_with fail
      refine S2.out.mono ?_
      rintro e w1 ⟨N, rfl, -, -, hb⟩
      have HU := Lib.hid (Upd.ofBelow hb)
      clear S2 hb
      go_wp2_with fail
      go_ret2
      exact ⟨by rw [HR.out]; rfl, HU.out⟩
    · skip
      have HR := Lib.hid (show numF s = none by
        cases hn : numF s with
        | none => rfl
        | some n =>
          obtain ⟨a, -, b⟩ := numF_some hn
          rw [a, parse_itoa n b] at hp; cases hp)
      obtain ⟨tp, p, hsyn⟩ := he.rng
      have S2 := Lib.hid (Tryd.strconv_ParseInt_10_at64_range_var ⟨s.toArray⟩ (by rw [hsz]; omega) hp tp p w hsyn)
      clear hsyn hp hsz he
      generalize digL s = d at *
      have g1 : ¬ (18 : Int) < (d.length : Int) := by omega
      clear hlen
      go_enter Tryd.func64, Tryd.ntmps64
      go_wp2_with fail
      refine S1.out.mono ?_
      rintro e w1 ⟨rfl, rfl⟩
      clear S1
      go_wp2_with fail
      refine S2.out.mono ?_
      rintro e w1 ⟨N, rfl, -, -, hb⟩
      have HU := Lib.hid (Upd.ofBelow hb)
      clear S2 hb
      go_wp2_with fail
      go_ret2
      exact ⟨by rw [HR.out]; rfl, HU.out⟩
    · skip
      obtain ⟨v0, v1⟩ := parse_range hp
      have S2 := Lib.hid (Tryd.strconv_ParseInt_10_at64_ok ⟨s.toArray⟩ (by rw [hsz]; omega) v hp w)
      have HR := Lib.hid (show numF s = if Lib.itoa v = s then some v else none by
        split
        · rename_i h
          rw [← h]; exact numF_itoa v (by rw [h]; omega)
        · rename_i h
          cases hn : numF s with
          | none => rfl
          | some n =>
            exfalso
            obtain ⟨a, -, b⟩ := numF_some hn
            rw [a, parse_itoa n b] at hp
            cases hp
            exact h a.symm)
      have S3 := Lib.hid (fun w1 (hu : Upd [] w w1) => decimalT v w1 v0 v1 (he.upd hu))
      clear hp hsz he
      generalize digL s = d at *
      have g1 : ¬ (18 : Int) < (d.length : Int) := by omega
      clear hlen
      go_enter Tryd.func64, Tryd.ntmps64
      go_wp2_with fail
      refine S1.out.mono ?_
      rintro e wa ⟨rfl, rfl⟩
      clear S1
      go_wp2_with fail
      refine S2.out.mono ?_
      rintro e w1 ⟨rfl, hw⟩
      have hu : Upd [] wa w1 := by
        rcases hw with rfl | ⟨t, rfl⟩
        · exact Upd.refl _ _
        · exact Upd.ofBelow (Lib.bytesWorld_below _ _ _)
      have S4 := Lib.hid (S3.out w1 hu)
      have HU := Lib.hid hu
      clear S2 S3 hw hu
      go_wp2_with fail
      refine S4.out.mono ?_
      rintro e w2 ⟨rfl, hu2⟩
      have HU2 := Lib.hid (HU.out.trans hu2)
      clear S4 HU hu2
      by_cases heq : Lib.itoa v = s
      · have HR2 := Lib.hid (HR.out.trans (if_pos heq))
        rw [heq]
        clear HR heq
        go_wp2_with fail
        go_ret2
        exact ⟨by rw [HR2.out]; rfl, HU2.out⟩
      · have HR2 := Lib.hid (HR.out.trans (if_neg heq))
        clear HR
        generalize Lib.itoa v = A at *
        have hne : (A == s) = false := by simpa using heq
        go_wp2_with fail
        go_ret2
        exact ⟨by rw [HR2.out]; rfl, HU2.out⟩

end Go.Proofs.YtpnokhhbakiiiaaDoor

/-
  The source of choices of the reference: what its calls return, and what they leave.
-/
namespace Go.Proofs.YtpnokhhbakiiiaaDoor
open Go.RowKit

abbrev R_B : Rp (List Int) := slF 1 (fun n => [Value.int .u8 n])
theorem R_Bk : Kept R_B := slF_kept _ _
def bytesOk (xs : List Int) : Prop := ∀ x ∈ xs, 0 ≤ x ∧ x ≤ 255

/-- the source at block p, behind at most N choices. -/
def IsSrc (N p : Nat) (w : World) : Prop := ∃ (cv : Value) (code : List Int) (fc : List Nat) (at' seed : Int), w.cell? ⟨p, 0, none⟩ = some cv ∧ w.cell? ⟨p, 1, none⟩ = some (ei at') ∧ w.cell? ⟨p, 2, none⟩ = some (.int .u64 seed) ∧
  R_B fc w [cv] code ∧ bytesOk code ∧ code.length ≤ 1048576 ∧ 0 ≤ at' ∧ at' ≤ N ∧ 0 ≤ seed ∧ seed ≤ 18446744073709551615 ∧ Own [p] w ∧ ∀ c ∈ fc, c < p

theorem IsSrc.mono {N M p : Nat} {w : World} (h : IsSrc N p w) (hNM : N ≤ M) : IsSrc M p w := by
  obtain ⟨cv, code, fc, a, s, h1, h2, h3, h4, h5, h6, h7, h8, h9⟩ := h
  exact ⟨cv, code, fc, a, s, h1, h2, h3, h4, h5, h6, h7, by omega, h9⟩
theorem IsSrc.lt {N p : Nat} {w : World} (h : IsSrc N p w) : p < w.heap.size := by
  obtain ⟨cv, code, fc, a, s, h1, -⟩ := h; exact World.block_lt_of_cell? w _ h1
theorem IsSrc.upd {N p : Nat} {w w1 : World} (h : IsSrc N p w) (hu : Upd [] w w1) : IsSrc N p w1 := by
  obtain ⟨cv, code, fc, a, s, h1, h2, h3, h4, h5, h6, h7, h8, h9, h10, h11, h12⟩ := h
  exact ⟨cv, code, fc, a, s, hu.keep h1, hu.keep h2, hu.keep h3, R_Bk.upd h4 hu (by simp), h5, h6, h7, h8, h9, h10, h11.upd hu (by simp), h12⟩

/-- the source is kept where newer blocks are written. -/
theorem IsSrc.other {N p : Nat} {w w1 : World} {f : List Nat} (h : IsSrc N p w) (hu : Upd f w w1) (hf : ∀ b ∈ f, p < b) : IsSrc N p w1 := by
  have hpf : p ∉ f := fun hm => by have := hf p hm; omega
  obtain ⟨cv, code, fc, a, s, h1, h2, h3, h4, h5, h6, h7, h8, h9, h10, h11, h12⟩ := h
  have hb := hu.block p (World.block_lt_of_cell? w _ h1) hpf
  exact ⟨cv, code, fc, a, s, (World.cell?_of_block (a := ⟨p, 0, none⟩) hb).trans h1, (World.cell?_of_block (a := ⟨p, 1, none⟩) hb).trans h2, (World.cell?_of_block (a := ⟨p, 2, none⟩) hb).trans h3,
    R_Bk.upd h4 hu (fun b hb hm => by have := hf b hm; have := h12 b hb; omega), h5, h6, h7, h8, h9, h10, h11.upd hu (by simpa using hpf), h12⟩

theorem wrap_u64_bd (n : Int) : 0 ≤ IntKind.u64.wrap n ∧ IntKind.u64.wrap n ≤ 18446744073709551615 := by rw [IntKind.wrap_u64]; omega

theorem and255 (Z : Int) (h : 0 ≤ Z ∧ Z ≤ 18446744073709551615) : 0 ≤ wrap64 (bits BinOp.and IntKind.u64 (Z / 1099511627776) 255) ∧ wrap64 (bits BinOp.and IntKind.u64 (Z / 1099511627776) 255) ≤ 255 := by
  obtain ⟨n, hn⟩ : ∃ n : Nat, Z / 1099511627776 = n := ⟨(Z / 1099511627776).toNat, by omega⟩
  have e := bits_and_u64_nat n 255 (by omega) (by omega)
  rw [hn, show (255 : Int) = ((255 : Nat) : Int) from rfl, e]
  have h2 : n &&& 255 ≤ 255 := Nat.and_le_right
  rw [IntWalk.wrap64_in _ (by omega)]
  omega

theorem srcSet {p : Nat} {w : World} {cv : Value} {code : List Int} {fc : List Nat} {at' seed : Int} (hown : Own [p] w) (hpf0 : ∀ c ∈ fc, c < p) (hcode : R_B fc w [cv] code) (hbs : bytesOk code) (hcl : code.length ≤ 1048576)
    (c0 : w.cell? ⟨p, 0, none⟩ = some cv) (c1 : w.cell? ⟨p, 1, none⟩ = some (ei at')) (c2 : w.cell? ⟨p, 2, none⟩ = some (.int .u64 seed)) (_hs0 : 0 ≤ seed) (_hs1 : seed ≤ 18446744073709551615)
    (N q : Nat) (hq : q ≤ N) (Z : Int) (hZ : 0 ≤ Z ∧ Z ≤ 18446744073709551615) (n : Nat) :
    IsSrc (N + 1) p ((((w.drewN n).setCell ⟨p, 1, none⟩ (.int .i64 ((q : Int) + 1))).setCell ⟨p, 2, none⟩ (.int .u64 Z))) ∧ Upd [p] w ((((w.drewN n).setCell ⟨p, 1, none⟩ (.int .i64 ((q : Int) + 1))).setCell ⟨p, 2, none⟩ (.int .u64 Z))) := by
  have hu : Upd [p] w ((((w.drewN n).setCell ⟨p, 1, none⟩ (.int .i64 ((q : Int) + 1))).setCell ⟨p, 2, none⟩ (.int .u64 Z))) := (((Upd.refl [p] w).drewN n).setCell (by simp) _).setCell (by simp) _
  refine ⟨⟨cv, code, fc, (q : Int) + 1, Z, ?_, ?_, ?_, R_Bk.upd hcode hu (fun b hb hm => by simp at hm; subst hm; have := hpf0 _ hb; omega), hbs, hcl, by omega, by omega, hZ.1, hZ.2, ?_, hpf0⟩, hu⟩
  · rw [World.cell?_setCell_other _ _ _ _ (by simp), World.cell?_setCell_other _ _ _ _ (by simp)]; exact c0
  · rw [World.cell?_setCell_other _ _ _ _ (by simp)]; exact World.cell?_setCell_same _ _ _ (show (w.drewN n).cell? ⟨p, 1, none⟩ = some (ei at') from c1)
  · exact World.cell?_setCell_same _ _ _ (show ((w.drewN n).setCell ⟨p, 1, none⟩ (.int .i64 ((q : Int) + 1))).cell? ⟨p, 2, none⟩ = some (.int .u64 seed) from by
      rw [World.cell?_setCell_other _ _ _ _ (by simp)]; exact c2)
  · exact ((show Own [p] (w.drewN n) from hown).setCell _ _).setCell _ _

set_option maxRecDepth 20000 in
set_option maxHeartbeats 2000000 in
theorem srcNext (N p : Nat) (w : World) (hN : N ≤ 1000000000) (h : IsSrc N p w) :
    Calls Tryd.prog 28 #[.pointer (some ⟨p, 0, none⟩)] w fun e w' => (∃ x : Int, e = .returned (.int .i64 x) ∧ 0 ≤ x ∧ x ≤ 255) ∧ IsSrc (N + 1) p w' ∧ Upd [p] w w' := by
  obtain ⟨cv, code, fc, at', seed, c0, c1, c2, hcode, hbs, hcl, ha0, ha1, hs0, hs1, hown, hpf0⟩ := h
  have hpf : p ∉ fc := fun hm => by have := hpf0 p hm; omega
  obtain ⟨a, cap, rfl, h1, h2, hc⟩ := slF1_open hcode
  unfold maxLen at h2
  obtain ⟨q, rfl⟩ : ∃ q : Nat, at' = q := ⟨at'.toNat, by omega⟩
  have hfz : w.frozen? ⟨p, 1, none⟩ = false := hown.frozen (by simp) _
  have hfz2 : w.frozen? ⟨p, 2, none⟩ = false := hown.frozen (by simp) _
  by_cases hlt : q < code.length
  · obtain ⟨cb, off, rfl, hfc, hbl, hcell⟩ := hc q hlt
    have hb := hbs code[q] (by simp)
    have hne : cb ≠ p := by intro h; subst h; exact hpf (by simp [hfc])
    have HB := Lib.hid hbs
    have HC := Lib.hid hcode
    have HO := Lib.hid hown
    generalize code[q] = x at *
    clear hc hbs hcode hown
    go_enter Tryd.func28, Tryd.ntmps28
    go_wp2_with fail
    go_quiet (fail)
    go_wp2_with fail
    go_quiet (fail)
    go_wp2_with fail
    obtain ⟨Z, hZ⟩ : ∃ Z, Z = IntKind.u64.wrap (IntKind.u64.wrap (IntKind.u64.wrap (seed * 6364136223846793005) + x) + 1442695040888963407) := ⟨_, rfl⟩
    have hZb := wrap_u64_bd (IntKind.u64.wrap (IntKind.u64.wrap (seed * 6364136223846793005) + x) + 1442695040888963407)
    rw [← hZ] at hZb ⊢
    have HS := srcSet HO.out hpf0 HC.out HB.out hcl c0 c1 c2 hs0 hs1 N q (by omega) Z hZb
    have HSS := Lib.hid HS
    clear hZ HS
    go_quiet (fail)
    go_wp2_with fail
    go_ret
    exact ⟨⟨x, rfl, hb.1, hb.2⟩, (HSS.out _).1.upd ((Upd.refl _ _).drewN _), (HSS.out _).2.drewN _⟩
  · have hge : code.length ≤ q := by omega
    have HB := Lib.hid hbs
    have HC := Lib.hid hcode
    have HO := Lib.hid hown
    clear hc hbs hcode hown
    go_enter Tryd.func28, Tryd.ntmps28
    go_wp2_with fail
    go_quiet (fail)
    go_wp2_with fail
    obtain ⟨Z, hZ⟩ : ∃ Z, Z = IntKind.u64.wrap (IntKind.u64.wrap (IntKind.u64.wrap (seed * 6364136223846793005)) + 1442695040888963407) := ⟨_, rfl⟩
    have hZb := wrap_u64_bd (IntKind.u64.wrap (IntKind.u64.wrap (seed * 6364136223846793005)) + 1442695040888963407)
    rw [← hZ] at hZb ⊢
    have HS := srcSet HO.out hpf0 HC.out HB.out hcl c0 c1 c2 hs0 hs1 N q (by omega) Z hZb
    have HSS := Lib.hid HS
    clear hZ HS
    go_quiet (fail)
    go_wp2_with fail
    go_ret
    exact ⟨⟨_, rfl, and255 Z hZb⟩, (HSS.out _).1.upd ((Upd.refl _ _).drewN _), (HSS.out _).2.drewN _⟩

/-- what a call of the source leaves: N' more choices at most. -/
def SrcAt (N p : Nat) (w : World) (P : Int → Prop) (e : Ending) (w' : World) : Prop := (∃ x : Int, e = .returned (.int .i64 x) ∧ P x) ∧ IsSrc N p w' ∧ Upd [p] w w'

set_option maxRecDepth 20000 in
set_option maxHeartbeats 2000000 in
theorem srcPick (N p : Nat) (n : Int) (w : World) (hN : N ≤ 900000000) (h : IsSrc N p w) (hn : n ≤ 1000000) (hn0 : -1000000 ≤ n) :
    Calls Tryd.prog 16 #[.pointer (some ⟨p, 0, none⟩), .int .i64 n] w (SrcAt (N + 2) p w (fun x => 0 ≤ x ∧ (x < n ∨ (x = 0 ∧ n ≤ 1)))) := by
  by_cases h1 : n ≤ 1
  · have HS := Lib.hid (h.mono (show N ≤ N + 2 by omega))
    clear h
    go_enter Tryd.func16, Tryd.ntmps16
    go_wp2_with fail
    go_ret
    exact ⟨⟨0, rfl, by omega, Or.inr ⟨rfl, h1⟩⟩, HS.out, Upd.refl _ _⟩
  · have S1 := Lib.hid (srcNext N p w (by omega) h)
    clear h
    by_cases h2 : n > 200
    · go_enter Tryd.func16, Tryd.ntmps16
      go_wp2_with fail
      refine S1.out.mono ?_
      rintro e w1 ⟨⟨x, rfl, hx0, hx1⟩, hs1, hu1⟩
      have S2 := Lib.hid (srcNext (N + 1) p w1 (by omega) hs1)
      clear hs1 S1
      go_wp2_with fail
      refine S2.out.mono ?_
      rintro e w2 ⟨⟨y, rfl, hy0, hy1⟩, hs2, hu2⟩
      have HS := Lib.hid (And.intro hs2 (hu1.trans hu2))
      clear hs2 hu1 hu2 S2
      go_wp2_with fail
      go_ret
      exact ⟨⟨_, rfl, Int.emod_nonneg _ (by omega), Or.inl (Int.emod_lt_of_pos _ (by omega))⟩, HS.out.1, HS.out.2⟩
    · go_enter Tryd.func16, Tryd.ntmps16
      go_wp2_with fail
      refine S1.out.mono ?_
      rintro e w1 ⟨⟨x, rfl, hx0, hx1⟩, hs1, hu1⟩
      have HS := Lib.hid (And.intro (hs1.mono (show N + 1 ≤ N + 2 by omega)) hu1)
      clear hs1 hu1 S1
      go_wp2_with fail
      go_ret
      exact ⟨⟨_, rfl, Int.emod_nonneg _ (by omega), Or.inl (Int.emod_lt_of_pos _ (by omega))⟩, HS.out.1, HS.out.2⟩

set_option maxRecDepth 20000 in
theorem srcOne (N p : Nat) (n : Int) (w : World) (hN : N ≤ 900000000) (h : IsSrc N p w) (hn : n ≤ 1000000) (hn0 : -1000000 ≤ n) :
    Calls Tryd.prog 26 #[.pointer (some ⟨p, 0, none⟩), .int .i64 n] w fun e w' => (∃ b : Bool, e = .returned (.bool b)) ∧ IsSrc (N + 2) p w' ∧ Upd [p] w w' := by
  have S1 := Lib.hid (srcPick N p n w hN h hn hn0)
  clear h
  go_enter Tryd.func26, Tryd.ntmps26
  go_wp2_with fail
  refine S1.out.mono ?_
  rintro e w1 ⟨⟨x, rfl, -⟩, hs1, hu1⟩
  have HS := Lib.hid (And.intro hs1 hu1)
  clear hs1 hu1 S1
  go_wp2_with fail
  go_ret
  exact ⟨⟨_, rfl⟩, HS.out.1, HS.out.2⟩

set_option maxRecDepth 20000 in
theorem srcFrom (v : Value) (code : List Int) (w : World) (fc : List Nat) (hR : R_B fc w [v] code) (hb : bytesOk code) (hl : code.length ≤ 1048576) :
    Calls Tryd.prog 14 #[v] w fun e w' => (∃ p, e = .returned (.pointer (some ⟨p, 0, none⟩)) ∧ IsSrc 0 p w' ∧ w.heap.size ≤ p) ∧ Upd [] w w' := by
  obtain ⟨a, cap, rfl, h1, h2, -⟩ := slF1_open hR
  have hs : IsSrc 0 w.heap.size (w.alloc (.cells #[.slice a code.length cap, ei 0, .int .u64 0] 56)) :=
    ⟨_, code, fc, 0, 0, cell_new _ _ _ _ rfl _ _ rfl, cell_new _ _ _ _ rfl _ _ rfl, cell_new _ _ _ _ rfl _ _ rfl, R_Bk.upd hR ((Upd.refl [] w).alloc _) (by simp), hb, hl, by omega, by omega, by omega, by omega, own_new _ _ _, fun c hc => R_Bk.lt hR c hc⟩
  have HS := Lib.hid hs
  clear hs hR
  go_enter Tryd.func14, Tryd.ntmps14
  go_wp2_with fail
  go_ret
  exact ⟨⟨_, rfl, HS.out, Nat.le_refl _⟩, (Upd.refl _ _).alloc _⟩

end Go.Proofs.YtpnokhhbakiiiaaDoor

/-
  Lists of texts in memory.
-/
namespace Go.Proofs.YtpnokhhbakiiiaaDoor
open Go.RowKit

abbrev RS : Rp (List (List UInt8)) := slF 1 (fun s => [es s])
end Go.Proofs.YtpnokhhbakiiiaaDoor

/-
  The laws' helper functions over lists of texts.
-/
namespace Go.Proofs.YtpnokhhbakiiiaaDoor
open Go.RowKit

abbrev R_S1 : Rp (List (List UInt8)) := RS
/-- the text that marks the number k. -/
def mtx (k : Int) : List UInt8 := 109 :: Lib.decDigits k.toNat

/-- n marks from k on. -/
def mkS (k : Int) (n : Nat) : List (List UInt8) := (upFrom k n).map mtx
@[simp] theorem mkS_length (k : Int) (n : Nat) : (mkS k n).length = n := by simp [mkS]
theorem mkS_get (k : Int) (n i : Nat) (h : i < n) : (mkS k n)[i]? = some (mtx (k + i)) := by
  unfold mkS; rw [List.getElem?_map, upFrom_get k n i h]; rfl
end Go.Proofs.YtpnokhhbakiiiaaDoor

/-
  Names and labels by the reference: what its calls return.
-/
namespace Go.Proofs.YtpnokhhbakiiiaaDoor
open Go.RowKit

end Go.Proofs.YtpnokhhbakiiiaaDoor

/-
  The order of texts.
-/
namespace Go.Proofs.YtpnokhhbakiiiaaDoor
open Go.RowKit

def bl (a b : List UInt8) : Bool := Op.bytesLess a b
end Go.Proofs.YtpnokhhbakiiiaaDoor

/-
  Lists of names: whether one is valid, and whether a name is in it; both sides.
-/
namespace Go.Proofs.YtpnokhhbakiiiaaDoor
open Go.RowKit

/-- where a name first stands in a list, or -1. -/
def placeS (x : List UInt8) : List (List UInt8) → Int
  | [] => -1
  | s :: r => if s = x then 0 else if placeS x r < 0 then -1 else placeS x r + 1
theorem placeS_at {x : List UInt8} : ∀ {l : List (List UInt8)} (k : Nat) (hk : k < l.length), (∀ j (_ : j < k) (hj : j < l.length), l[j] ≠ x) → l[k] = x → placeS x l = k
  | [], k, hk, _, _ => by simp at hk
  | s :: r, 0, _, _, h => by simp at h; simp [placeS, h]
  | s :: r, k + 1, hk, hn, h => by
    have h0 : s ≠ x := hn 0 (by omega) (by simp)
    have ih := placeS_at (x := x) (l := r) k (by simpa using hk) (fun j hj hj2 => by have := hn (j + 1) (by omega) (by simpa using hj2); rwa [List.getElem_cons_succ] at this) (by rwa [List.getElem_cons_succ] at h)
    rw [placeS, if_neg h0, ih, if_neg (by omega)]; omega
theorem placeS_none {x : List UInt8} : ∀ {l : List (List UInt8)}, (∀ j (hj : j < l.length), l[j] ≠ x) → placeS x l = -1
  | [], _ => rfl
  | s :: r, hn => by
    have h0 : s ≠ x := hn 0 (by simp)
    have ih := placeS_none (x := x) (l := r) (fun j hj => by have := hn (j + 1) (by simpa using hj); rwa [List.getElem_cons_succ] at this)
    rw [placeS, if_neg h0, ih, if_pos (by omega)]
set_option maxRecDepth 20000 in
set_option maxHeartbeats 2000000 in
theorem indexSS (v : Value) (xs : List (List UInt8)) (x : List UInt8) (w : World) (fp : List Nat) (hR : R_S1 fp w [v] xs) :
    Calls Tryd.prog 57 #[v, es x] w fun e w' => e = .returned (.int .i64 (placeS x xs)) ∧ Upd [] w w' := by
  obtain ⟨a, c, rfl, hl1, hm1, hc⟩ := slF1_open hR
  unfold maxLen at hm1
  have HC := Lib.hid hc
  have HF := Lib.hid (fun k (hk : k < xs.length) (h1 : ∀ j (_ : j < k) (hj : j < xs.length), xs[j] ≠ x) (h2 : xs[k] = x) => placeS_at k hk h1 h2)
  have HN := Lib.hid (fun (h : ∀ j (hj : j < xs.length), xs[j] ≠ x) => placeS_none h)
  clear hR hc
  generalize placeS x xs = Z at *
  go_enter Tryd.func57, Tryd.ntmps57
  go_wp2_with fail
  go_loopw [8] (fun iv wr => ∃ k m : Nat, k ≤ xs.length ∧ iv = .int .i64 k ∧ wr = w.drewN m ∧ Hid (∀ j (_ : j < k) (hj : j < xs.length), xs[j] ≠ x)) (fun iv _ => xs.length - (intOf iv).toNat)
  case atStart => exact ⟨0, 0, Nat.zero_le _, rfl, rfl, Lib.hid (fun j hj => absurd hj (Nat.not_lt_zero _))⟩
  case round =>
    obtain ⟨k, m, hk, rfl, rfl, HI⟩ := hrel
    by_cases hlt : k < xs.length
    · obtain ⟨b, off, rfl, -, -, hcell⟩ := HC.out k hlt
      have HFK := Lib.hid (HF.out k hlt HI.out)
      have HIK := Lib.hid (fun (h : xs[k] ≠ x) j (hjk : j < k + 1) (hj : j < xs.length) => (show xs[j] ≠ x by
        by_cases e : j = k
        · subst e; exact h
        · exact HI.out j (by omega) hj))
      clear HF HC
      generalize xs[k] = y at *
      by_cases hy : y = x
      · have hy2 : (x == y) = true := by simp [hy]
        have hy1 : (y == x) = true := by simp [hy]
        have HZ := Lib.hid (HFK.out hy)
        clear HFK HIK hy
        go_wp2_with fail
        (try go_quiet (fail))
        (try go_wp2_with fail)
        go_ret
        exact ⟨by rw [HZ.out]; rfl, by first | exact (Upd.refl _ _).drewN _ | (rw [drewN_add]; exact (Upd.refl _ _).drewN _)⟩
      · have hy2 : (x == y) = false := by simp [Ne.symm hy]
        have hy1 : (y == x) = false := by simp [hy]
        replace HIK := Lib.hid (HIK.out hy)
        clear HFK hy
        go_wp2_with fail
        (try go_quiet (fail))
        (try go_wp2_with fail)
        go_roundw
        case rel => exact ⟨k + 1, _, by omega, by go_num, rfl, HIK⟩
        case measure => simp [intOf]; omega
    · have HZ := Lib.hid (HN.out (fun j hj => HI.out j (by omega) hj))
      go_wp2_with fail
      go_ret
      exact ⟨by rw [HZ.out]; rfl, (Upd.refl _ _).drewN _⟩

end Go.Proofs.YtpnokhhbakiiiaaDoor

/-
  A text divided at each byte by the reference.
-/
namespace Go.Proofs.YtpnokhhbakiiiaaDoor
open Go.RowKit

theorem extract_list (l : List UInt8) (a b : Nat) : (⟨l.toArray⟩ : ByteArray).extract a b = ⟨((l.drop a).take (b - a)).toArray⟩ := by
  apply ByteArray.ext
  apply Array.ext'
  simp [ByteArray.data_extract, List.take_drop]
  first | done | (rw [List.drop_take]) | skip

end Go.Proofs.YtpnokhhbakiiiaaDoor

/-
  Expressions parsed: the program reads tokens.
-/
namespace Go.Proofs.YtpnokhhbakiiiaaDoor
open Go.RowKit

/-- the texts of the operators. -/
def opL : List (List UInt8) := [[43], [45], [42], [61], [35], [60], [60, 61], [38], [124]]
theorem opL_get (j : Nat) (h : j < 9) : opL[j]? = some (opT j) := by
  rcases (show j = 0 ∨ j = 1 ∨ j = 2 ∨ j = 3 ∨ j = 4 ∨ j = 5 ∨ j = 6 ∨ j = 7 ∨ j = 8 by omega) with h | h | h | h | h | h | h | h | h <;> subst h <;> rfl
theorem opL_at (j : Nat) (h : j < opL.length) : opL[j] = opT j := by
  have h1 := opL_get j h
  rw [List.getElem?_eq_getElem h] at h1
  exact Option.some.inj h1
theorem opL_read {w : World} (h : Glob w) : ∃ f, RS f w [.slice (some ⟨0, 0, none⟩) 9 9] opL := by
  have h0 := h.ops 0 (by omega)
  have hlt : 0 < w.heap.size := by
    rcases Nat.lt_or_ge 0 w.heap.size with h1 | h1
    · exact h1
    · unfold World.cell? at h0
      rw [Array.getElem?_eq_none h1] at h0; simp at h0
  have hlen : opL.length = 9 := rfl
  refine ⟨[0], _, rfl, some ⟨0, 0, none⟩, 9, rfl, by rw [hlen]; exact Nat.le_refl _, by simp [maxLen], rfl, Or.inr ⟨_, 0, rfl, rfl, hlt, fun j u hj => ?_⟩⟩
  rw [flatMap_single] at hj
  have hj9 : j < 9 := by
    rcases Nat.lt_or_ge j 9 with h | h
    · exact h
    · rw [List.getElem?_eq_none (by simpa [hlen] using h)] at hj; cases hj
  rw [Nat.zero_add, h.ops j hj9]
  rw [List.getElem?_map, opL_get j hj9] at hj
  exact hj
theorem place_op (t : List UInt8) : (∃ o : Nat, opIx t = some o ∧ placeS t opL = o ∧ o < 9) ∨ (opIx t = none ∧ placeS t opL = -1) := by
  cases ho : opIx t with
  | none =>
    refine Or.inr ⟨rfl, placeS_none fun j hj => ?_⟩
    unfold opIx at ho
    rw [List.find?_eq_none] at ho
    have := ho j (by have h9 : opL.length = 9 := rfl; rw [List.mem_range]; omega)
    rw [opL_at j hj]
    simpa using this
  | some o =>
    have h1 := opIx_lt ho
    refine Or.inl ⟨o, rfl, placeS_at o h1.1 (fun j hj hj2 => ?_) (by rw [opL_at o h1.1]; exact h1.2), h1.1⟩
    unfold opIx at ho
    rw [List.find?_range_eq_some] at ho
    have := ho.2.2 j hj
    rw [opL_at j hj2]
    simpa using this

set_option maxRecDepth 20000 in
set_option maxHeartbeats 1000000 in
theorem readOpI (t : List UInt8) (w : World) (hG : Glob w) : Calls Tryd.prog 38 #[es t] w fun e w' => e = .returned (.tuple #[.int .i64 (((opIx t).map Int.ofNat).getD 0), .bool (opIx t).isSome]) ∧ Upd [] w w' := by
  obtain ⟨f, hR⟩ := opL_read hG
  have S1 := Lib.hid (indexSS _ opL t w f hR)
  have HP := Lib.hid (place_op t)
  clear hR hG
  go_enter Tryd.func38, Tryd.ntmps38
  go_wp2_with fail
  refine S1.out.mono ?_
  rintro e w1 ⟨rfl, hu⟩
  have HU := Lib.hid hu
  clear S1 hu
  generalize placeS t opL = Z at *
  rcases HP.out with ⟨o, h1, rfl, h3⟩ | ⟨h1, rfl⟩
  · have HX := Lib.hid h1
    have h4 : ¬ ((o : Int) < 0) := by omega
    clear HP h1
    go_wp2_with fail
    go_ret2
    exact ⟨by rw [HX.out]; rfl, HU.out⟩
  · have HX := Lib.hid h1
    clear HP h1
    go_wp2_with fail
    go_ret2
    exact ⟨by rw [HX.out]; rfl, HU.out⟩

set_option maxRecDepth 20000 in
set_option maxHeartbeats 1000000 in
theorem digitsEndI (s : List UInt8) (n : Nat) (w : World) (hl : s.length ≤ 2000000) (hn : n ≤ s.length) :
    Calls Tryd.prog 35 #[es s, .int .i64 n] w fun e w' => e = .returned (.int .i64 ((n + ((s.drop n).takeWhile isDig).length : Nat) : Int)) ∧ Upd [] w w' := by
  have HD := Lib.hid isDigitI
  obtain ⟨Z, hZ⟩ : ∃ Z, n + ((s.drop n).takeWhile isDig).length = Z := ⟨_, rfl⟩
  rw [hZ]
  have HZ := Lib.hid hZ
  clear hZ
  go_enter Tryd.func35, Tryd.ntmps35
  go_wp2_with fail
  go_loopw [1] (fun iv wr => ∃ k : Nat, k ≤ s.length ∧ iv = .int .i64 k ∧ Hid (k + ((s.drop k).takeWhile isDig).length = Z) ∧ Hid (Upd [] w wr)) (fun iv _ => s.length - (intOf iv).toNat)
  case atStart => exact ⟨n, hn, rfl, HZ, Lib.hid (Upd.refl _ _)⟩
  case round =>
    clear HZ
    obtain ⟨wo, rfl⟩ : ∃ wo : World, wo = wr := ⟨_, rfl⟩
    obtain ⟨k, hk, rfl, HZ, HU⟩ := hrel
    by_cases hlt : k < s.length
    · obtain ⟨b, hb⟩ : ∃ b, s[k] = b := ⟨_, rfl⟩
      have hix : (⟨s.toArray⟩ : ByteArray)[k]'(by simpa [ByteArray.size] using hlt) = b := by rw [← hb]; simp [ByteArray.getElem_eq_getElem_data]
      have hkl : (k : Int) < (s.length : Int) := by omega
      have D1 := Lib.hid (HD.out b wo)
      have HT := Lib.hid (show (s.drop k).takeWhile isDig = if isDig b then b :: (s.drop (k + 1)).takeWhile isDig else [] by
        rw [List.drop_eq_getElem_cons hlt, hb, List.takeWhile_cons])
      generalize isDig b = q at *
      clear hb
      go_wp2_with fail
      refine D1.out.mono ?_
      rintro e w1 ⟨rfl, rfl⟩
      clear D1
      cases q with
      | true =>
        have HX := Lib.hid (show k + 1 + ((s.drop (k + 1)).takeWhile isDig).length = Z by have h1 := HZ.out; rw [HT.out, if_pos rfl, List.length_cons] at h1; omega)
        clear HT HZ
        go_wp2_with fail
        go_roundw
        case rel => exact ⟨k + 1, by omega, by go_num, HX, HU⟩
        case measure => simp [intOf]; omega
      | false =>
        have HX := Lib.hid (show k = Z by have h1 := HZ.out; rw [HT.out, if_neg (by simp)] at h1; simpa using h1)
        clear HT HZ
        go_wp2_with fail
        go_ret
        exact ⟨by rw [← HX.out]; rfl, HU.out⟩
    · obtain rfl : k = s.length := by omega
      have HX := Lib.hid (show s.length = Z by have h1 := HZ.out; rw [List.drop_of_length_le (Nat.le_refl _)] at h1; simpa using h1)
      clear HZ
      go_wp2_with fail
      go_ret
      exact ⟨by rw [← HX.out]; rfl, HU.out⟩

theorem smallF_iff (lim : Int) (t : List UInt8) : (smallF lim t).isSome = ((numF t).isSome && inB ((numF t).getD 0) 0 (lim - 1)) ∧ ∀ k, smallF lim t = some k → (numF t).getD 0 = k := by
  unfold smallF
  cases numF t with
  | none => exact ⟨rfl, fun k h => by cases h⟩
  | some n =>
    refine ⟨?_, fun k h => ?_⟩
    · simp only [Option.isSome_some, Bool.true_and, Option.getD_some]
      by_cases h : 0 ≤ n ∧ n < lim
      · rw [if_pos h, inB_mk (by omega)]; rfl
      · rw [if_neg h, inB_no (by omega)]; rfl
    · simp only at h
      split at h
      · cases h; rfl
      · cases h

set_option maxRecDepth 20000 in
set_option maxHeartbeats 1000000 in
theorem numberTokenI (lim : Int) (t : List UInt8) (w : World) (hl : t.length ≤ 2000000) (h1 : 1 ≤ lim) (h2 : lim ≤ 1000) (he : EnvT w) :
    Calls Tryd.prog 55 #[es t, .int .i64 lim] w fun e w' => (∃ N : Int, e = .returned (.tuple #[.int .i64 N, .bool (smallF lim t).isSome]) ∧ Hid (∀ k, smallF lim t = some k → N = k)) ∧ Upd [] w w' := by
  have S1 := Lib.hid (readDecimalT t w hl he)
  have HW := Lib.hid (fun n (W : World) => within n 0 (lim - 1) W)
  have HS := Lib.hid (smallF_iff lim t)
  have hw : IntKind.i64.wrap (lim - 1) = lim - 1 := by rw [IntKind.wrap_i64]; omega
  clear he hl
  generalize smallF lim t = Q at *
  go_enter Tryd.func55, Tryd.ntmps55
  go_wp2_with fail
  refine S1.out.mono ?_
  rintro e w1 ⟨rfl, hu⟩
  have HU := Lib.hid hu
  clear S1 hu
  obtain ⟨qn, hqn⟩ : ∃ q, (numF t).isSome = q := ⟨_, rfl⟩
  rw [hqn] at HS ⊢
  clear hqn
  generalize (numF t).getD 0 = N at *
  have W1 := Lib.hid (HW.out N w1)
  generalize inB N 0 (lim - 1) = qi at *
  cases qn with
  | false =>
    have HX := Lib.hid (show Q.isSome = false by rw [HS.out.1]; rfl)
    have HY := Lib.hid HS.out.2
    clear HS HW W1
    go_wp2_with fail
    go_ret2
    exact ⟨⟨N, by rw [HX.out]; rfl, HY⟩, HU.out⟩
  | true =>
    have HX := Lib.hid (show Q.isSome = qi by rw [HS.out.1]; rfl)
    have HY := Lib.hid HS.out.2
    clear HS HW
    go_wp2_with fail
    refine W1.out.mono ?_
    rintro e w2 ⟨rfl, rfl⟩
    clear W1
    go_wp2_with fail
    go_ret2
    exact ⟨⟨N, by rw [HX.out]; rfl, HY⟩, HU.out⟩

theorem cut_v (t : List UInt8) : (∃ r, t = 118 :: r ∧ Lib.hasPrefix t [118] = true ∧ Lib.trimPrefix t [118] = r) ∨ (Lib.hasPrefix t [118] = false ∧ Lib.trimPrefix t [118] = t ∧ varF t = none) := by
  cases t with
  | nil => exact Or.inr ⟨rfl, rfl, rfl⟩
  | cons c r =>
    by_cases h : c = 118
    · subst h
      refine Or.inl ⟨r, rfl, ?_, ?_⟩ <;> simp [Lib.trimPrefix, Lib.hasPrefix, List.isPrefixOf]
    · have h2 : Lib.hasPrefix (c :: r) [118] = false := by
        simp only [Lib.hasPrefix, List.isPrefixOf, Bool.and_true]
        exact beq_eq_false_iff_ne.2 (Ne.symm h)
      exact Or.inr ⟨h2, by unfold Lib.trimPrefix; rw [h2]; rfl, by show (if c = 118 then smallF 29 r else none) = none; rw [if_neg h]⟩

set_option maxRecDepth 20000 in
set_option maxHeartbeats 1000000 in
theorem variableTokenI (t : List UInt8) (w : World) (hl : t.length ≤ 2000000) (he : EnvT w) :
    Calls Tryd.prog 56 #[es t] w fun e w' => (∃ N : Int, e = .returned (.tuple #[.int .i64 N, .bool (varF t).isSome]) ∧ Hid (∀ k, varF t = some k → N = k)) ∧ Upd [] w w' := by
  have S1 := Lib.hid (Tryd.strings_CutPrefix ⟨t.toArray⟩ ⟨#[118]⟩ w)
  have e1 : (⟨t.toArray⟩ : ByteArray).data.toList = t := rfl
  have e2 : (⟨#[118]⟩ : ByteArray).data.toList = [118] := rfl
  rw [e1, e2] at S1
  clear e1 e2
  rcases cut_v t with ⟨r, rfl, h1, h2⟩ | ⟨h1, h2, h3⟩
  · rw [h1, h2] at S1
    have S2 := Lib.hid (numberTokenI 29 r w (by simp at hl; omega) (by omega) (by omega) he)
    have HV := Lib.hid (show varF (118 :: r) = smallF 29 r from rfl)
    generalize varF (118 :: r) = V at *
    clear h1 h2 he hl
    go_enter Tryd.func56, Tryd.ntmps56
    go_wp2_with fail
    refine S1.out.mono ?_
    rintro e w1 ⟨rfl, rfl⟩
    clear S1
    go_wp2_with fail
    refine S2.out.mono ?_
    rintro e w2 ⟨⟨N, rfl, HN⟩, hu⟩
    have HU := Lib.hid hu
    clear S2 hu
    generalize smallF 29 r = Q at *
    obtain ⟨q, hq⟩ : ∃ q, Q.isSome = q := ⟨_, rfl⟩
    rw [hq]
    have HQ := Lib.hid (show V.isSome = q by rw [HV.out, hq])
    have HN2 := Lib.hid (show ∀ k, V = some k → N = k by rw [HV.out]; exact HN.out)
    clear hq HV HN
    go_wp2_with fail
    go_ret2
    exact ⟨⟨N, by rw [HQ.out]; rfl, HN2⟩, HU.out⟩
  · rw [h1, h2] at S1
    have S2 := Lib.hid (numberTokenI 29 t w hl (by omega) (by omega) he)
    have HV := Lib.hid h3
    clear h1 h2 h3 he hl
    go_enter Tryd.func56, Tryd.ntmps56
    go_wp2_with fail
    refine S1.out.mono ?_
    rintro e w1 ⟨rfl, rfl⟩
    clear S1
    go_wp2_with fail
    refine S2.out.mono ?_
    rintro e w2 ⟨⟨N, rfl, HN⟩, hu⟩
    have HU := Lib.hid hu
    clear S2 hu HN
    generalize (smallF 29 t).isSome = q at *
    go_wp2_with fail
    go_ret2
    exact ⟨⟨N, by rw [HV.out]; rfl, Lib.hid (fun k h => by rw [HV.out] at h; cases h)⟩, HU.out⟩

end Go.Proofs.YtpnokhhbakiiiaaDoor

/-
  Slices of elements of three or four plain cells each.
-/
namespace Go.Proofs.YtpnokhhbakiiiaaDoor
open Go.RowKit

end Go.Proofs.YtpnokhhbakiiiaaDoor

/-
  Canonical forms, plainly; forests of the rest of a valid list of terms.
-/
namespace Go.Proofs.YtpnokhhbakiiiaaDoor

theorem trees_inj (n : Nat) : ∀ (xs ys : List Ex) (r s : List Tm), (flatEs xs).length ≤ n → okEs xs = true → okEs ys = true → xs.length = ys.length → flatEs xs ++ r = flatEs ys ++ s → xs = ys ∧ r = s := by
  induction n with
  | zero =>
    intro xs ys r s hn _ _ hl h
    cases xs with
    | nil =>
      have : ys = [] := List.eq_nil_of_length_eq_zero (by simpa using hl.symm)
      subst this; exact ⟨rfl, by simpa [flatEs] using h⟩
    | cons x xs => have := flatE_pos x; simp [flatEs] at hn; rw [hn.1] at this; simp at this
  | succ n ih =>
    intro xs ys r s hn h1 h2 hl h
    match xs, ys, hl with
    | [], [], _ => exact ⟨rfl, by simpa [flatEs] using h⟩
    | .mk t cs :: xs, .mk u bs :: ys, hl =>
      simp only [flatEs, flatE, List.cons_append, List.cons.injEq, List.append_assoc, List.length_cons, List.length_append] at h hn
      simp only [okEs, okE, Bool.and_eq_true, decide_eq_true_eq] at h1 h2
      obtain ⟨rfl, h⟩ := h
      have hab : cs.length = bs.length := by have := h1.1.1; have := h2.1.1; omega
      obtain ⟨h3, h4⟩ := ih (cs ++ xs) (bs ++ ys) r s (by rw [flatEs_append, List.length_append]; omega) (by rw [okEs_append, h1.1.2, h1.2]; rfl) (by rw [okEs_append, h2.1.2, h2.2]; rfl)
        (by simp only [List.length_append]; simp at hl; omega) (by rw [flatEs_append, flatEs_append, List.append_assoc, List.append_assoc]; exact h)
      obtain ⟨rfl, rfl⟩ := List.append_inj h3 hab
      exact ⟨rfl, h4⟩
theorem tree_inj {x y : Ex} (h1 : okE x = true) (h2 : okE y = true) (h : flatE x = flatE y) : x = y := by
  have := (trees_inj _ [x] [y] [] [] (Nat.le_refl _) (by simpa [okEs] using h1) (by simpa [okEs] using h2) rfl (by simpa [flatEs] using h)).1
  simpa using this

end Go.Proofs.YtpnokhhbakiiiaaDoor

/-
  The text of an expression: what the reference's calls return.
-/
namespace Go.Proofs.YtpnokhhbakiiiaaDoor
open Go.RowKit

def lv7 : Ex → Int | .mk t _ => if t.1 = 2 then lvl t.2 else if t.1 = 3 then 6 else 7
theorem ownsRow_grown {w w1 : World} {base : Nat} {e : TypeId} {size : Nat} {v : Value} {n : Nat} {xs : List Value} (h : w.ownsRow base e size v n xs) {row : Option Nat} (hg : w.grownBy w1 row) (hd : ∀ b, v.ownBlock = some b → row ≠ some b) : w1.ownsRow base e size v n xs := by
  refine h.kept (row := row) hg ?_
  cases hv : v.ownBlock with
  | none => exact Or.inl rfl
  | some b => exact Or.inr (fun e => hd b hv e.symm)

def txs (xs : List Ex) : List Value := xs.reverse.map fun x => es (textE x)
def lvs (xs : List Ex) : List Value := xs.reverse.map fun x => ei (lv7 x)
theorem txs_cons (x : Ex) (xs : List Ex) : txs (x :: xs) = txs xs ++ [es (textE x)] := by simp [txs]
theorem lvs_cons (x : Ex) (xs : List Ex) : lvs (x :: xs) = lvs xs ++ [ei (lv7 x)] := by simp [lvs]
/-- the two stacks, apart. -/
structure Stk (w0 w : World) (tv lv : Value) (xs : List Ex) : Prop where
  t : w.ownsRow w0.heap.size 9 1 tv xs.length (txs xs)
  l : w.ownsRow w0.heap.size 2 1 lv xs.length (lvs xs)
  apart : ∀ b, tv.ownBlock = some b → lv.ownBlock ≠ some b

theorem Stk.done {w0 wA w3 w4 : World} {tvc lvc tv' lv' : Value} {ys : List Ex} {x : Ex} {o : Obj} (hl : wA.ownsRow w0.heap.size 2 1 lvc ys.length (lvs ys))
    (hap : ∀ b, tvc.ownBlock = some b → lvc.ownBlock ≠ some b) (h3 : w3.ownsRow w0.heap.size 9 1 tv' (ys.length + 1) (txs ys ++ [es (textE x)])) (ht3 : ∀ b, tv'.ownBlock = some b → tvc.ownBlock = some b ∨ wA.heap.size ≤ b)
    (h4 : w4.ownsRow w0.heap.size 2 1 lv' (ys.length + 1) (lvs ys ++ [ei (lv7 x)])) (hg4 : (w3.alloc o).grownBy w4 lvc.ownBlock) (ht4 : ∀ b, lv'.ownBlock = some b → lvc.ownBlock = some b ∨ (w3.alloc o).heap.size ≤ b) : Stk w0 w4 tv' lv' (x :: ys) := by
  have hd : ∀ b, tv'.ownBlock = some b → lvc.ownBlock ≠ some b := by
    intro b hb hlb
    rcases ht3 b hb with h | h
    · exact hap b h hlb
    · have := (hl.lt b hlb).2; omega
  refine ⟨?_, by rw [lvs_cons]; simpa using h4, ?_⟩
  · rw [txs_cons]
    exact ownsRow_grown (ownsRow_upd (by simpa using h3) ((Upd.refl [] _).alloc o)) hg4 hd
  · intro b hb hlb
    rcases ht4 b hlb with h | h
    · exact hd b hb h
    · have := (h3.lt b hb).2; simp at h; omega

theorem Stk.levels {w0 wA w3 : World} {tvc lvc : Value} {ys : List Ex} {o : Obj} (hl : wA.ownsRow w0.heap.size 2 1 lvc ys.length (lvs ys))
    (hap : ∀ b, tvc.ownBlock = some b → lvc.ownBlock ≠ some b) (hg3 : wA.grownBy w3 tvc.ownBlock) : (w3.alloc o).ownsRow w0.heap.size 2 1 lvc ys.length (lvs ys) :=
  ownsRow_upd (ownsRow_grown hl hg3 (fun b hb h => hap b h hb)) ((Upd.refl [] _).alloc o)

end Go.Proofs.YtpnokhhbakiiiaaDoor

/-
  A number in decimal, read by the reference. (Printed by gennum.py: the two signs alike.)
-/
namespace Go.Proofs.YtpnokhhbakiiiaaDoor
open Go.RowKit

end Go.Proofs.YtpnokhhbakiiiaaDoor

/-
  Readings of slices whose elements are several cells each and hold memory of their own.
-/
namespace Go.Proofs.YtpnokhhbakiiiaaDoor
open Go.RowKit

theorem flat_at {β : Type} {n : Nat} : ∀ {us : List (List β)}, (∀ u ∈ us, u.length = n) → ∀ {i : Nat} {u : List β}, us[i]? = some u → ∀ {j : Nat} {c : β}, u[j]? = some c → us.flatten[i * n + j]? = some c
  | [], _, i, u, hu, _, _, _ => by simp at hu
  | v :: us, h, i, u, hu, j, c, hc => by
    have hv := h v (by simp)
    rw [List.flatten_cons]
    cases i with
    | zero =>
      simp at hu; subst hu
      rw [Nat.zero_mul, Nat.zero_add, List.getElem?_append_left (List.getElem?_eq_some_iff.1 hc).1]; exact hc
    | succ i =>
      simp at hu
      rw [List.getElem?_append_right (by rw [Nat.add_mul]; omega), hv, show (i + 1) * n + j - n = i * n + j by rw [Nat.add_mul]; omega]
      exact flat_at (fun x hx => h x (by simp [hx])) hu hc

/-- A slice whose elements are n cells each, and hold memory of their own. -/
def slQ {α : Type} (n : Nat) (R : Rp α) : Rp (List α) := fun fp w cs xs =>
  ∃ (a : Option Addr) (cap : Nat) (us : List (List Value)) (fb : List Nat) (fps : List (List Nat)), cs = [.slice a xs.length cap] ∧ xs.length ≤ cap ∧ cap ≤ maxLen ∧ us.length = xs.length ∧ (∀ u ∈ us, u.length = n) ∧ fps.length = xs.length ∧ fp = fb ++ fps.flatten ∧
    ((xs.length = 0 ∧ fb = []) ∨ ∃ b off, a = some ⟨b, off, none⟩ ∧ fb = [b] ∧ b < w.heap.size ∧ ∀ (i j : Nat) (u : List Value) (c : Value), us[i]? = some u → u[j]? = some c → w.cell? ⟨b, off + i * n + j, none⟩ = some c) ∧
    ∀ i (h : i < xs.length) u (f : List Nat), us[i]? = some u → fps[i]? = some f → R f w u xs[i]

/-- Elements of several cells each, with memory of their own, from block base on and apart from the blocks ob. -/
def RowsQ {α : Type} (n : Nat) (R : Rp α) (base : Nat) (ob : List Nat) (w : World) (us : List (List Value)) (xs : List α) : Prop :=
  ∃ fps : List (List Nat), fps.length = xs.length ∧ us.length = xs.length ∧ (∀ u ∈ us, u.length = n) ∧ Own fps.flatten w ∧ (∀ b ∈ fps.flatten, base ≤ b ∧ b ∉ ob) ∧
    ∀ i (h : i < xs.length) u (f : List Nat), us[i]? = some u → fps[i]? = some f → R f w u xs[i]

/-- What a call makes anew, as several cells. -/
def NewQ {α : Type} (R : Rp α) (w w' : World) (u : List Value) (x : α) : Prop :=
  ∃ fp, R fp w' u x ∧ Own fp w' ∧ ∀ b ∈ fp, w.heap.size ≤ b

namespace RowsQ
variable {α : Type} {n : Nat} {R : Rp α} {base : Nat} {ob : List Nat} {w w1 : World} {us : List (List Value)} {xs : List α}

theorem nil (n : Nat) (R : Rp α) (base : Nat) (ob : List Nat) (w : World) : RowsQ n R base ob w [] [] := ⟨[], rfl, rfl, by simp, Own.nil w, by simp, by simp⟩
theorem length (h : RowsQ n R base ob w us xs) : us.length = xs.length := by obtain ⟨_, _, h, _⟩ := h; exact h
theorem each (h : RowsQ n R base ob w us xs) : ∀ u ∈ us, u.length = n := by obtain ⟨_, _, _, h, _⟩ := h; exact h
theorem upd (K : Kept R) (h : RowsQ n R base ob w us xs) {f : List Nat} (hu : Upd f w w1) (hf : ∀ b ∈ f, b ∈ ob ∨ b < base) : RowsQ n R base ob w1 us xs := by
  obtain ⟨fps, h1, h2, h6, h3, h4, h5⟩ := h
  have hd : ∀ b ∈ fps.flatten, b ∉ f := fun b hb hm => by
    rcases hf b hm with h | h
    · exact (h4 b hb).2 h
    · have := (h4 b hb).1; omega
  refine ⟨fps, h1, h2, h6, h3.upd hu hd, h4, fun i hi u f' hu' hf' => K.upd (h5 i hi u f' hu' hf') hu fun b hb => hd b (List.mem_flatten.2 ⟨_, List.mem_of_getElem? hf', hb⟩)⟩

theorem ob' (h : RowsQ n R base ob w us xs) {ob2 : List Nat} (hb : ∀ b ∈ ob2, b ∈ ob ∨ b < base ∨ w.heap.size ≤ b) : RowsQ n R base ob2 w us xs := by
  obtain ⟨fps, h1, h2, h6, h3, h4, h5⟩ := h
  refine ⟨fps, h1, h2, h6, h3, fun b hb' => ⟨(h4 b hb').1, fun hm => ?_⟩, h5⟩
  rcases hb b hm with h | h | h
  · exact (h4 b hb').2 h
  · have := (h4 b hb').1; omega
  · have := h3.lt b hb'; omega

theorem push (K : Kept R) (h : RowsQ n R base ob w us xs) {u : List Value} {x : α} (hu : Upd [] w w1) (hn : NewQ R w w1 u x) (hl : u.length = n) (hb : base ≤ w.heap.size) (hob : ∀ b ∈ ob, b < w.heap.size) :
    RowsQ n R base ob w1 (us ++ [u]) (xs ++ [x]) := by
  obtain ⟨fps, h1, h2, h6, h3, h4, h5⟩ := h.upd K hu (by simp)
  obtain ⟨fps', h1', h2', h6', h3', h4', h5'⟩ := h
  obtain ⟨fp, g1, g2, g3⟩ := hn
  have hlt : ∀ b ∈ fps'.flatten, b < w.heap.size := h3'.lt
  refine ⟨fps' ++ [fp], by simp [h1'], by simp [h2], ?_, ⟨?_, ?_⟩, ?_, ?_⟩
  · intro v hv
    rcases List.mem_append.1 hv with hv | hv
    · exact h6 v hv
    · simp at hv; subst hv; exact hl
  · rw [List.flatten_append, List.nodup_append]
    refine ⟨h3'.1, by simpa using g2.1, fun a ha b hb' e => ?_⟩
    subst e
    have := hlt a ha
    have := g3 a (by simpa using hb')
    omega
  · intro b hb'
    rw [List.flatten_append] at hb'
    rcases List.mem_append.1 hb' with hb' | hb'
    · exact (h3'.upd hu (by simp)).2 b hb'
    · exact g2.2 b (by simpa using hb')
  · intro b hb'
    rw [List.flatten_append] at hb'
    rcases List.mem_append.1 hb' with hb' | hb'
    · exact h4' b hb'
    · have := g3 b (by simpa using hb')
      exact ⟨by omega, fun hm => by have := hob b hm; omega⟩
  · intro i hi u' f' hu' hf'
    by_cases e : i < xs.length
    · rw [List.getElem?_append_left (by omega)] at hu' hf'
      rw [List.getElem_append_left e]
      exact K.upd (h5' i e u' f' hu' hf') hu (by simp)
    · have ei : i = xs.length := by simp at hi; omega
      subst ei
      rw [List.getElem?_append_right (by omega)] at hu' hf'
      rw [h2, Nat.sub_self] at hu'
      rw [h1', Nat.sub_self] at hf'
      simp at hu' hf'
      subst hu' hf'
      simpa using g1

theorem new (h : RowsQ n R base ob w us xs) {w0 : World} {e : TypeId} {v : Value} (ho : w.ownsRow w0.heap.size e n v xs.length us.flatten) (hob : ∀ b, v.ownBlock = some b → b ∈ ob) (hb : w0.heap.size ≤ base) :
    New (slQ n R) w0 w v xs := by
  obtain ⟨fps, h1, h2, h6, h3, h4, h5⟩ := h
  obtain ⟨fb, ⟨a, cap, rfl, q1, q2, -, q4⟩, g2, g3, g4⟩ := Flat.ofOwns ho
  refine ⟨fb ++ fps.flatten, ⟨a, cap, us, fb, fps, rfl, q1, q2, h2, h6, h1, rfl, ?_, h5⟩, ⟨?_, ?_⟩, ?_⟩
  · rcases q4 with q4 | ⟨b, off, rfl, rfl, hbl, hc⟩
    · exact Or.inl q4
    · refine Or.inr ⟨b, off, rfl, rfl, hbl, fun i j u c hu hj => ?_⟩
      rw [Nat.add_assoc]
      exact hc _ _ (flat_at h6 hu hj)
  · rw [List.nodup_append]
    refine ⟨g2.1, h3.1, fun a ha b hb' e => ?_⟩
    subst e
    exact (h4 a hb').2 (hob a (g4 a ha))
  · intro b hb'
    rcases List.mem_append.1 hb' with hb' | hb'
    · exact g2.2 b hb'
    · exact h3.2 b hb'
  · intro b hb'
    rcases List.mem_append.1 hb' with hb' | hb'
    · exact g3 b hb'
    · have := (h4 b hb').1; omega
end RowsQ

theorem Upd.cellF {f : List Nat} {w w1 : World} {b : Nat} (hu : Upd f w w1) (hb : b ∉ f) (hl : b < w.heap.size) (o : Nat) : w1.cell? ⟨b, o, none⟩ = w.cell? ⟨b, o, none⟩ := by
  unfold World.cell?
  rw [hu.block b hl hb]
theorem Upd.row {f : List Nat} {w w1 : World} (h : Upd f w w1) {g : Nat} (hg : w.heap.size ≤ g ∨ g ∈ f) (cs : Array Value) : Upd f w (w1.setRow g cs) :=
  h.fresh (f := [g]) ⟨rfl, rfl, rfl, by simp [World.setRow], fun k _ hf => setRow_other _ _ _ _ (by simpa using hf)⟩ (by simpa using hg)
/-- memory made between two worlds, as it lies later. -/
structure Part {α : Type} (R : Rp α) (lo hi : Nat) (w : World) (v : Value) (x : α) (fp : List Nat) : Prop where
  r : R fp w [v] x
  o : Own fp w
  b : ∀ b ∈ fp, lo ≤ b ∧ b < hi
theorem Part.of {α : Type} {R : Rp α} (K : Kept R) {w w1 : World} {v : Value} {x : α} (h : New R w w1 v x) : ∃ fp, Part R w.heap.size w1.heap.size w1 v x fp := by
  obtain ⟨fp, h1, h2, h3⟩ := h
  exact ⟨fp, h1, h2, fun b hb => ⟨h3 b hb, K.lt h1 b hb⟩⟩
theorem Part.upd {α : Type} {R : Rp α} (K : Kept R) {lo hi : Nat} {w w1 : World} {v : Value} {x : α} {fp f : List Nat} (h : Part R lo hi w v x fp) (hu : Upd f w w1) (hf : ∀ b ∈ f, b < lo ∨ hi ≤ b) : Part R lo hi w1 v x fp := by
  have hd : ∀ b ∈ fp, b ∉ f := fun b hb hm => by have := h.b b hb; have := hf b hm; omega
  exact ⟨K.upd h.r hu hd, h.o.upd hu hd, h.b⟩
/-- outside of a part of block b the cells are as they were. -/
def FarEq (w w' : World) (b lo hi : Nat) : Prop := ∀ o, (o < lo ∨ hi ≤ o) → w'.cell? ⟨b, o, none⟩ = w.cell? ⟨b, o, none⟩
theorem FarEq.refl (w : World) (b lo hi : Nat) : FarEq w w b lo hi := fun _ _ => rfl
theorem FarEq.upd {w w1 w2 : World} {b lo hi : Nat} {f : List Nat} (h : FarEq w w1 b lo hi) (hu : Upd f w1 w2) (hb : b ∉ f) (hl : b < w1.heap.size) : FarEq w w2 b lo hi := fun o ho => (hu.cellF hb hl o).trans (h o ho)
theorem FarEq.put {w w1 w2 : World} {b lo hi j : Nat} (h : FarEq w w1 b lo hi) (hc : ∀ o, o ≠ j → w2.cell? ⟨b, o, none⟩ = w1.cell? ⟨b, o, none⟩) (hj : lo ≤ j ∧ j < hi) : FarEq w w2 b lo hi := fun o ho => (hc o (by omega)).trans (h o ho)

/-- three blocks in a row: what came in, the result's, and the one under way. -/
structure Three (w W : World) (T1 T2 : TypeId) (B : Nat) (p z o : List Value) : Prop where
  base : w.heap.size = B
  upd : Upd [] w W
  h0 : W.heap[B]? = some (.cells p.toArray T1 (0, 0))
  h1 : W.heap[B + 1]? = some (.cells z.toArray T2 (0, 0))
  h2 : W.heap[B + 2]? = some (.cells o.toArray T2 (0, 0))
namespace Three
variable {w W W' : World} {T1 T2 : TypeId} {B : Nat} {p z o : List Value}
theorem size (h : Three w W T1 T2 B p z o) : B + 2 < W.heap.size := (Array.getElem?_eq_some_iff.1 h.h2).1
theorem call (h : Three w W T1 T2 B p z o) (hu : Upd [] W W') : Three w W' T1 T2 B p z o :=
  ⟨h.base, h.upd.trans hu, by rw [hu.block _ (Array.getElem?_eq_some_iff.1 h.h0).1 (by simp)]; exact h.h0, by rw [hu.block _ (Array.getElem?_eq_some_iff.1 h.h1).1 (by simp)]; exact h.h1, by rw [hu.block _ (Array.getElem?_eq_some_iff.1 h.h2).1 (by simp)]; exact h.h2⟩
theorem pc (h : Three w W T1 T2 B p z o) (j : Nat) (c : Value) (hc : p[j]? = some c) : W.cell? ⟨B, j, none⟩ = some c := by simp [World.cell?, h.h0, hc]
theorem oc (h : Three w W T1 T2 B p z o) (j : Nat) (c : Value) (hc : o[j]? = some c) : W.cell? ⟨B + 2, j, none⟩ = some c := by simp [World.cell?, h.h2, hc]
end Three

end Go.Proofs.YtpnokhhbakiiiaaDoor

/-
  Lists of numbers and lists of expressions under the names that the printed texts want.
-/
namespace Go.Proofs.YtpnokhhbakiiiaaDoor
open Go.RowKit

end Go.Proofs.YtpnokhhbakiiiaaDoor

/-
  Append of a whole slice to an owned row, whatever the slice: a law for the walks; slices.Clone and the reference's copies.
-/
namespace Go.Proofs.YtpnokhhbakiiiaaDoor
open Go.RowKit

section
variable {P : Program} {w : World}
end

end Go.Proofs.YtpnokhhbakiiiaaDoor

/-
  The laws' helper functions over edges, and over systems of states and edges.
-/
namespace Go.Proofs.YtpnokhhbakiiiaaDoor
open Go.RowKit Go.ChangeShapes

/-- an edge: from, label, to. -/
structure Ed where
  fr : Int
  lb : Int
  to : Int
deriving DecidableEq
end Go.Proofs.YtpnokhhbakiiiaaDoor

/-
  Systems copied and compared by the laws' helper functions.
-/
namespace Go.Proofs.YtpnokhhbakiiiaaDoor
open Go.RowKit Go.ChangeShapes

end Go.Proofs.YtpnokhhbakiiiaaDoor

/-
  Reading numbers, texts and edges, plainly: a reader of a given number of bytes a number.
-/
namespace Go.Proofs.YtpnokhhbakiiiaaDoor
open Go.RowKit

end Go.Proofs.YtpnokhhbakiiiaaDoor

/-
  A system that is being read: its block, its two rows, and what appends to them leave.
-/
namespace Go.Proofs.YtpnokhhbakiiiaaDoor
open Go.RowKit

variable {H p T : Nat} {w W W' : World} {a b : Int} {L : List (List UInt8)} {E : List Ed} {v1 v2 : Value} {o o' : Obj}
end Go.Proofs.YtpnokhhbakiiiaaDoor

/-
  The text of an expression, both sides.
-/
namespace Go.Proofs.YtpnokhhbakiiiaaDoor
open Go.RowKit

noncomputable def textRes (e : List Tm) : List UInt8 := if h : eOk e = true then textE (treeOf e h) else []

set_option maxRecDepth 20000 in
set_option maxHeartbeats 1000000 in
theorem text_i (e : List Tm) (v : Value) (w : World) (fp : List Nat) (hG : Glob w) (hR : R_T1 fp w [v] e) :
    Calls Tryd.prog 7 #[v] w fun r w' => r = .returned (es (textRes e)) ∧ Upd [] w w' := by
  have hR0 := Lib.hid hR
  have HG := Lib.hid hG
  cases hb : eOk e
  · have hres : textRes e = [] := by simp [textRes, hb]
    rw [hres]
    clear hres hG hR
    go_enter Tryd.func7, Tryd.ntmps7
    go_wp2_with fail
    refine (termsOk _ e _ fp hR0.out).mono ?_
    rintro r w1 ⟨rfl, hu⟩
    rw [hb]
    go_wp2_with fail
    go_ret
    exact ⟨rfl, hu⟩
  · have hres : textRes e = textE (treeOf e hb) := by simp [textRes, hb]
    obtain ⟨hok, hfl⟩ := treeOf_ok e hb
    have hlen := eOk_len hb
    have hgood := eOk_good hb _ hok hfl
    rw [hres]
    have HB := Lib.hid hb
    generalize treeOf e hb = x at *
    have HOK := Lib.hid hok
    have HFL := Lib.hid hfl
    have HGD := Lib.hid hgood
    have hl60 : (flatE x).length ≤ 60 := by rw [hfl]; omega
    clear hres hok hfl hgood hG hR hb
    go_enter Tryd.func7, Tryd.ntmps7
    go_wp2_with fail
    refine (termsOk _ e _ fp hR0.out).mono ?_
    rintro r w1 ⟨rfl, hu⟩
    rw [HB.out]
    have S2 := Lib.hid (treeE x w1 v fp HOK.out (by omega) (by rw [HFL.out]; exact R_T1k.upd hR0.out hu (by simp)))
    have HU := Lib.hid hu
    clear hu
    go_wp2_with fail
    refine S2.out.mono ?_
    rintro r w2 ⟨⟨vt, rfl, ft, ht, -, -⟩, hu2⟩
    have S3 := Lib.hid (textI _ x w2 vt ft (Nat.le_refl _) (by omega) HGD.out (HG.out.upd (HU.out.trans hu2)) ht)
    have HU2 := Lib.hid (HU.out.trans hu2)
    clear S2 ht hu2
    go_wp2_with fail
    refine S3.out.mono ?_
    rintro r w3 ⟨rfl, m, rfl⟩
    go_wp2_with fail
    go_ret
    exact ⟨rfl, HU2.out.drewN m⟩

end Go.Proofs.YtpnokhhbakiiiaaDoor

/-
  The form's reading of bytes.
-/
namespace Go.Proofs.YtpnokhhbakiiiaaDoor
open Go.RowKit

theorem opens_B1 : Opens Tryd.prog 22 R_B (fun xs => ∀ n ∈ xs, (Lit.int .u8 n).wf = true) := opens_ints Tryd.underlying22 Tryd.underlying5 (by kernel_rfl)
theorem bytes_of {xs : List Int} (h : ∀ n ∈ xs, (Lit.int .u8 n).wf = true) : bytesOk xs := by
  intro x hx
  have := h x hx
  simp [Lit.wf, IntKind.min, IntKind.max, IntKind.signed, IntKind.bits] at this
  omega

end Go.Proofs.YtpnokhhbakiiiaaDoor

/-
  The expressions that the reference draws.
-/
namespace Go.Proofs.YtpnokhhbakiiiaaDoor
open Go.RowKit

set_option maxRecDepth 20000 in
theorem srcAmong (N p : Nat) (b off cap len : Nat) (xs : List Int) (w : World) (f : List Nat) (hN : N ≤ 800000000) (h : IsSrc N p w) (hl : xs.length = len) (h0 : 0 < len) (hlen : len ≤ 100)
    (hR : R1 f w [.slice (some ⟨b, off, none⟩) len cap] xs) (hb : p ∉ f) :
    Calls Tryd.prog 27 #[.pointer (some ⟨p, 0, none⟩), .slice (some ⟨b, off, none⟩) len cap] w fun e w' => (∃ x, e = .returned (.int .i64 x) ∧ x ∈ xs) ∧ IsSrc (N + 2) p w' ∧ Upd [p] w w' := by
  have S1 := Lib.hid (srcPick N p len w (by omega) h (by omega) (by omega))
  obtain ⟨_, _, hv, h1, h2, -⟩ := slF1_open hR
  subst hl
  simp only [Value.slice.injEq] at hv
  obtain ⟨rfl, -, rfl⟩ := hv
  unfold maxLen at h2
  have HR := Lib.hid hR
  clear h hR
  go_enter Tryd.func27, Tryd.ntmps27
  go_wp2_with fail
  refine S1.out.mono ?_
  rintro e w1 ⟨⟨q, rfl, hq0, hq1⟩, hs1, hu1⟩
  obtain ⟨Q, rfl⟩ : ∃ Q : Nat, q = Q := ⟨q.toNat, by omega⟩
  have hQ : Q < xs.length := by omega
  have hR1 := (slF_kept _ _).upd HR.out hu1 (fun c hc hm => by simp at hm; subst hm; exact hb hc)
  obtain ⟨_, _, hv, -, -, hc⟩ := slF1_open hR1
  simp only [Value.slice.injEq] at hv
  obtain ⟨rfl, -, rfl⟩ := hv
  obtain ⟨_, _, hv, -, -, hcell⟩ := hc Q hQ
  simp only [Option.some.injEq, Addr.mk.injEq, and_true] at hv
  obtain ⟨rfl, rfl⟩ := hv
  have HM := Lib.hid (show xs[Q] ∈ xs by simp)
  have HS := Lib.hid (And.intro hs1 hu1)
  generalize xs[Q] = z at *
  clear hs1 hu1 hR1 hc S1
  go_wp2_with fail
  go_ret
  exact ⟨⟨z, rfl, HM.out⟩, HS.out.1, HS.out.2⟩

def DrawP (w : World) (p N : Nat) (nv most : Int) (e : Ending) (w' : World) : Prop :=
  (∃ (v' : Value) (x : Ex), e = .returned v' ∧ goodE nv x = true ∧ ((flatE x).length : Int) ≤ 2 * most + 1 ∧ New R_T1 w w' v' (flatE x)) ∧ IsSrc (N + 20 * (2 * most.toNat + 1)) p w' ∧ Upd [p] w w'

theorem draw_leaf {w w' : World} {p N M : Nat} {nv most : Int} {e : TypeId} {a b : Int} (hm : 0 ≤ most) (ht : tOk (a, b) nv = true) (h0 : a = 0 ∨ a = 1) (hs : IsSrc M p w') (hu : Upd [p] w w') (hM : M ≤ N + 20) :
    DrawP w p N nv most (.returned (.slice (some ⟨w'.heap.size, 0, none⟩) 1 1)) (w'.alloc (.cells #[ei a, ei b] e)) := by
  have hn : New R_T1 w' (w'.alloc (.cells #[ei a, ei b] e)) (.slice (some ⟨w'.heap.size, 0, none⟩) 1 1) [(a, b)] :=
    New.ofOwns2 (e := e) (by simpa using World.ownsRow_lit (base := w'.heap.size) (e := e) (size := 2) w' #[ei a, ei b] 1 (Nat.le_refl _) (by simp [maxLen]) (by simp))
  refine ⟨⟨_, .mk (a, b) [], rfl, ?_, ?_, ?_⟩, (hs.upd ((Upd.refl _ _).alloc _)).mono (by omega), hu.alloc _⟩
  · rw [goodE_mk]
    have : arity (a, b) = 0 := by rcases h0 with rfl | rfl <;> simp [arity]
    simp [this, ht, goodEs, okEs, flatEs]
  · simp [flatE, flatEs]; omega
  · exact (show New R_T1 w' _ _ (flatE (.mk (a, b) [])) from by simpa [flatE, flatEs] using hn).mono hu.size

set_option maxRecDepth 40000 in
set_option maxHeartbeats 8000000 in
theorem drawE (n : Nat) : ∀ (most nv : Int) (N p : Nat) (w : World), most ≤ n → 0 ≤ most → most ≤ 20 → 0 ≤ nv → nv ≤ 29 → N + 20 * (2 * most.toNat + 1) ≤ 1000000 → IsSrc N p w →
    Calls Tryd.prog 15 #[.pointer (some ⟨p, 0, none⟩), .int .i64 nv, .int .i64 most] w (DrawP w p N nv most) := by
  induction n with
  | zero =>
    intro most nv N p w hn hm0 hm20 hv0 hv29 hN hs
    obtain rfl : most = 0 := by omega
    have HS0 := Lib.hid (And.intro hs (Upd.refl [p] w))
    have most0 : ∃ most : Int, most = 0 := ⟨0, rfl⟩
    clear hs most0
    go_enter Tryd.func15, Tryd.ntmps15
    by_cases hv : 0 < nv
    · have Q1 := Lib.hid (srcPick (N) p 3 w (by omega) HS0.out.1 (by omega) (by omega))
      go_wp2_with fail
      refine Q1.out.mono ?_
      rintro e wl1 ⟨⟨x, rfl, hx0, hx1⟩, hsl, hul⟩
      have HL1 := Lib.hid (And.intro hsl (HS0.out.2.trans hul))
      have hpl1 := hsl.lt
      clear hsl hul Q1
      by_cases hx : 0 < x
      · have Q2 := Lib.hid (srcPick (N + 2) p nv wl1 (by omega) HL1.out.1 (by omega) (by omega))
        go_wp2_with fail
        refine Q2.out.mono ?_
        rintro e wl2 ⟨⟨y, rfl, hy0, hy1⟩, hsl, hul⟩
        have HF := Lib.hid (draw_leaf (w := w) (N := N) (most := 0) (nv := nv) (e := 50) (a := 1) (b := y) hm0 (by simp [tOk]; exact inB_mk ⟨by omega, by omega⟩) (Or.inr rfl) hsl (HL1.out.2.trans hul) (by omega))
        clear hsl hul Q2
        go_wp2_with fail
        go_ret
        exact HF.out
      · skip
        have P1 := Lib.hid (srcPick (N + 2) p 5 wl1 (by omega) HL1.out.1 (by omega) (by omega))
        go_wp2_with fail
        refine P1.out.mono ?_
        rintro e wn1 ⟨⟨y, rfl, hy0, hy1⟩, hsn, hun⟩
        have HN1 := Lib.hid (And.intro hsn (HL1.out.2.trans hun))
        have hpn := hsn.lt
        clear hsn hun P1
        have P2 := Lib.hid (srcOne (N + 2 + 2) p 6 wn1 (by omega) HN1.out.1 (by omega) (by omega))
        go_wp2_with fail
        refine P2.out.mono ?_
        rintro e wn2 ⟨⟨bb, rfl⟩, hsn, hun⟩
        have HN2 := Lib.hid (And.intro hsn (HN1.out.2.trans hun))
        have hpn2 := hsn.lt
        clear hsn hun P2
        cases bb
        · have HF := Lib.hid (draw_leaf (w := w) (N := N) (most := 0) (nv := nv) (e := 50) (a := 0) (b := y) hm0 (by simp only [tOk, if_true]; exact inB_mk ⟨by omega, by omega⟩) (Or.inl rfl) HN2.out.1 HN2.out.2 (by omega))
          go_wp2_with fail
          go_ret
          exact HF.out
        · obtain ⟨fl, hfl, -, hge⟩ := new_lit (enc := fun n => ei n) wn2 2 [63, 32, 8, 62] (by simp [maxLen])
          have hsl := HN2.out.1.upd ((Upd.refl [] wn2).alloc (.cells #[ei 63, ei 32, ei 8, ei 62] 2))
          have P3 := Lib.hid (srcAmong (N + 2 + 2 + 2) p wn2.heap.size 0 4 4 [63, 32, 8, 62] _ fl (by omega) hsl rfl (by omega) (by omega) hfl (fun hm => by have := hge p hm; omega))
          have hul : Upd [p] w (wn2.alloc (.cells #[ei 63, ei 32, ei 8, ei 62] 2)) := HN2.out.2.alloc _
          have HUL := Lib.hid hul
          clear hfl hge hsl hul
          go_wp2_with fail
          refine P3.out.mono ?_
          rintro e wn3 ⟨⟨z, rfl, hz⟩, hsn, hun⟩
          have hz' : 0 ≤ z ∧ z ≤ 63 := by simp at hz; omega
          have HF := Lib.hid (draw_leaf (w := w) (N := N) (most := 0) (nv := nv) (e := 50) (a := 0) (b := z) hm0 (by simp only [tOk, if_true]; exact inB_mk hz') (Or.inl rfl) hsn (HUL.out.trans hun) (by omega))
          clear hsn hun P3 hz
          go_wp2_with fail
          go_ret
          exact HF.out
    · skip
      have P1 := Lib.hid (srcPick (N) p 5 w (by omega) HS0.out.1 (by omega) (by omega))
      go_wp2_with fail
      refine P1.out.mono ?_
      rintro e wn1 ⟨⟨y, rfl, hy0, hy1⟩, hsn, hun⟩
      have HN1 := Lib.hid (And.intro hsn (HS0.out.2.trans hun))
      have hpn := hsn.lt
      clear hsn hun P1
      have P2 := Lib.hid (srcOne (N + 2) p 6 wn1 (by omega) HN1.out.1 (by omega) (by omega))
      go_wp2_with fail
      refine P2.out.mono ?_
      rintro e wn2 ⟨⟨bb, rfl⟩, hsn, hun⟩
      have HN2 := Lib.hid (And.intro hsn (HN1.out.2.trans hun))
      have hpn2 := hsn.lt
      clear hsn hun P2
      cases bb
      · have HF := Lib.hid (draw_leaf (w := w) (N := N) (most := 0) (nv := nv) (e := 50) (a := 0) (b := y) hm0 (by simp only [tOk, if_true]; exact inB_mk ⟨by omega, by omega⟩) (Or.inl rfl) HN2.out.1 HN2.out.2 (by omega))
        go_wp2_with fail
        go_ret
        exact HF.out
      · obtain ⟨fl, hfl, -, hge⟩ := new_lit (enc := fun n => ei n) wn2 2 [63, 32, 8, 62] (by simp [maxLen])
        have hsl := HN2.out.1.upd ((Upd.refl [] wn2).alloc (.cells #[ei 63, ei 32, ei 8, ei 62] 2))
        have P3 := Lib.hid (srcAmong (N + 2 + 2) p wn2.heap.size 0 4 4 [63, 32, 8, 62] _ fl (by omega) hsl rfl (by omega) (by omega) hfl (fun hm => by have := hge p hm; omega))
        have hul : Upd [p] w (wn2.alloc (.cells #[ei 63, ei 32, ei 8, ei 62] 2)) := HN2.out.2.alloc _
        have HUL := Lib.hid hul
        clear hfl hge hsl hul
        go_wp2_with fail
        refine P3.out.mono ?_
        rintro e wn3 ⟨⟨z, rfl, hz⟩, hsn, hun⟩
        have hz' : 0 ≤ z ∧ z ≤ 63 := by simp at hz; omega
        have HF := Lib.hid (draw_leaf (w := w) (N := N) (most := 0) (nv := nv) (e := 50) (a := 0) (b := z) hm0 (by simp only [tOk, if_true]; exact inB_mk hz') (Or.inl rfl) hsn (HUL.out.trans hun) (by omega))
        clear hsn hun P3 hz
        go_wp2_with fail
        go_ret
        exact HF.out
  | succ n ih =>
    intro most nv N p w hn hm0 hm20 hv0 hv29 hN hs
    by_cases hmz : most = 0
    · exact (ih most nv N p w (by omega) hm0 hm20 hv0 hv29 hN hs)
    · have hmp : 0 < most := by omega
      have HIH := Lib.hid ih
      have P0 := Lib.hid (srcOne N p 3 w (by omega) hs (by omega) (by omega))
      clear ih hs hmz
      go_enter Tryd.func15, Tryd.ntmps15
      go_wp2_with fail
      refine P0.out.mono ?_
      rintro e w1 ⟨⟨b1, rfl⟩, hs1, hu1⟩
      have HS0 := Lib.hid (And.intro hs1 hu1)
      clear hs1 hu1 P0
      cases b1
      · have P1 := Lib.hid (srcOne (N + 2) p 7 w1 (by omega) HS0.out.1 (by omega) (by omega))
        go_wp2_with fail
        refine P1.out.mono ?_
        rintro e w2 ⟨⟨b2, rfl⟩, hs2, hu2⟩
        have HS2 := Lib.hid (And.intro hs2 (HS0.out.2.trans hu2))
        have hp2 := hs2.lt
        have hpw : p < w.heap.size ∨ w.heap.size ≤ p := by omega
        clear hs2 hu2 P1 HS0
        obtain ⟨i0, hi, hz0, hz1, hz2⟩ := info_parts Tryd.infoT
        cases b2
        · have P2 := Lib.hid (srcPick (N + 2 + 2) p 9 w2 (by omega) HS2.out.1 (by omega) (by omega))
          go_wp2_with fail
          refine P2.out.mono ?_
          rintro e w3 ⟨⟨op, rfl, hop0, hop1⟩, hs3, hu3⟩
          have hp3 := hs3.lt
          have hua : Upd [p] w3 (w3.alloc (.cells #[ei 2, ei op] 50)) := (Upd.refl _ _).alloc _
          have hsa := hs3.upd ((Upd.refl [] w3).alloc (.cells #[ei 2, ei op] 50))
          have hlit := World.ownsRow_lit (base := w3.heap.size) (e := 50) (size := 2) w3 #[ei 2, ei op] 1 (Nat.le_refl _) (by simp [maxLen]) (by simp)
          have HS3 := Lib.hid (And.intro hsa (And.intro (HS2.out.2.trans (hu3.trans hua)) hlit))
          have hsz3 := (HS2.out.2.trans hu3).size
          have P3 := Lib.hid (HIH.out ((most - 1) / 2) nv (N + 2 + 2 + 2) p (w3.alloc (.cells #[ei 2, ei op] 50)) (by omega) (by omega) (by omega) hv0 hv29 (by omega) hsa)
          have hq : (w3.alloc (.cells #[ei 2, ei op] 50)).heap.size = w3.heap.size + 1 := by simp
          have HQ := Lib.hid hq
          clear hs3 hu3 hua hsa hlit P2 HS2 hq
          go_wp2_with fail
          refine P3.out.mono ?_
          rintro e w4 ⟨⟨vl, xl, rfl, hgl, hll, hnl⟩, hs4, hu4⟩
          have hp4 := hs4.lt
          have P4 := Lib.hid (HIH.out ((most - 1) / 2) nv _ p w4 (by omega) (by omega) (by omega) hv0 hv29 (by omega) hs4)
          have HS4 := Lib.hid (And.intro hgl (And.intro hnl hu4))
          clear hs4 hgl hnl hu4 P3
          go_wp2_with fail
          refine P4.out.mono ?_
          rintro e w5 ⟨⟨vr, xr, rfl, hgr, hlr, hnr⟩, hs5, hu5⟩
          have hnl5 := R_T1k.new HS4.out.2.1 hu5 (fun b hb => by simp at hb; subst hb; have := HQ.out; omega)
          have hou5 : w5.ownsRow w3.heap.size 50 2 (.slice (some ⟨w3.heap.size, 0, none⟩) 1 1) 1 [ei 2, ei op] := by
            have h9 := HS3.out.2.2
            have hu45 := HS4.out.2.2.trans hu5
            exact h9.kept (row := some p) ⟨hu45.os, hu45.tape, hu45.output, hu45.size, fun k hk hne => hu45.block k hk (by simpa using hne)⟩ (Or.inr (by simp [Value.ownBlock]; omega))
          obtain ⟨fl, hl5, -, -⟩ := hnl5
          obtain ⟨fr, hr5, -, hger⟩ := hnr
          have hsz34 := HS4.out.2.2.size
          have HGER := Lib.hid (show ∀ b ∈ fr, b ∉ [w3.heap.size] from fun b hb hm => by have := hger b hb; have := HQ.out; simp at hm; omega)
          have HR5 := Lib.hid hr5
          obtain ⟨bl, ol, cl, rfl, hl1, hl2, hl3, hl4⟩ := slF_src hl5 (flatE_pos _)
          obtain ⟨br, or', cr, rfl, hr1, hr2, hr3, -⟩ := slF_src hr5 (flatE_pos _)
          have HL4 := Lib.hid hl4
          have hsz5 := (HS4.out.2.2.trans hu5).size
          have HUU := Lib.hid (HS3.out.2.1.trans (HS4.out.2.2.trans hu5))
          have HSS := Lib.hid (hs5.mono (show _ ≤ N + 20 * (2 * most.toNat + 1) by omega))
          have HG := Lib.hid (And.intro HS4.out.1 hgr)
          have HOl := Lib.hid (oneCells (flatE xl))
          have HOr := Lib.hid (oneCells (flatE xr))
          have hqq := HQ.out
          unfold maxLen at hl2 hr2
          generalize hFL : (flatE xl).length = FL at *
          have HFL := Lib.hid hFL
          generalize hFR : (flatE xr).length = FR at *
          have HFR := Lib.hid hFR
          clear hl4 hl5 hr5 hs5 hgr hu5 HS4 HS3 P4 hFL hFR hger
          go_wp2_with (first
            | (at_builtin; refine wpList_append_tight _ rfl _ _ 24 rfl w3.heap.size 50 i0 (.agg #[.int .i64 0, .int .i64 0]) 2 16 Tryd.underlying24 hi hz0 hz1 hz2 rfl (by decide) _ _ _ rfl hou5 ⟨bl, ol, none⟩ FL cl _ rfl hl3 HL4.out HOl.out (by unfold maxLen; omega) (by omega) (by omega) ?_)
            | fail)
          intro v6 w6 hown6 hg6 ht6
          have hu56 : Upd [w3.heap.size] w5 w6 := (Upd.refl _ _).grown hg6 (fun k hk => Or.inr (by simp [Value.ownBlock] at hk ⊢; exact hk.symm))
          have hr6 := R_T1k.upd HR5.out hu56 HGER.out
          obtain ⟨_, _, _, hv6, -, -, -, hr4⟩ := slF_src hr6 (flatE_pos _)
          simp only [Value.slice.injEq, Option.some.injEq, Addr.mk.injEq, and_true] at hv6
          obtain ⟨⟨rfl, rfl⟩, -, rfl⟩ := hv6
          have HR4 := Lib.hid hr4
          have hpw3 : p < w3.heap.size := hp3
          have HUU6 := Lib.hid (HUU.out.fresh hu56 (fun b hb => Or.inl (by simp at hb; omega)))
          have HSS6 := Lib.hid (IsSrc.other HSS.out hu56 (by simpa using hpw3))
          have hlt6 := hown6.lt
          have hsz6 := hu56.size
          obtain ⟨a6, c6, rfl⟩ := ownsRow_form hown6
          clear hg6 ht6 hu56 hr6 hr4 hou5
          go_wp2_with (first
            | (at_builtin; refine wpList_append_tight _ rfl _ _ 24 rfl w3.heap.size 50 i0 (.agg #[.int .i64 0, .int .i64 0]) 2 16 Tryd.underlying24 hi hz0 hz1 hz2 rfl (by decide) _ _ _ rfl hown6 ⟨br, or', none⟩ FR cr _ rfl hr3 HR4.out HOr.out (by unfold maxLen; omega) (by omega) (by omega) ?_)
            | fail)
          intro v7 w7 hown7 hg7 ht7
          have hn7 : New R_T1 w3 w7 v7 ((2, op) :: (flatE xl ++ flatE xr)) := New.ofOwns2 (e := 50) (by simpa [HFL.out, HFR.out, Nat.add_comm, Nat.add_left_comm, Nat.add_assoc] using hown7)
          obtain ⟨k7, hk7⟩ : ∃ k7 : List Nat, k7 = (Value.slice a6 (1 + FL) c6).ownBlock.toList := ⟨_, rfl⟩
          have hu67 : Upd k7 w6 w7 := (Upd.refl _ _).grown hg7 (fun k hk => Or.inr (by rw [hk7]; simp [hk]))
          have hk7b : ∀ b ∈ k7, w3.heap.size ≤ b := fun b hb => by rw [hk7] at hb; exact (hlt6 b (by simpa using hb)).1
          have hgx : goodE nv (.mk (2, op) [xl, xr]) = true := by
            rw [goodE_mk]
            simp only [goodEs_cons, HG.out.1, HG.out.2, Bool.true_and, Bool.and_eq_true, decide_eq_true_eq]
            refine ⟨⟨by simp [arity], by simp [tOk]; exact inB_mk ⟨by omega, by omega⟩⟩, rfl⟩
          have HF := Lib.hid (show DrawP w p N nv most (.returned v7) w7 from
            ⟨⟨v7, .mk (2, op) [xl, xr], rfl, hgx, by simp [flatE, flatEs, HFL.out, HFR.out]; omega, by
              have e9 : flatE (.mk (2, op) [xl, xr]) = (2, op) :: (flatE xl ++ flatE xr) := by simp [flatE, flatEs]
              rw [e9]; exact hn7.mono hsz3⟩,
             IsSrc.other HSS6.out hu67 (fun b hb => by have := hk7b b hb; omega), HUU6.out.fresh hu67 (fun b hb => Or.inl (by have := hk7b b hb; omega))⟩)
          clear hown7 hg7 ht7 hn7 hu67 hk7b hgx hown6 hlt6 hk7
          go_wp2_with fail
          go_ret
          exact HF.out
        · have P3 := Lib.hid (HIH.out (most - 1) nv (N + 2 + 2) p w2 (by omega) (by omega) (by omega) hv0 hv29 (by omega) HS2.out.1)
          go_wp2_with fail
          refine P3.out.mono ?_
          rintro e w4 ⟨⟨vl, xl, rfl, hgl, hll, hnl⟩, hs4, hu4⟩
          have hp4 := hs4.lt
          have hsz2 := HS2.out.2.size
          have hsz4 := hu4.size
          obtain ⟨fl, hl5, -, -⟩ := hnl
          obtain ⟨bl, ol, cl, rfl, hl1, hl2, hl3, hl4⟩ := slF_src hl5 (flatE_pos _)
          have HL4 := Lib.hid (fun j u hj => ((Upd.refl [] w4).alloc (.cells #[ei 3, ei 0] 50)).keep (hl4 j u hj))
          have HUU := Lib.hid (HS2.out.2.trans hu4)
          have HSS := Lib.hid (hs4.mono (show _ ≤ N + 20 * (2 * most.toNat + 1) by omega))
          have HG := Lib.hid hgl
          have HOl := Lib.hid (oneCells (flatE xl))
          have hlit := World.ownsRow_lit (base := w4.heap.size) (e := 50) (size := 2) w4 #[ei 3, ei 0] 1 (Nat.le_refl _) (by simp [maxLen]) (by simp)
          unfold maxLen at hl2
          generalize hFL : (flatE xl).length = FL at *
          have HFL := Lib.hid hFL
          clear hl4 hl5 hs4 hgl hu4 P3 hFL HS2
          go_wp2_with (first
            | (at_builtin; refine wpList_append_tight _ rfl _ _ 24 rfl w4.heap.size 50 i0 (.agg #[.int .i64 0, .int .i64 0]) 2 16 Tryd.underlying24 hi hz0 hz1 hz2 rfl (by decide) _ _ _ rfl hlit ⟨bl, ol, none⟩ FL cl _ rfl hl3 HL4.out HOl.out (by unfold maxLen; omega) (by omega) (by simp) ?_)
            | fail)
          intro v7 w7 hown7 hg7 ht7
          have hn7 : New R_T1 w4 w7 v7 ((3, 0) :: flatE xl) := New.ofOwns2 (e := 50) (by simpa [HFL.out, Nat.add_comm, Nat.add_left_comm, Nat.add_assoc] using hown7)
          have hu67 : Upd [w4.heap.size] w4 w7 := ((Upd.refl _ _).alloc _).grown hg7 (fun k hk => Or.inr (by simp [Value.ownBlock] at hk ⊢; exact hk.symm))
          have hgx : goodE nv (.mk (3, 0) [xl]) = true := by
            rw [goodE_mk]
            simp only [goodEs_cons, HG.out, Bool.true_and, Bool.and_eq_true, decide_eq_true_eq]
            exact ⟨⟨by simp [arity], by simp [tOk]⟩, rfl⟩
          have HF := Lib.hid (show DrawP w p N nv most (.returned v7) w7 from
            ⟨⟨v7, .mk (3, 0) [xl], rfl, hgx, by simp [flatE, flatEs, HFL.out]; omega, by
              have e9 : flatE (.mk (3, 0) [xl]) = (3, 0) :: flatE xl := by simp [flatE, flatEs]
              rw [e9]; exact hn7.mono (by omega)⟩,
             IsSrc.other HSS.out hu67 (by simpa using hp4), HUU.out.fresh hu67 (fun b hb => Or.inl (by simp at hb; omega))⟩)
          clear hown7 hg7 ht7 hn7 hu67 hgx hlit
          go_wp2_with fail
          go_ret
          exact HF.out
      · skip
        by_cases hv : 0 < nv
        · have Q1 := Lib.hid (srcPick (N + 2) p 3 w1 (by omega) HS0.out.1 (by omega) (by omega))
          go_wp2_with fail
          refine Q1.out.mono ?_
          rintro e wl1 ⟨⟨x, rfl, hx0, hx1⟩, hsl, hul⟩
          have HL1 := Lib.hid (And.intro hsl (HS0.out.2.trans hul))
          have hpl1 := hsl.lt
          clear hsl hul Q1
          by_cases hx : 0 < x
          · have Q2 := Lib.hid (srcPick (N + 2 + 2) p nv wl1 (by omega) HL1.out.1 (by omega) (by omega))
            go_wp2_with fail
            refine Q2.out.mono ?_
            rintro e wl2 ⟨⟨y, rfl, hy0, hy1⟩, hsl, hul⟩
            have HF := Lib.hid (draw_leaf (w := w) (N := N) (most := most) (nv := nv) (e := 50) (a := 1) (b := y) hm0 (by simp [tOk]; exact inB_mk ⟨by omega, by omega⟩) (Or.inr rfl) hsl (HL1.out.2.trans hul) (by omega))
            clear hsl hul Q2
            go_wp2_with fail
            go_ret
            exact HF.out
          · skip
            have P1 := Lib.hid (srcPick (N + 2 + 2) p 5 wl1 (by omega) HL1.out.1 (by omega) (by omega))
            go_wp2_with fail
            refine P1.out.mono ?_
            rintro e wn1 ⟨⟨y, rfl, hy0, hy1⟩, hsn, hun⟩
            have HN1 := Lib.hid (And.intro hsn (HL1.out.2.trans hun))
            have hpn := hsn.lt
            clear hsn hun P1
            have P2 := Lib.hid (srcOne (N + 2 + 2 + 2) p 6 wn1 (by omega) HN1.out.1 (by omega) (by omega))
            go_wp2_with fail
            refine P2.out.mono ?_
            rintro e wn2 ⟨⟨bb, rfl⟩, hsn, hun⟩
            have HN2 := Lib.hid (And.intro hsn (HN1.out.2.trans hun))
            have hpn2 := hsn.lt
            clear hsn hun P2
            cases bb
            · have HF := Lib.hid (draw_leaf (w := w) (N := N) (most := most) (nv := nv) (e := 50) (a := 0) (b := y) hm0 (by simp only [tOk, if_true]; exact inB_mk ⟨by omega, by omega⟩) (Or.inl rfl) HN2.out.1 HN2.out.2 (by omega))
              go_wp2_with fail
              go_ret
              exact HF.out
            · obtain ⟨fl, hfl, -, hge⟩ := new_lit (enc := fun n => ei n) wn2 2 [63, 32, 8, 62] (by simp [maxLen])
              have hsl := HN2.out.1.upd ((Upd.refl [] wn2).alloc (.cells #[ei 63, ei 32, ei 8, ei 62] 2))
              have P3 := Lib.hid (srcAmong (N + 2 + 2 + 2 + 2) p wn2.heap.size 0 4 4 [63, 32, 8, 62] _ fl (by omega) hsl rfl (by omega) (by omega) hfl (fun hm => by have := hge p hm; omega))
              have hul : Upd [p] w (wn2.alloc (.cells #[ei 63, ei 32, ei 8, ei 62] 2)) := HN2.out.2.alloc _
              have HUL := Lib.hid hul
              clear hfl hge hsl hul
              go_wp2_with fail
              refine P3.out.mono ?_
              rintro e wn3 ⟨⟨z, rfl, hz⟩, hsn, hun⟩
              have hz' : 0 ≤ z ∧ z ≤ 63 := by simp at hz; omega
              have HF := Lib.hid (draw_leaf (w := w) (N := N) (most := most) (nv := nv) (e := 50) (a := 0) (b := z) hm0 (by simp only [tOk, if_true]; exact inB_mk hz') (Or.inl rfl) hsn (HUL.out.trans hun) (by omega))
              clear hsn hun P3 hz
              go_wp2_with fail
              go_ret
              exact HF.out
        · skip
          have P1 := Lib.hid (srcPick (N + 2) p 5 w1 (by omega) HS0.out.1 (by omega) (by omega))
          go_wp2_with fail
          refine P1.out.mono ?_
          rintro e wn1 ⟨⟨y, rfl, hy0, hy1⟩, hsn, hun⟩
          have HN1 := Lib.hid (And.intro hsn (HS0.out.2.trans hun))
          have hpn := hsn.lt
          clear hsn hun P1
          have P2 := Lib.hid (srcOne (N + 2 + 2) p 6 wn1 (by omega) HN1.out.1 (by omega) (by omega))
          go_wp2_with fail
          refine P2.out.mono ?_
          rintro e wn2 ⟨⟨bb, rfl⟩, hsn, hun⟩
          have HN2 := Lib.hid (And.intro hsn (HN1.out.2.trans hun))
          have hpn2 := hsn.lt
          clear hsn hun P2
          cases bb
          · have HF := Lib.hid (draw_leaf (w := w) (N := N) (most := most) (nv := nv) (e := 50) (a := 0) (b := y) hm0 (by simp only [tOk, if_true]; exact inB_mk ⟨by omega, by omega⟩) (Or.inl rfl) HN2.out.1 HN2.out.2 (by omega))
            go_wp2_with fail
            go_ret
            exact HF.out
          · obtain ⟨fl, hfl, -, hge⟩ := new_lit (enc := fun n => ei n) wn2 2 [63, 32, 8, 62] (by simp [maxLen])
            have hsl := HN2.out.1.upd ((Upd.refl [] wn2).alloc (.cells #[ei 63, ei 32, ei 8, ei 62] 2))
            have P3 := Lib.hid (srcAmong (N + 2 + 2 + 2) p wn2.heap.size 0 4 4 [63, 32, 8, 62] _ fl (by omega) hsl rfl (by omega) (by omega) hfl (fun hm => by have := hge p hm; omega))
            have hul : Upd [p] w (wn2.alloc (.cells #[ei 63, ei 32, ei 8, ei 62] 2)) := HN2.out.2.alloc _
            have HUL := Lib.hid hul
            clear hfl hge hsl hul
            go_wp2_with fail
            refine P3.out.mono ?_
            rintro e wn3 ⟨⟨z, rfl, hz⟩, hsn, hun⟩
            have hz' : 0 ≤ z ∧ z ≤ 63 := by simp at hz; omega
            have HF := Lib.hid (draw_leaf (w := w) (N := N) (most := most) (nv := nv) (e := 50) (a := 0) (b := z) hm0 (by simp only [tOk, if_true]; exact inB_mk hz') (Or.inl rfl) hsn (HUL.out.trans hun) (by omega))
            clear hsn hun P3 hz
            go_wp2_with fail
            go_ret
            exact HF.out

end Go.Proofs.YtpnokhhbakiiiaaDoor

/-
  Comparing terms, small calls of Go's library, and canonical forms, the program's side.
-/
namespace Go.Proofs.YtpnokhhbakiiiaaDoor
open Go.RowKit

end Go.Proofs.YtpnokhhbakiiiaaDoor

/-
  Canonical forms, the program's side.
-/
namespace Go.Proofs.YtpnokhhbakiiiaaDoor
open Go.RowKit

end Go.Proofs.YtpnokhhbakiiiaaDoor
