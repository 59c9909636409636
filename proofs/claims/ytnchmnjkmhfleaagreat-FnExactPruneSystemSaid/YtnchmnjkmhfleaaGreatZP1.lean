/-
  Texts joined in one file: Lib, Harn, Open, HarnN, HarnT, HarnT2, Rel, Terms, NumP, SplitP, AreV, LabP, Lib2, Dec, Src, LabB, Tree, TreeW, Ops, Post, Fold, Value, FoldW, FoldS, TextP, LtG, TrG, DfP, ScP, DfV, HarnS, LabI, LabE, LabSp, OrdS, NamI, SysP, DfT, DfVd, DfQ, SyGp.
-/
import Derived.WalkKit
import Derived.WalkSpells
import Derived.WalkLawsBesides
import Derived.WalkSmall
import Derived.Lib.Hide
import Derived.Test.YtnchmnjkmhfleaaGreatRows
import Derived.Deep.QuietTactic
import Derived.BigQuiet
import Derived.ProofKit
import Derived.OpenShut
import Derived.ShutString
import Derived.ChangeOld
import Derived.Below
import Derived.Deep.Slices
import Derived.Deep.RegionHeld3
import Derived.Deep.RegionWith
import Derived.Test.YtnchmnjkmhfleaaGreatProg
import Derived.Lib.ItoaNum
import Derived.Lib.ItoaMem
import Derived.Lib.ParseIntB
import Derived.Lib.Split
import Derived.Lib.Join
import Derived.Lib.Strings
import Derived.Deep.AppendLies
import Derived.Laws.IdiomStrings
import Derived.Laws.Bits64b
import Derived.Test.YtnchmnjkmhfleaaGreatShelf
/-
  Readings of slices with footprints, their frame rules, and worlds that differ in new blocks and given old blocks alone: a library for the walks, over any program.
-/
namespace Go.Proofs.YtnchmnjkmhfleaaGreat
open Go.RowKit

/-- w' is w with new blocks, and with writes to the old blocks of f alone. -/
structure Upd (f : List Nat) (w w' : World) : Prop where
  os : w'.os = w.os
  tape : w'.tape = w.tape
  output : w'.output = w.output
  size : w.heap.size ≤ w'.heap.size
  block : ∀ k, k < w.heap.size → k ∉ f → w'.heap[k]? = w.heap[k]?

namespace Upd
variable {f g : List Nat} {w w1 w2 : World}
theorem refl (f : List Nat) (w : World) : Upd f w w := ⟨rfl, rfl, rfl, Nat.le_refl _, fun _ _ _ => rfl⟩
theorem trans (h : Upd f w w1) (k : Upd f w1 w2) : Upd f w w2 :=
  ⟨k.os.trans h.os, k.tape.trans h.tape, k.output.trans h.output, Nat.le_trans h.size k.size,
   fun i hi hf => (k.block i (Nat.lt_of_lt_of_le hi h.size) hf).trans (h.block i hi hf)⟩
theorem mono (h : Upd f w w1) (hs : ∀ b ∈ f, b ∈ g) : Upd g w w1 :=
  ⟨h.os, h.tape, h.output, h.size, fun k hk hf => h.block k hk (fun hm => hf (hs k hm))⟩
/-- what is written is new since w. -/
theorem fresh (h : Upd g w w1) (k : Upd f w1 w2) (hf : ∀ b ∈ f, w.heap.size ≤ b ∨ b ∈ g) : Upd g w w2 :=
  ⟨k.os.trans h.os, k.tape.trans h.tape, k.output.trans h.output, Nat.le_trans h.size k.size,
   fun i hi hg => (k.block i (Nat.lt_of_lt_of_le hi h.size) (fun hm => by rcases hf i hm with h' | h'; · omega
                                                                          · exact hg h')).trans (h.block i hi hg)⟩
theorem drew (h : Upd f w w1) : Upd f w w1.drew := ⟨h.os, h.tape, h.output, h.size, h.block⟩
theorem drewN (h : Upd f w w1) (n : Nat) : Upd f w (w1.drewN n) := by
  have e : (w1.drewN n).heap = w1.heap := by simp
  refine ⟨?_, ?_, ?_, ?_, ?_⟩
  · exact h.os
  · exact h.tape
  · exact h.output
  · exact h.size
  · exact h.block
theorem alloc (h : Upd f w w1) (o : Obj) : Upd f w (w1.alloc o) :=
  h.trans ⟨rfl, rfl, rfl, by simp, fun k hk _ => Below.heap_alloc _ _ _ (by omega)⟩
theorem setCell (h : Upd f w w1) {p : Addr} (hp : w.heap.size ≤ p.block ∨ p.block ∈ f) (u : Value) : Upd f w (w1.setCell p u) :=
  h.fresh (f := [p.block]) ⟨rfl, rfl, rfl, by simp [World.setCell], fun k hk hf => Below.heap_setCell _ _ _ _ (by simpa using hf)⟩ (by simpa using hp)
theorem grown {row : Option Nat} (h : Upd f w w1) (hg : w1.grownBy w2 row) (hr : ∀ k, row = some k → w.heap.size ≤ k ∨ k ∈ f) : Upd f w w2 :=
  h.fresh (f := row.toList) ⟨hg.os, hg.tape, hg.output, hg.size, fun k hk hf => hg.block k hk (fun e => hf (by simp [← e]))⟩
    (fun b hb => hr b (by simpa using hb))
theorem below (h : Upd [] w w1) : Below w.heap.size w w1 := ⟨h.os, h.tape, h.output, h.size, fun k hk => h.block k hk (by simp)⟩
end Upd

/-- v is a slice of k elements of n cells each; its cells, one behind the other, are cs; the block that it lies in is fp. -/
def Flat (fp : List Nat) (w : World) (v : Value) (n k : Nat) (cs : List Value) : Prop :=
  ∃ a cap, v = .slice a k cap ∧ k ≤ cap ∧ cap ≤ maxLen ∧ cs.length = k * n ∧
    ((k = 0 ∧ fp = []) ∨ ∃ b off, a = some ⟨b, off, none⟩ ∧ fp = [b] ∧ b < w.heap.size ∧ ∀ j u, cs[j]? = some u → w.cell? ⟨b, off + j, none⟩ = some u)

theorem Flat.lt {fp : List Nat} {w : World} {v : Value} {n k : Nat} {cs : List Value} (h : Flat fp w v n k cs) : ∀ b ∈ fp, b < w.heap.size := by
  obtain ⟨a, cap, -, -, -, -, ⟨-, rfl⟩ | ⟨b, off, -, rfl, hb, -⟩⟩ := h <;> simp_all

theorem Flat.frame {fp : List Nat} {w w' : World} {v : Value} {n k : Nat} {cs : List Value} (h : Flat fp w v n k cs)
    (hs : w.heap.size ≤ w'.heap.size) (hb : ∀ b ∈ fp, w'.heap[b]? = w.heap[b]?) : Flat fp w' v n k cs := by
  obtain ⟨a, cap, rfl, h1, h2, h3, h4⟩ := h
  refine ⟨a, cap, rfl, h1, h2, h3, ?_⟩
  rcases h4 with h4 | ⟨b, off, rfl, rfl, hbl, hc⟩
  · exact Or.inl h4
  · exact Or.inr ⟨b, off, rfl, rfl, by omega, fun j u hu => by
      rw [World.cell?_of_block (w := w) (hb b (by simp))]; exact hc j u hu⟩

theorem Flat.upd {fp f : List Nat} {w w' : World} {v : Value} {n k : Nat} {cs : List Value} (h : Flat fp w v n k cs)
    (hu : Upd f w w') (hd : ∀ b ∈ fp, b ∉ f) : Flat fp w' v n k cs :=
  h.frame hu.size fun b hb => hu.block b (h.lt b hb) (hd b hb)

theorem Flat.at0 {fp : List Nat} {w : World} {a : Option Addr} {cap n k : Nat} {cs : List Value} (h : Flat fp w (.slice a k cap) n k cs) (hk : 0 < k) :
    ∃ b off, a = some ⟨b, off, none⟩ ∧ fp = [b] ∧ ∀ j u, cs[j]? = some u → w.cell? ⟨b, off + j, none⟩ = some u := by
  obtain ⟨a', cap', hv, -, -, -, h4⟩ := h
  cases hv
  rcases h4 with ⟨rfl, -⟩ | ⟨b, off, rfl, rfl, -, hc⟩
  · omega
  · exact ⟨b, off, rfl, rfl, hc⟩

/-- The blocks of fp are different rows of cells, none of which is frozen. -/
def Own (fp : List Nat) (w : World) : Prop := fp.Nodup ∧ ∀ b ∈ fp, ∃ c t, w.heap[b]? = some (.cells c t (0, 0))

theorem Own.nil (w : World) : Own [] w := ⟨List.nodup_nil, by simp⟩
theorem Own.frame {fp : List Nat} {w w' : World} (h : Own fp w) (hb : ∀ b ∈ fp, w'.heap[b]? = w.heap[b]?) : Own fp w' :=
  ⟨h.1, fun b hm => by rw [hb b hm]; exact h.2 b hm⟩
theorem Own.lt {fp : List Nat} {w : World} (h : Own fp w) : ∀ b ∈ fp, b < w.heap.size := fun b hb => by
  obtain ⟨c, t, hc⟩ := h.2 b hb; exact (Array.getElem?_eq_some_iff.1 hc).1
theorem Own.upd {fp f : List Nat} {w w' : World} (h : Own fp w) (hu : Upd f w w') (hd : ∀ b ∈ fp, b ∉ f) : Own fp w' :=
  h.frame fun b hb => hu.block b (h.lt b hb) (hd b hb)
theorem Own.frozen {fp : List Nat} {w : World} (h : Own fp w) {b : Nat} (hb : b ∈ fp) (o : Nat) : w.frozen? ⟨b, o, none⟩ = false := by
  obtain ⟨c, t, hc⟩ := h.2 b hb; simp [World.frozen?, hc]
theorem Own.setCell {fp : List Nat} {w : World} (h : Own fp w) (p : Addr) (u : Value) : Own fp (w.setCell p u) :=
  ⟨h.1, fun b hb => by
    obtain ⟨c, t, hc⟩ := h.2 b hb
    by_cases e : b = p.block
    · subst e; refine ⟨if p.spot.isSome then c else c.setIfInBounds p.off u, t, ?_⟩; simp [World.setCell, Array.getElem?_modify, hc]
    · exact ⟨c, t, by rw [Below.heap_setCell _ _ _ _ e]; exact hc⟩⟩

/-- A store into a flat slice that is owned. -/
theorem Flat.set {fp : List Nat} {w : World} {b off cap n k : Nat} {cs : List Value} (h : Flat fp w (.slice (some ⟨b, off, none⟩) k cap) n k cs)
    {j : Nat} (hj : j < k * n) (u : Value) : Flat fp (w.setCell ⟨b, off + j, none⟩ u) (.slice (some ⟨b, off, none⟩) k cap) n k (cs.set j u) := by
  obtain ⟨a, cap', hv, h1, h2, h3, h4⟩ := h
  simp only [Value.slice.injEq, true_and] at hv
  obtain ⟨rfl, rfl⟩ := hv
  refine ⟨_, _, rfl, h1, h2, by simpa using h3, ?_⟩
  rcases h4 with ⟨rfl, rfl⟩ | ⟨b', off', hb', rfl, hbl, hc⟩
  · simp at hj
  · simp only [Option.some.injEq, Addr.mk.injEq, and_true] at hb'
    obtain ⟨rfl, rfl⟩ := hb'
    refine Or.inr ⟨b, off, rfl, rfl, by simpa [World.setCell] using hbl, fun i x hx => ?_⟩
    rw [List.getElem?_set] at hx
    by_cases hij : j = i
    · subst hij
      rw [if_pos rfl, if_pos (by omega)] at hx
      cases hx
      exact World.cell?_setCell_same _ _ _ (hc j cs[j] (by simp))
    · rw [if_neg hij] at hx
      rw [World.cell?_setCell_other _ _ _ _ (by simp)]
      exact hc i x hx

theorem Flat.ofOwns {w : World} {base : Nat} {e : TypeId} {size : Nat} {v : Value} {n : Nat} {xs : List Value} (h : w.ownsRow base e size v n xs) :
    ∃ fp, Flat fp w v size n xs ∧ Own fp w ∧ (∀ b ∈ fp, base ≤ b) ∧ (∀ b ∈ fp, v.ownBlock = some b) := by
  obtain ⟨hl, ⟨rfl, rfl⟩ | ⟨g, cap, cur, rfl, hg, hh, hn, hm, hc, ht⟩⟩ := h
  · exact ⟨[], ⟨none, 0, rfl, Nat.le_refl _, by simp [maxLen], hl, Or.inl ⟨rfl, rfl⟩⟩, Own.nil _, by simp, by simp⟩
  · refine ⟨[g], ⟨_, cap, rfl, hn, hm, hl, Or.inr ⟨g, 0, rfl, rfl, (Array.getElem?_eq_some_iff.1 hh).1, fun j u hu => ?_⟩⟩, ⟨by simp, by simpa using ⟨cur, e, hh⟩⟩, by simpa using hg, by simp [Value.ownBlock]⟩
    have hj : j < n * size := by rw [← hl]; exact (List.getElem?_eq_some_iff.1 hu).1
    rw [← ht, List.getElem?_take, if_pos hj] at hu
    simpa [World.cell?, hh] using hu

/-- A reading: its footprint, the world, the cells, what they read as. -/
abbrev Rp (α : Type) := List Nat → World → List Value → α → Prop

/-- A slice whose elements hold no memory: enc gives an element's n cells. -/
def slF {α : Type} (n : Nat) (enc : α → List Value) : Rp (List α) := fun fp w cs xs => ∃ v, cs = [v] ∧ Flat fp w v n xs.length (xs.flatMap enc)

/-- A slice whose elements are one cell each, and hold memory of their own. -/
def slP {α : Type} (R : Rp α) : Rp (List α) := fun fp w cs xs =>
  ∃ v us fb fps, cs = [v] ∧ Flat fb w v 1 xs.length us ∧ List.length fps = xs.length ∧ fp = fb ++ List.flatten fps ∧
    ∀ i (h : i < xs.length) u (f : List Nat), us[i]? = some u → fps[i]? = some f → R f w [u] xs[i]

/-- What holds of a reading: it is kept where its blocks are. -/
structure Kept {α : Type} (R : Rp α) : Prop where
  lt : ∀ {fp w cs x}, R fp w cs x → ∀ b ∈ fp, b < w.heap.size
  frame : ∀ {fp w w' cs x}, R fp w cs x → w.heap.size ≤ w'.heap.size → (∀ b ∈ fp, w'.heap[b]? = w.heap[b]?) → R fp w' cs x

theorem Kept.upd {α : Type} {R : Rp α} (K : Kept R) {fp f w w' cs x} (h : R fp w cs x) (hu : Upd f w w') (hd : ∀ b ∈ fp, b ∉ f) : R fp w' cs x :=
  K.frame h hu.size fun b hb => hu.block b (K.lt h b hb) (hd b hb)

theorem slF_kept {α : Type} (n : Nat) (enc : α → List Value) : Kept (slF n enc) :=
  ⟨fun ⟨_, _, h⟩ => h.lt, fun ⟨v, e, h⟩ hs hb => ⟨v, e, h.frame hs hb⟩⟩

theorem slP_kept {α : Type} {R : Rp α} (K : Kept R) : Kept (slP R) := by
  constructor
  · rintro fp w cs x ⟨v, us, fb, fps, rfl, hf, hl, rfl, hr⟩ b hb
    rcases List.mem_append.1 hb with hb | hb
    · exact hf.lt b hb
    · obtain ⟨f, hfm, hbf⟩ := List.mem_flatten.1 hb
      obtain ⟨i, hi, rfl⟩ := List.mem_iff_getElem.1 hfm
      have hus : us.length = x.length := by obtain ⟨_, _, _, _, _, h3, _⟩ := hf; simpa using h3
      exact K.lt (hr i (by omega) us[i] fps[i] (by simp) (by simp)) b hbf
  · rintro fp w w' cs x ⟨v, us, fb, fps, rfl, hf, hl, rfl, hr⟩ hs hb
    refine ⟨v, us, fb, fps, rfl, hf.frame hs (fun b h => hb b (by simp [h])), hl, rfl, fun i h u f hu hf' => ?_⟩
    refine K.frame (hr i h u f hu hf') hs fun b hbf => hb b ?_
    exact List.mem_append_right _ (List.mem_flatten.2 ⟨f, List.mem_of_getElem? hf', hbf⟩)

theorem flatMap_single {α β : Type} (f : α → β) (xs : List α) : xs.flatMap (fun x => [f x]) = xs.map f := by
  induction xs with
  | nil => rfl
  | cons a l ih => rw [List.flatMap_cons, ih]; rfl

/-- an element of a slice whose elements are one cell each and hold no memory. -/
theorem slF1_open {α : Type} {enc : α → Value} {fp : List Nat} {w : World} {v : Value} {xs : List α} (h : slF 1 (fun x => [enc x]) fp w [v] xs) :
    ∃ a cap, v = .slice a xs.length cap ∧ xs.length ≤ cap ∧ cap ≤ maxLen ∧
      ∀ i (h : i < xs.length), ∃ b off, a = some ⟨b, off, none⟩ ∧ fp = [b] ∧ b < w.heap.size ∧ w.cell? ⟨b, off + i, none⟩ = some (enc xs[i]) := by
  obtain ⟨v', hv, a, cap, rfl, h1, h2, h3, h4⟩ := h
  cases hv
  refine ⟨a, cap, rfl, h1, h2, fun i hi => ?_⟩
  rcases h4 with ⟨h0, -⟩ | ⟨b, off, rfl, rfl, hbl, hc⟩
  · omega
  · refine ⟨b, off, rfl, rfl, hbl, hc i _ ?_⟩
    rw [flatMap_single]; simp [hi]

/-- What a call makes anew reads so, and is its own. -/
def New {α : Type} (R : Rp α) (w w' : World) (v : Value) (x : α) : Prop :=
  ∃ fp, R fp w' [v] x ∧ Own fp w' ∧ ∀ b ∈ fp, w.heap.size ≤ b

theorem New.ofOwns {α : Type} {enc : α → Value} {w w' : World} {e : TypeId} {v : Value} {xs : List α}
    (h : w'.ownsRow w.heap.size e 1 v xs.length (xs.map enc)) : New (slF 1 (fun x => [enc x])) w w' v xs := by
  obtain ⟨fp, h1, h2, h3, -⟩ := Flat.ofOwns h
  exact ⟨fp, ⟨v, rfl, by rw [flatMap_single]; exact h1⟩, h2, h3⟩

theorem set_fill {α β : Type} (f : α → β) (z : β) (xs : List α) (k : Nat) (hk : k < xs.length) :
    ((xs.take k).map f ++ List.replicate (xs.length - k) z).set k (f xs[k]) = (xs.take (k + 1)).map f ++ List.replicate (xs.length - (k + 1)) z := by
  have hl : ((xs.take k).map f).length = k := by simp; omega
  rw [List.set_append_right _ _ (by omega), hl, Nat.sub_self, show xs.length - k = (xs.length - (k + 1)) + 1 from by omega, List.replicate_succ, List.set_cons_zero,
    List.take_succ_eq_append_getElem hk, List.map_append]
  simp

theorem fill_zero {α β : Type} (f : α → β) (z : β) (xs : List α) : List.replicate xs.length z = (xs.take 0).map f ++ List.replicate (xs.length - 0) z := by simp

theorem fill_at {α β : Type} (f : α → β) (z : β) (xs : List α) (k : Nat) (hk : k < xs.length) :
    ((xs.take k).map f ++ List.replicate (xs.length - k) z)[k]? = some z := by
  have hl : ((xs.take k).map f).length = k := by simp; omega
  rw [List.getElem?_append_right (by omega), hl, Nat.sub_self, List.getElem?_replicate, if_pos (by omega)]

theorem made_one (z : Value) (hz : z.cells = #[z]) (n : Nat) : (madeCells z.cells (n * 1)).toList = List.replicate n z := by
  rw [hz, Nat.mul_one, toList_madeCells_one]

/-- the numbers from k on, n of them. -/
def upFrom (k : Int) : Nat → List Int
  | 0 => []
  | n + 1 => k :: upFrom (k + 1) n

@[simp] theorem upFrom_length (k : Int) (n : Nat) : (upFrom k n).length = n := by
  induction n generalizing k with
  | zero => rfl
  | succ n ih => simp [upFrom, ih]

theorem upFrom_get (k : Int) (n i : Nat) (h : i < n) : (upFrom k n)[i]? = some (k + i) := by
  induction n generalizing k i with
  | zero => omega
  | succ n ih =>
    cases i with
    | zero => simp [upFrom]
    | succ i => simp only [upFrom, List.getElem?_cons_succ]; rw [ih _ _ (by omega)]; congr 1; omega

theorem upFrom_snoc (k : Int) (n : Nat) : upFrom k (n + 1) = upFrom k n ++ [k + n] := by
  induction n generalizing k with
  | zero => simp [upFrom]
  | succ n ih => rw [upFrom, ih, upFrom, List.cons_append, show k + 1 + (n : Int) = k + ((n + 1 : Nat) : Int) from by omega]

theorem up_set (xs : List Int) (k0 : Int) (k : Nat) (hk : k < xs.length) :
    (upFrom k0 k ++ xs.drop k).set k (k0 + k) = upFrom k0 (k + 1) ++ xs.drop (k + 1) := by
  rw [List.set_append_right _ _ (by simp), upFrom_length, Nat.sub_self, List.drop_eq_getElem_cons hk, List.set_cons_zero, upFrom_snoc]
  simp

theorem drop_step {α : Type} [BEq α] (xs ys : List α) (k : Nat) (h1 : k < xs.length) (h2 : k < ys.length) :
    (xs.drop k == ys.drop k) = (xs[k] == ys[k] && (xs.drop (k + 1) == ys.drop (k + 1))) := by
  rw [List.drop_eq_getElem_cons h1, List.drop_eq_getElem_cons h2]; rfl

theorem drewN_add (w : World) (a b : Nat) : (w.drewN a).drewN b = w.drewN (a + b) := by
  simp [World.drewN, Nat.add_assoc]

theorem Kept.drewN {α : Type} {R : Rp α} (K : Kept R) {fp w cs x} (h : R fp w cs x) (n : Nat) : R fp (w.drewN n) cs x :=
  K.frame h (Nat.le_refl _) (fun _ _ => rfl)

theorem Kept.new {α : Type} {R : Rp α} (K : Kept R) {w w1 w2 : World} {v : Value} {x : α} {f : List Nat} (h : New R w w1 v x) (hu : Upd f w1 w2) (hf : ∀ b ∈ f, b < w.heap.size) : New R w w2 v x := by
  obtain ⟨fp, h1, h2, h3⟩ := h
  have hd : ∀ b ∈ fp, b ∉ f := fun b hb hm => by have := hf b hm; have := h3 b hb; omega
  exact ⟨fp, K.upd h1 hu hd, h2.upd hu hd, h3⟩

theorem slP_open {α : Type} {R : Rp α} {fp : List Nat} {w : World} {v : Value} {xs : List α} (h : slP R fp w [v] xs) :
    ∃ a cap, v = .slice a xs.length cap ∧ xs.length ≤ cap ∧ cap ≤ maxLen ∧
      ∀ i (h : i < xs.length), ∃ b off u f, a = some ⟨b, off, none⟩ ∧ b ∈ fp ∧ b < w.heap.size ∧ w.cell? ⟨b, off + i, none⟩ = some u ∧ (∀ c ∈ f, c ∈ fp) ∧ R f w [u] xs[i] := by
  obtain ⟨v', us, fb, fps, hv, ⟨a, cap, rfl, h1, h2, h3, h4⟩, hl, rfl, hr⟩ := h
  cases hv
  refine ⟨a, cap, rfl, h1, h2, fun i hi => ?_⟩
  rcases h4 with ⟨h0, -⟩ | ⟨b, off, rfl, rfl, hbl, hc⟩
  · omega
  · have hu : us[i]? = some us[i] := by simp
    have hf : fps[i]? = some fps[i] := by simp
    exact ⟨b, off, us[i], fps[i], rfl, by simp, hbl, hc i _ hu, fun c hc => List.mem_append_right _ (List.mem_flatten.2 ⟨_, List.mem_of_getElem? hf, hc⟩), hr i hi _ _ hu hf⟩

theorem nodup_flatten' {α : Type} (L : List (List α)) : L.flatten.Nodup ↔ (∀ l ∈ L, l.Nodup) ∧ L.Pairwise (fun a b => ∀ x ∈ a, ∀ y ∈ b, x ≠ y) :=
  List.pairwise_flatten

/-- One element of a slice that is owned is written: the others stay. -/
theorem slP_set {α : Type} {R : Rp α} (K : Kept R) {fp : List Nat} {w : World} {v : Value} {xs : List α} (h : slP R fp w [v] xs) (hO : Own fp w) (i : Nat) (hi : i < xs.length) :
    ∃ a cap b off u f, v = .slice a xs.length cap ∧ xs.length ≤ cap ∧ cap ≤ maxLen ∧ a = some ⟨b, off, none⟩ ∧ b ∈ fp ∧ b < w.heap.size ∧ w.cell? ⟨b, off + i, none⟩ = some u ∧ (∀ c ∈ f, c ∈ fp) ∧ R f w [u] xs[i] ∧ Own f w ∧
      ∀ w' y, Upd f w w' → R f w' [u] y → Own f w' → slP R fp w' [v] (xs.set i y) ∧ Own fp w' := by
  obtain ⟨v', us, fb, fps, hv, hF, hl, rfl, hr⟩ := h
  cases hv
  have hF' := hF
  obtain ⟨a, cap, rfl, h1, h2, h3, h4⟩ := hF
  rcases h4 with ⟨h0, -⟩ | ⟨b, off, rfl, rfl, hbl, hc⟩
  · omega
  · have hu : us[i]? = some us[i] := by simp
    have hf : fps[i]? = some fps[i] := by simp
    obtain ⟨hnd, hrow⟩ := hO
    have hnd' := hnd
    rw [List.nodup_append] at hnd'
    obtain ⟨-, hnf, hdis⟩ := hnd'
    have hsub : ∀ c ∈ fps[i], c ∈ [b] ++ fps.flatten := fun c hc => List.mem_append_right _ (List.mem_flatten.2 ⟨_, List.mem_of_getElem? hf, hc⟩)
    refine ⟨_, cap, b, off, us[i], fps[i], rfl, h1, h2, rfl, by simp, hbl, hc i _ hu, hsub, hr i hi _ _ hu hf, ⟨?_, fun c hc => hrow c (hsub c hc)⟩, ?_⟩
    · rw [nodup_flatten'] at hnf; exact hnf.1 _ (List.mem_of_getElem? hf)
    · intro w' y hU hR' hO'
      have hother : ∀ j g, fps[j]? = some g → j ≠ i → ∀ c ∈ g, c ∉ fps[i] := by
        intro j g hg hji c hcg hci
        rw [nodup_flatten'] at hnf
        have hp := List.pairwise_iff_getElem.1 hnf.2
        obtain ⟨hjl, rfl⟩ := List.getElem?_eq_some_iff.1 hg
        rcases Nat.lt_or_gt_of_ne hji with h | h
        · exact hp j i hjl (by omega) h _ hcg _ hci rfl
        · exact hp i j (by omega) hjl h _ hci _ hcg rfl
      have hbn : b ∉ fps[i] := fun hm => hdis b (by simp) b (List.mem_flatten.2 ⟨_, List.mem_of_getElem? hf, hm⟩) rfl
      refine ⟨⟨_, us, [b], fps, rfl, ?_, by simpa using hl, rfl, ?_⟩, ⟨hnd, ?_⟩⟩
      · rw [List.length_set]; exact hF'.upd hU (by simpa using hbn)
      · intro j hj u g hu' hg
        by_cases hji : j = i
        · subst hji
          rw [hu] at hu'; rw [hf] at hg; cases hu'; cases hg
          simpa using hR'
        · rw [List.getElem_set_ne (by omega)]
          exact K.upd (hr j (by simpa using hj) u g hu' hg) hU (hother j g hg hji)
      · intro c hc
        by_cases hci : c ∈ fps[i]
        · exact hO'.2 c hci
        · rw [hU.block c (by obtain ⟨_, _, hh⟩ := hrow c hc; exact (Array.getElem?_eq_some_iff.1 hh).1) hci]
          exact hrow c hc

/-- Elements of one cell each, with memory of their own, from block base on and apart from the blocks ob. -/
def Rows {α : Type} (R : Rp α) (base : Nat) (ob : List Nat) (w : World) (us : List Value) (xs : List α) : Prop :=
  ∃ fps : List (List Nat), fps.length = xs.length ∧ us.length = xs.length ∧ Own fps.flatten w ∧ (∀ b ∈ fps.flatten, base ≤ b ∧ b ∉ ob) ∧
    ∀ i (h : i < xs.length) u (f : List Nat), us[i]? = some u → fps[i]? = some f → R f w [u] xs[i]

namespace Rows
variable {α : Type} {R : Rp α} {base : Nat} {ob : List Nat} {w w1 : World} {us : List Value} {xs : List α}

theorem nil (R : Rp α) (base : Nat) (ob : List Nat) (w : World) : Rows R base ob w [] [] := ⟨[], rfl, rfl, Own.nil w, by simp, by simp⟩

theorem length (h : Rows R base ob w us xs) : us.length = xs.length := by obtain ⟨_, _, h, _⟩ := h; exact h

theorem upd (K : Kept R) (h : Rows R base ob w us xs) {f : List Nat} (hu : Upd f w w1) (hf : ∀ b ∈ f, b ∈ ob ∨ b < base) : Rows R base ob w1 us xs := by
  obtain ⟨fps, h1, h2, h3, h4, h5⟩ := h
  have hd : ∀ b ∈ fps.flatten, b ∉ f := fun b hb hm => by
    rcases hf b hm with h | h
    · exact (h4 b hb).2 h
    · have := (h4 b hb).1; omega
  refine ⟨fps, h1, h2, h3.upd hu hd, h4, fun i hi u f' hu' hf' => K.upd (h5 i hi u f' hu' hf') hu fun b hb => hd b (List.mem_flatten.2 ⟨_, List.mem_of_getElem? hf', hb⟩)⟩

theorem ob' (h : Rows R base ob w us xs) {ob2 : List Nat} (hb : ∀ b ∈ ob2, b ∈ ob ∨ b < base ∨ w.heap.size ≤ b) : Rows R base ob2 w us xs := by
  obtain ⟨fps, h1, h2, h3, h4, h5⟩ := h
  refine ⟨fps, h1, h2, h3, fun b hb' => ⟨(h4 b hb').1, fun hm => ?_⟩, h5⟩
  rcases hb b hm with h | h | h
  · exact (h4 b hb').2 h
  · have := (h4 b hb').1; omega
  · have := h3.lt b hb'; omega

theorem push (K : Kept R) (h : Rows R base ob w us xs) {u : Value} {x : α} (hu : Upd [] w w1) (hn : New R w w1 u x) (hb : base ≤ w.heap.size) (hob : ∀ b ∈ ob, b < w.heap.size) :
    Rows R base ob w1 (us ++ [u]) (xs ++ [x]) := by
  obtain ⟨fps, h1, h2, h3, h4, h5⟩ := h.upd K hu (by simp)
  obtain ⟨fps', h1', h2', h3', h4', h5'⟩ := h
  obtain ⟨fp, g1, g2, g3⟩ := hn
  have hlt : ∀ b ∈ fps'.flatten, b < w.heap.size := h3'.lt
  refine ⟨fps' ++ [fp], by simp [h1'], by simp [h2], ⟨?_, ?_⟩, ?_, ?_⟩
  · rw [List.flatten_append, List.nodup_append]
    refine ⟨h3'.1, by simpa using g2.1, fun a ha b hb' e => ?_⟩
    subst e
    have := hlt a ha
    have := g3 a (by simpa using hb')
    omega
  · intro b hb'
    rw [List.flatten_append] at hb'
    rcases List.mem_append.1 hb' with hb' | hb'
    · exact (h3'.upd hu (by simp)).2 b hb'
    · exact g2.2 b (by simpa using hb')
  · intro b hb'
    rw [List.flatten_append] at hb'
    rcases List.mem_append.1 hb' with hb' | hb'
    · exact h4' b hb'
    · have := g3 b (by simpa using hb')
      exact ⟨by omega, fun hm => by have := hob b hm; omega⟩
  · intro i hi u' f' hu' hf'
    by_cases e : i < xs.length
    · rw [List.getElem?_append_left (by omega)] at hu' hf'
      rw [List.getElem_append_left e]
      exact K.upd (h5' i e u' f' hu' hf') hu (by simp)
    · have ei : i = xs.length := by simp at hi; omega
      subst ei
      rw [List.getElem?_append_right (by omega)] at hu' hf'
      rw [h2, Nat.sub_self] at hu'
      rw [h1', Nat.sub_self] at hf'
      simp at hu' hf'
      subst hu' hf'
      simpa using g1

theorem new (h : Rows R base ob w us xs) {w0 : World} {e : TypeId} {v : Value} (ho : w.ownsRow w0.heap.size e 1 v xs.length us) (hob : ∀ b, v.ownBlock = some b → b ∈ ob) (hb : w0.heap.size ≤ base) :
    New (slP R) w0 w v xs := by
  obtain ⟨fps, h1, h2, h3, h4, h5⟩ := h
  obtain ⟨fb, g1, g2, g3, g4⟩ := Flat.ofOwns ho
  refine ⟨fb ++ fps.flatten, ⟨v, us, fb, fps, rfl, g1, h1, rfl, h5⟩, ⟨?_, ?_⟩, ?_⟩
  · rw [List.nodup_append]
    refine ⟨g2.1, h3.1, fun a ha b hb' e => ?_⟩
    subst e
    exact (h4 a hb').2 (hob a (g4 a ha))
  · intro b hb'
    rcases List.mem_append.1 hb' with hb' | hb'
    · exact g2.2 b hb'
    · exact h3.2 b hb'
  · intro b hb'
    rcases List.mem_append.1 hb' with hb' | hb'
    · exact g3 b hb'
    · have := (h4 b hb').1; omega
end Rows

section
variable {P : Program} (w : World)

/-- append, with where the result lies: where it was, or in a new block. -/
theorem run_append_tight (base : Nat) (t ty e : TypeId) (i : TypeInfo) (z : Value) (size bytes : Nat) (ht : P.underlying t = some (.slice e)) (hi : P.info? e = some i) (hz : i.zero = some z)
    (hsize : i.size = size) (hby : i.bytes = bytes) (hzs : z.cells.size = size) (hsz : 0 < size)
    (v : Value) (n : Nat) (xs : List Value) (hown : w.ownsRow base e size v n xs)
    (a : Addr) (m c : Nat) (news : List Value) (hl : news.length = m * size) (hnews : ∀ j u, news[j]? = some u → w.cell? (a.add j) = some u) (h1 : ∀ u ∈ news, u.oneCell' = true)
    (h63 : n + m ≤ maxLen) (hbytes : (n + m) * bytes ≤ 140737488355328) (hbase : base ≤ w.heap.size) :
    ∃ v' w', (Builtin.append_ #[t, t] ty #[v, .slice (some a) m c]).run P w = .ok v' w' ∧ w'.ownsRow base e size v' (n + m) (xs ++ news) ∧ w.grownBy w' v.ownBlock ∧
      (∀ b, v'.ownBlock = some b → v.ownBlock = some b ∨ w.heap.size ≤ b) := by
  obtain ⟨v', w', hr, h2, h3, -⟩ := run_append_own (P := P) w base t ty e i z size bytes ht hi hz hsize hby hzs hsz v n xs hown a m c news hl hnews h1 h63 hbytes hbase
  refine ⟨v', w', hr, h2, h3, fun b hb => ?_⟩
  subst hsize
  subst hby
  have hsmall : n + m ≤ 9223372036854775807 := by simp only [maxLen] at h63; omega
  rcases hown.2 with ⟨rfl, rfl⟩ | ⟨g, cap, cur, rfl, hbg, hg, hnc, hcm, hcs, htake⟩
  · have hx : xs = [] := List.eq_nil_of_length_eq_zero (by simpa using hown.1)
    subst hx
    obtain ⟨v2, w2, hr2, h22, -, -⟩ := run_append_own (P := P) w w.heap.size t ty e i z _ _ ht hi hz rfl rfl hzs hsz _ 0 [] (World.ownsRow_nil w _ e i.size) a m c news hl hnews h1 h63 hbytes (Nat.le_refl _)
    rw [hr] at hr2
    cases hr2
    rcases h22.2 with ⟨rfl, -⟩ | ⟨g, cap, cur, rfl, hbg, -⟩
    · simp [Value.ownBlock] at hb
    · simp [Value.ownBlock] at hb; omega
  · by_cases hroom : n + m ≤ cap
    · have hfit : n * i.size + news.length ≤ cur.size := by rw [hl, hcs, ← Nat.add_mul]; exact Nat.mul_le_mul_right _ hroom
      have hr2 := run_append_room (P := P) w t ty e i ht hi g n cap cur hg a m c news hl hnews h1 hroom hfit
      rw [hr] at hr2
      cases hr2
      exact Or.inl hb
    · have holds : ∀ j u, xs[j]? = some u → w.cell? ((⟨g, 0, none⟩ : Addr).add j) = some u := hown.cells (g := g) rfl
      have hr2 := run_append_grow (P := P) w t ty e i z ht hi hz ⟨g, 0, none⟩ n cap xs hown.1 holds a m c news hl hnews (by omega) (by omega) (growslice_fits (by omega) hbytes)
      rw [hr] at hr2
      cases hr2
      simp [Value.ownBlock] at hb; omega

theorem wpList_append_tight {ops : Array Oper} {rest : List Oper} {o : Oper} {a : Act} {Q : Exit → Act → World → Prop} (hgd : o.guard = none) (s x : Operand) (t : TypeId)
    (ho : o.op = .call { callee := .builtin .append, args := #[s, x], argTypes := #[t, t] })
    (base : Nat) (e : TypeId) (i : TypeInfo) (z : Value) (size bytes : Nat) (ht : P.underlying t = some (.slice e)) (hi : P.info? e = some i) (hz : i.zero = some z)
    (hsize : i.size = size) (hby : i.bytes = bytes) (hzs : z.cells.size = size) (hsz : 0 < size)
    (v : Value) (n : Nat) (xs : List Value) (hs : a.eval s = v) (hown : w.ownsRow base e size v n xs)
    (ad : Addr) (m c : Nat) (news : List Value) (hx : a.eval x = .slice (some ad) m c) (hl : news.length = m * size) (hnews : ∀ j u, news[j]? = some u → w.cell? (ad.add j) = some u) (h1 : ∀ u ∈ news, u.oneCell' = true)
    (h63 : n + m ≤ maxLen) (hbytes : (n + m) * bytes ≤ 140737488355328) (hbase : base ≤ w.heap.size)
    (h : ∀ v' w', w'.ownsRow base e size v' (n + m) (xs ++ news) → w.grownBy w' v.ownBlock → (∀ b, v'.ownBlock = some b → v.ownBlock = some b ∨ w.heap.size ≤ b) → wpList P ops Q rest (a.put o.dst v') w') : wpList P ops Q (o :: rest) a w := by
  refine wpList_plain hgd fun _ hK => ?_
  obtain ⟨v', w', hr, h2, h3, h4⟩ := run_append_tight (P := P) w base t o.type e i z size bytes ht hi hz hsize hby hzs hsz v n xs hown ad m c news hl hnews h1 h63 hbytes hbase
  unfold Oper.wp execOp
  simp only [ho, resolve, invoke, builtin, Sem.run_bind, Sem.run_pure, Result.andThen_ok, List.map_toArray, List.map_cons, List.map_nil, hs, hx, hr]
  exact hK _ _ (h v' w' h2 h3 h4)
end

theorem New.form {α : Type} {enc : α → List Value} {n : Nat} {w w' : World} {v : Value} {x : List α} (h : New (slF n enc) w w' v x) : ∃ a cap, v = .slice a x.length cap := by
  obtain ⟨fp, ⟨v', hv, a, cap, rfl, -⟩, -⟩ := h
  cases hv; exact ⟨_, _, rfl⟩
theorem New.formP {α : Type} {R : Rp α} {w w' : World} {v : Value} {x : List α} (h : New (slP R) w w' v x) : ∃ a cap, v = .slice a x.length cap := by
  obtain ⟨fp, ⟨v', us, fb, fps, hv, ⟨a, cap, rfl, -⟩, -⟩, -⟩ := h
  cases hv; exact ⟨_, _, rfl⟩

/-- A slice of one-cell elements with memory of their own that a call collects by append: e is the element's type. -/
def Acc {α : Type} (R : Rp α) (w0 : World) (e : TypeId) (w : World) (v : Value) (xs : List α) : Prop :=
  ∃ us, w.ownsRow w0.heap.size e 1 v xs.length us ∧ Rows R w0.heap.size v.ownBlock.toList w us xs

namespace Acc
variable {α : Type} {R : Rp α} {w0 w w1 w2 : World} {e : TypeId} {v : Value} {xs : List α}

theorem nil (R : Rp α) (w0 : World) (e : TypeId) (w : World) : Acc R w0 e w (.slice none 0 0) [] := ⟨[], World.ownsRow_nil _ _ _ _, Rows.nil _ _ _ _⟩

theorem upd (K : Kept R) (h : Acc R w0 e w v xs) (hu : Upd [] w w1) : Acc R w0 e w1 v xs := by
  obtain ⟨us, h1, h2⟩ := h
  exact ⟨us, h1.kept (row := none) ⟨hu.os, hu.tape, hu.output, hu.size, fun k hk _ => hu.block k hk (by simp)⟩ (by cases v.ownBlock <;> simp), h2.upd K hu (by simp)⟩

theorem new (h : Acc R w0 e w v xs) : New (slP R) w0 w v xs := by
  obtain ⟨us, h1, h2⟩ := h
  exact h2.new h1 (fun b hb => by simp [hb]) (Nat.le_refl _)

/-- Behind an append of one element u, made between w and w1, boxed in a new block: what the append's law leaves. -/
theorem push (K : Kept R) {us : List Value} (hown : w.ownsRow w0.heap.size e 1 v xs.length us) (hrows : Rows R w0.heap.size v.ownBlock.toList w us xs) (hs : w0.heap.size ≤ w.heap.size) {u : Value} {x : α} (hu : Upd [] w w1) (hn : New R w w1 u x) (o : Obj) {v2 : Value}
    (h2 : w2.ownsRow w0.heap.size e 1 v2 (xs.length + 1) (us ++ [u])) (hg : (w1.alloc o).grownBy w2 v.ownBlock)
    (ht : ∀ b, v2.ownBlock = some b → v.ownBlock = some b ∨ (w1.alloc o).heap.size ≤ b) : Acc R w0 e w2 v2 (xs ++ [x]) := by
  refine ⟨us ++ [u], by simpa using h2, ?_⟩
  have hob : ∀ b ∈ v.ownBlock.toList, b < w.heap.size := fun b hb => (hown.lt b (by simpa using hb)).2
  have hr1 := hrows.push K hu hn hs hob
  have hu2 : Upd [] w1 (w1.alloc o) := (Upd.refl _ _).alloc o
  have hr2 := hr1.upd K hu2 (by simp)
  have hu3 : Upd v.ownBlock.toList (w1.alloc o) w2 := (Upd.refl _ _).grown hg (fun k hk => Or.inr (by simp [hk]))
  have hr3 := Rows.ob' hr2 (ob2 := v.ownBlock.toList ++ v2.ownBlock.toList) (by
    intro b hb
    rcases List.mem_append.1 hb with hb | hb
    · exact Or.inl hb
    · rcases ht b (by simpa using hb) with h | h
      · exact Or.inl (by simp [h])
      · exact Or.inr (Or.inr h))
  have hr4 := hr3.upd K hu3 (fun b hb => Or.inl (List.mem_append_left _ hb))
  exact hr4.ob' (fun b hb => Or.inl (List.mem_append_right _ hb))
end Acc

theorem new_lit {α : Type} {enc : α → Value} (w : World) (e : TypeId) (xs : List α) (hl : xs.length ≤ maxLen) :
    New (slF 1 (fun x => [enc x])) w (w.alloc (.cells (xs.map enc).toArray e)) (.slice (some ⟨w.heap.size, 0, none⟩) xs.length xs.length) xs :=
  New.ofOwns (e := e) (by simpa using World.ownsRow_lit (base := w.heap.size) (e := e) (size := 1) w (xs.map enc).toArray xs.length (Nat.le_refl _) hl (by simp))

theorem New.nilF {α : Type} (n : Nat) (enc : α → List Value) (w w' : World) : New (slF n enc) w w' (.slice none 0 0) [] :=
  ⟨[], ⟨_, rfl, none, 0, rfl, Nat.le_refl _, by simp [maxLen], by simp, Or.inl ⟨rfl, rfl⟩⟩, Own.nil _, by simp⟩
theorem Kept.drew {α : Type} {R : Rp α} (K : Kept R) {fp w cs x} (h : R fp w cs x) : R fp w.drew cs x := K.frame h (Nat.le_refl _) (fun _ _ => rfl)
theorem Own.drew {fp : List Nat} {w : World} (h : Own fp w) : Own fp w.drew := h

/-- One element of an owned slice of one-cell elements is read, or written. -/
theorem slF1_cell {α : Type} {enc : α → Value} {fp : List Nat} {w : World} {v : Value} {xs : List α} (h : slF 1 (fun x => [enc x]) fp w [v] xs) (j : Nat) (hj : j < xs.length) :
    ∃ b off cap, v = .slice (some ⟨b, off, none⟩) xs.length cap ∧ xs.length ≤ cap ∧ cap ≤ maxLen ∧ fp = [b] ∧ b < w.heap.size ∧ w.cell? ⟨b, off + j, none⟩ = some (enc xs[j]) ∧
      ∀ x, slF 1 (fun x => [enc x]) fp (w.setCell ⟨b, off + j, none⟩ (enc x)) [v] (xs.set j x) := by
  obtain ⟨a, cap, rfl, h1, h2, hc⟩ := slF1_open h
  obtain ⟨b, off, rfl, rfl, hb, hcell⟩ := hc j hj
  refine ⟨b, off, cap, rfl, h1, h2, rfl, hb, hcell, fun x => ⟨_, rfl, ?_⟩⟩
  obtain ⟨v', hv, hF⟩ := h
  cases hv
  have := hF.set (j := j) (by omega) (enc x)
  rw [flatMap_single] at this ⊢
  rw [← List.map_set] at this
  simpa using this

theorem Acc.lit0 {α : Type} (R : Rp α) (w0 : World) (e : TypeId) (w : World) (h : w0.heap.size ≤ w.heap.size) : Acc R w0 e (w.alloc (.cells #[] e)) (.slice (some ⟨w.heap.size, 0, none⟩) 0 0) [] :=
  ⟨[], by simpa using World.ownsRow_lit (base := w0.heap.size) (e := e) (size := 1) w #[] 0 h (by simp [maxLen]) (by simp), Rows.nil _ _ _ _⟩

theorem flatMap_two_get {α : Type} (e1 e2 : α → Value) (xs : List α) (i : Nat) (h : i < xs.length) :
    (xs.flatMap fun x => [e1 x, e2 x])[i * 2]? = some (e1 xs[i]) ∧ (xs.flatMap fun x => [e1 x, e2 x])[i * 2 + 1]? = some (e2 xs[i]) := by
  induction xs generalizing i with
  | nil => simp at h
  | cons x xs ih =>
    cases i with
    | zero => simp
    | succ i =>
      have h' : i < xs.length := by simpa using h
      obtain ⟨h1, h2⟩ := ih i h'
      rw [show (i + 1) * 2 = i * 2 + 1 + 1 from by omega]
      simp only [List.flatMap_cons, List.cons_append, List.nil_append, List.getElem?_cons_succ, List.getElem_cons_succ]
      exact ⟨h1, h2⟩
theorem flatMap_two_length {α : Type} (e1 e2 : α → Value) (xs : List α) : (xs.flatMap fun x => [e1 x, e2 x]).length = xs.length * 2 := by
  induction xs with
  | nil => rfl
  | cons x xs ih => rw [List.flatMap_cons, List.length_append, ih, List.length_cons]; simp only [List.length_cons, List.length_nil]; omega
theorem flatMap_two_set {α : Type} (e1 e2 : α → Value) (xs : List α) (i : Nat) (h : i < xs.length) (y : α) :
    ((xs.flatMap fun x => [e1 x, e2 x]).set (i * 2) (e1 y)).set (i * 2 + 1) (e2 y) = (xs.set i y).flatMap fun x => [e1 x, e2 x] := by
  induction xs generalizing i with
  | nil => simp at h
  | cons x xs ih =>
    cases i with
    | zero => simp
    | succ i =>
      have h' : i < xs.length := by simpa using h
      rw [show (i + 1) * 2 = i * 2 + 1 + 1 from by omega]
      simp only [List.flatMap_cons, List.cons_append, List.nil_append, List.set_cons_succ, ih i h']

/-- an element of a slice of elements of two cells. -/
theorem slF2_open {α : Type} {e1 e2 : α → Value} {fp : List Nat} {w : World} {v : Value} {xs : List α} (h : slF 2 (fun x => [e1 x, e2 x]) fp w [v] xs) :
    ∃ a cap, v = .slice a xs.length cap ∧ xs.length ≤ cap ∧ cap ≤ maxLen ∧
      ∀ i (h : i < xs.length), ∃ b off, a = some ⟨b, off, none⟩ ∧ fp = [b] ∧ b < w.heap.size ∧ w.cell? ⟨b, off + i * 2, none⟩ = some (e1 xs[i]) ∧ w.cell? ⟨b, off + i * 2 + 1, none⟩ = some (e2 xs[i]) := by
  obtain ⟨v', hv, a, cap, rfl, h1, h2, h3, h4⟩ := h
  cases hv
  refine ⟨a, cap, rfl, h1, h2, fun i hi => ?_⟩
  rcases h4 with ⟨h0, -⟩ | ⟨b, off, rfl, rfl, hbl, hc⟩
  · omega
  · obtain ⟨g1, g2⟩ := flatMap_two_get e1 e2 xs i hi
    exact ⟨b, off, rfl, rfl, hbl, hc _ _ g1, by have := hc _ _ g2; rwa [← Nat.add_assoc] at this⟩

/-- both cells of an element are written. -/
theorem slF2_set {α : Type} {e1 e2 : α → Value} {fp : List Nat} {w : World} {b off cap : Nat} {xs : List α} (h : slF 2 (fun x => [e1 x, e2 x]) fp w [.slice (some ⟨b, off, none⟩) xs.length cap] xs) (i : Nat) (hi : i < xs.length) (y : α) :
    slF 2 (fun x => [e1 x, e2 x]) fp ((w.setCell ⟨b, off + i * 2, none⟩ (e1 y)).setCell ⟨b, off + i * 2 + 1, none⟩ (e2 y)) [.slice (some ⟨b, off, none⟩) xs.length cap] (xs.set i y) := by
  obtain ⟨v', hv, hF⟩ := h
  cases hv
  have h1 := hF.set (j := i * 2) (by omega) (e1 y)
  have h2 := h1.set (j := i * 2 + 1) (by omega) (e2 y)
  rw [flatMap_two_set _ _ _ _ hi, ← Nat.add_assoc] at h2
  exact ⟨_, rfl, by simpa using h2⟩

theorem New.ofOwns2 {α : Type} {e1 e2 : α → Value} {w w' : World} {e : TypeId} {v : Value} {xs : List α}
    (h : w'.ownsRow w.heap.size e 2 v xs.length (xs.flatMap fun x => [e1 x, e2 x])) : New (slF 2 (fun x => [e1 x, e2 x])) w w' v xs := by
  obtain ⟨fp, h1, h2, h3, -⟩ := Flat.ofOwns h
  exact ⟨fp, ⟨v, rfl, h1⟩, h2, h3⟩

theorem Upd.keep {w w1 : World} {p : Addr} {v : Value} (hu : Upd [] w w1) (h : w.cell? p = some v) : w1.cell? p = some v :=
  (hu.below.cell (World.block_lt_of_cell? w p h)).trans h

theorem made_two (z0 z1 : Value) (n : Nat) : (madeCells (Value.agg #[z0, z1]).cells (n * 2)).toList = (List.replicate n ()).flatMap fun _ => [z0, z1] := by
  apply List.ext_getElem?
  intro i
  by_cases hi : i < n * 2
  · have h2 : i / 2 < (List.replicate n ()).length := by simp; omega
    obtain ⟨g1, g2⟩ := flatMap_two_get (fun _ : Unit => z0) (fun _ : Unit => z1) (List.replicate n ()) (i / 2) h2
    rcases Nat.mod_two_eq_zero_or_one i with h | h
    · have e : i / 2 * 2 = i := by omega
      rw [e] at g1
      rw [g1]
      simp [madeCells, hi, Value.cells, h]
    · have e : i / 2 * 2 + 1 = i := by omega
      rw [e] at g2
      rw [g2]
      simp [madeCells, hi, Value.cells, h]
  · rw [List.getElem?_eq_none (by simp [madeCells]; omega), List.getElem?_eq_none (by rw [flatMap_two_length (fun _ : Unit => z0) (fun _ => z1)]; simp; omega)]

theorem Acc.other {α : Type} {R : Rp α} (K : Kept R) {w0 w w1 : World} {e : TypeId} {v : Value} {xs : List α} (h : Acc R w0 e w v xs) {b : Nat} (hu : Upd [b] w w1) (hb : b < w0.heap.size) : Acc R w0 e w1 v xs := by
  obtain ⟨us, h1, h2⟩ := h
  refine ⟨us, h1.kept (row := some b) ⟨hu.os, hu.tape, hu.output, hu.size, fun k hk hne => hu.block k hk (by simpa using hne)⟩ ?_, h2.upd K hu (by simp; omega)⟩
  cases hv : v.ownBlock with
  | none => exact Or.inl rfl
  | some g =>
    right
    have := (h1.lt g hv).1
    intro e; cases e; omega

theorem ownsRow_form {w : World} {base : Nat} {e : TypeId} {size : Nat} {v : Value} {n : Nat} {xs : List Value} (h : w.ownsRow base e size v n xs) : ∃ a c, v = .slice a n c := by
  rcases h.2 with ⟨rfl, rfl⟩ | ⟨g, cap, cur, rfl, -⟩
  · exact ⟨_, _, rfl⟩
  · exact ⟨_, _, rfl⟩

theorem ownsRow_upd {w w1 : World} {base : Nat} {e : TypeId} {size : Nat} {v : Value} {n : Nat} {xs : List Value} (h : w.ownsRow base e size v n xs) (hu : Upd [] w w1) : w1.ownsRow base e size v n xs :=
  h.kept (row := none) ⟨hu.os, hu.tape, hu.output, hu.size, fun k hk _ => hu.block k hk (by simp)⟩ (by cases v.ownBlock <;> simp)

theorem New.mono {α : Type} {R : Rp α} {w0 w w' : World} {v : Value} {x : α} (h : New R w w' v x) (hs : w0.heap.size ≤ w.heap.size) : New R w0 w' v x := by
  obtain ⟨fp, h1, h2, h3⟩ := h
  exact ⟨fp, h1, h2, fun b hb => Nat.le_trans hs (h3 b hb)⟩

end Go.Proofs.YtnchmnjkmhfleaaGreat

/-
  The laws' helper functions over lists of numbers: what each call returns and makes.
-/
namespace Go.Proofs.YtnchmnjkmhfleaaGreat
open Go.RowKit

abbrev ei (n : Int) : Value := .int .i64 n
abbrev R1 : Rp (List Int) := slF 1 (fun n => [ei n])
theorem Tryz.info2 : (Tryz.prog.info? 2).map (fun i => (i.zero, i.size, i.bytes)) = some (some (.int .i64 0), 1, 8) := by kernel_rfl
set_option maxHeartbeats 400000 in
theorem sz1 (v : Value) (xs : List Int) (left : Int) (w : World) (fp : List Nat) (hl : 0 ≤ left) (hl2 : left ≤ 1048576) (hR : R1 fp w [v] xs) :
    Calls Tryz.prog 49 #[v, .int .i64 left] w fun e w' => (∃ r : Int, e = .returned (.int .i64 r) ∧ (r = -1 ∨ (0 ≤ r ∧ r + xs.length = left))) ∧ w = w' := by
  obtain ⟨a, cap, rfl, h1, h2, -⟩ := slF1_open hR
  unfold maxLen at h2
  clear hR
  by_cases hlt : left - (xs.length : Int) < 0
  · go_enter Tryz.func49, Tryz.ntmps49
    go_wp2
    go_ret
    exact ⟨⟨-1, rfl, Or.inl rfl⟩, rfl⟩
  · go_enter Tryz.func49, Tryz.ntmps49
    go_wp2
    go_ret
    exact ⟨⟨left - xs.length, rfl, Or.inr ⟨by omega, by omega⟩⟩, rfl⟩

set_option maxHeartbeats 400000 in
theorem to1 (v : Value) (xs : List Int) (w : World) (fp : List Nat) (hl : xs.length ≤ 1048576) (hR : R1 fp w [v] xs) :
    Calls Tryz.prog 59 #[v] w fun e w' => (∃ v', e = .returned v' ∧ New R1 w w' v' xs) ∧ Upd [] w w' := by
  obtain ⟨i0, hi, hz0, hz1, hz2⟩ := info_parts Tryz.info2
  obtain ⟨a, cap, rfl, h1, h2, hc⟩ := slF1_open hR
  unfold maxLen at h2
  go_enter Tryz.func59, Tryz.ntmps59
  have hm1 : i0.bytes * xs.length ≤ 281474976710656 := by rw [hz2]; omega
  go_wp2_with (first
    | (at_make; refine wpList_make_full _ rfl _ _ 36 rfl w.heap.size 2 i0 (.int .i64 0) 1 Tryz.underlying36 hi hz0 hz1 .i64 .i64 _ _ xs.length rfl rfl rfl rfl hm1 (by unfold maxLen; omega) (Nat.le_refl _) ?_; intro w1 hown hgrow)
    | fail)
  rw [made_one _ rfl, fill_zero ei] at hown
  have hU : Upd [] w w1 := (Upd.refl _ _).grown hgrow (by simp)
  clear hgrow hm1
  go_loopw [4] (fun i wr => ∃ k : Nat, k ≤ xs.length ∧ i = .int .i64 k ∧ Upd [] w wr ∧
      wr.ownsRow w.heap.size 2 1 (.slice (some ⟨w.heap.size, 0, none⟩) xs.length xs.length) xs.length ((xs.take k).map ei ++ List.replicate (xs.length - k) (ei 0)))
    (fun i _ => xs.length - (intOf i).toNat)
  case atStart => exact ⟨0, Nat.zero_le _, rfl, hU, hown⟩
  case round =>
    obtain ⟨k, hk, rfl, hU, hown⟩ := hrel
    by_cases hlt : k < xs.length
    · obtain ⟨b, off, rfl, rfl, hb, hcx⟩ := hc k hlt
      have hcell : wr.cell? ⟨b, off + k, none⟩ = some (ei xs[k]) := (hU.below.cell hb).trans hcx
      have hcell2 : wr.cell? ⟨w.heap.size, k, none⟩ = some (ei 0) := by rw [hown.cellAt k (by omega), fill_at _ _ _ _ hlt]
      have hfr : wr.frozen? ⟨w.heap.size, k, none⟩ = false := hown.frozenAt k
      have hst := (hown.stored k (ei xs[k]))
      rw [set_fill _ _ _ _ hlt] at hst
      have HS := Lib.hid hst
      clear hst hown hc
      go_wp2
      go_roundw
      case rel => exact ⟨k + 1, by omega, by go_num, hU.setCell (Or.inl (Nat.le_refl _)) _, HS.out.1⟩
      case measure => simp [intOf]; omega
    · obtain rfl : k = xs.length := by omega
      clear hc
      go_wp2
      go_ret
      refine ⟨⟨_, rfl, New.ofOwns (e := 2) ?_⟩, hU⟩
      simpa using hown

set_option maxHeartbeats 400000 in
theorem eq1 (v1 v2 : Value) (xs ys : List Int) (w : World) (f1 f2 : List Nat) (h1 : R1 f1 w [v1] xs) (h2 : R1 f2 w [v2] ys) :
    Calls Tryz.prog 64 #[v1, v2] w fun e w' => e = .returned (.bool (xs == ys)) ∧ ∃ n, w' = w.drewN n := by
  obtain ⟨a1, c1, rfl, hl1, hm1, hc1⟩ := slF1_open h1
  obtain ⟨a2, c2, rfl, hl2, hm2, hc2⟩ := slF1_open h2
  unfold maxLen at hm1 hm2
  clear h1 h2
  by_cases hl : xs.length = ys.length
  · have hres : (xs == ys) = (xs.drop 0 == ys.drop 0) := rfl
    have HL := Lib.hid hl
    have hle : xs.length ≤ ys.length := by omega
    have hbe : ((xs.length : Int) != (ys.length : Int)) = false := by rw [hl]; simp
    have HR := Lib.hid hres
    clear hl hres
    go_enter Tryz.func64, Tryz.ntmps64
    go_wp2
    go_loopw [5] (fun i wr => ∃ k n : Nat, k ≤ xs.length ∧ i = .int .i64 k ∧ wr = w.drewN n ∧ (xs.drop k == ys.drop k) = (xs == ys)) (fun i _ => xs.length - (intOf i).toNat)
    case atStart => exact ⟨0, 0, Nat.zero_le _, rfl, rfl, HR.out.symm⟩
    case round =>
      obtain ⟨k, n, hk, rfl, rfl, hF⟩ := hrel
      by_cases hlt : k < xs.length
      · obtain ⟨b1, o1, rfl, -, -, hcell1⟩ := hc1 k hlt
        obtain ⟨b2, o2, rfl, -, -, hcell2⟩ := hc2 k (by omega)
        have hlt2 : k < ys.length := by omega
        have HF := Lib.hid hF
        clear hF hc1 hc2
        by_cases hx : xs[k] = ys[k]
        · have hne : (xs[k] != ys[k]) = false := by simp [hx]
          have HX := Lib.hid hx
          clear hx
          go_wp2
          go_quiet (fail)
          go_wp2
          go_roundw
          case rel => exact ⟨k+1, _, by omega, by go_num, rfl, by rw [← HF.out, drop_step xs ys k hlt hlt2]; simp [HX.out]⟩
          case measure => simp [intOf]; omega
        · have hne : (xs[k] != ys[k]) = true := by simp [hx]
          clear hx
          go_wp2
          go_quiet (fail)
          go_wp2
          go_ret
          exact ⟨by rw [← HF.out, drop_step xs ys k hlt hlt2]; simp at hne; simp [hne], _, drewN_add _ _ _⟩
      · have hge : xs.length ≤ k := by omega
        have HF := Lib.hid hF
        clear hF hc1 hc2
        go_wp2
        go_ret
        exact ⟨by rw [← HF.out, List.drop_of_length_le hge, List.drop_of_length_le (by have := HL.out; omega)]; rfl, _, rfl⟩
  · have hbe : ¬ ((xs.length : Int) != (ys.length : Int)) = false := by simp; omega
    have hne : (xs == ys) = false := by
      rw [beq_eq_false_iff_ne]; intro h; exact hl (by rw [h])
    have HN := Lib.hid hne
    clear hl hne
    go_enter Tryz.func64, Tryz.ntmps64
    go_wp2
    go_ret
    exact ⟨by rw [HN.out]; rfl, 0, rfl⟩

set_option maxHeartbeats 400000 in
theorem mark1 (v : Value) (xs : List Int) (k0 : Int) (w : World) (fp : List Nat) (hk0 : 0 ≤ k0) (hk1 : k0 + xs.length ≤ 4611686018427387904) (hR : R1 fp w [v] xs) (hO : Own fp w) :
    Calls Tryz.prog 69 #[v, .int .i64 k0] w fun e w' => e = .returned (.int .i64 (k0 + xs.length)) ∧ R1 fp w' [v] (upFrom k0 xs.length) ∧ Own fp w' ∧ Upd fp w w' := by
  obtain ⟨a, cap, rfl, h1, h2, -⟩ := slF1_open hR
  obtain ⟨v', hv, hF⟩ := hR
  cases hv
  rw [flatMap_single] at hF
  unfold maxLen at h2
  go_enter Tryz.func69, Tryz.ntmps69
  go_wp2
  go_loopw [1, 5] (fun kk i wr => ∃ k : Nat, k ≤ xs.length ∧ i = .int .i64 k ∧ kk = .int .i64 (k0 + k) ∧ Upd fp w wr ∧ Own fp wr ∧
      Flat fp wr (.slice a xs.length cap) 1 xs.length ((upFrom k0 k ++ xs.drop k).map ei))
    (fun _ i _ => xs.length - (intOf i).toNat)
  case atStart => exact ⟨0, Nat.zero_le _, rfl, by simp, Upd.refl _ _, hO, by simpa [upFrom] using hF⟩
  case round =>
    obtain ⟨k, hk, rfl, rfl, hU, hO, hF⟩ := hrel
    by_cases hlt : k < xs.length
    · obtain ⟨b, off, rfl, rfl, hc⟩ := hF.at0 (by omega)
      have hcell : wr.cell? ⟨b, off + k, none⟩ = some (ei xs[k]) := hc k _ (by rw [List.getElem?_map, List.getElem?_append_right (by simp)]; simp [hlt])
      have hfr : wr.frozen? ⟨b, off + k, none⟩ = false := hO.frozen (by simp) _
      have hst := hF.set (j := k) (by omega) (ei (k0 + k))
      rw [← List.map_set, up_set xs k0 k hlt] at hst
      have HS := Lib.hid hst
      clear hst hF hc
      go_wp2
      go_roundw
      case rel => exact ⟨k + 1, by omega, by go_num, by go_num, hU.setCell (by simp) _, hO.setCell _ _, HS.out⟩
      case measure => simp [intOf]; omega
    · obtain rfl : k = xs.length := by omega
      go_wp2
      go_ret
      refine ⟨rfl, ⟨_, rfl, by rw [flatMap_single]; simpa using hF⟩, hO, hU⟩

set_option maxHeartbeats 400000 in
theorem held1 (v : Value) (n : Nat) (k0 : Int) (w : World) (fp : List Nat) (hk0 : 0 ≤ k0) (hk1 : k0 + n ≤ 4611686018427387904) (hR : R1 fp w [v] (upFrom k0 n)) :
    Calls Tryz.prog 113 #[v, .int .i64 k0] w fun e w' => e = .returned (.int .i64 (k0 + n)) ∧ w = w' := by
  obtain ⟨a, cap, rfl, h1, h2, hc⟩ := slF1_open hR
  simp only [upFrom_length] at *
  unfold maxLen at h2
  clear hR
  go_enter Tryz.func113, Tryz.ntmps113
  go_wp2
  go_loop [1, 5] (fun kk i => ∃ k : Nat, k ≤ n ∧ i = .int .i64 k ∧ kk = .int .i64 (k0 + k)) (fun _ i => n - (intOf i).toNat)
  case atStart => exact ⟨0, Nat.zero_le _, rfl, by simp⟩
  case round =>
    obtain ⟨k, hk, rfl, rfl⟩ := hrel
    by_cases hlt : k < n
    · obtain ⟨b, off, rfl, -, hb, hcell⟩ := hc k hlt
      have e : (upFrom k0 n)[k]'(by simpa using hlt) = k0 + k := by
        have := upFrom_get k0 n k hlt
        rw [List.getElem?_eq_getElem (by simpa using hlt)] at this
        exact Option.some.inj this
      rw [e] at hcell
      have hne : ((k0 + (k : Int)) != (k0 + (k : Int))) = false := by simp
      clear hc e
      go_wp2
      go_round
      case rel => exact ⟨k + 1, by omega, by go_num, by go_num⟩
      case measure => simp [intOf]; omega
    · obtain rfl : k = n := by omega
      clear hc
      go_wp2
      go_ret
      exact ⟨rfl, rfl⟩

theorem R1k : Kept R1 := slF_kept _ _
/-- the rows of a matrix, numbered through. -/
def mk2 : Int → List (List Int) → List (List Int)
  | _, [] => []
  | k, r :: rs => upFrom k r.length :: mk2 (k + r.length) rs
def tot (xss : List (List Int)) : Int := (xss.map (fun r => (r.length : Int))).sum
@[simp] theorem mk2_length (k : Int) (xss : List (List Int)) : (mk2 k xss).length = xss.length := by
  induction xss generalizing k with
  | nil => rfl
  | cons r rs ih => simp [mk2, ih]
theorem tot_nonneg (xss : List (List Int)) : 0 ≤ tot xss := by
  unfold tot; induction xss with
  | nil => simp
  | cons r rs ih => simp only [List.map_cons, List.sum_cons]; omega
end Go.Proofs.YtnchmnjkmhfleaaGreat

/-
  From the form's own reading of an argument to the readings of Lib: slices, and slices of slices, of whatever elements.
-/
namespace Go.Proofs.YtnchmnjkmhfleaaGreat
open Go.RowKit Go.ChangeShapes Go.WideShapes Go.Deep

/-- What the form reads at type t reads by R, with a fact on the value. -/
def Opens {α : Type} (P : Program) (t : TypeId) (R : Rp α) (φ : α → Prop) : Prop :=
  ∀ {H : Type} {enc : TypeId × Value → H} {w : World} {fuel : Nat} {cs : List Value} {x : DataW H × List MemPlace},
    DataW.trod enc P w 0 (fun _ => true) true fuel t cs = some x → ∃ a fp, R fp w cs a ∧ φ a

theorem list_choice {α : Type} (Q : Nat → α → Prop) : ∀ n, (∀ i, i < n → ∃ a, Q i a) → ∃ l : List α, l.length = n ∧ ∀ i a, l[i]? = some a → Q i a
  | 0, _ => ⟨[], rfl, by simp⟩
  | n + 1, h => by
    obtain ⟨l, hl, hq⟩ := list_choice Q n (fun i hi => h i (by omega))
    obtain ⟨a, ha⟩ := h n (by omega)
    refine ⟨l ++ [a], by simp [hl], fun i b hb => ?_⟩
    by_cases hi : i < n
    · rw [List.getElem?_append_left (by omega)] at hb; exact hq i b hb
    · by_cases he : i = n
      · subst he
        rw [List.getElem?_append_right (by omega), hl, Nat.sub_self] at hb
        simp at hb; subst hb; exact ha
      · rw [List.getElem?_eq_none (by simp [hl]; omega)] at hb; cases hb

theorem flat_of_cells {w : World} {a : Addr} {len cap : Nat} {us : List Value} (hl : us.length = len) (h1 : len ≤ cap) (h2 : cap ≤ maxLen) (h : ∀ i u, us[i]? = some u → w.cell? (a.add i) = some u) :
    ∃ fb, Flat fb w (.slice (some a) len cap) 1 len us := by
  by_cases h0 : len = 0
  · exact ⟨[], _, cap, rfl, h1, h2, by simpa using hl, Or.inl ⟨h0, rfl⟩⟩
  · have hc := h 0 us[0] (by simp)
    have hs : a.spot = none := by simpa [Addr.add] using World.cell?_spot hc
    obtain ⟨b, off, spot⟩ := a
    simp at hs
    subst hs
    refine ⟨[b], _, cap, rfl, h1, h2, by simpa using hl, Or.inr ⟨b, off, rfl, rfl, ?_, fun j u hu => ?_⟩⟩
    · exact World.block_lt_of_cell? w ⟨b, off, none⟩ (by simpa [Addr.add] using hc)
    · have := h j u hu
      by_cases hj : j = 0
      · subst hj; simpa [Addr.add] using this
      · simpa [Addr.add, hj] using this

theorem flat_nil (w : World) (n : Nat) : Flat [] w (.slice none 0 0) n 0 [] := ⟨none, 0, rfl, Nat.le_refl _, by simp [maxLen], by simp, Or.inl ⟨rfl, rfl⟩⟩

theorem opens_slP {α : Type} {P : Program} {t e : TypeId} {R : Rp α} {φ : α → Prop} (ht : P.underlying t = some (.slice e)) (hc : P.cellsOf e = 1) (h : Opens P e R φ) :
    Opens P t (slP R) (fun xs => ∀ x ∈ xs, φ x) := by
  intro H enc w fuel cs x hx
  rcases open_slice1 ht hc hx with ⟨rfl, -⟩ | ⟨a, len, cap, m, n, V, D, Pl, rfl, -, hl, hm, hmm, -, hel⟩
  · exact ⟨[], [], ⟨_, [], [], [], rfl, flat_nil w 1, rfl, rfl, by simp⟩, by simp⟩
  · have hlm : len ≤ m := by subst hmm; simpa using hl
    obtain ⟨l, hll, hlq⟩ := list_choice (fun i (y : α × List Nat) => R y.2 w [V i] y.1 ∧ φ y.1) len (fun i hi => by
      obtain ⟨a, fp, h1, h2⟩ := h (hel i (by omega)).2
      exact ⟨(a, fp), h1, h2⟩)
    obtain ⟨fb, hfb⟩ := flat_of_cells (w := w) (a := a) (len := len) (cap := cap) (us := (List.range len).map V) (by simp) hl hm (by
      intro i u hu
      have hi : i < len := by
        rcases Nat.lt_or_ge i len with h | h
        · exact h
        · rw [List.getElem?_eq_none (by simpa using h)] at hu; cases hu
      rw [List.getElem?_map, List.getElem?_range hi] at hu
      simp at hu
      subst hu
      exact (hel _ (by omega)).1)
    refine ⟨l.map (·.1), fb ++ (l.map (·.2)).flatten, ⟨_, (List.range len).map V, fb, l.map (·.2), rfl, by simpa [hll] using hfb, by simp, rfl, ?_⟩, ?_⟩
    · intro i hi u f hu hf
      simp at hi
      have hq := hlq i l[i] (by simp)
      simp [List.getElem?_eq_getElem hi] at hf
      subst hf
      rw [List.getElem?_map, List.getElem?_range (by omega)] at hu
      simp at hu
      subst hu
      simpa using hq.1
    · intro x hx
      obtain ⟨y, hy, rfl⟩ := List.mem_map.1 hx
      obtain ⟨i, hi, rfl⟩ := List.mem_iff_getElem.1 hy
      exact (hlq i _ (by simp)).2

/-- slices of one-cell values that hold no memory. -/
theorem opens_slF1 {α : Type} {P : Program} {t e : TypeId} {encv : α → Value} {φ : α → Prop} (ht : P.underlying t = some (.slice e)) (hc : P.cellsOf e = 1)
    (h : ∀ {H : Type} {enc : TypeId × Value → H} {w : World} {fuel : Nat} {v : Value} {x : DataW H × List MemPlace}, DataW.trod enc P w 0 (fun _ => true) true fuel e [v] = some x → ∃ a, v = encv a ∧ φ a) :
    Opens P t (slF 1 (fun x => [encv x])) (fun xs => ∀ x ∈ xs, φ x) := by
  intro H enc w fuel cs x hx
  rcases open_slice1 ht hc hx with ⟨rfl, -⟩ | ⟨a, len, cap, m, n, V, D, Pl, rfl, -, hl, hm, hmm, -, hel⟩
  · exact ⟨[], [], ⟨_, rfl, flat_nil w 1⟩, by simp⟩
  · have hlm : len ≤ m := by subst hmm; simpa using hl
    obtain ⟨l, hll, hlq⟩ := list_choice (fun i (y : α) => V i = encv y ∧ φ y) len (fun i hi => h (hel i (by omega)).2)
    obtain ⟨fb, hfb⟩ := flat_of_cells (w := w) (a := a) (len := len) (cap := cap) (us := l.map encv) (by simpa using hll) hl hm (by
      intro i u hu
      rw [List.getElem?_map] at hu
      cases hli : l[i]? with
      | none => simp [hli] at hu
      | some y =>
        simp [hli] at hu
        subst hu
        have hi : i < len := by rw [← hll]; exact (List.getElem?_eq_some_iff.1 hli).1
        rw [(hel i (by omega)).1, (hlq i y hli).1])
    refine ⟨l, fb, ⟨_, rfl, by rw [flatMap_single, hll]; exact hfb⟩, fun x hx => ?_⟩
    obtain ⟨i, hi, rfl⟩ := List.mem_iff_getElem.1 hx
    exact (hlq i _ (by simp)).2

theorem opens_ints {P : Program} {t e : TypeId} {k : IntKind} (ht : P.underlying t = some (.slice e)) (he : P.underlying e = some (.int k)) (hc : P.cellsOf e = 1) :
    Opens P t (slF 1 (fun x => [Value.int k x])) (fun xs => ∀ x ∈ xs, (Lit.int k x).wf = true) :=
  opens_slF1 ht hc (by
    intro H enc w fuel v x hx
    obtain ⟨a, e0, rfl, wa⟩ := DataW.trod_int he hx
    simp at e0
    exact ⟨a, e0, wa⟩)

theorem Opens.of {α : Type} {P : Program} {t : TypeId} {R : Rp α} {φ : α → Prop} (h : Opens P t R φ) {H : Type} {enc : TypeId × Value → H} {w : World} {v : Value} {d : DataW H} {ps : List MemPlace}
    (hv : v.cells = #[v]) (hd : DataW.Trod enc P w 0 (fun _ => true) true t v d ps) : ∃ a fp, R fp w [v] a ∧ φ a := by
  obtain ⟨fuel, hf⟩ := hd
  rw [hv] at hf
  exact h hf

theorem cells2 {w : World} {a : Addr} {cs : List Value} (h : w.cells? 0 a 2 = some cs) : ∃ c0 c1, cs = [c0, c1] ∧ w.cell? a = some c0 ∧ w.cell? (a.add 1) = some c1 := by
  rw [World.cells?, if_pos (Nat.zero_le _), show List.range 2 = [0, 1] from rfl] at h
  simp only [List.mapM_cons, List.mapM_nil, Addr.add, if_true] at h
  cases h0 : w.cell? a with
  | none => simp [h0] at h
  | some c0 =>
    cases h1 : w.cell? (a.add 1) with
    | none => simp [Addr.add] at h1; simp [h0, h1] at h
    | some c1 =>
      refine ⟨c0, c1, ?_, rfl, rfl⟩
      simp [Addr.add] at h1
      simpa [h0, h1] using h.symm

/-- slices of structs of two plain fields. -/
theorem opens_slF2 {α : Type} {P : Program} {t e : TypeId} {e1 e2 : α → Value} {φ : α → Prop} (ht : P.underlying t = some (.slice e)) (hc : P.cellsOf e = 2)
    (h : ∀ {H : Type} {enc : TypeId × Value → H} {w : World} {fuel : Nat} {u v : Value} {x : DataW H × List MemPlace}, DataW.trod enc P w 0 (fun _ => true) true fuel e [u, v] = some x → ∃ a, u = e1 a ∧ v = e2 a ∧ φ a) :
    Opens P t (slF 2 (fun x => [e1 x, e2 x])) (fun xs => ∀ x ∈ xs, φ x) := by
  intro H enc w fuel cs x hx
  rcases open_slice ht hx with ⟨rfl, -⟩ | ⟨a, len, cap, m, n, D, Pl, rfl, -, hl, hm, hmm, -, hel⟩
  · exact ⟨[], [], ⟨_, rfl, flat_nil w 2⟩, by simp⟩
  · have hlm : len ≤ m := by subst hmm; simpa using hl
    rw [hc] at hel
    obtain ⟨l, hll, hlq⟩ := list_choice (fun i (y : α) => w.cell? (a.add (i * 2)) = some (e1 y) ∧ w.cell? ((a.add (i * 2)).add 1) = some (e2 y) ∧ φ y) len (fun i hi => by
      obtain ⟨cs', h1, h2⟩ := hel i (by omega)
      obtain ⟨c0, c1, rfl, g0, g1⟩ := cells2 h1
      obtain ⟨y, rfl, rfl, hy⟩ := h h2
      exact ⟨y, g0, g1, hy⟩)
    by_cases h0 : len = 0
    · subst h0
      obtain rfl : l = [] := List.eq_nil_of_length_eq_zero hll
      exact ⟨[], [], ⟨_, rfl, some a, cap, rfl, hl, hm, by simp, Or.inl ⟨rfl, rfl⟩⟩, by simp⟩
    · have hc0 := (hlq 0 l[0] (by simp)).1
      have hs : a.spot = none := by simpa [Addr.add] using World.cell?_spot hc0
      obtain ⟨b, off, spot⟩ := a
      simp at hs
      subst hs
      refine ⟨l, [b], ⟨_, rfl, some ⟨b, off, none⟩, cap, by rw [hll], by omega, hm, by rw [flatMap_two_length], Or.inr ⟨b, off, rfl, rfl, ?_, fun j u hu => ?_⟩⟩, fun x hx => ?_⟩
      · exact World.block_lt_of_cell? w ⟨b, off, none⟩ (by simpa [Addr.add] using hc0)
      · have hj : j < l.length * 2 := by rw [← flatMap_two_length e1 e2]; exact (List.getElem?_eq_some_iff.1 hu).1
        have hi : j / 2 < l.length := by omega
        obtain ⟨g1, g2⟩ := flatMap_two_get e1 e2 l (j / 2) hi
        obtain ⟨q1, q2, -⟩ := hlq (j / 2) l[j / 2] (by simp)
        have ha : (⟨b, off, none⟩ : Addr).add (j / 2 * 2) = ⟨b, off + j / 2 * 2, none⟩ := by simp only [Addr.add]; split <;> simp_all
        rw [ha] at q1 q2
        rcases Nat.mod_two_eq_zero_or_one j with hmod | hmod
        · have e : j / 2 * 2 = j := by omega
          rw [e] at g1 q1
          rw [g1] at hu; cases hu; exact q1
        · have e : j / 2 * 2 + 1 = j := by omega
          rw [e] at g2
          rw [g2] at hu; cases hu
          simp [Addr.add] at q2
          rw [show off + j = off + j / 2 * 2 + 1 from by omega]; exact q2
      · obtain ⟨i, hi, rfl⟩ := List.mem_iff_getElem.1 hx
        exact (hlq i _ (by simp)).2.2

end Go.Proofs.YtnchmnjkmhfleaaGreat

/-
  The helper functions over []int64 and [][]int64 under one scheme of names: sz, to, eq, mark, held.
-/
namespace Go.Proofs.YtnchmnjkmhfleaaGreat
open Go.RowKit

end Go.Proofs.YtnchmnjkmhfleaaGreat

/-
  The laws' helper functions over terms (a kind and a value) and lists of terms.
-/
namespace Go.Proofs.YtnchmnjkmhfleaaGreat
open Go.RowKit Go.ChangeShapes

abbrev Tm := Int × Int
abbrev R_T1 : Rp (List Tm) := slF 2 (fun t => [ei t.1, ei t.2])
theorem R_T1k : Kept R_T1 := slF_kept _ _
def szF_T1 (x : List Tm) : Int := x.length
def mkF_T1 (x : List Tm) : Int := 2 * x.length
theorem szF_T1_nonneg (x : List Tm) : 0 ≤ szF_T1 x := by unfold szF_T1; omega
theorem mkF_T1_nonneg (x : List Tm) : 0 ≤ mkF_T1 x := by unfold mkF_T1; omega
theorem mkF_T1_le (x : List Tm) : mkF_T1 x ≤ 16 * szF_T1 x := by unfold mkF_T1 szF_T1; omega

theorem Tryz.infoT : (Tryz.prog.info? 161).map (fun i => (i.zero, i.size, i.bytes)) = some (some (.agg #[.int .i64 0, .int .i64 0]), 2, 16) := by kernel_rfl

set_option maxRecDepth 20000 in
set_option maxHeartbeats 400000 in
theorem sz_T1 (v : Value) (xs : List Tm) (left : Int) (w : World) (fp : List Nat) (hl : 0 ≤ left) (hl2 : left ≤ 1048576) (hR : R_T1 fp w [v] xs) :
    Calls Tryz.prog 229 #[v, .int .i64 left] w fun e w' => (∃ r : Int, e = .returned (.int .i64 r) ∧ (r = -1 ∨ (0 ≤ r ∧ r + szF_T1 xs = left))) ∧ w = w' := by
  obtain ⟨a, cap, rfl, h1, h2, -⟩ := slF2_open hR
  unfold maxLen at h2
  unfold szF_T1
  clear hR
  by_cases hlt : left - (xs.length : Int) < 0
  · go_enter Tryz.func229, Tryz.ntmps229
    go_wp2
    go_ret
    exact ⟨⟨-1, rfl, Or.inl rfl⟩, rfl⟩
  · go_enter Tryz.func229, Tryz.ntmps229
    go_wp2
    go_ret
    exact ⟨⟨left - xs.length, rfl, Or.inr ⟨by omega, by omega⟩⟩, rfl⟩

set_option maxRecDepth 20000 in
set_option maxHeartbeats 400000 in
theorem toTerm (a b : Int) (w : World) : Calls Tryz.prog 243 #[.agg #[ei a, ei b]] w fun e w' => e = .returned (.agg #[ei a, ei b]) ∧ Upd [] w w' := by
  go_enter Tryz.func243, Tryz.ntmps243
  go_wp2
  refine bodyPost_ret (v := .agg #[ei a, ei b]) (by simp [results, Tryz.results243, go_sem]) rfl ⟨rfl, ?_⟩
  exact (((Upd.refl _ _).alloc _).alloc _).alloc _

set_option maxRecDepth 20000 in
set_option maxHeartbeats 400000 in
theorem eqTerm (a b c d : Int) (w : World) : Calls Tryz.prog 244 #[.agg #[ei a, ei b], .agg #[ei c, ei d]] w fun e w' => e = .returned (.bool (a == c && b == d)) ∧ Upd [] w w' := by
  by_cases h1 : a = c
  · have h1' : (a != c) = false := by simp [h1]
    have H1 := Lib.hid h1
    clear h1
    by_cases h2 : b = d
    · have h2' : (b != d) = false := by simp [h2]
      have H2 := Lib.hid h2
      clear h2
      go_enter Tryz.func244, Tryz.ntmps244
      go_wp2
      go_ret
      exact ⟨by simp [H1.out, H2.out], ((Upd.refl _ _).alloc _).alloc _⟩
    · have h2' : ¬ (b != d) = false := by simp [h2]
      have H2 := Lib.hid h2
      clear h2
      go_enter Tryz.func244, Tryz.ntmps244
      go_wp2
      go_ret
      exact ⟨by simp [H2.out], ((Upd.refl _ _).alloc _).alloc _⟩
  · have h1' : ¬ (a != c) = false := by simp [h1]
    have H1 := Lib.hid h1
    clear h1
    go_enter Tryz.func244, Tryz.ntmps244
    go_wp2
    go_ret
    exact ⟨by simp [H1.out], ((Upd.refl _ _).alloc _).alloc _⟩

set_option maxRecDepth 20000 in
set_option maxHeartbeats 800000 in
theorem eq_T1 (v1 v2 : Value) (xs ys : List Tm) (w : World) (f1 f2 : List Nat) (h1 : R_T1 f1 w [v1] xs) (h2 : R_T1 f2 w [v2] ys) :
    Calls Tryz.prog 235 #[v1, v2] w fun e w' => e = .returned (.bool (xs == ys)) ∧ Upd [] w w' := by
  obtain ⟨a1, c1, rfl, hl1, hm1, hc1⟩ := slF2_open h1
  obtain ⟨a2, c2, rfl, hl2, hm2, hc2⟩ := slF2_open h2
  unfold maxLen at hm1 hm2
  clear h1 h2
  by_cases hl : xs.length = ys.length
  · have hres : (xs == ys) = (xs.drop 0 == ys.drop 0) := rfl
    have HL := Lib.hid hl
    have hle : xs.length ≤ ys.length := by omega
    have hbe : ((xs.length : Int) != (ys.length : Int)) = false := by rw [hl]; simp
    have HR := Lib.hid hres
    clear hl hres
    go_enter Tryz.func235, Tryz.ntmps235
    go_wp2
    go_loopw [5] (fun i wr => ∃ k : Nat, k ≤ xs.length ∧ i = .int .i64 k ∧ Upd [] w wr ∧ (xs.drop k == ys.drop k) = (xs == ys)) (fun i _ => xs.length - (intOf i).toNat)
    case atStart => exact ⟨0, Nat.zero_le _, rfl, Upd.refl _ _, HR.out.symm⟩
    case round =>
      obtain ⟨k, hk, rfl, hU, hF⟩ := hrel
      have HF := Lib.hid hF
      clear hF
      by_cases hlt : k < xs.length
      · have hlt2 : k < ys.length := by omega
        obtain ⟨b1, o1, rfl, -, hb1, p1, p2⟩ := hc1 k hlt
        obtain ⟨b2, o2, rfl, -, hb2, p3, p4⟩ := hc2 k hlt2
        have q1 : wr.cell? ⟨b1, o1 + k * 2, none⟩ = some (ei xs[k].1) := (hU.below.cell hb1).trans p1
        have q2 : wr.cell? ⟨b1, o1 + k * 2 + 1, none⟩ = some (ei xs[k].2) := (hU.below.cell hb1).trans p2
        have q3 : wr.cell? ⟨b2, o2 + k * 2, none⟩ = some (ei ys[k].1) := (hU.below.cell hb2).trans p3
        have q4 : wr.cell? ⟨b2, o2 + k * 2 + 1, none⟩ = some (ei ys[k].2) := (hU.below.cell hb2).trans p4
        have hs := drop_step xs ys k hlt hlt2
        have hxy : (xs[k] == ys[k]) = (xs[k].1 == ys[k].1 && xs[k].2 == ys[k].2) := rfl
        rw [hxy] at hs
        have HS := Lib.hid hs
        generalize xs[k].1 = x1 at *
        generalize xs[k].2 = x2 at *
        generalize ys[k].1 = y1 at *
        generalize ys[k].2 = y2 at *
        clear hc1 hc2 p1 p2 p3 p4 hs hxy
        cases hx : (x1 == y1 && x2 == y2)
        · go_wp2
          go_region_held3 (fun w' => w'.cell? ⟨b1, o1 + k * 2, none⟩ = some (ei x1) ∧ w'.cell? ⟨b1, o1 + k * 2 + 1, none⟩ = some (ei x2) ∧ w'.cell? ⟨b2, o2 + k * 2, none⟩ = some (ei y1) ∧ w'.cell? ⟨b2, o2 + k * 2 + 1, none⟩ = some (ei y2)) (go_keep) ((refine (eqTerm x1 x2 y1 y2 _).mono ?_; rintro e w1 ⟨rfl, hu1⟩; have t1 := hu1.keep q1; have t2 := hu1.keep q2; have t3 := hu1.keep q3; have t4 := hu1.keep q4))
          have hU1 := hU.drew.trans hu1
          go_wp2_with fail
          go_ret
          exact ⟨by rw [← HF.out, HS.out, hx]; rfl, hU1⟩
        · go_wp2
          go_region_held3 (fun w' => w'.cell? ⟨b1, o1 + k * 2, none⟩ = some (ei x1) ∧ w'.cell? ⟨b1, o1 + k * 2 + 1, none⟩ = some (ei x2) ∧ w'.cell? ⟨b2, o2 + k * 2, none⟩ = some (ei y1) ∧ w'.cell? ⟨b2, o2 + k * 2 + 1, none⟩ = some (ei y2)) (go_keep) ((refine (eqTerm x1 x2 y1 y2 _).mono ?_; rintro e w1 ⟨rfl, hu1⟩; have t1 := hu1.keep q1; have t2 := hu1.keep q2; have t3 := hu1.keep q3; have t4 := hu1.keep q4))
          have hU1 := hU.drew.trans hu1
          clear hu1 hU
          go_wp2_with fail
          go_roundw
          case rel => exact ⟨k + 1, by omega, by go_num, hU1, by rw [← HF.out, HS.out, hx]; rfl⟩
          case measure => simp [intOf]; omega
      · have hge : xs.length ≤ k := by omega
        clear hc1 hc2
        go_wp2
        go_ret
        exact ⟨by rw [← HF.out, List.drop_of_length_le hge, List.drop_of_length_le (by have := HL.out; omega)]; rfl, hU⟩
  · have hbe : ¬ ((xs.length : Int) != (ys.length : Int)) = false := by simp; omega
    have hne : (xs == ys) = false := by
      rw [beq_eq_false_iff_ne]; intro h; exact hl (by rw [h])
    have HN := Lib.hid hne
    clear hl hne
    go_enter Tryz.func235, Tryz.ntmps235
    go_wp2
    go_ret
    exact ⟨by rw [HN.out]; rfl, Upd.refl _ _⟩

theorem fill2 (xs : List Tm) (k : Nat) (hk : k < xs.length) :
    (((xs.take k ++ List.replicate (xs.length - k) (0, 0)).flatMap fun t : Tm => [ei t.1, ei t.2])[k * 2]? = some (ei 0) ∧ ((xs.take k ++ List.replicate (xs.length - k) (0, 0)).flatMap fun t : Tm => [ei t.1, ei t.2])[k * 2 + 1]? = some (ei 0)) ∧
    (xs.take k ++ List.replicate (xs.length - k) ((0, 0) : Tm)).set k xs[k] = xs.take (k + 1) ++ List.replicate (xs.length - (k + 1)) (0, 0) := by
  have hl : (xs.take k).length = k := by simp; omega
  have hlen : (xs.take k ++ List.replicate (xs.length - k) ((0, 0) : Tm)).length = xs.length := by simp; omega
  have hel : (xs.take k ++ List.replicate (xs.length - k) ((0, 0) : Tm))[k]'(by omega) = (0, 0) := by
    rw [List.getElem_append_right (by omega)]; simp
  refine ⟨?_, ?_⟩
  · have := flatMap_two_get (fun t : Tm => ei t.1) (fun t : Tm => ei t.2) (xs.take k ++ List.replicate (xs.length - k) (0, 0)) k (by omega)
    rw [hel] at this
    exact this
  · rw [List.set_append_right _ _ (by omega), hl, Nat.sub_self, show xs.length - k = (xs.length - (k + 1)) + 1 from by omega, List.replicate_succ, List.set_cons_zero, List.take_succ_eq_append_getElem hk, List.append_assoc, List.singleton_append]

set_option maxRecDepth 20000 in
set_option maxHeartbeats 800000 in
theorem to_T1 (v : Value) (xs : List Tm) (w : World) (fp : List Nat) (hl : szF_T1 xs ≤ 1048576) (hR : R_T1 fp w [v] xs) :
    Calls Tryz.prog 234 #[v] w fun e w' => (∃ v', e = .returned v' ∧ New R_T1 w w' v' xs) ∧ Upd [] w w' := by
  obtain ⟨i0, hi, hz0, hz1, hz2⟩ := info_parts Tryz.infoT
  obtain ⟨a, cap, rfl, h1, h2, hc⟩ := slF2_open hR
  unfold maxLen at h2
  unfold szF_T1 at hl
  clear hR
  have hm1 : i0.bytes * xs.length ≤ 281474976710656 := by rw [hz2]; omega
  go_enter Tryz.func234, Tryz.ntmps234
  go_wp2_with (first
    | (at_make; refine wpList_make_full _ rfl _ _ 158 rfl w.heap.size 161 i0 (.agg #[.int .i64 0, .int .i64 0]) 2 Tryz.underlying158 hi hz0 hz1 .i64 .i64 _ _ xs.length rfl rfl rfl rfl hm1 (by unfold maxLen; omega) (Nat.le_refl _) ?_; intro w1 hown hgrow)
    | fail)
  rw [made_two] at hown
  obtain ⟨fo, hT, hO, hb0⟩ := New.ofOwns2 (w := w) (e := 161) (xs := List.replicate xs.length ((0, 0) : Tm)) (e1 := fun t => ei t.1) (e2 := fun t => ei t.2) (by
    have e : ((List.replicate xs.length ()).flatMap fun _ => [Value.int .i64 0, Value.int .i64 0]) = (List.replicate xs.length ((0, 0) : Tm)).flatMap fun t => [ei t.1, ei t.2] := by
      generalize xs.length = n
      induction n with
      | zero => rfl
      | succ n ih => simp only [List.replicate_succ, List.flatMap_cons, ih]
    rw [← e]; simpa using hown)
  have hU : Upd [] w w1 := (Upd.refl _ _).grown hgrow (by simp)
  have HB := Lib.hid hb0
  clear hgrow hm1 hown hb0
  go_loopw [4] (fun i wr => ∃ k : Nat, k ≤ xs.length ∧ i = .int .i64 k ∧ Upd [] w wr ∧ Own fo wr ∧
      R_T1 fo wr [.slice (some ⟨w.heap.size, 0, none⟩) xs.length xs.length] (xs.take k ++ List.replicate (xs.length - k) (0, 0)))
    (fun i _ => xs.length - (intOf i).toNat)
  case atStart => exact ⟨0, Nat.zero_le _, rfl, hU, hO, by simpa using hT⟩
  case round =>
    clear hT hO hU
    obtain ⟨k, hk, rfl, hU, hO, hT⟩ := hrel
    have hlen : (xs.take k ++ List.replicate (xs.length - k) ((0, 0) : Tm)).length = xs.length := by simp; omega
    by_cases hlt : k < xs.length
    · obtain ⟨b, off, rfl, -, hb, p1, p2⟩ := hc k hlt
      have q1 : wr.cell? ⟨b, off + k * 2, none⟩ = some (ei xs[k].1) := (hU.below.cell hb).trans p1
      have q2 : wr.cell? ⟨b, off + k * 2 + 1, none⟩ = some (ei xs[k].2) := (hU.below.cell hb).trans p2
      have HF2 := Lib.hid (fill2 xs k hlt)
      have HLEN := Lib.hid hlen
      clear p1 p2 hc hlen
      go_wp2_with fail
      refine (toTerm _ _ _).mono ?_
      rintro e w2 ⟨rfl, hu2⟩
      have hT2 := R_T1k.upd hT hu2 (by simp)
      have hO2 := hO.upd hu2 (by simp)
      have hU2 := hU.trans hu2
      obtain ⟨a', cap', hv, -, -, hcell⟩ := slF2_open hT2
      obtain ⟨b', off', rfl, hfo, hb', r1, r2⟩ := hcell k (by rw [HLEN.out]; exact hlt)
      simp only [Value.slice.injEq, Option.some.injEq, Addr.mk.injEq, and_true] at hv
      obtain ⟨⟨rfl, rfl⟩, -, rfl⟩ := hv
      rw [Nat.zero_add] at r1 r2
      have hfr1 : w2.frozen? ⟨w.heap.size, k * 2, none⟩ = false := hO2.frozen (by rw [hfo]; simp) _
      have hfr2 : w2.frozen? ⟨w.heap.size, k * 2 + 1, none⟩ = false := hO2.frozen (by rw [hfo]; simp) _
      have hset := slF2_set (b := w.heap.size) (off := 0) (cap := xs.length) (by rw [HLEN.out]; exact hT2) k (by rw [HLEN.out]; exact hlt) xs[k]
      rw [HLEN.out, HF2.out.2, Nat.zero_add] at hset
      have HS := Lib.hid (And.intro hset ((hO2.setCell ⟨w.heap.size, k * 2, none⟩ (ei xs[k].1)).setCell ⟨w.heap.size, k * 2 + 1, none⟩ (ei xs[k].2)))
      generalize (List.take k xs ++ List.replicate (xs.length - k) ((0, 0) : Tm))[k]'_ = el at r1 r2
      clear hset hT hT2 hO hO2 hU hu2 hcell hfo q1 q2 HF2 HLEN
      go_wp2_with fail
      go_roundw
      case rel => exact ⟨k + 1, by omega, by go_num, (hU2.setCell (Or.inl (Nat.le_refl _)) _).setCell (Or.inl (Nat.le_refl _)) _, HS.out.2, HS.out.1⟩
      case measure => simp [intOf]; omega
    · obtain rfl : k = xs.length := by omega
      clear hc
      go_wp2
      go_ret
      exact ⟨⟨_, rfl, fo, by simpa using hT, hO, HB.out⟩, hU⟩

/-- the terms numbered through from k0 on. -/
def upT (k0 : Int) : Nat → List Tm
  | 0 => []
  | n + 1 => (k0, k0 + 1) :: upT (k0 + 2) n
@[simp] theorem upT_length (k0 : Int) (n : Nat) : (upT k0 n).length = n := by
  induction n generalizing k0 with
  | zero => rfl
  | succ n ih => simp [upT, ih]
theorem upT_snoc (k0 : Int) (n : Nat) : upT k0 (n + 1) = upT k0 n ++ [(k0 + 2 * n, k0 + 2 * n + 1)] := by
  induction n generalizing k0 with
  | zero => simp [upT]
  | succ n ih =>
    rw [upT, ih, upT, List.cons_append, show k0 + 2 + 2 * (n : Int) = k0 + 2 * ((n + 1 : Nat) : Int) from by omega]
theorem upT_get (k0 : Int) (n i : Nat) (h : i < n) : (upT k0 n)[i]'(by simpa using h) = (k0 + 2 * i, k0 + 2 * i + 1) := by
  induction n generalizing k0 i with
  | zero => omega
  | succ n ih =>
    cases i with
    | zero => simp [upT]
    | succ i => simp only [upT, List.getElem_cons_succ]; rw [ih _ _ (by omega)]; simp; omega
theorem upT_set (xs : List Tm) (k0 : Int) (k : Nat) (hk : k < xs.length) :
    (upT k0 k ++ xs.drop k).set k (k0 + 2 * k, k0 + 2 * k + 1) = upT k0 (k + 1) ++ xs.drop (k + 1) := by
  rw [List.set_append_right _ _ (by simp), upT_length, Nat.sub_self, List.drop_eq_getElem_cons hk, List.set_cons_zero, upT_snoc]
  simp

set_option maxRecDepth 20000 in
set_option maxHeartbeats 800000 in
theorem mark_T1 (v : Value) (xs : List Tm) (k0 : Int) (w : World) (fp : List Nat) (hk0 : 0 ≤ k0) (hk1 : k0 + mkF_T1 xs ≤ 4611686018427387904) (hR : R_T1 fp w [v] xs) (hO : Own fp w) :
    Calls Tryz.prog 192 #[v, .int .i64 k0] w fun e w' => e = .returned (.int .i64 (k0 + mkF_T1 xs)) ∧ R_T1 fp w' [v] (upT k0 xs.length) ∧ Own fp w' ∧ Upd fp w w' := by
  obtain ⟨a, cap, rfl, h1, h2, -⟩ := slF2_open hR
  unfold maxLen at h2
  unfold mkF_T1 at hk1 ⊢
  go_enter Tryz.func192, Tryz.ntmps192
  go_wp2
  go_loopw [1, 5] (fun kk i wr => ∃ k : Nat, k ≤ xs.length ∧ i = .int .i64 k ∧ kk = .int .i64 (k0 + 2 * k) ∧ Upd fp w wr ∧ Own fp wr ∧
      R_T1 fp wr [.slice a xs.length cap] (upT k0 k ++ xs.drop k))
    (fun _ i _ => xs.length - (intOf i).toNat)
  case atStart => exact ⟨0, Nat.zero_le _, rfl, by simp, Upd.refl _ _, hO, by simpa [upT] using hR⟩
  case round =>
    clear hR hO
    obtain ⟨k, hk, rfl, rfl, hU, hO, hT⟩ := hrel
    have hlen : (upT k0 k ++ xs.drop k).length = xs.length := by simp; omega
    by_cases hlt : k < xs.length
    · have hT' := hT
      obtain ⟨a', cap', hv, -, -, hcell⟩ := slF2_open hT'
      obtain ⟨b, off, rfl, hfo, hb', r1, r2⟩ := hcell k (by omega)
      simp only [Value.slice.injEq] at hv
      obtain ⟨rfl, -, rfl⟩ := hv
      have hfr1 : wr.frozen? ⟨b, off + k * 2, none⟩ = false := hO.frozen (by rw [hfo]; simp) _
      have hfr2 : wr.frozen? ⟨b, off + k * 2 + 1, none⟩ = false := hO.frozen (by rw [hfo]; simp) _
      have hset := slF2_set (b := b) (off := off) (cap := cap) (by rw [hlen]; exact hT) k (by omega) (k0 + 2 * k, k0 + 2 * k + 1)
      rw [hlen, upT_set xs k0 k hlt] at hset
      have HS := Lib.hid (And.intro hset ((hO.setCell ⟨b, off + k * 2, none⟩ (ei (k0 + 2 * k))).setCell ⟨b, off + k * 2 + 1, none⟩ (ei (k0 + 2 * k + 1))))
      have hin : b ∈ fp := by rw [hfo]; simp
      generalize (upT k0 k ++ xs.drop k)[k]'_ = el at r1 r2
      clear hset hT hT' hcell hfo hO hlen
      go_wp2
      go_roundw
      case rel => exact ⟨k + 1, by omega, by go_num, by go_num, (hU.setCell (Or.inr hin) _).setCell (Or.inr hin) _, HS.out.2, HS.out.1⟩
      case measure => simp [intOf]; omega
    · obtain rfl : k = xs.length := by omega
      go_wp2
      go_ret
      refine ⟨rfl, by simpa using hT, hO, hU⟩

set_option maxRecDepth 20000 in
set_option maxHeartbeats 800000 in
theorem held_T1 (v : Value) (xs : List Tm) (k0 : Int) (w : World) (fp : List Nat) (hk0 : 0 ≤ k0) (hk1 : k0 + mkF_T1 xs ≤ 4611686018427387904) (hR : R_T1 fp w [v] (upT k0 xs.length)) :
    Calls Tryz.prog 193 #[v, .int .i64 k0] w fun e w' => e = .returned (.int .i64 (k0 + mkF_T1 xs)) ∧ w = w' := by
  obtain ⟨a, cap, rfl, h1, h2, hc⟩ := slF2_open hR
  simp only [upT_length] at *
  unfold maxLen at h2
  unfold mkF_T1 at hk1 ⊢
  clear hR
  generalize xs.length = n at *
  go_enter Tryz.func193, Tryz.ntmps193
  go_wp2
  go_loop [1, 5] (fun kk i => ∃ k : Nat, k ≤ n ∧ i = .int .i64 k ∧ kk = .int .i64 (k0 + 2 * k)) (fun _ i => n - (intOf i).toNat)
  case atStart => exact ⟨0, Nat.zero_le _, rfl, by simp⟩
  case round =>
    obtain ⟨k, hk, rfl, rfl⟩ := hrel
    by_cases hlt : k < n
    · obtain ⟨b, off, rfl, -, hb, hcell, hcell2⟩ := hc k hlt
      rw [upT_get k0 n k hlt] at hcell hcell2
      have hne : ((k0 + 2 * (k : Int)) != (k0 + 2 * (k : Int))) = false := by simp
      have hne2 : ((k0 + 2 * (k : Int) + 1) != (k0 + 2 * (k : Int) + 1)) = false := by simp
      clear hc
      go_wp2
      go_round
      case rel => exact ⟨k + 1, by omega, by go_num, by go_num⟩
      case measure => simp [intOf]; omega
    · obtain rfl : k = n := by omega
      clear hc
      go_wp2
      go_ret
      exact ⟨rfl, rfl⟩

theorem opens_T1 : Opens Tryz.prog 245 R_T1 (fun xs => ∀ t ∈ xs, (Lit.int .i64 t.1).wf = true ∧ (Lit.int .i64 t.2).wf = true) :=
  opens_slF2 Tryz.underlying245 (by kernel_rfl) (by
    intro H enc w fuel u v x hx
    obtain ⟨y0, y1, n, -, -, h0, h1⟩ := trod_struct2 Tryz.underlying258 hx
    obtain ⟨a, e0, -, wa⟩ := DataW.trod_int Tryz.underlying2 h0
    obtain ⟨b, e1, -, wb⟩ := DataW.trod_int Tryz.underlying2 h1
    have c1 : Tryz.prog.cellsOf 2 = 1 := by kernel_rfl
    simp [c1] at e0 e1
    exact ⟨(a, b), e0, e1, wa, wb⟩)

end Go.Proofs.YtnchmnjkmhfleaaGreat

/-
  The laws' helper functions over slices of slices (T2): what each call returns and makes.
-/
namespace Go.Proofs.YtnchmnjkmhfleaaGreat
open Go.RowKit

abbrev R_T2 : Rp (List (List Tm)) := slP R_T1
theorem R_T2k : Kept R_T2 := slP_kept R_T1k
def mkF_T2 (xss : List (List Tm)) : Int := (xss.map mkF_T1).sum
def szF_T2 (xss : List (List Tm)) : Int := xss.length + (xss.map szF_T1).sum
theorem mkF_T2_nonneg (xss : List (List Tm)) : 0 ≤ mkF_T2 xss := by
  unfold mkF_T2; induction xss with
  | nil => simp
  | cons r rs ih => simp only [List.map_cons, List.sum_cons]; have := mkF_T1_nonneg r; omega
theorem szF_T2_sum (xss : List (List Tm)) : 0 ≤ (xss.map szF_T1).sum := by
  induction xss with
  | nil => simp
  | cons r rs ih => simp only [List.map_cons, List.sum_cons]; have := szF_T1_nonneg r; omega
theorem szF_T2_nonneg (xss : List (List Tm)) : 0 ≤ szF_T2 xss := by have := szF_T2_sum xss; unfold szF_T2; omega
theorem mkF_T2_le (xss : List (List Tm)) : mkF_T2 xss ≤ 16 * szF_T2 xss := by
  unfold mkF_T2 szF_T2; induction xss with
  | nil => simp
  | cons r rs ih => simp only [List.map_cons, List.sum_cons, List.length_cons]; have := mkF_T1_le r; omega
theorem mkF_T2_snoc (xss : List (List Tm)) (k : Nat) (h : k < xss.length) : mkF_T2 (xss.take (k + 1)) = mkF_T2 (xss.take k) + mkF_T1 xss[k] := by
  unfold mkF_T2; rw [List.take_succ_eq_append_getElem h, List.map_append, List.sum_append]; simp
theorem mkF_T2_take (xss : List (List Tm)) (k : Nat) : mkF_T2 (xss.take k) ≤ mkF_T2 xss := by
  have h := mkF_T2_nonneg (xss.drop k)
  conv => rhs; rw [← List.take_append_drop k xss]
  unfold mkF_T2 at *; rw [List.map_append, List.sum_append]; omega

def mkd_T2 : Int → List (List Tm) → List (List Tm)
  | _, [] => []
  | k, r :: rs => (fun (k : Int) (r : List Tm) => upT k r.length) k r :: mkd_T2 (k + mkF_T1 r) rs
@[simp] theorem mkd_T2_length (k : Int) (xss : List (List Tm)) : (mkd_T2 k xss).length = xss.length := by
  induction xss generalizing k with
  | nil => rfl
  | cons r rs ih => simp [mkd_T2, ih]
theorem mkd_T2_append (k : Int) (xs ys : List (List Tm)) : mkd_T2 k (xs ++ ys) = mkd_T2 k xs ++ mkd_T2 (k + mkF_T2 xs) ys := by
  induction xs generalizing k with
  | nil => simp [mkd_T2, mkF_T2]
  | cons r rs ih => simp only [List.cons_append, mkd_T2, ih, mkF_T2, List.map_cons, List.sum_cons, Int.add_assoc]
theorem mkd_T2_set (xss : List (List Tm)) (k0 : Int) (k : Nat) (hk : k < xss.length) :
    (mkd_T2 k0 (xss.take k) ++ xss.drop k).set k ((fun (k : Int) (r : List Tm) => upT k r.length) (k0 + mkF_T2 (xss.take k)) xss[k]) = mkd_T2 k0 (xss.take (k + 1)) ++ xss.drop (k + 1) := by
  have hl : (mkd_T2 k0 (xss.take k)).length = k := by simp; omega
  rw [List.set_append_right _ _ (by omega), hl, Nat.sub_self, List.drop_eq_getElem_cons hk, List.set_cons_zero, List.take_succ_eq_append_getElem hk, mkd_T2_append]
  simp [mkd_T2]
theorem mkd_T2_get (xss : List (List Tm)) (k0 : Int) (k : Nat) (hk : k < xss.length) :
    (mkd_T2 k0 xss)[k]'(by simpa using hk) = (fun (k : Int) (r : List Tm) => upT k r.length) (k0 + mkF_T2 (xss.take k)) xss[k] := by
  have h : (mkd_T2 k0 xss)[k]? = some ((fun (k : Int) (r : List Tm) => upT k r.length) (k0 + mkF_T2 (xss.take k)) xss[k]) := by
    conv => lhs; rw [← List.take_append_drop k xss, mkd_T2_append, List.drop_eq_getElem_cons hk, mkd_T2]
    rw [List.getElem?_append_right (by simp; omega)]
    simp [Nat.min_eq_left (Nat.le_of_lt hk)]
  exact Option.some.inj ((List.getElem?_eq_getElem _).symm.trans h)

set_option maxHeartbeats 800000 in
theorem eq_T2 (v1 v2 : Value) (xs ys : List (List Tm)) (w : World) (f1 f2 : List Nat) (h1 : R_T2 f1 w [v1] xs) (h2 : R_T2 f2 w [v2] ys) :
    Calls Tryz.prog 217 #[v1, v2] w fun e w' => e = .returned (.bool (xs == ys)) ∧ Upd [] w w' := by
  obtain ⟨a1, c1, rfl, hl1, hm1, hc1⟩ := slP_open h1
  obtain ⟨a2, c2, rfl, hl2, hm2, hc2⟩ := slP_open h2
  unfold maxLen at hm1 hm2
  clear h1 h2
  by_cases hl : xs.length = ys.length
  · have hres : (xs == ys) = (xs.drop 0 == ys.drop 0) := rfl
    have HL := Lib.hid hl
    have hle : xs.length ≤ ys.length := by omega
    have hbe : ((xs.length : Int) != (ys.length : Int)) = false := by rw [hl]; simp
    have HR := Lib.hid hres
    clear hl hres
    go_enter Tryz.func217, Tryz.ntmps217
    go_wp2
    go_loopw [5] (fun i wr => ∃ k : Nat, k ≤ xs.length ∧ i = .int .i64 k ∧ Upd [] w wr ∧ (xs.drop k == ys.drop k) = (xs == ys)) (fun i _ => xs.length - (intOf i).toNat)
    case atStart => exact ⟨0, Nat.zero_le _, rfl, Upd.refl _ _, HR.out.symm⟩
    case round =>
      obtain ⟨k, hk, rfl, hU, hF⟩ := hrel
      have HF := Lib.hid hF
      clear hF
      by_cases hlt : k < xs.length
      · have hlt2 : k < ys.length := by omega
        obtain ⟨b1, o1, u1, g1, rfl, -, hb1, p1, -, r1⟩ := hc1 k hlt
        obtain ⟨b2, o2, u2, g2, rfl, -, hb2, p2, -, r2⟩ := hc2 k hlt2
        have q1 : wr.cell? ⟨b1, o1 + k, none⟩ = some u1 := (hU.below.cell hb1).trans p1
        have q2 : wr.cell? ⟨b2, o2 + k, none⟩ = some u2 := (hU.below.cell hb2).trans p2
        have R1' := Lib.hid (R_T1k.drew (R_T1k.upd r1 hU (by simp)))
        have R2' := Lib.hid (R_T1k.drew (R_T1k.upd r2 hU (by simp)))
        have hs := drop_step xs ys k hlt hlt2
        have HS := Lib.hid hs
        clear hc1 hc2 p1 p2 hs r1 r2
        generalize xs[k] = x1 at *
        generalize ys[k] = y1 at *
        have HC := Lib.hid (eq_T1 u1 u2 x1 y1 wr.drew g1 g2 R1'.out R2'.out)
        clear R1' R2'
        obtain ⟨bb, hbb⟩ : ∃ bb, bb = (x1 == y1) := ⟨_, rfl⟩
        rw [← hbb] at HC HS
        clear hbb
        cases bb
        · go_wp2
          go_region_with (go_at_call 235; refine HC.out.mono ?_; rintro e w1 ⟨rfl, hu1⟩)
          all_goals
            have hU1 := hU.drew.trans hu1
            go_wp2_with fail
            go_ret
            exact ⟨by rw [← HF.out, HS.out]; rfl, hU1⟩
        · go_wp2
          go_region_with (go_at_call 235; refine HC.out.mono ?_; rintro e w1 ⟨rfl, hu1⟩)
          all_goals
            have hU1 := hU.drew.trans hu1
            clear hu1 hU
            go_wp2_with fail
            go_roundw
            case rel => exact ⟨k + 1, by omega, by go_num, hU1, by rw [← HF.out, HS.out]; rfl⟩
            case measure => simp [intOf]; omega
      · have hge : xs.length ≤ k := by omega
        clear hc1 hc2
        go_wp2
        go_ret
        exact ⟨by rw [← HF.out, List.drop_of_length_le hge, List.drop_of_length_le (by have := HL.out; omega)]; rfl, hU⟩
  · have hbe : ¬ ((xs.length : Int) != (ys.length : Int)) = false := by simp; omega
    have hne : (xs == ys) = false := by
      rw [beq_eq_false_iff_ne]; intro h; exact hl (by rw [h])
    have HN := Lib.hid hne
    clear hl hne
    go_enter Tryz.func217, Tryz.ntmps217
    go_wp2
    go_ret
    exact ⟨by rw [HN.out]; rfl, Upd.refl _ _⟩

set_option maxHeartbeats 800000 in
theorem mark_T2 (v : Value) (xs : List (List Tm)) (k0 : Int) (w : World) (fp : List Nat) (hk0 : 0 ≤ k0) (hk1 : k0 + mkF_T2 xs ≤ 4611686018427387904) (hR : R_T2 fp w [v] xs) (hO : Own fp w) :
    Calls Tryz.prog 165 #[v, .int .i64 k0] w fun e w' => e = .returned (.int .i64 (k0 + mkF_T2 xs)) ∧ R_T2 fp w' [v] (mkd_T2 k0 xs) ∧ Own fp w' ∧ Upd fp w w' := by
  obtain ⟨a, cap, rfl, h1, h2, -⟩ := slP_open hR
  unfold maxLen at h2
  go_enter Tryz.func165, Tryz.ntmps165
  go_wp2
  go_loopw [1, 5] (fun kk i wr => ∃ k : Nat, k ≤ xs.length ∧ i = .int .i64 k ∧ kk = .int .i64 (k0 + mkF_T2 (xs.take k)) ∧ Upd fp w wr ∧ Own fp wr ∧
      R_T2 fp wr [.slice a xs.length cap] (mkd_T2 k0 (xs.take k) ++ xs.drop k))
    (fun _ i _ => xs.length - (intOf i).toNat)
  case atStart => exact ⟨0, Nat.zero_le _, rfl, by simp [mkF_T2], Upd.refl _ _, hO, by simpa [mkd_T2] using hR⟩
  case round =>
    obtain ⟨k, hk, rfl, rfl, hU, hO, hF⟩ := hrel
    by_cases hlt : k < xs.length
    · obtain ⟨a', cap', b, off, u, f, hv, -, -, rfl, hb, hbl, hcell, hsub, hr, hof, hput⟩ := slP_set R_T1k hF hO k (by simp; omega)
      simp only [Value.slice.injEq] at hv
      obtain ⟨rfl, -, rfl⟩ := hv
      have e : (mkd_T2 k0 (xs.take k) ++ xs.drop k)[k]'(by simp; omega) = xs[k] := by
        rw [List.getElem_append_right (by simp; omega)]; simp [Nat.min_eq_left hk]
      rw [e] at hr
      have ht := mkF_T2_nonneg (xs.take k)
      have htr := mkF_T1_nonneg xs[k]
      have ht2 := mkF_T2_snoc xs k hlt
      have ht3 := mkF_T2_take xs (k + 1)
      have hb2 : k0 + mkF_T2 (xs.take k) + mkF_T1 xs[k] ≤ 4611686018427387904 := by omega
      have HT := Lib.hid ht2
      have HP := Lib.hid hput
      clear hput hF e ht2
      go_wp2_with fail
      refine (mark_T1 u xs[k] _ _ f (by omega) (by omega) hr hof).mono ?_
      rintro e w1 ⟨rfl, hr1, ho1, hu1⟩
      have hP := HP.out w1 _ hu1 hr1 ho1
      rw [mkd_T2_set xs k0 k hlt] at hP
      have hU' := hU.trans (hu1.mono hsub)
      clear HP hr1 ho1 hu1 hU hO hr hof
      go_wp2_with fail
      go_roundw
      case rel => exact ⟨k + 1, by omega, by go_num, by rw [HT.out]; go_num, hU', hP.2, hP.1⟩
      case measure => simp [intOf]; omega
    · obtain rfl : k = xs.length := by omega
      go_wp2
      go_ret
      refine ⟨by simp, by simpa using hF, hO, hU⟩

set_option maxHeartbeats 800000 in
theorem held_T2 (v : Value) (xs : List (List Tm)) (k0 : Int) (w : World) (fp : List Nat) (hk0 : 0 ≤ k0) (hk1 : k0 + mkF_T2 xs ≤ 4611686018427387904) (hR : R_T2 fp w [v] (mkd_T2 k0 xs)) :
    Calls Tryz.prog 166 #[v, .int .i64 k0] w fun e w' => e = .returned (.int .i64 (k0 + mkF_T2 xs)) ∧ w = w' := by
  obtain ⟨a, cap, rfl, h1, h2, hc⟩ := slP_open hR
  simp only [mkd_T2_length] at *
  unfold maxLen at h2
  clear hR
  go_enter Tryz.func166, Tryz.ntmps166
  go_wp2
  go_loop [1, 5] (fun kk i => ∃ k : Nat, k ≤ xs.length ∧ i = .int .i64 k ∧ kk = .int .i64 (k0 + mkF_T2 (xs.take k))) (fun _ i => xs.length - (intOf i).toNat)
  case atStart => exact ⟨0, Nat.zero_le _, rfl, by simp [mkF_T2]⟩
  case round =>
    obtain ⟨k, hk, rfl, rfl⟩ := hrel
    by_cases hlt : k < xs.length
    · obtain ⟨b, off, u, f, rfl, -, -, hcell, -, hr⟩ := hc k hlt
      rw [mkd_T2_get xs k0 k hlt] at hr
      have ht := mkF_T2_nonneg (xs.take k)
      have htr := mkF_T1_nonneg xs[k]
      have ht2 := mkF_T2_snoc xs k hlt
      have ht3 := mkF_T2_take xs (k + 1)
      have hb2 : k0 + mkF_T2 (xs.take k) + mkF_T1 xs[k] ≤ 4611686018427387904 := by omega
      have HT := Lib.hid ht2
      clear hc ht2
      go_wp2_with fail
      refine (held_T1 u xs[k] _ _ f (by omega) (by omega) hr).mono ?_
      rintro e w1 ⟨rfl, rfl⟩
      clear hr
      go_wp2_with fail
      go_round
      case rel => exact ⟨k + 1, by omega, by go_num, by rw [HT.out]; go_num⟩
      case measure => simp [intOf]; omega
    · obtain rfl : k = xs.length := by omega
      clear hc
      go_wp2
      go_ret
      exact ⟨by simp, rfl⟩

end Go.Proofs.YtnchmnjkmhfleaaGreat

/-
  The functions over relations: what each call returns and makes.
-/
namespace Go.Proofs.YtnchmnjkmhfleaaGreat
open Go.RowKit

def inB (a lo hi : Int) : Bool := decide (lo ≤ a) && decide (a ≤ hi)
theorem inB_true {a lo hi : Int} (h : inB a lo hi = true) : lo ≤ a ∧ a ≤ hi := by simpa [inB] using h
theorem inB_false {a lo hi : Int} (h : inB a lo hi = false) : ¬ (lo ≤ a ∧ a ≤ hi) := by simpa [inB, Decidable.imp_iff_not_or] using h
theorem inB_mk {a lo hi : Int} (h : lo ≤ a ∧ a ≤ hi) : inB a lo hi = true := by simpa [inB] using h
theorem inB_no {a lo hi : Int} (h : ¬ (lo ≤ a ∧ a ≤ hi)) : inB a lo hi = false := by
  cases e : inB a lo hi
  · rfl
  · exact absurd (inB_true e) h

set_option maxHeartbeats 400000 in
theorem within (a b c : Int) (w : World) :
    Calls Tryz.prog 100 #[.int .i64 a, .int .i64 b, .int .i64 c] w fun e w' => e = .returned (.bool (inB a b c)) ∧ w = w' := by
  by_cases h1 : b ≤ a
  · go_enter Tryz.func100, Tryz.ntmps100
    go_wp2
    go_ret
    exact ⟨by simp [inB, h1], rfl⟩
  · have e : inB a b c = false := inB_no (by omega)
    go_enter Tryz.func100, Tryz.ntmps100
    go_wp2
    go_ret
    exact ⟨rfl, rfl⟩

set_option maxHeartbeats 400000 in
theorem l00In (a b c : Int) (w : World) :
    Calls Tryz.prog 51 #[.int .i64 a, .int .i64 b, .int .i64 c] w fun e w' => e = .returned (.bool (inB a b c)) ∧ w = w' := by
  by_cases h1 : b ≤ a
  · go_enter Tryz.func51, Tryz.ntmps51
    go_wp2
    go_ret
    exact ⟨by simp [inB, h1], rfl⟩
  · have e : inB a b c = false := inB_no (by omega)
    go_enter Tryz.func51, Tryz.ntmps51
    go_wp2
    go_ret
    exact ⟨rfl, rfl⟩

end Go.Proofs.YtnchmnjkmhfleaaGreat

/-
  Terms: arity, validity, the count of operands still wanted; both sides' functions on them.
-/
namespace Go.Proofs.YtnchmnjkmhfleaaGreat
open Go.RowKit

def arity (t : Tm) : Int := if t.1 = 2 then 2 else if t.1 = 3 then 1 else 0
def tOk (t : Tm) (nv : Int) : Bool :=
  if t.1 = 0 then inB t.2 0 63 else if t.1 = 1 then inB t.2 0 (nv - 1) else if t.1 = 2 then inB t.2 0 8 else if t.1 = 3 then t.2 == 0 else false
/-- how many operands are wanted behind terms, n before them; none where a term is out of place or wrong. -/
def run (nv : Int) : List Tm → Int → Option Int
  | [], n => some n
  | t :: ts, n => if n = 0 then none else if tOk t nv then run nv ts (n + (arity t - 1)) else none
def isE (e : List Tm) (nv most : Int) : Bool := decide ((e.length : Int) ≤ most) && (run nv e 1 == some 0)
def validE (e : List Tm) (nv most : Int) : Bool := inB nv 0 29 && inB most 1 60 && isE e nv most

theorem arity_bd (t : Tm) : 0 ≤ arity t ∧ arity t ≤ 2 := by unfold arity; split <;> (try split) <;> omega

set_option maxHeartbeats 400000 in
theorem operands (a b : Int) (w : World) : Calls Tryz.prog 239 #[.agg #[ei a, ei b]] w fun e w' => e = .returned (.int .i64 (arity (a, b))) ∧ Upd [] w w' := by
  by_cases h2 : a = 2
  · subst h2
    go_enter Tryz.func239, Tryz.ntmps239
    go_wp2
    go_ret
    exact ⟨rfl, (Upd.refl _ _).alloc _⟩
  · by_cases h3 : a = 3
    · subst h3
      go_enter Tryz.func239, Tryz.ntmps239
      go_wp2
      go_ret
      exact ⟨rfl, (Upd.refl _ _).alloc _⟩
    · have e : arity (a, b) = 0 := by simp [arity, h2, h3]
      have HE := Lib.hid e
      have g2 : (a == 2) = false := by simp [h2]
      have g3 : (a == 3) = false := by simp [h3]
      clear e h2 h3
      go_enter Tryz.func239, Tryz.ntmps239
      go_wp2
      go_ret
      exact ⟨by rw [HE.out]; rfl, (Upd.refl _ _).alloc _⟩

set_option maxHeartbeats 400000 in
theorem isValue (a : Int) (w : World) : Calls Tryz.prog 156 #[.int .i64 a] w fun e w' => e = .returned (.bool (inB a 0 63)) ∧ w = w' := by
  go_enter Tryz.func156, Tryz.ntmps156
  go_wp2_with (go_at_call 100; refine (within _ _ _ _).mono ?_; rintro e w' ⟨rfl, rfl⟩)
  go_ret
  exact ⟨rfl, rfl⟩

set_option maxHeartbeats 800000 in
theorem termValid (a b nv : Int) (w : World) (h0 : 0 ≤ nv) (h1 : nv ≤ 29) : Calls Tryz.prog 238 #[.agg #[ei a, ei b], .int .i64 nv] w fun e w' => e = .returned (.bool (tOk (a, b) nv)) ∧ Upd [] w w' := by
  have hU : ∀ o, Upd [] w (w.alloc o) := fun o => (Upd.refl _ _).alloc _
  have HU := Lib.hid hU
  clear hU
  by_cases h2 : a = 0
  · subst h2
    go_enter Tryz.func238, Tryz.ntmps238
    go_wp2_with (go_at_call 156; refine (isValue _ _).mono ?_; rintro e w' ⟨rfl, rfl⟩)
    go_ret
    exact ⟨rfl, HU.out _⟩
  · by_cases h3 : a = 1
    · subst h3
      go_enter Tryz.func238, Tryz.ntmps238
      go_wp2_with (go_at_call 100; refine (within _ _ _ _).mono ?_; rintro e w' ⟨rfl, rfl⟩)
      go_ret
      exact ⟨rfl, HU.out _⟩
    · by_cases h4 : a = 2
      · subst h4
        go_enter Tryz.func238, Tryz.ntmps238
        go_wp2_with (go_at_call 100; refine (within _ _ _ _).mono ?_; rintro e w' ⟨rfl, rfl⟩)
        go_ret
        exact ⟨rfl, HU.out _⟩
      · by_cases h5 : a = 3
        · subst h5
          have e : tOk (3, b) nv = (b == 0) := rfl
          have HE := Lib.hid e
          clear e
          go_enter Tryz.func238, Tryz.ntmps238
          go_wp2
          go_ret
          exact ⟨by rw [HE.out]; rfl, HU.out _⟩
        · have e : tOk (a, b) nv = false := by simp [tOk, h2, h3, h4, h5]
          have HE := Lib.hid e
          have g2 : (a == 0) = false := by simp [h2]
          have g3 : (a == 1) = false := by simp [h3]
          have g4 : (a == 2) = false := by simp [h4]
          have g5 : (a == 3) = false := by simp [h5]
          clear e h2 h3 h4 h5
          go_enter Tryz.func238, Tryz.ntmps238
          go_wp2
          go_ret
          exact ⟨by rw [HE.out]; rfl, HU.out _⟩

set_option maxHeartbeats 400000 in
theorem l03Arity (a c : Int) (b off : Nat) (w : World) (hc : w.cell? ⟨b, off, none⟩ = some (ei a)) :
    Calls Tryz.prog 242 #[.pointer (some ⟨b, off, none⟩)] w fun e w' => e = .returned (.int .i64 (arity (a, c))) ∧ w = w' := by
  by_cases h2 : a = 2
  · subst h2
    go_enter Tryz.func242, Tryz.ntmps242
    go_wp2
    go_ret
    exact ⟨rfl, rfl⟩
  · by_cases h3 : a = 3
    · subst h3
      go_enter Tryz.func242, Tryz.ntmps242
      go_wp2
      go_ret
      exact ⟨rfl, rfl⟩
    · have e : arity (a, c) = 0 := by simp [arity, h2, h3]
      have HE := Lib.hid e
      have g2 : (a == 2) = false := by simp [h2]
      have g3 : (a == 3) = false := by simp [h3]
      clear e h2 h3
      go_enter Tryz.func242, Tryz.ntmps242
      go_wp2
      go_ret
      exact ⟨by rw [HE.out]; rfl, rfl⟩

set_option maxHeartbeats 800000 in
theorem l03Term (a c nv : Int) (b off : Nat) (w : World) (h0 : 0 ≤ nv) (h1 : nv ≤ 29) (hc : w.cell? ⟨b, off, none⟩ = some (ei a)) (hc2 : w.cell? ⟨b, off + 1, none⟩ = some (ei c)) :
    Calls Tryz.prog 241 #[.pointer (some ⟨b, off, none⟩), .int .i64 nv] w fun e w' => e = .returned (.bool (tOk (a, c) nv)) ∧ w = w' := by
  by_cases h2 : a = 0
  · subst h2
    go_enter Tryz.func241, Tryz.ntmps241
    go_wp2_with (go_at_call 51; refine (l00In _ _ _ _).mono ?_; rintro e w' ⟨rfl, rfl⟩)
    go_ret
    exact ⟨rfl, rfl⟩
  · by_cases h3 : a = 1
    · subst h3
      go_enter Tryz.func241, Tryz.ntmps241
      go_wp2_with (go_at_call 51; refine (l00In _ _ _ _).mono ?_; rintro e w' ⟨rfl, rfl⟩)
      go_ret
      exact ⟨rfl, rfl⟩
    · by_cases h4 : a = 2
      · subst h4
        go_enter Tryz.func241, Tryz.ntmps241
        go_wp2_with (go_at_call 51; refine (l00In _ _ _ _).mono ?_; rintro e w' ⟨rfl, rfl⟩)
        go_ret
        exact ⟨rfl, rfl⟩
      · by_cases h5 : a = 3
        · subst h5
          have e : tOk (3, c) nv = (c == 0) := rfl
          have HE := Lib.hid e
          clear e
          go_enter Tryz.func241, Tryz.ntmps241
          go_wp2
          go_ret
          exact ⟨by rw [HE.out]; rfl, rfl⟩
        · have e : tOk (a, c) nv = false := by simp [tOk, h2, h3, h4, h5]
          have HE := Lib.hid e
          have g2 : (a == 0) = false := by simp [h2]
          have g3 : (a == 1) = false := by simp [h3]
          have g4 : (a == 2) = false := by simp [h4]
          have g5 : (a == 3) = false := by simp [h5]
          clear e h2 h3 h4 h5
          go_enter Tryz.func241, Tryz.ntmps241
          go_wp2
          go_ret
          exact ⟨by rw [HE.out]; rfl, rfl⟩

theorem run_step (nv : Int) (e : List Tm) (k : Nat) (n : Int) (hk : k < e.length) :
    run nv (e.drop k) n = if n = 0 then none else if tOk e[k] nv then run nv (e.drop (k + 1)) (n + (arity e[k] - 1)) else none := by
  rw [List.drop_eq_getElem_cons hk, run]

set_option maxHeartbeats 1000000 in
theorem l03Is (v : Value) (e : List Tm) (nv most : Int) (w : World) (fp : List Nat) (h0 : 0 ≤ nv) (h1 : nv ≤ 29) (hm : most ≤ 1000000) (hR : R_T1 fp w [v] e) :
    Calls Tryz.prog 233 #[v, .int .i64 nv, .int .i64 most] w fun r w' => r = .returned (.bool (isE e nv most)) ∧ w = w' := by
  obtain ⟨a, cap, rfl, g1, g2, hc⟩ := slF2_open hR
  unfold maxLen at g2
  clear hR
  by_cases hl : (e.length : Int) ≤ most
  · have hE : isE e nv most = (run nv e 1 == some 0) := by simp [isE, hl]
    have HE := Lib.hid hE
    clear hE
    go_enter Tryz.func233, Tryz.ntmps233
    go_wp2
    go_loop [7, 8] (fun nn i => ∃ (k : Nat) (n : Int), k ≤ e.length ∧ i = .int .i64 k ∧ nn = .int .i64 n ∧ 0 ≤ n ∧ n ≤ 1 + k ∧ run nv (e.drop k) n = run nv e 1) (fun _ i => e.length - (intOf i).toNat)
    case atStart => exact ⟨0, 1, Nat.zero_le _, rfl, rfl, by omega, by omega, rfl⟩
    case round =>
      obtain ⟨k, n, hk, rfl, rfl, hn0, hn1, hrun⟩ := hrel
      have HRUN := Lib.hid hrun
      clear hrun
      by_cases hlt : k < e.length
      · obtain ⟨b, off, rfl, -, hb, q1, q2⟩ := hc k hlt
        have hs := run_step nv e k n hlt
        have HS := Lib.hid hs
        have har := arity_bd e[k]
        rw [show e[k] = (e[k].1, e[k].2) from rfl] at HS har
        generalize e[k].1 = x at *
        generalize e[k].2 = y at *
        clear hc hs
        by_cases hz : n = 0
        · subst hz
          have hres : isE e nv most = false := by rw [HE.out, ← HRUN.out, HS.out]; rfl
          have HRES := Lib.hid hres
          clear hres
          go_wp2_with fail
          go_ret
          exact ⟨by rw [HRES.out]; rfl, rfl⟩
        · have hz' : (n == 0) = false := by simp [hz]
          have HZ := Lib.hid hz
          have hz1 : 1 ≤ n := by omega
          clear hz
          cases ht : tOk (x, y) nv
          · have hres : isE e nv most = false := by rw [HE.out, ← HRUN.out, HS.out, if_neg HZ.out, ht]; rfl
            have HRES := Lib.hid hres
            clear hres
            go_wp2_with (go_at_call 241; refine (l03Term x y nv _ _ _ h0 h1 q1 q2).mono ?_; rintro e w' ⟨rfl, rfl⟩)
            go_ret
            exact ⟨by rw [HRES.out]; rfl, rfl⟩
          · have hrun2 := HRUN.out
            rw [HS.out, if_neg HZ.out, ht, if_pos rfl] at hrun2
            have HR2 := Lib.hid hrun2
            clear hrun2
            generalize hA : arity (x, y) = A at *
            have HA := Lib.hid hA
            clear hA
            go_wp2_with (first | (go_at_call 241; refine (l03Term x y nv _ _ _ h0 h1 q1 q2).mono ?_; rintro e w' ⟨rfl, rfl⟩) | (go_at_call 242; refine (l03Arity x y _ _ _ q1).mono ?_; rintro e w' ⟨rfl, rfl⟩; rw [HA.out]))
            go_round
            case rel => exact ⟨k + 1, n + (A - 1), by omega, by go_num, rfl, by omega, by omega, HR2.out⟩
            case measure => simp [intOf]; omega
      · obtain rfl : k = e.length := by omega
        have hrun := HRUN.out
        rw [List.drop_length, run] at hrun
        have hres : isE e nv most = (n == 0) := by rw [HE.out, ← hrun]; rfl
        have HRES := Lib.hid hres
        clear hres hrun hc
        go_wp2_with fail
        go_ret
        exact ⟨by rw [HRES.out]; rfl, rfl⟩
  · have hE : isE e nv most = false := by simp [isE, hl]
    have HE := Lib.hid hE
    clear hE hc
    go_enter Tryz.func233, Tryz.ntmps233
    go_wp2
    go_ret
    exact ⟨by rw [HE.out]; rfl, rfl⟩

theorem isE_len {e : List Tm} {nv most : Int} (h : isE e nv most = true) : 1 ≤ e.length ∧ (e.length : Int) ≤ most := by
  unfold isE at h
  rw [Bool.and_eq_true] at h
  refine ⟨?_, by simpa using h.1⟩
  match e, h.2 with
  | [], h => simp [run] at h
  | _ :: _, _ => simp

set_option maxHeartbeats 1000000 in
theorem validTerms (v : Value) (e : List Tm) (nv most : Int) (w : World) (fp : List Nat) (hR : R_T1 fp w [v] e) :
    Calls Tryz.prog 228 #[v, .int .i64 nv, .int .i64 most] w fun r w' => r = .returned (.bool (validE e nv most)) ∧ Upd [] w w' := by
  obtain ⟨a, cap, rfl, g1, g2, hc⟩ := slF2_open hR
  unfold maxLen at g2
  clear hR
  cases h1 : inB nv 0 29
  · have hE : validE e nv most = false := by simp [validE, h1]
    have HE := Lib.hid hE
    clear hE hc
    go_enter Tryz.func228, Tryz.ntmps228
    go_wp2_with (go_at_call 100; refine (within _ _ _ _).mono ?_; rintro e w' ⟨rfl, rfl⟩)
    go_ret
    exact ⟨by rw [HE.out]; rfl, Upd.refl _ _⟩
  · cases h2 : inB most 1 60
    · have hE : validE e nv most = false := by simp [validE, h2]
      have HE := Lib.hid hE
      clear hE hc
      go_enter Tryz.func228, Tryz.ntmps228
      go_wp2_with (go_at_call 100; refine (within _ _ _ _).mono ?_; rintro e w' ⟨rfl, rfl⟩)
      go_ret
      exact ⟨by rw [HE.out]; rfl, Upd.refl _ _⟩
    · have h1' := inB_true h1
      have h2' := inB_true h2
      cases h3 : inB (e.length : Int) 1 most
      · have hE : validE e nv most = false := by
          have h3' := inB_false h3
          cases hi : isE e nv most
          · simp [validE, hi]
          · have := isE_len hi; exfalso; apply h3'; omega
        have HE := Lib.hid hE
        clear hE hc
        go_enter Tryz.func228, Tryz.ntmps228
        go_wp2_with (go_at_call 100; refine (within _ _ _ _).mono ?_; rintro e w' ⟨rfl, rfl⟩)
        go_ret
        exact ⟨by rw [HE.out]; rfl, Upd.refl _ _⟩
      · have h3' := inB_true h3
        have hE : validE e nv most = (run nv e 1 == some 0) := by
          unfold validE isE; rw [h1, h2, decide_eq_true h3'.2]; rfl
        have HE := Lib.hid hE
        clear hE
        go_enter Tryz.func228, Tryz.ntmps228
        go_wp2_with (go_at_call 100; refine (within _ _ _ _).mono ?_; rintro e w' ⟨rfl, rfl⟩)
        go_loopw [7, 27] (fun nn i wr => ∃ (k : Nat) (n : Int), k ≤ e.length ∧ i = .int .i64 k ∧ nn = .int .i64 n ∧ 0 ≤ n ∧ n ≤ 1 + k ∧ run nv (e.drop k) n = run nv e 1 ∧ Upd [] w wr) (fun _ i _ => e.length - (intOf i).toNat)
        case atStart => exact ⟨0, 1, Nat.zero_le _, rfl, rfl, by omega, by omega, rfl, Upd.refl _ _⟩
        case round =>
          obtain ⟨k, n, hk, rfl, rfl, hn0, hn1, hrun, hU⟩ := hrel
          have HRUN := Lib.hid hrun
          clear hrun
          by_cases hlt : k < e.length
          · obtain ⟨b, off, rfl, -, hb, q1, q2⟩ := hc k hlt
            have t1 : wr.cell? ⟨b, off + k * 2, none⟩ = some (ei e[k].1) := (hU.below.cell hb).trans q1
            have t2 : wr.cell? ⟨b, off + k * 2 + 1, none⟩ = some (ei e[k].2) := (hU.below.cell hb).trans q2
            have hs := run_step nv e k n hlt
            have HS := Lib.hid hs
            have har := arity_bd e[k]
            rw [show e[k] = (e[k].1, e[k].2) from rfl] at HS har
            generalize e[k].1 = x at *
            generalize e[k].2 = y at *
            clear hc hs q1 q2
            have hUa := hU.alloc (.cells #[.int .i64 x, .int .i64 y] 161)
            by_cases hz : n = 0
            · subst hz
              have hres : validE e nv most = false := by rw [HE.out, ← HRUN.out, HS.out]; rfl
              have HRES := Lib.hid hres
              clear hres
              go_wp2_with fail
              go_ret
              exact ⟨by rw [HRES.out]; rfl, hUa⟩
            · have hz' : (n == 0) = false := by simp [hz]
              have HZ := Lib.hid hz
              have hz1 : 1 ≤ n := by omega
              clear hz
              cases ht : tOk (x, y) nv
              · have hres : validE e nv most = false := by rw [HE.out, ← HRUN.out, HS.out, if_neg HZ.out, ht]; rfl
                have HRES := Lib.hid hres
                clear hres
                go_wp2_with fail
                refine (termValid x y nv _ h1'.1 h1'.2).mono ?_
                rintro r w1 ⟨rfl, hu1⟩
                have hU1 := hUa.trans hu1
                go_wp2_with fail
                go_ret
                exact ⟨by rw [HRES.out]; rfl, hU1⟩
              · have hrun2 := HRUN.out
                rw [HS.out, if_neg HZ.out, ht, if_pos rfl] at hrun2
                have HR2 := Lib.hid hrun2
                clear hrun2
                go_wp2_with fail
                refine (termValid x y nv _ h1'.1 h1'.2).mono ?_
                rintro r w1 ⟨rfl, hu1⟩
                have hU1 := hUa.trans hu1
                have s1 : w1.cell? ⟨wr.heap.size, 0, none⟩ = some (ei x) := hu1.keep (by simp)
                have s2 : w1.cell? ⟨wr.heap.size, 1, none⟩ = some (ei y) := hu1.keep (by simp)
                clear hu1 hUa hU
                go_wp2_with fail
                refine (operands x y _).mono ?_
                rintro r w2 ⟨rfl, hu2⟩
                have hU2 := hU1.trans hu2
                clear hu2 hU1 s1 s2 t1 t2
                generalize arity (x, y) = A at *
                go_wp2_with fail
                go_roundw
                case rel => exact ⟨k + 1, n + (A - 1), by omega, by go_num, rfl, by omega, by omega, HR2.out, hU2⟩
                case measure => simp [intOf]; omega
          · obtain rfl : k = e.length := by omega
            have hrun := HRUN.out
            rw [List.drop_length, run] at hrun
            have hres : validE e nv most = (n == 0) := by rw [HE.out, ← hrun]; rfl
            have HRES := Lib.hid hres
            clear hres hrun hc
            go_wp2_with fail
            go_ret
            exact ⟨by rw [HRES.out]; rfl, hU⟩

def eOk (e : List Tm) : Bool := isE e 29 60

end Go.Proofs.YtnchmnjkmhfleaaGreat

/-
  Numbers in decimal, plainly: what is read back is what was written, and nothing else is read.
-/
namespace Go.Proofs.YtnchmnjkmhfleaaGreat

def isDig (b : UInt8) : Bool := decide (48 ≤ b.toNat ∧ b.toNat ≤ 57)
end Go.Proofs.YtnchmnjkmhfleaaGreat

/-
  Texts cut at a byte, plainly.
-/
namespace Go.Proofs.YtnchmnjkmhfleaaGreat

end Go.Proofs.YtnchmnjkmhfleaaGreat

/-
  Lists of values.
-/
namespace Go.Proofs.YtnchmnjkmhfleaaGreat
open Go.RowKit

def isV (n : Int) : Bool := inB n 0 63

theorem areValues1 (n : Int) (w : World) : Calls Tryz.prog 155 #[.int .i64 n] w fun e w' => e = .returned (.bool (!isV n)) ∧ w = w' := by
  have S1 := Lib.hid (isValue n w)
  go_enter Tryz.func155, Tryz.ntmps155
  go_wp2_with fail
  refine S1.out.mono ?_
  rintro e w1 ⟨rfl, rfl⟩
  obtain ⟨bb, hbb⟩ : ∃ bb, bb = inB n 0 63 := ⟨_, rfl⟩
  have HB := Lib.hid (show isV n = bb from hbb.symm)
  rw [← hbb]
  clear hbb S1
  go_wp2_with fail
  go_ret
  exact ⟨by rw [HB.out]; rfl, rfl⟩

def IdxV (xs : List Int) (w : World) (e : Ending) (w' : World) : Prop := (∃ q : Int, e = .returned (.int .i64 q) ∧ -1 ≤ q ∧ q ≤ 9223372036854775807 ∧ decide (0 ≤ q) = xs.any (fun n => !isV n)) ∧ w = w'

set_option maxRecDepth 20000 in
set_option maxHeartbeats 1000000 in
theorem indexFuncV (v : Value) (xs : List Int) (w : World) (fp : List Nat) (hR : R1 fp w [v] xs) :
    Calls Tryz.prog 184 #[v, .func (.func 155) #[] #[]] w (IdxV xs w) := by
  obtain ⟨a1, c1, rfl, hl1, hm1, hc1⟩ := slF1_open hR
  unfold maxLen at hm1
  clear hR
  go_enter Tryz.func184, Tryz.ntmps184
  go_wp2_with fail
  go_loop [8] (fun i => ∃ k : Nat, k ≤ xs.length ∧ i = .int .i64 k ∧ (xs.drop k).any (fun n => !isV n) = xs.any (fun n => !isV n)) (fun i => xs.length - (intOf i).toNat)
  case atStart => exact ⟨0, Nat.zero_le _, rfl, rfl⟩
  case round =>
    obtain ⟨k, hk, rfl, hF⟩ := hrel
    by_cases hlt : k < xs.length
    · obtain ⟨b1, o1, rfl, -, -, p1⟩ := hc1 k hlt
      rw [List.drop_eq_getElem_cons hlt, List.any_cons] at hF
      have HF := Lib.hid hF
      clear hF hc1
      generalize xs[k] = x at *
      have S1 := Lib.hid (areValues1 x w)
      obtain ⟨bb, hbb⟩ : ∃ bb, bb = (!isV x) := ⟨_, rfl⟩
      rw [← hbb] at S1 HF
      clear hbb
      go_wp2_with fail
      refine S1.out.mono ?_
      rintro e w1 ⟨rfl, rfl⟩
      clear S1
      cases bb
      · go_wp2_with fail
        go_round
        case rel => exact ⟨k + 1, by omega, by go_num, by rw [← HF.out]; rfl⟩
        case measure => simp [intOf]; omega
      · go_wp2_with fail
        go_ret
        exact ⟨⟨k, rfl, by omega, by omega, by rw [← HF.out]; simp⟩, rfl⟩
    · rw [List.drop_of_length_le (by omega)] at hF
      have HF := Lib.hid hF
      clear hF hc1
      go_wp2_with fail
      go_ret
      exact ⟨⟨-1, rfl, by omega, by omega, by rw [← HF.out]; rfl⟩, rfl⟩

set_option maxRecDepth 20000 in
theorem areValues (v : Value) (xs : List Int) (w : World) (fp : List Nat) (hR : R1 fp w [v] xs) :
    Calls Tryz.prog 99 #[v] w fun e w' => e = .returned (.bool (xs.all isV)) ∧ w = w' := by
  have S2 := Lib.hid (indexFuncV v xs w fp hR)
  have hall : xs.all isV = !(xs.any (fun n => !isV n)) := by simp [List.all_eq_not_any_not]
  have HA := Lib.hid hall
  have S3 : Hid (Calls Tryz.prog 154 #[v, .func (.func 155) #[] #[]] w fun e w' => e = .returned (.bool (xs.any (fun n => !isV n))) ∧ w = w') := Lib.hid (by
    clear hall HA
    go_enter Tryz.func154, Tryz.ntmps154
    go_wp2_with fail
    refine S2.out.mono ?_
    rintro e w1 ⟨⟨q, rfl, h1, h2, h3⟩, rfl⟩
    have H3 := Lib.hid h3
    clear h3
    go_wp2_with fail
    go_ret
    exact ⟨by rw [← H3.out]; rfl, rfl⟩)
  clear hall S2
  generalize xs.any (fun n => !isV n) = bb at *
  go_enter Tryz.func99, Tryz.ntmps99
  go_wp2_with fail
  refine S3.out.mono ?_
  rintro e w1 ⟨rfl, rfl⟩
  go_wp2_with fail
  go_ret
  exact ⟨by rw [HA.out]; rfl, rfl⟩

end Go.Proofs.YtnchmnjkmhfleaaGreat

/-
  Names and labels, plainly; both sides' ways to read a label agree; what is made is read back.
-/
namespace Go.Proofs.YtnchmnjkmhfleaaGreat

def sml (b : UInt8) : Bool := decide (97 ≤ b.toNat ∧ b.toNat ≤ 122)
def nameF (l : List UInt8) : Bool := decide (1 ≤ l.length) && decide (l.length ≤ 10) && sml (l.headD 0) && l.all (fun c => sml c || isDig c)
def tauL : List UInt8 := [116, 97, 117]
def actF (l : List UInt8) : Bool := nameF l && (l != tauL)
end Go.Proofs.YtnchmnjkmhfleaaGreat

/-
  More of the library: parts of slices, append behind a full slice expression, rows of a stack that is cut.
-/
namespace Go.Proofs.YtnchmnjkmhfleaaGreat
open Go.RowKit

theorem addr_add (b off j : Nat) : (⟨b, off, none⟩ : Addr).add j = ⟨b, off + j, none⟩ := by simp only [Addr.add]; split <;> simp_all

section
variable {P : Program} (w : World)

end

theorem ownsRow_take {w : World} {base : Nat} {e : TypeId} {size g n cap : Nat} {xs : List Value} (h : w.ownsRow base e size (.slice (some ⟨g, 0, none⟩) n cap) n xs) (m : Nat) (hm : m ≤ n) :
    w.ownsRow base e size (.slice (some ⟨g, 0, none⟩) m cap) m (xs.take (m * size)) := by
  have hle : m * size ≤ n * size := Nat.mul_le_mul_right _ hm
  refine ⟨by rw [List.length_take, h.1]; omega, ?_⟩
  rcases h.2 with ⟨h0, -⟩ | ⟨g', cap', cur, hv, h1, h2, h3, h4, h5, h6⟩
  · cases h0
  · cases hv
    exact Or.inr ⟨g, cap, cur, rfl, h1, h2, by omega, h4, h5, by rw [← h6, List.take_take, Nat.min_eq_left hle]⟩

theorem Rows.take {α : Type} {R : Rp α} {base : Nat} {ob : List Nat} {w : World} {us : List Value} {xs : List α} (h : Rows R base ob w us xs) (m : Nat) : Rows R base ob w (us.take m) (xs.take m) := by
  obtain ⟨fps, h1, h2, h3, h4, h5⟩ := h
  have hs : (fps.take m).flatten.Sublist fps.flatten := by
    conv => rhs; rw [← List.take_append_drop m fps, List.flatten_append]
    exact List.sublist_append_left _ _
  refine ⟨fps.take m, by simp [h1], by simp [h2], ⟨h3.1.sublist hs, fun b hb => h3.2 b (hs.subset hb)⟩, fun b hb => h4 b (hs.subset hb), fun i hi u f hu hf => ?_⟩
  simp at hi
  rw [List.getElem?_take, if_pos (by omega)] at hu hf
  simpa using h5 i (by omega) u f hu hf

theorem Acc.take {α : Type} {R : Rp α} {w0 w : World} {e : TypeId} {g n cap : Nat} {xs : List α} (h : Acc R w0 e w (.slice (some ⟨g, 0, none⟩) n cap) xs) (m : Nat) (hm : m ≤ xs.length) :
    n = xs.length ∧ Acc R w0 e w (.slice (some ⟨g, 0, none⟩) m cap) (xs.take m) := by
  obtain ⟨us, h1, h2⟩ := h
  have hn : n = xs.length := by
    rcases h1.2 with ⟨h0, -⟩ | ⟨g', cap', cur, hv, -⟩
    · cases h0
    · cases hv; rfl
  subst hn
  refine ⟨rfl, us.take m, ?_, ?_⟩
  · have := ownsRow_take h1 m hm
    rw [Nat.mul_one] at this
    rw [List.length_take, Nat.min_eq_left hm]; exact this
  · simpa [Value.ownBlock] using h2.take m


theorem Acc.cap {α : Type} {R : Rp α} {w0 w : World} {e : TypeId} {g n cap : Nat} {xs : List α} (h : Acc R w0 e w (.slice (some ⟨g, 0, none⟩) n cap) xs) :
    n = xs.length ∧ n ≤ cap ∧ cap ≤ maxLen := by
  obtain ⟨us, h1, h2⟩ := h
  generalize hx : xs.length = m at h1
  rcases h1.2 with ⟨h0, -⟩ | ⟨g', cap', cur, hv, -, -, h3, h4, -⟩
  · cases h0
  · cases hv; exact ⟨rfl, h3, h4⟩


/-- A slice of one-cell elements that a call collects by append; the elements' memory may be older, its blocks are of G. -/
def Got {α : Type} (R : Rp α) (base : Nat) (G : Nat → Prop) (e : TypeId) (w : World) (v : Value) (xs : List α) : Prop :=
  ∃ us fps, w.ownsRow base e 1 v xs.length us ∧ List.length fps = xs.length ∧ (∀ b ∈ List.flatten fps, v.ownBlock ≠ some b ∧ G b) ∧
    ∀ i (h : i < xs.length) u (f : List Nat), us[i]? = some u → fps[i]? = some f → R f w [u] xs[i]

namespace Got
variable {α : Type} {R : Rp α} {base : Nat} {G : Nat → Prop} {e : TypeId} {w w1 w2 : World} {v : Value} {xs : List α}

theorem nil (R : Rp α) (base : Nat) (G : Nat → Prop) (e : TypeId) (w : World) : Got R base G e w (.slice none 0 0) [] :=
  ⟨[], [], World.ownsRow_nil _ _ _ _, rfl, by simp, by simp⟩

theorem own (h : Got R base G e w v xs) : ∃ us, w.ownsRow base e 1 v xs.length us := by obtain ⟨us, _, h, _⟩ := h; exact ⟨us, h⟩

theorem upd (K : Kept R) (h : Got R base G e w v xs) {f : List Nat} (hu : Upd f w w1) (hf : ∀ b ∈ f, b < base ∧ ¬ G b) : Got R base G e w1 v xs := by
  obtain ⟨us, fps, h1, h2, h3, h4⟩ := h
  refine ⟨us, fps, ?_, h2, h3, fun i hi u g hu' hg => K.upd (h4 i hi u g hu' hg) hu fun b hb hm => (hf b hm).2 (h3 b (List.mem_flatten.2 ⟨_, List.mem_of_getElem? hg, hb⟩)).2⟩
  obtain ⟨g1, g2⟩ := h1
  refine ⟨g1, ?_⟩
  rcases g2 with g2 | ⟨g, cap, cur, hv, hb, hh, q1, q2, q3, q4⟩
  · exact Or.inl g2
  · refine Or.inr ⟨g, cap, cur, hv, hb, ?_, q1, q2, q3, q4⟩
    rw [hu.block g (Array.getElem?_eq_some_iff.1 hh).1 (fun hm => by have := (hf g hm).1; omega)]; exact hh

theorem slP (h : Got R base G e w v xs) : ∃ fp, slP R fp w [v] xs ∧ ∀ b ∈ fp, base ≤ b ∨ G b := by
  obtain ⟨us, fps, h1, h2, h3, h4⟩ := h
  obtain ⟨fb, g1, g2, g3, g4⟩ := Flat.ofOwns h1
  refine ⟨fb ++ fps.flatten, ⟨v, us, fb, fps, rfl, g1, h2, rfl, h4⟩, fun b hb => ?_⟩
  rcases List.mem_append.1 hb with hb | hb
  · exact Or.inl (g3 b hb)
  · exact Or.inr (h3 b hb).2

/-- behind an append of one element u, boxed in a new block. -/
theorem push (K : Kept R) (h : Got R base G e w v xs) {us : List Value} (hus : w.ownsRow base e 1 v xs.length us) {u : Value} {x : α} {g : List Nat} (hx : R g w [u] x) (hg : ∀ b ∈ g, v.ownBlock ≠ some b ∧ G b) (o : Obj) {v2 : Value}
    (h2 : w2.ownsRow base e 1 v2 (xs.length + 1) (us ++ [u])) (hgr : (w.alloc o).grownBy w2 v.ownBlock)
    (ht : ∀ b, v2.ownBlock = some b → v.ownBlock = some b ∨ (w.alloc o).heap.size ≤ b) : Got R base G e w2 v2 (xs ++ [x]) := by
  obtain ⟨us', fps, h1, q2, q3, q4⟩ := h
  have hu3 : Upd v.ownBlock.toList w w2 := ((Upd.refl _ _).alloc o).grown hgr (fun k hk => Or.inr (by simp [hk]))
  have hsame : us' = us := by
    rcases h1.2 with ⟨hv, h0⟩ | ⟨b, cap, cur, hv, hb, hh, r1, r2, r3, r4⟩
    · have e1 : us' = [] := List.eq_nil_of_length_eq_zero (by have := h1.1; rw [h0] at this; simpa using this)
      have e2 : us = [] := List.eq_nil_of_length_eq_zero (by have := hus.1; rw [h0] at this; simpa using this)
      rw [e1, e2]
    · subst hv
      rcases hus.2 with ⟨hv', _⟩ | ⟨b', cap', cur', hv', hb', hh', r1', r2', r3', r4'⟩
      · cases hv'
      · simp only [Value.slice.injEq, Option.some.injEq, Addr.mk.injEq, and_true] at hv'
        obtain ⟨rfl, _, rfl⟩ := hv'
        rw [hh] at hh'
        cases hh'
        rw [← r4, ← r4']
  subst hsame
  have hul : us'.length = xs.length := by rw [h1.1, Nat.mul_one]
  have hlt : ∀ b ∈ fps.flatten, b < w.heap.size := by
    intro b hb
    obtain ⟨f, hf, hbf⟩ := List.mem_flatten.1 hb
    obtain ⟨i, hi, rfl⟩ := List.mem_iff_getElem.1 hf
    exact K.lt (q4 i (by omega) us'[i] fps[i] (by simp) (by simp)) b hbf
  have hnot : ∀ b, v.ownBlock ≠ some b → b < w.heap.size → v2.ownBlock ≠ some b := by
    intro b hb hl he
    rcases ht b he with h | h
    · exact hb h
    · simp at h; omega
  refine ⟨us' ++ [u], fps ++ [g], by simpa using h2, by simp [q2], ?_, ?_⟩
  · intro b hb
    rw [List.flatten_append] at hb
    rcases List.mem_append.1 hb with hb | hb
    · exact ⟨hnot b (q3 b hb).1 (hlt b hb), (q3 b hb).2⟩
    · have hb' : b ∈ g := by simpa using hb
      exact ⟨hnot b (hg b hb').1 (K.lt hx b hb'), (hg b hb').2⟩
  · intro i hi u' f hu' hf'
    by_cases hlt' : i < xs.length
    · rw [List.getElem?_append_left (by omega)] at hu' hf'
      rw [List.getElem_append_left hlt']
      exact K.upd (q4 i hlt' u' f hu' hf') hu3 (fun b hb hm => (q3 b (List.mem_flatten.2 ⟨_, List.mem_of_getElem? hf', hb⟩)).1 (by simpa using hm))
    · have ei : i = xs.length := by simp at hi; omega
      subst ei
      rw [List.getElem?_append_right (by omega)] at hu' hf'
      rw [hul, Nat.sub_self] at hu'
      rw [q2, Nat.sub_self] at hf'
      simp at hu' hf'
      subst hu' hf'
      simpa using K.upd hx hu3 (fun b hb hm => (hg b hb).1 (by simpa using hm))
end Got

theorem cell_new (w : World) (cs : Array Value) (T : TypeId) (B : Nat) (hB : w.heap.size = B) (j : Nat) (u : Value) (h : cs[j]? = some u) : (w.alloc (.cells cs T)).cell? ⟨B, j, none⟩ = some u := by
  subst hB
  rw [cell_of_row _ _ _ _ _ _ (heap_alloc_new w _)]; exact h

/-- a call of a Go function at a step of a region that draws. -/
theorem step_call {P : Program} {ops : Array Oper} {o : Oper} {a : Act} {w : World} {K : Act → World → Prop} {Q : Exit → Act → World → Prop} {E : Prop} (hgd : o.guard = none) (f : FuncId) (args : Array Value)
    (hx : (execOp a.eval o).run P w = .ok (.enter f args) w) (h : Calls P f args w (fun e w' => ∃ v, e = .returned v ∧ K (a.put o.dst v) w')) :
    if Region.wanted o (yielded ops a.tmps) = true then Oper.wp P o a w K Q else E := by
  have hw : Region.wanted o (yielded ops a.tmps) = true := by simp [Region.wanted, hgd]
  rw [if_pos hw]
  unfold Oper.wp
  rw [hx]
  simp only [Oper.upon]
  exact h.mono fun e w' ⟨v, he, hk⟩ => by subst he; exact hk

end Go.Proofs.YtnchmnjkmhfleaaGreat

/-
  A number in decimal: the reference's digits.
-/
namespace Go.Proofs.YtnchmnjkmhfleaaGreat
open Go.RowKit

abbrev es (l : List UInt8) : Value := .string ⟨l.toArray⟩
abbrev eb (b : UInt8) : Value := .int .u8 (b.toNat : Int)

theorem dig_step (M : Nat) (h : 0 < M) (D : List UInt8) : (if M / 10 = 0 then [] else Lib.decDigits (M / 10)) ++ (D ++ [UInt8.ofNat (48 + M % 10)]).reverse = (Lib.decDigits M) ++ D.reverse := by
  rw [List.reverse_append]
  simp only [List.reverse_cons, List.reverse_nil, List.nil_append, List.singleton_append]
  by_cases h10 : M < 10
  · rw [if_pos (by omega), Lib.decDigits, dif_pos h10, show M % 10 = M by omega]; rfl
  · rw [if_neg (by omega)]
    conv => rhs; rw [Lib.decDigits, dif_neg h10]
    simp

end Go.Proofs.YtnchmnjkmhfleaaGreat

/-
  The source of choices of the reference: what its calls return, and what they leave.
-/
namespace Go.Proofs.YtnchmnjkmhfleaaGreat
open Go.RowKit

abbrev R_B : Rp (List Int) := slF 1 (fun n => [Value.int .u8 n])
theorem R_Bk : Kept R_B := slF_kept _ _
def bytesOk (xs : List Int) : Prop := ∀ x ∈ xs, 0 ≤ x ∧ x ≤ 255

/-- the source at block p, behind at most N choices. -/
def IsSrc (N p : Nat) (w : World) : Prop := ∃ (cv : Value) (code : List Int) (fc : List Nat) (at' seed : Int), w.cell? ⟨p, 0, none⟩ = some cv ∧ w.cell? ⟨p, 1, none⟩ = some (ei at') ∧ w.cell? ⟨p, 2, none⟩ = some (.int .u64 seed) ∧
  R_B fc w [cv] code ∧ bytesOk code ∧ code.length ≤ 1048576 ∧ 0 ≤ at' ∧ at' ≤ N ∧ 0 ≤ seed ∧ seed ≤ 18446744073709551615 ∧ Own [p] w ∧ ∀ c ∈ fc, c < p

theorem IsSrc.mono {N M p : Nat} {w : World} (h : IsSrc N p w) (hNM : N ≤ M) : IsSrc M p w := by
  obtain ⟨cv, code, fc, a, s, h1, h2, h3, h4, h5, h6, h7, h8, h9⟩ := h
  exact ⟨cv, code, fc, a, s, h1, h2, h3, h4, h5, h6, h7, by omega, h9⟩
theorem IsSrc.lt {N p : Nat} {w : World} (h : IsSrc N p w) : p < w.heap.size := by
  obtain ⟨cv, code, fc, a, s, h1, -⟩ := h; exact World.block_lt_of_cell? w _ h1
theorem IsSrc.upd {N p : Nat} {w w1 : World} (h : IsSrc N p w) (hu : Upd [] w w1) : IsSrc N p w1 := by
  obtain ⟨cv, code, fc, a, s, h1, h2, h3, h4, h5, h6, h7, h8, h9, h10, h11, h12⟩ := h
  exact ⟨cv, code, fc, a, s, hu.keep h1, hu.keep h2, hu.keep h3, R_Bk.upd h4 hu (by simp), h5, h6, h7, h8, h9, h10, h11.upd hu (by simp), h12⟩

/-- the source is kept where newer blocks are written. -/
theorem IsSrc.other {N p : Nat} {w w1 : World} {f : List Nat} (h : IsSrc N p w) (hu : Upd f w w1) (hf : ∀ b ∈ f, p < b) : IsSrc N p w1 := by
  have hpf : p ∉ f := fun hm => by have := hf p hm; omega
  obtain ⟨cv, code, fc, a, s, h1, h2, h3, h4, h5, h6, h7, h8, h9, h10, h11, h12⟩ := h
  have hb := hu.block p (World.block_lt_of_cell? w _ h1) hpf
  exact ⟨cv, code, fc, a, s, (World.cell?_of_block (a := ⟨p, 0, none⟩) hb).trans h1, (World.cell?_of_block (a := ⟨p, 1, none⟩) hb).trans h2, (World.cell?_of_block (a := ⟨p, 2, none⟩) hb).trans h3,
    R_Bk.upd h4 hu (fun b hb hm => by have := hf b hm; have := h12 b hb; omega), h5, h6, h7, h8, h9, h10, h11.upd hu (by simpa using hpf), h12⟩

end Go.Proofs.YtnchmnjkmhfleaaGreat

/-
  Lists of texts in memory.
-/
namespace Go.Proofs.YtnchmnjkmhfleaaGreat
open Go.RowKit

abbrev RS : Rp (List (List UInt8)) := slF 1 (fun s => [es s])
theorem RSk : Kept RS := slF_kept _ _

theorem Tryz.info9 : (Tryz.prog.info? 9).map (fun i => (i.zero, i.size, i.bytes)) = some (some (.string ⟨#[]⟩), 1, 16) := by kernel_rfl

end Go.Proofs.YtnchmnjkmhfleaaGreat

/-
  Expressions as trees: how a tree lies in memory; the terms of a tree in order; a valid list of terms is one tree's.
-/
namespace Go.Proofs.YtnchmnjkmhfleaaGreat
open Go.RowKit

end Go.Proofs.YtnchmnjkmhfleaaGreat

/-
  The terms of a tree in order; a tree out of terms: what each call returns and makes.
-/
namespace Go.Proofs.YtnchmnjkmhfleaaGreat
open Go.RowKit

end Go.Proofs.YtnchmnjkmhfleaaGreat

/-
  OperandsOf, both sides.
-/
namespace Go.Proofs.YtnchmnjkmhfleaaGreat
open Go.RowKit

theorem eOk_len {e : List Tm} (h : eOk e = true) : 1 ≤ e.length ∧ e.length ≤ 60 := by have := isE_len h; omega

theorem Tryz.infoTS : (Tryz.prog.info? 158).map (fun i => (i.zero, i.size, i.bytes)) = some (some (.slice none 0 0), 1, 24) := by kernel_rfl

end Go.Proofs.YtnchmnjkmhfleaaGreat

/-
  Postfix form: the stack of trees, plainly.
-/
namespace Go.Proofs.YtnchmnjkmhfleaaGreat

end Go.Proofs.YtnchmnjkmhfleaaGreat

/-
  Values of trees, and folding, plainly.
-/
namespace Go.Proofs.YtnchmnjkmhfleaaGreat

end Go.Proofs.YtnchmnjkmhfleaaGreat

/-
  Values of operations and of trees: what the calls return.
-/
namespace Go.Proofs.YtnchmnjkmhfleaaGreat
open Go.RowKit

end Go.Proofs.YtnchmnjkmhfleaaGreat

/-
  Folding, the program's side.
-/
namespace Go.Proofs.YtnchmnjkmhfleaaGreat
open Go.RowKit

end Go.Proofs.YtnchmnjkmhfleaaGreat

/-
  Folding, the reference's side.
-/
namespace Go.Proofs.YtnchmnjkmhfleaaGreat
open Go.RowKit

end Go.Proofs.YtnchmnjkmhfleaaGreat

/-
  The text of an expression, plainly.
-/
namespace Go.Proofs.YtnchmnjkmhfleaaGreat
open Go.RowKit

end Go.Proofs.YtnchmnjkmhfleaaGreat

/-
  Texts of expressions, of lists of them and of small numbers, plainly.
-/
namespace Go.Proofs.YtnchmnjkmhfleaaGreat
open Go.RowKit

theorem tOkm {t : Tm} {n m : Int} (h : n ≤ m) (ht : tOk t n = true) : tOk t m = true := by
  unfold tOk at *
  split
  · rename_i h0; rw [if_pos h0] at ht; exact ht
  · rename_i h0
    rw [if_neg h0] at ht
    split
    · rename_i h1
      rw [if_pos h1] at ht
      have := inB_true ht
      simp [inB]; omega
    · rename_i h1
      rw [if_neg h1] at ht
      exact ht
theorem runm {n m : Int} (h : n ≤ m) : ∀ (e : List Tm) (k r : Int), run n e k = some r → run m e k = some r
  | [], k, r, hr => hr
  | t :: e, k, r, hr => by
    rw [run] at hr ⊢
    by_cases h0 : k = 0
    · rw [if_pos h0] at hr; cases hr
    · rw [if_neg h0] at hr ⊢
      by_cases ht : tOk t n = true
      · rw [if_pos ht] at hr
        rw [if_pos (tOkm h ht)]
        exact runm h e _ r hr
      · rw [if_neg ht] at hr; cases hr
theorem eOkm {e : List Tm} {n : Int} (h : isE e n 60 = true) (hn : n ≤ 29) : eOk e = true := by
  unfold eOk
  unfold isE at *
  simp only [Bool.and_eq_true, decide_eq_true_eq, beq_iff_eq] at *
  exact ⟨h.1, runm hn e _ _ h.2⟩
theorem eOk15 {e : List Tm} {n : Int} (h : isE e n 15 = true) (hn : n ≤ 29) : eOk e = true := by
  refine eOkm (n := n) ?_ hn
  unfold isE at *
  simp only [Bool.and_eq_true, decide_eq_true_eq] at *
  exact ⟨by omega, h.2⟩

end Go.Proofs.YtnchmnjkmhfleaaGreat

/-
  Trees of any nodes: how a tree lies in memory; the nodes of a tree in order; the forest of a list of nodes.
-/
namespace Go.Proofs.YtnchmnjkmhfleaaGreat
open Go.RowKit

inductive Tr (α : Type) where
  | mk (t : α) (args : List (Tr α))

mutual
def flatT {α : Type} : Tr α → List α
  | .mk t args => t :: flatTs args
def flatTs {α : Type} : List (Tr α) → List α
  | [] => []
  | x :: xs => flatT x ++ flatTs xs
end

mutual
def okT {α : Type} (ar : α → Int) : Tr α → Bool
  | .mk t args => decide ((args.length : Int) = ar t) && okTs ar args
def okTs {α : Type} (ar : α → Int) : List (Tr α) → Bool
  | [] => true
  | x :: xs => okT ar x && okTs ar xs
end

section
variable {α : Type} {ar : α → Int}
theorem flatTs_append (xs ys : List (Tr α)) : flatTs (xs ++ ys) = flatTs xs ++ flatTs ys := by
  induction xs with
  | nil => rfl
  | cons x xs ih => simp [flatTs, ih]
theorem okTs_append (xs ys : List (Tr α)) : okTs ar (xs ++ ys) = (okTs ar xs && okTs ar ys) := by
  induction xs with
  | nil => simp [okTs]
  | cons x xs ih => simp [okTs, ih, Bool.and_assoc]
theorem okTs_all (xs : List (Tr α)) : okTs ar xs = xs.all (okT ar) := by
  induction xs with
  | nil => rfl
  | cons x xs ih => rw [okTs, List.all_cons, ih]
theorem flatT_pos (x : Tr α) : 1 ≤ (flatT x).length := by cases x; simp [flatT]
theorem flatTs_take (xs : List (Tr α)) (k : Nat) (h : k < xs.length) : flatTs (xs.take (k + 1)) = flatTs (xs.take k) ++ flatT xs[k] := by
  rw [List.take_succ_eq_append_getElem h, flatTs_append]; simp [flatTs]
/-- m trees are still to come, and the nodes are exactly those. -/
def shapeG (ar : α → Int) : Int → List α → Bool
  | m, [] => m == 0
  | m, n :: l => if m = 0 then false else shapeG ar (m + ar n - 1) l
/-- the forest of nodes: each node takes the first trees behind it. -/
def forestT (ar : α → Int) : List α → List (Tr α)
  | [] => []
  | t :: l => .mk t ((forestT ar l).take (ar t).toNat) :: (forestT ar l).drop (ar t).toNat
theorem forestT_ok (h0 : ∀ t, 0 ≤ ar t) : ∀ (l : List α) (m : Int), 0 ≤ m → shapeG ar m l = true → ((forestT ar l).length : Int) = m ∧ okTs ar (forestT ar l) = true ∧ flatTs (forestT ar l) = l
  | [], m, _, h => by
    have : m = 0 := by simpa [shapeG] using h
    subst this; exact ⟨rfl, rfl, rfl⟩
  | t :: l, m, hm, h => by
    rw [shapeG] at h
    split at h
    · cases h
    · next hne =>
      have ht := h0 t
      obtain ⟨h1, h2, h3⟩ := forestT_ok h0 l _ (by omega) h
      have hle : (ar t).toNat ≤ (forestT ar l).length := by omega
      have hsp : okTs ar ((forestT ar l).take (ar t).toNat) = true ∧ okTs ar ((forestT ar l).drop (ar t).toNat) = true := by
        have := h2; rw [← List.take_append_drop (ar t).toNat (forestT ar l), okTs_append, Bool.and_eq_true] at this; exact this
      refine ⟨?_, ?_, ?_⟩
      · rw [forestT, List.length_cons, List.length_drop]; omega
      · simp only [forestT, okTs, okT, hsp.1, hsp.2, Bool.and_true, decide_eq_true_eq, List.length_take]
        omega
      · rw [forestT, flatTs, flatT, List.cons_append, ← flatTs_append, List.take_append_drop, h3]
theorem shapeG_drop (h0 : ∀ t, 0 ≤ ar t) : ∀ (l : List α) (m : Int), 0 ≤ m → shapeG ar m l = true → ∀ k, k ≤ l.length → ∃ q : Int, 0 ≤ q ∧ (k < l.length → 1 ≤ q) ∧ shapeG ar q (l.drop k) = true
  | [], m, hm, h, k, hk => by
    obtain rfl : k = 0 := by simpa using hk
    exact ⟨m, hm, fun h' => by simp at h', h⟩
  | n :: l, m, hm, h, k, hk => by
    have h' := h
    rw [shapeG] at h'
    split at h'
    · cases h'
    · next hne =>
      cases k with
      | zero => exact ⟨m, hm, fun _ => by omega, h⟩
      | succ k =>
        have := h0 n
        obtain ⟨q, q1, q2, q3⟩ := shapeG_drop h0 l _ (by omega) h' k (by simpa using hk)
        exact ⟨q, q1, fun h9 => q2 (by simpa using h9), q3⟩
/-- the tree of a valid list. -/
theorem forestT_one (h0 : ∀ t, 0 ≤ ar t) {l : List α} (h : shapeG ar 1 l = true) : ∃ x : Tr α, forestT ar l = [x] ∧ okT ar x = true ∧ flatT x = l := by
  obtain ⟨h1, h2, h3⟩ := forestT_ok h0 l 1 (by omega) h
  match hx : forestT ar l, h1 with
  | [x], _ =>
    rw [hx] at h2 h3
    exact ⟨x, rfl, by simpa [okTs] using h2, by simpa [flatTs] using h3⟩
  | [], h => simp at h
  | _ :: _ :: _, h => simp at h; omega
end

end Go.Proofs.YtnchmnjkmhfleaaGreat

/-
  Definitions of processes and their texts, plainly.
-/
namespace Go.Proofs.YtnchmnjkmhfleaaGreat
open Go.RowKit

/-- a part of a body. -/
structure Pa where
  kind : Int
  num : Int
  name : List UInt8
  args : List (List Tm)
deriving DecidableEq
/-- a definition. -/
structure De where
  name : List UInt8
  pars : Int
  body : List Pa
deriving DecidableEq

/-- how many parts follow a part. -/
def folP (p : Pa) : Int := if p.kind = 1 ∨ p.kind = 3 ∨ p.kind = 4 then 1 else if p.kind = 2 then 2 else 0
theorem folP_nn (p : Pa) : 0 ≤ folP p := by unfold folP; split <;> (try split) <;> omega
theorem folP_le (p : Pa) : folP p ≤ 2 := by unfold folP; split <;> (try split) <;> omega
def sumP (p : Pa) : Bool := p.kind == 4
/-- a body has its shape: a part with all that belong to it, and no more. -/
def bodyOk (d : De) : Bool := decide (1 ≤ d.body.length) && decide (d.body.length ≤ 20) && shapeG folP 1 d.body
/-- the tree of a body. -/
theorem body_tree {d : De} (h : bodyOk d = true) : ∃ x : Tr Pa, forestT folP d.body = [x] ∧ okT folP x = true ∧ flatT x = d.body := by
  unfold bodyOk at h
  simp only [Bool.and_eq_true, decide_eq_true_eq] at h
  exact forestT_one folP_nn h.2
end Go.Proofs.YtnchmnjkmhfleaaGreat

/-
  The scopes of a forest's nodes, by the trees and by counting: plain.
-/
namespace Go.Proofs.YtnchmnjkmhfleaaGreat

/-- how many elements a tree takes that begins at a list's head, m trees wanted. -/
def endN {α : Type} (ar : α → Int) : Int → List α → Nat
  | _, [] => 0
  | m, t :: l => if m ≤ 0 then 0 else 1 + endN ar (m + ar t - 1) l

mutual
theorem endN_tree {α : Type} {ar : α → Int} : ∀ (x : Tr α) (m : Int) (post : List α), 0 ≤ m → okT ar x = true → endN ar (m + 1) (flatT x ++ post) = (flatT x).length + endN ar m post
  | .mk t args, m, post, hm, h => by
    simp only [okT, Bool.and_eq_true, decide_eq_true_eq] at h
    have ih := endN_trees args m post hm h.2
    simp only [flatT, List.cons_append, endN, List.length_cons]
    rw [if_neg (by omega), show m + 1 + ar t - 1 = m + (args.length : Int) by rw [h.1]; omega, ih]
    omega
theorem endN_trees {α : Type} {ar : α → Int} : ∀ (xs : List (Tr α)) (m : Int) (post : List α), 0 ≤ m → okTs ar xs = true → endN ar (m + (xs.length : Int)) (flatTs xs ++ post) = (flatTs xs).length + endN ar m post
  | [], m, post, _, _ => by simp [flatTs]
  | x :: xs, m, post, hm, h => by
    simp only [okTs, Bool.and_eq_true] at h
    have h1 := endN_tree x (m + (xs.length : Int)) (flatTs xs ++ post) (by omega) h.1
    have h2 := endN_trees xs m post hm h.2
    simp only [flatTs, List.append_assoc, List.length_cons, List.length_append]
    rw [show m + (((xs.length + 1 : Nat)) : Int) = m + (xs.length : Int) + 1 by omega, h1, h2]
    omega
end
theorem endN_one {α : Type} {ar : α → Int} (x : Tr α) (post : List α) (h : okT ar x = true) : endN ar 1 (flatT x ++ post) = (flatT x).length := by
  have := endN_tree x 0 post (Int.le_refl _) h
  rw [show (0 : Int) + 1 = 1 from rfl] at this
  rw [this]
  cases post with
  | nil => simp [endN]
  | cons p post => simp [endN]

/-- how many elements before the i-th bind it: those whose tree ends behind it. -/
def cntB {α : Type} (ar : α → Int) (bind : α → Bool) : List α → Nat → Int
  | [], _ => 0
  | _ :: _, 0 => 0
  | t :: l, i + 1 => (if bind t = true ∧ i + 1 < endN ar 1 (t :: l) then 1 else 0) + cntB ar bind l i

mutual
theorem cntB_skip {α : Type} {ar : α → Int} {bind : α → Bool} : ∀ (x : Tr α) (L : List α) (i : Nat), okT ar x = true → cntB ar bind (flatT x ++ L) ((flatT x).length + i) = cntB ar bind L i
  | .mk t args, L, i, h => by
    have he := endN_one (.mk t args) L h
    simp only [okT, Bool.and_eq_true, decide_eq_true_eq] at h
    have ih := cntB_skips (bind := bind) args L i h.2
    simp only [flatT, List.cons_append, List.length_cons] at he ⊢
    rw [show (flatTs args).length + 1 + i = ((flatTs args).length + i) + 1 by omega, cntB, ih, if_neg (by rw [he]; omega), Int.zero_add]
theorem cntB_skips {α : Type} {ar : α → Int} {bind : α → Bool} : ∀ (xs : List (Tr α)) (L : List α) (i : Nat), okTs ar xs = true → cntB ar bind (flatTs xs ++ L) ((flatTs xs).length + i) = cntB ar bind L i
  | [], L, i, _ => by simp [flatTs]
  | x :: xs, L, i, h => by
    simp only [okTs, Bool.and_eq_true] at h
    have h1 := cntB_skip (bind := bind) x (flatTs xs ++ L) ((flatTs xs).length + i) h.1
    have h2 := cntB_skips (bind := bind) xs L i h.2
    simp only [flatTs, List.append_assoc, List.length_append]
    rw [Nat.add_assoc, h1, h2]
end

mutual
/-- the scopes of a tree's nodes, in the list's order. -/
def scT {α : Type} (bind : α → Bool) : Tr α → Int → List Int
  | .mk t args, s => s :: scTs bind args (s + if bind t then 1 else 0)
def scTs {α : Type} (bind : α → Bool) : List (Tr α) → Int → List Int
  | [], _ => []
  | x :: xs, s => scT bind x s ++ scTs bind xs s
end
mutual
theorem scT_len {α : Type} (bind : α → Bool) : ∀ (x : Tr α) (s : Int), (scT bind x s).length = (flatT x).length
  | .mk t args, s => by simp [scT, flatT, scTs_len bind args]
theorem scTs_len {α : Type} (bind : α → Bool) : ∀ (xs : List (Tr α)) (s : Int), (scTs bind xs s).length = (flatTs xs).length
  | [], _ => by simp [scTs, flatTs]
  | x :: xs, s => by simp [scTs, flatTs, scT_len bind x, scTs_len bind xs]
end
mutual
theorem scT_cnt {α : Type} {ar : α → Int} {bind : α → Bool} : ∀ (x : Tr α) (s : Int) (L : List α) (i : Nat), okT ar x = true → i < (flatT x).length → (scT bind x s)[i]? = some (s + cntB ar bind (flatT x ++ L) i)
  | .mk t args, s, L, 0, h, _ => by simp [scT, flatT, cntB]
  | .mk t args, s, L, i + 1, h, hi => by
    have he := endN_one (.mk t args) L h
    simp only [okT, Bool.and_eq_true, decide_eq_true_eq] at h
    simp only [flatT, List.length_cons] at hi
    have ih := scTs_cnt (bind := bind) args (s + if bind t then 1 else 0) L i h.2 (by omega)
    simp only [flatT, List.cons_append, List.length_cons] at he
    simp only [scT, flatT, List.cons_append, List.getElem?_cons_succ, cntB]
    rw [ih, he]
    by_cases hb : bind t = true
    · rw [if_pos hb, if_pos ⟨hb, by omega⟩, Int.add_assoc]
    · rw [if_neg hb, if_neg (fun h => hb h.1)]; simp
theorem scTs_cnt {α : Type} {ar : α → Int} {bind : α → Bool} : ∀ (xs : List (Tr α)) (s : Int) (L : List α) (i : Nat), okTs ar xs = true → i < (flatTs xs).length → (scTs bind xs s)[i]? = some (s + cntB ar bind (flatTs xs ++ L) i)
  | [], s, L, i, _, hi => by simp [flatTs] at hi
  | x :: xs, s, L, i, h, hi => by
    simp only [okTs, Bool.and_eq_true] at h
    simp only [flatTs, List.length_append] at hi
    simp only [scTs, flatTs, List.append_assoc]
    by_cases hx : i < (flatT x).length
    · rw [List.getElem?_append_left (by rw [scT_len]; exact hx)]
      exact scT_cnt x s (flatTs xs ++ L) i h.1 hx
    · rw [List.getElem?_append_right (by rw [scT_len]; omega), scT_len]
      obtain ⟨j, rfl⟩ : ∃ j, i = (flatT x).length + j := ⟨i - (flatT x).length, by omega⟩
      rw [show (flatT x).length + j - (flatT x).length = j by omega, cntB_skip x _ j h.1]
      exact scTs_cnt xs s L j h.2 (by omega)
end

end Go.Proofs.YtnchmnjkmhfleaaGreat

/-
  Which definitions are valid, plainly: the reason why a part is not.
-/
namespace Go.Proofs.YtnchmnjkmhfleaaGreat
open Go.RowKit

/-- the kind of a part is known, and the fields that it does not use are empty. -/
def kindP (p : Pa) : Bool :=
  inB p.kind 0 5 && ((p.kind == 4 || p.kind == 5) || p.num == 0) && (p.kind == 1 || p.name == []) && ((p.kind == 1 || p.kind == 3 || p.kind == 5) || p.args.length == 0)
/-- a part has as many arguments as it must. -/
def countP (ds : List De) (p : Pa) : Bool :=
  if p.kind = 1 then p.args.length == 0 || (p.name != tauL && decide (p.args.length ≤ 2))
  else if p.kind = 3 then p.args.length == 1
  else if p.kind = 5 then (p.args.length : Int) == ((ds.map De.pars).getD p.num.toNat 0)
  else true
/-- why a part is not valid; 0 if it is. -/
def reasonP (ds : List De) (p : Pa) (sc : Int) (behind : Bool) : Int :=
  if !kindP p then 2
  else if p.kind == 1 && !nameF p.name then 3
  else if (p.kind == 4 && !inB p.num 1 7) || (p.kind == 5 && !inB p.num 0 ((ds.length : Int) - 1)) then 4
  else if !countP ds p then 5
  else if p.kind == 5 && !behind then 6
  else if p.kind == 4 && decide (6 ≤ sc) then 7
  else if p.args.any (fun e => !isE e sc 15) then 8
  else 0
theorem reasonP_nn (ds : List De) (p : Pa) (sc : Int) (b : Bool) : 0 ≤ reasonP ds p sc b ∧ reasonP ds p sc b ≤ 8 := by
  unfold reasonP
  repeat' split
  all_goals omega
/-- what is neither tau nor the name of an action is no name. -/
theorem name_act (l : List UInt8) : (l != tauL && !actF l) = !nameF l := by
  unfold actF
  by_cases h : l = tauL
  · subst h
    simp [show nameF tauL = true by decide]
  · have h2 : (l != tauL) = true := by simpa using h
    rw [h2]; simp
/-- a part stands directly behind an action. -/
def behindP (body : List Pa) (i : Nat) : Bool := decide (0 < i) && ((body.map Pa.kind).getD (i - 1) 0 == 1)
/-- the first part of a body that is not valid, and the reason; (0, 0) if there is none. -/
def faultFrom (ds : List De) (d : De) (body : List Pa) : Nat → List Pa → Int × Int
  | _, [] => (0, 0)
  | i, p :: l => if reasonP ds p (d.pars + cntB folP sumP body i) (behindP body i) = 0 then faultFrom ds d body (i + 1) l else ((i : Int), reasonP ds p (d.pars + cntB folP sumP body i) (behindP body i))
def faultP (ds : List De) (d : De) : Int × Int := if bodyOk d then faultFrom ds d d.body 0 d.body else (0, 1)
/-- definitions are valid. -/
def defsOk (ds : List De) : Bool :=
  (decide (1 ≤ ds.length) && decide (ds.length ≤ 4)) && (ds.all fun d => inB d.pars 0 3) && (ds.all fun d => nameF d.name) && decide (ds.map De.name).Nodup && ds.all fun d => (faultP ds d).2 == 0

end Go.Proofs.YtnchmnjkmhfleaaGreat

/-
  The laws' helper functions over lists of texts.
-/
namespace Go.Proofs.YtnchmnjkmhfleaaGreat
open Go.RowKit

abbrev R_S1 : Rp (List (List UInt8)) := RS
theorem R_S1k : Kept R_S1 := RSk
def totS (x : List (List UInt8)) : Int := (x.map (fun r => (r.length : Int))).sum
def szF_S1 (x : List (List UInt8)) : Int := x.length + totS x
def mkF_S1 (x : List (List UInt8)) : Int := x.length
theorem totS_nonneg (x : List (List UInt8)) : 0 ≤ totS x := by
  unfold totS; induction x with
  | nil => simp
  | cons r rs ih => simp only [List.map_cons, List.sum_cons]; omega
theorem totS_snoc (x : List (List UInt8)) (k : Nat) (h : k < x.length) : totS (x.take (k + 1)) = totS (x.take k) + x[k].length := by
  unfold totS; rw [List.take_succ_eq_append_getElem h, List.map_append, List.sum_append]; simp
theorem szF_S1_nonneg (x : List (List UInt8)) : 0 ≤ szF_S1 x := by have := totS_nonneg x; unfold szF_S1; omega
theorem mkF_S1_nonneg (x : List (List UInt8)) : 0 ≤ mkF_S1 x := by unfold mkF_S1; omega
theorem mkF_S1_le (x : List (List UInt8)) : mkF_S1 x ≤ 16 * szF_S1 x := by have := totS_nonneg x; unfold mkF_S1 szF_S1; omega
theorem str_cat (a b : List UInt8) : (ByteArray.mk a.toArray ++ ByteArray.mk b.toArray) = ByteArray.mk (a ++ b).toArray := ByteArray.mk_append_mk a b

/-- no text is longer than a machine's memory. -/
def strsOk (x : List (List UInt8)) : Prop := ∀ p ∈ x, p.length ≤ 9223372036854775807

/-- the text that marks the number k. -/
def mtx (k : Int) : List UInt8 := 109 :: Lib.decDigits k.toNat

set_option maxRecDepth 20000 in
set_option maxHeartbeats 2000000 in
theorem markText (k0 : Int) (w : World) (h0 : 0 ≤ k0) (h1 : k0 ≤ 9223372036854775807) :
    Calls Tryz.prog 110 #[.int .i64 k0] w fun e w' => e = .returned (es (mtx k0)) ∧ Upd [] w w' := by
  obtain ⟨k, rfl⟩ : ∃ k : Nat, k0 = k := ⟨k0.toNat, by omega⟩
  by_cases hk : k = 0
  · subst hk
    have HR := Lib.hid (show mtx ((0 : Nat) : Int) = [109, 48] by simp [mtx, Lib.decDigits])
    go_enter Tryz.func110, Tryz.ntmps110
    go_wp2_with fail
    go_ret
    exact ⟨by rw [HR.out]; rfl, Upd.refl _ _⟩
  · have HR := Lib.hid (show mtx (k : Int) = 109 :: Lib.decDigits k by simp [mtx])
    have hpos : 0 < k := by omega
    have HK := Lib.hid hk
    clear hk
    go_enter Tryz.func110, Tryz.ntmps110
    go_wp2_with fail
    go_loopw [0, 3] (fun kv ov wr => ∃ (M j : Nat) (D : List UInt8), kv = .int .i64 M ∧ M ≤ k ∧ ov = es D ∧ D.length + j = 20 ∧ M < 10 ^ j ∧ Hid ((if M = 0 then [] else Lib.decDigits M) ++ D = Lib.decDigits k) ∧ Upd [] w wr) (fun kv _ _ => (intOf kv).toNat)
    case atStart => exact ⟨k, 20, [], rfl, Nat.le_refl _, rfl, rfl, by omega, Lib.hid (by simp [HK.out]), Upd.refl _ _⟩
    case round =>
      obtain ⟨M, j, D, rfl, hM, rfl, hj, hlt, HD, hU⟩ := hrel
      have hDl : D.length ≤ 20 := by omega
      have HJ := Lib.hid (And.intro hj hlt)
      have HU := Lib.hid hU
      have hszr := hU.size
      clear hj hlt hU
      by_cases hM0 : M = 0
      · subst hM0
        have hD : D = Lib.decDigits k := by simpa using HD.out
        have HD2 := Lib.hid hD
        clear hD HD
        go_wp2_with fail
        go_ret
        exact ⟨by rw [HR.out, ← HD2.out]; first | rfl | simp [es], HU.out⟩
      · have hst := dig_step M (by omega) D.reverse
        have HS := Lib.hid (show (if M / 10 = 0 then [] else Lib.decDigits (M / 10)) ++ (UInt8.ofNat (48 + M % 10) :: D) = Lib.decDigits k by
          have h2 := HD.out
          rw [if_neg hM0] at h2
          rw [← h2]
          simpa using hst)
        have hb : eb (UInt8.ofNat (48 + M % 10)) = .int .u8 (48 + (M : Int) % 10) := by
          simp only [Value.int.injEq, true_and]
          rw [UInt8.toNat_ofNat_of_lt' (by show 48 + M % 10 < 256; omega)]; omega
        have hcv := run_convert_bytes_back (P := Tryz.prog) (wr.alloc (.cells #[.int .u8 (48 + (M : Int) % 10)] 5)) 22 9 5 ⟨wr.heap.size, 0, none⟩ 1 [UInt8.ofNat (48 + M % 10)] Tryz.underlying22 Tryz.underlying5 Tryz.underlying9 (fun j hj => by
          obtain rfl : j = 0 := by simpa using hj
          rw [addr_add]
          exact cell_new wr _ _ _ rfl _ _ (by simpa using hb.symm))
        have hMp : 0 < M := by omega
        generalize UInt8.ofNat (48 + M % 10) = b at *
        have hcat := str_cat [b] D
        simp only [List.length_cons, List.length_nil, Nat.zero_add] at hcv
        obtain ⟨S, hS⟩ : ∃ S, S = [b] ++ D := ⟨_, rfl⟩
        rw [← hS] at hcat
        have HSS := Lib.hid hS
        clear hst hb hM0 hS HD
        go_wp2_with fail
        clear hcv hcat
        go_roundw
        case rel =>
          obtain ⟨hq1, hq2⟩ := HJ.out
          obtain ⟨q, rfl⟩ : ∃ q, j = q + 1 := ⟨j - 1, by
            rcases Nat.eq_zero_or_pos j with h | h
            · subst h; simp at hq2; omega
            · omega⟩
          refine ⟨M / 10, q, S, by go_num, by omega, rfl, by rw [HSS.out]; simp; omega, ?_, Lib.hid (by rw [HSS.out]; exact HS.out), HU.out.alloc _⟩
          rw [Nat.pow_succ] at hq2
          omega
        case measure => simp [intOf]; omega

set_option maxRecDepth 20000 in
set_option maxHeartbeats 400000 in
theorem sz_S1 (v : Value) (xs : List (List UInt8)) (left : Int) (w : World) (fp : List Nat) (hl : 0 ≤ left) (hl2 : left ≤ 1048576) (hR : R_S1 fp w [v] xs) (hS : strsOk xs) :
    Calls Tryz.prog 48 #[v, .int .i64 left] w fun e w' => (∃ r : Int, e = .returned (.int .i64 r) ∧ (r = -1 ∨ (0 ≤ r ∧ r + szF_S1 xs = left))) ∧ w = w' := by
  obtain ⟨a, cap, rfl, h1, h2, hc⟩ := slF1_open hR
  unfold maxLen at h2
  unfold szF_S1
  have HS := Lib.hid hS
  clear hR hS
  by_cases hlt : left - (xs.length : Int) < 0
  · go_enter Tryz.func48, Tryz.ntmps48
    go_wp2_with fail
    go_ret
    exact ⟨⟨-1, rfl, Or.inl rfl⟩, rfl⟩
  · have hge : 0 ≤ left - (xs.length : Int) := by omega
    clear hlt
    go_enter Tryz.func48, Tryz.ntmps48
    go_wp2_with fail
    go_loop [1, 5] (fun kk i => ∃ (k : Nat) (l : Int), k ≤ xs.length ∧ i = .int .i64 k ∧ kk = .int .i64 l ∧ 0 ≤ l ∧ Hid (l + xs.length + totS (xs.take k) = left)) (fun _ i => xs.length - (intOf i).toNat)
    case atStart => exact ⟨0, _, Nat.zero_le _, rfl, rfl, hge, Lib.hid (by simp [totS])⟩
    case round =>
      obtain ⟨k, l, hk, rfl, rfl, hl0, HL⟩ := hrel
      by_cases hlt : k < xs.length
      · obtain ⟨b, off, rfl, -, -, hcell⟩ := hc k hlt
        have ht := totS_nonneg (xs.take k)
        have HT := Lib.hid (totS_snoc xs k hlt)
        have hb2 : l ≤ 1048576 := by have := HL.out; omega
        have hx3 := HS.out xs[k] (List.getElem_mem hlt)
        clear hc ht
        generalize xs[k] = x at *
        by_cases hneg : l - (x.length : Int) < 0
        · go_wp2_with fail
          go_ret
          exact ⟨⟨-1, rfl, Or.inl rfl⟩, rfl⟩
        · go_wp2_with fail
          go_round
          case rel => exact ⟨k + 1, l - x.length, by omega, by go_num, rfl, by omega, Lib.hid (by have := HL.out; rw [HT.out]; omega)⟩
          case measure => simp [intOf]; omega
      · obtain rfl : k = xs.length := by omega
        clear hc
        go_wp2_with fail
        go_ret
        exact ⟨⟨l, rfl, Or.inr ⟨hl0, by have := HL.out; rw [List.take_length] at this; omega⟩⟩, rfl⟩

set_option maxRecDepth 20000 in
set_option maxHeartbeats 400000 in
theorem to_S1 (v : Value) (xs : List (List UInt8)) (w : World) (fp : List Nat) (hl : szF_S1 xs ≤ 1048576) (hR : R_S1 fp w [v] xs) :
    Calls Tryz.prog 58 #[v] w fun e w' => (∃ v', e = .returned v' ∧ New R_S1 w w' v' xs) ∧ Upd [] w w' := by
  obtain ⟨i0, hi, hz0, hz1, hz2⟩ := info_parts Tryz.info9
  obtain ⟨a, cap, rfl, h1, h2, hc⟩ := slF1_open hR
  unfold maxLen at h2
  have hxl : xs.length ≤ 1048576 := by have := totS_nonneg xs; unfold szF_S1 at hl; omega
  have hm1 : i0.bytes * xs.length ≤ 281474976710656 := by rw [hz2]; omega
  clear hl hR
  go_enter Tryz.func58, Tryz.ntmps58
  go_wp2_with (first
    | (at_make; refine wpList_make_full _ rfl _ _ 27 rfl w.heap.size 9 i0 (es []) 1 Tryz.underlying27 hi hz0 hz1 .i64 .i64 _ _ xs.length rfl rfl rfl rfl hm1 (by unfold maxLen; omega) (Nat.le_refl _) ?_; intro w1 hown hgrow)
    | fail)
  rw [made_one _ rfl, fill_zero es] at hown
  have hU : Upd [] w w1 := (Upd.refl _ _).grown hgrow (by simp)
  clear hgrow hm1
  go_loopw [4] (fun i wr => ∃ k : Nat, k ≤ xs.length ∧ i = .int .i64 k ∧ Upd [] w wr ∧
      wr.ownsRow w.heap.size 9 1 (.slice (some ⟨w.heap.size, 0, none⟩) xs.length xs.length) xs.length ((xs.take k).map es ++ List.replicate (xs.length - k) (es [])))
    (fun i _ => xs.length - (intOf i).toNat)
  case atStart => exact ⟨0, Nat.zero_le _, rfl, hU, hown⟩
  case round =>
    obtain ⟨k, hk, rfl, hU, hown⟩ := hrel
    by_cases hlt : k < xs.length
    · obtain ⟨b, off, rfl, rfl, hb, hcx⟩ := hc k hlt
      have hcell : wr.cell? ⟨b, off + k, none⟩ = some (es xs[k]) := (hU.below.cell hb).trans hcx
      have hcell2 : wr.cell? ⟨w.heap.size, k, none⟩ = some (es []) := by rw [hown.cellAt k (by omega), fill_at _ _ _ _ hlt]
      have hfr : wr.frozen? ⟨w.heap.size, k, none⟩ = false := hown.frozenAt k
      have hst := (hown.stored k (es xs[k]))
      rw [set_fill _ _ _ _ hlt] at hst
      have HS := Lib.hid hst
      clear hst hown hc
      generalize xs[k] = x at *
      go_wp2
      go_roundw
      case rel => exact ⟨k + 1, by omega, by go_num, hU.setCell (Or.inl (Nat.le_refl _)) _, HS.out.1⟩
      case measure => simp [intOf]; omega
    · obtain rfl : k = xs.length := by omega
      clear hc
      go_wp2
      go_ret
      refine ⟨⟨_, rfl, New.ofOwns (e := 9) ?_⟩, hU⟩
      simpa using hown

set_option maxRecDepth 20000 in
set_option maxHeartbeats 400000 in
theorem eq_S1 (v1 v2 : Value) (xs ys : List (List UInt8)) (w : World) (f1 f2 : List Nat) (h1 : R_S1 f1 w [v1] xs) (h2 : R_S1 f2 w [v2] ys) :
    Calls Tryz.prog 63 #[v1, v2] w fun e w' => e = .returned (.bool (xs == ys)) ∧ Upd [] w w' := by
  obtain ⟨a1, c1, rfl, hl1, hm1, hc1⟩ := slF1_open h1
  obtain ⟨a2, c2, rfl, hl2, hm2, hc2⟩ := slF1_open h2
  unfold maxLen at hm1 hm2
  clear h1 h2
  by_cases hl : xs.length = ys.length
  · have hres : (xs == ys) = (xs.drop 0 == ys.drop 0) := rfl
    have HL := Lib.hid hl
    have hle : xs.length ≤ ys.length := by omega
    have hbe : ((xs.length : Int) != (ys.length : Int)) = false := by rw [hl]; simp
    have HR := Lib.hid hres
    clear hl hres
    go_enter Tryz.func63, Tryz.ntmps63
    go_wp2
    go_loopw [5] (fun i wr => ∃ k n : Nat, k ≤ xs.length ∧ i = .int .i64 k ∧ wr = w.drewN n ∧ (xs.drop k == ys.drop k) = (xs == ys)) (fun i _ => xs.length - (intOf i).toNat)
    case atStart => exact ⟨0, 0, Nat.zero_le _, rfl, rfl, HR.out.symm⟩
    case round =>
      obtain ⟨k, n, hk, rfl, rfl, hF⟩ := hrel
      by_cases hlt : k < xs.length
      · obtain ⟨b1, o1, rfl, -, -, hcell1⟩ := hc1 k hlt
        obtain ⟨b2, o2, rfl, -, -, hcell2⟩ := hc2 k (by omega)
        have hlt2 : k < ys.length := by omega
        have HF := Lib.hid (hF.symm.trans (drop_step xs ys k hlt hlt2))
        clear hF hc1 hc2
        generalize xs[k] = x at *
        generalize ys[k] = y at *
        by_cases hx : x = y
        · have hne : (x != y) = false := by simp [hx]
          have hne2 : (x == y) = true := by simp [hx]
          have HX := Lib.hid hx
          clear hx
          go_wp2
          go_quiet (fail)
          go_wp2
          go_roundw
          case rel => exact ⟨k+1, _, by omega, by go_num, rfl, by rw [HF.out]; simp [HX.out]⟩
          case measure => simp [intOf]; omega
        · have hne : (x != y) = true := by simp [hx]
          have hne2 : (x == y) = false := by simp [hx]
          clear hx
          go_wp2
          go_quiet (fail)
          go_wp2
          go_ret
          exact ⟨by rw [HF.out]; simp [hne2], by rw [drewN_add]; exact (Upd.refl _ _).drewN _⟩
      · have hge : xs.length ≤ k := by omega
        have HF := Lib.hid hF
        clear hF hc1 hc2
        go_wp2
        go_ret
        exact ⟨by rw [← HF.out, List.drop_of_length_le hge, List.drop_of_length_le (by have := HL.out; omega)]; rfl, (Upd.refl _ _).drewN _⟩
  · have hbe : ¬ ((xs.length : Int) != (ys.length : Int)) = false := by simp; omega
    have hne : (xs == ys) = false := by
      rw [beq_eq_false_iff_ne]; intro h; exact hl (by rw [h])
    have HN := Lib.hid hne
    clear hl hne
    go_enter Tryz.func63, Tryz.ntmps63
    go_wp2
    go_ret
    exact ⟨by rw [HN.out]; rfl, Upd.refl _ _⟩

/-- n marks from k on. -/
def mkS (k : Int) (n : Nat) : List (List UInt8) := (upFrom k n).map mtx
@[simp] theorem mkS_length (k : Int) (n : Nat) : (mkS k n).length = n := by simp [mkS]
theorem mkS_get (k : Int) (n i : Nat) (h : i < n) : (mkS k n)[i]? = some (mtx (k + i)) := by
  unfold mkS; rw [List.getElem?_map, upFrom_get k n i h]; rfl
theorem mkS_set (xs : List (List UInt8)) (k0 : Int) (k : Nat) (hk : k < xs.length) : (mkS k0 k ++ xs.drop k).set k (mtx (k0 + k)) = mkS k0 (k + 1) ++ xs.drop (k + 1) := by
  rw [List.set_append_right _ _ (by simp), mkS_length, Nat.sub_self, List.drop_eq_getElem_cons hk, List.set_cons_zero]
  unfold mkS
  rw [upFrom_snoc, List.map_append]
  simp

set_option maxRecDepth 20000 in
set_option maxHeartbeats 400000 in
theorem mark_S1 (v : Value) (xs : List (List UInt8)) (k0 : Int) (w : World) (fp : List Nat) (hk0 : 0 ≤ k0) (hk1 : k0 + mkF_S1 xs ≤ 4611686018427387904) (hR : R_S1 fp w [v] xs) (hO : Own fp w) :
    Calls Tryz.prog 68 #[v, .int .i64 k0] w fun e w' => e = .returned (.int .i64 (k0 + mkF_S1 xs)) ∧ R_S1 fp w' [v] (mkS k0 xs.length) ∧ Own fp w' ∧ Upd fp w w' := by
  obtain ⟨a, cap, rfl, h1, h2, -⟩ := slF1_open hR
  unfold mkF_S1 at hk1
  unfold maxLen at h2
  have HM := Lib.hid (show mkF_S1 xs = xs.length from rfl)
  have HR := Lib.hid hR
  have HO := Lib.hid hO
  clear hR hO
  go_enter Tryz.func68, Tryz.ntmps68
  go_wp2_with fail
  go_loopw [1, 5] (fun kk i wr => ∃ k : Nat, k ≤ xs.length ∧ i = .int .i64 k ∧ kk = .int .i64 (k0 + k) ∧ Upd fp w wr ∧ Own fp wr ∧ RS fp wr [.slice a xs.length cap] (mkS k0 k ++ xs.drop k)) (fun _ i _ => xs.length - (intOf i).toNat)
  case atStart => exact ⟨0, Nat.zero_le _, rfl, by simp, Upd.refl _ _, HO.out, by simpa [mkS, upFrom] using HR.out⟩
  case round =>
    clear HR HO
    obtain ⟨k, hk, rfl, rfl, hU, hO, hF⟩ := hrel
    by_cases hlt : k < xs.length
    · have S1 := Lib.hid (markText (k0 + k) wr (by omega) (by omega))
      have HP := Lib.hid (And.intro hU (And.intro hO hF))
      have HSET := Lib.hid (mkS_set xs k0 k hlt)
      clear hU hO hF
      go_wp2_with fail
      refine S1.out.mono ?_
      rintro e w1 ⟨rfl, hu1⟩
      have hd : ∀ b ∈ fp, b ∉ ([] : List Nat) := by simp
      obtain ⟨b, off, cap', hv, -, -, hfp, hbl, hcell, hset⟩ := slF1_cell (RSk.upd HP.out.2.2 hu1 hd) k (by simp; omega)
      have hlen : (mkS k0 k ++ xs.drop k).length = xs.length := by simp; omega
      rw [hlen] at hv
      simp only [Value.slice.injEq] at hv
      obtain ⟨rfl, -, rfl⟩ := hv
      have hfr : w1.frozen? ⟨b, off + k, none⟩ = false := (HP.out.2.1.upd hu1 hd).frozen (by rw [hfp]; simp) _
      have hs := hset (mtx (k0 + k))
      rw [HSET.out] at hs
      obtain ⟨z, hz⟩ : ∃ z : List UInt8, w1.cell? ⟨b, off + k, none⟩ = some (es z) := ⟨_, hcell⟩
      have HQ := Lib.hid (And.intro ((HP.out.1.trans (hu1.mono (by simp))).setCell (p := ⟨b, off + k, none⟩) (Or.inr (by rw [hfp]; simp)) (es (mtx (k0 + k)))) (And.intro ((HP.out.2.1.upd hu1 hd).setCell ⟨b, off + k, none⟩ (es (mtx (k0 + k)))) hs))
      clear hs hset hcell hlen hd hfp hu1 HP S1 HSET
      generalize mtx (k0 + k) = T at *
      go_wp2_with fail
      go_roundw
      case rel => exact ⟨k + 1, by omega, by go_num, by go_num, HQ.out.1, HQ.out.2.1, HQ.out.2.2⟩
      case measure => simp [intOf]; omega
    · obtain rfl : k = xs.length := by omega
      have HP := Lib.hid (And.intro hU (And.intro hO hF))
      clear hU hO hF
      go_wp2_with fail
      go_ret
      refine ⟨by rw [HM.out]; rfl, by simpa using HP.out.2.2, HP.out.2.1, HP.out.1⟩

set_option maxRecDepth 20000 in
set_option maxHeartbeats 400000 in
theorem held_S1 (v : Value) (xs : List (List UInt8)) (k0 : Int) (w : World) (fp : List Nat) (hk0 : 0 ≤ k0) (hk1 : k0 + mkF_S1 xs ≤ 4611686018427387904) (hR : R_S1 fp w [v] (mkS k0 xs.length)) :
    Calls Tryz.prog 73 #[v, .int .i64 k0] w fun e w' => e = .returned (.int .i64 (k0 + mkF_S1 xs)) ∧ Upd [] w w' := by
  unfold mkF_S1 at *
  generalize xs.length = n at *
  obtain ⟨a, cap, rfl, h1, h2, hc⟩ := slF1_open hR
  simp only [mkS_length] at *
  unfold maxLen at h2
  clear hR
  go_enter Tryz.func73, Tryz.ntmps73
  go_wp2_with fail
  go_loopw [1, 5] (fun kk i wr => ∃ k : Nat, k ≤ n ∧ i = .int .i64 k ∧ kk = .int .i64 (k0 + k) ∧ Upd [] w wr) (fun _ i _ => n - (intOf i).toNat)
  case atStart => exact ⟨0, Nat.zero_le _, rfl, by simp, Upd.refl _ _⟩
  case round =>
    obtain ⟨k, hk, rfl, rfl, hU⟩ := hrel
    by_cases hlt : k < n
    · obtain ⟨b, off, rfl, -, hb, hcell⟩ := hc k hlt
      have e : (mkS k0 n)[k]'(by simpa using hlt) = mtx (k0 + k) := by
        have := mkS_get k0 n k hlt
        rw [List.getElem?_eq_getElem (by simpa using hlt)] at this
        exact Option.some.inj this
      rw [e] at hcell
      have q1 : wr.cell? ⟨b, off + k, none⟩ = some (es (mtx (k0 + k))) := hU.keep hcell
      have S1 := fun (w' : World) => markText (k0 + k) w' (by omega) (by omega)
      have HS1 := Lib.hid S1
      have hne : (mtx (k0 + k) != mtx (k0 + k)) = false := by simp
      have hne2 : (mtx (k0 + k) == mtx (k0 + k)) = true := by simp
      have HU := Lib.hid hU
      generalize mtx (k0 + k) = T at *
      clear hc e hcell S1 hU
      go_wp2_with fail
      go_region_held3 (fun w' => w'.cell? ⟨b, off + k, none⟩ = some (es T)) (go_keep) (((with_reducible refine (HS1.out _).mono ?_); rintro e w1 ⟨rfl, hu1⟩; have t1 := hu1.keep q1))
      have HU1 := Lib.hid (HU.out.drew.trans hu1)
      clear hu1 HU HS1
      go_wp2_with fail
      go_roundw
      case rel => exact ⟨k + 1, by omega, by go_num, by go_num, HU1.out⟩
      case measure => simp [intOf]; omega
    · obtain rfl : k = n := by omega
      clear hc
      go_wp2_with fail
      go_ret
      exact ⟨rfl, hU⟩

end Go.Proofs.YtnchmnjkmhfleaaGreat

/-
  Names and labels: what the program's calls return.
-/
namespace Go.Proofs.YtnchmnjkmhfleaaGreat
open Go.RowKit

theorem isDigitI (b : UInt8) (w : World) : Calls Tryz.prog 116 #[.int .u8 (b.toNat : Int)] w fun e w' => e = .returned (.bool (isDig b)) ∧ w = w' := by
  by_cases h1 : 48 ≤ b.toNat
  · by_cases h2 : b.toNat ≤ 57
    · have HR := Lib.hid (show isDig b = true by simp [isDig]; omega)
      have g1 : (48 : Int) ≤ (b.toNat : Int) := by omega
      have g2 : (b.toNat : Int) ≤ 57 := by omega
      go_enter Tryz.func116, Tryz.ntmps116
      go_wp2_with fail
      go_ret
      exact ⟨by rw [HR.out]; rfl, rfl⟩
    · have HR := Lib.hid (show isDig b = false by simp [isDig]; omega)
      have g1 : (48 : Int) ≤ (b.toNat : Int) := by omega
      have g2 : ¬ (b.toNat : Int) ≤ 57 := by omega
      go_enter Tryz.func116, Tryz.ntmps116
      go_wp2_with fail
      go_ret
      exact ⟨by rw [HR.out]; rfl, rfl⟩
  · have HR := Lib.hid (show isDig b = false by simp [isDig]; omega)
    have g1 : ¬ (48 : Int) ≤ (b.toNat : Int) := by omega
    go_enter Tryz.func116, Tryz.ntmps116
    go_wp2_with fail
    go_ret
    exact ⟨by rw [HR.out]; rfl, rfl⟩

set_option maxRecDepth 20000 in
set_option maxHeartbeats 2000000 in
theorem isNameI (l : List UInt8) (w : World) (hl : l.length ≤ 2000000) : Calls Tryz.prog 76 #[es l] w fun e w' => e = .returned (.bool (nameF l)) ∧ w = w' := by
  go_enter Tryz.func76, Tryz.ntmps76
  go_wp2_with fail
  go_loop [7] (fun i => ∃ k : Nat, k ≤ l.length ∧ i = .int .i64 k ∧ Hid (∀ j (hj : j < k) (hj2 : j < l.length), (sml l[j] || (decide (0 < j) && isDig l[j])) = true)) (fun i => l.length - (intOf i).toNat)
  case atStart => exact ⟨0, Nat.zero_le _, rfl, Lib.hid (fun j hj => by omega)⟩
  case round =>
    obtain ⟨k, hk, rfl, HQ⟩ := hrel
    by_cases hlt : k < l.length
    · obtain ⟨b, hb⟩ : ∃ b, l[k] = b := ⟨_, rfl⟩
      have hix : (⟨l.toArray⟩ : ByteArray)[k]'(by simpa [ByteArray.size] using hlt) = b := by rw [← hb]; simp [ByteArray.getElem_eq_getElem_data]
      have HB := Lib.hid hb
      have S1 := Lib.hid (isDigitI b w)
      clear hb
      have hno : (sml b || (decide (0 < k) && isDig b)) = false → nameF l = false := by
        intro h
        cases hn : nameF l with
        | false => rfl
        | true =>
          exfalso
          have hn' := hn
          unfold nameF at hn'
          simp only [Bool.and_eq_true] at hn'
          rw [Bool.or_eq_false_iff] at h
          by_cases h0 : k = 0
          · subst h0
            have e0 : l.headD 0 = b := by rw [← HB.out]; cases l with
              | nil => simp at hlt
              | cons x l => rfl
            have := hn'.1.2
            rw [e0, h.1] at this; cases this
          · have := List.all_eq_true.1 hn'.2 b (by rw [← HB.out]; exact List.getElem_mem hlt)
            rw [h.1] at this
            have h3 := h.2
            rw [decide_eq_true (by omega : 0 < k)] at h3
            simp at h3 this
            rw [h3] at this; cases this
      have HNO := Lib.hid hno
      have hstep : (sml b || (decide (0 < k) && isDig b)) = true → ∀ j (hj : j < k + 1) (hj2 : j < l.length), (sml l[j] || (decide (0 < j) && isDig l[j])) = true := by
        intro h j hj hj2
        by_cases e : j = k
        · subst e; rw [HB.out]; exact h
        · exact HQ.out j (by omega) hj2
      have HST := Lib.hid hstep
      clear hno hstep HQ HB
      by_cases hs : sml b = true
      · have hs' : 97 ≤ b.toNat ∧ b.toNat ≤ 122 := by simpa [sml] using hs
        have g1 : (97 : Int) ≤ (b.toNat : Int) := by omega
        have g2 : (b.toNat : Int) ≤ 122 := by omega
        have g3 : ¬ (122 : Int) < (b.toNat : Int) := by omega
        have HR := Lib.hid (HST.out (by rw [hs]; rfl))
        clear S1 HNO HST hs hs'
        go_wp2_with fail
        go_round
        case rel => exact ⟨k + 1, by omega, by go_num, HR⟩
        case measure => simp [intOf]; omega
      · have hs0 : sml b = false := by simpa using hs
        have HS0 := Lib.hid hs0
        have hs' : ¬ (97 ≤ b.toNat ∧ b.toNat ≤ 122) := by simpa [sml] using hs
        clear hs hs0
        by_cases h0 : k = 0
        · subst h0
          have HR := Lib.hid (HNO.out (by rw [HS0.out]; rfl))
          clear S1 HNO HST
          by_cases g1 : (97 : Int) ≤ (b.toNat : Int)
          · have g2 : ¬ (b.toNat : Int) ≤ 122 := by omega
            have g3 : (122 : Int) < (b.toNat : Int) := by omega
            clear hs'
            go_wp2_with fail
            go_ret
            exact ⟨by rw [HR.out]; rfl, rfl⟩
          · clear hs'
            go_wp2_with fail
            go_ret
            exact ⟨by rw [HR.out]; rfl, rfl⟩
        · have h0' : ((k : Int) == 0) = false := by simp; omega
          cases hd : isDig b with
          | true =>
            have HR := Lib.hid (HST.out (by rw [HS0.out, hd, decide_eq_true (by omega : 0 < k)]; rfl))
            rw [hd] at S1
            clear HNO HST hd
            by_cases g1 : (97 : Int) ≤ (b.toNat : Int)
            · have g2 : ¬ (b.toNat : Int) ≤ 122 := by omega
              have g3 : (122 : Int) < (b.toNat : Int) := by omega
              clear hs'
              go_wp2_with fail
              refine S1.out.mono ?_
              rintro e w1 ⟨rfl, rfl⟩
              go_wp2_with fail
              go_round
              case rel => exact ⟨k + 1, by omega, by go_num, HR⟩
              case measure => simp [intOf]; omega
            · clear hs'
              go_wp2_with fail
              refine S1.out.mono ?_
              rintro e w1 ⟨rfl, rfl⟩
              go_wp2_with fail
              go_round
              case rel => exact ⟨k + 1, by omega, by go_num, HR⟩
              case measure => simp [intOf]; omega
          | false =>
            have HR := Lib.hid (HNO.out (by rw [HS0.out, hd]; simp))
            rw [hd] at S1
            clear HNO HST hd
            by_cases g1 : (97 : Int) ≤ (b.toNat : Int)
            · have g2 : ¬ (b.toNat : Int) ≤ 122 := by omega
              have g3 : (122 : Int) < (b.toNat : Int) := by omega
              clear hs'
              go_wp2_with fail
              refine S1.out.mono ?_
              rintro e w1 ⟨rfl, rfl⟩
              go_wp2_with fail
              go_ret
              exact ⟨by rw [HR.out]; rfl, rfl⟩
            · clear hs'
              go_wp2_with fail
              refine S1.out.mono ?_
              rintro e w1 ⟨rfl, rfl⟩
              go_wp2_with fail
              go_ret
              exact ⟨by rw [HR.out]; rfl, rfl⟩
    · obtain rfl : k = l.length := by omega
      have hfin : nameF l = (decide (1 ≤ l.length) && decide (l.length ≤ 10)) := by
        have hq := HQ.out
        unfold nameF
        by_cases h1 : 1 ≤ l.length
        · have e0 : l.headD 0 = l[0] := by cases l with
            | nil => simp at h1
            | cons x l => rfl
          have q0 := hq 0 (by omega) (by omega)
          simp only [Nat.lt_irrefl, decide_false, Bool.false_and, Bool.or_false] at q0
          have hall : l.all (fun c => sml c || isDig c) = true := by
            rw [List.all_eq_true]
            intro x hx
            obtain ⟨j, hj, rfl⟩ := List.mem_iff_getElem.1 hx
            have := hq j hj hj
            revert this
            cases sml l[j] <;> cases isDig l[j] <;> simp
          rw [e0, q0, hall]; simp
        · rw [decide_eq_false h1]; simp
      have HF := Lib.hid hfin
      clear hfin HQ
      by_cases h1 : 1 ≤ l.length
      · have g1 : (1 : Int) ≤ (l.length : Int) := by omega
        by_cases h2 : l.length ≤ 10
        · have HR := Lib.hid (show nameF l = true by rw [HF.out, decide_eq_true h1, decide_eq_true h2]; rfl)
          have g2 : (l.length : Int) ≤ 10 := by omega
          go_wp2_with fail
          go_ret
          exact ⟨by rw [HR.out]; rfl, rfl⟩
        · have HR := Lib.hid (show nameF l = false by rw [HF.out, decide_eq_true h1, decide_eq_false h2]; rfl)
          have g2 : ¬ (l.length : Int) ≤ 10 := by omega
          go_wp2_with fail
          go_ret
          exact ⟨by rw [HR.out]; rfl, rfl⟩
      · have HR := Lib.hid (show nameF l = false by rw [HF.out, decide_eq_false h1]; rfl)
        have g1 : ¬ (1 : Int) ≤ (l.length : Int) := by omega
        go_wp2_with fail
        go_ret
        exact ⟨by rw [HR.out]; rfl, rfl⟩

end Go.Proofs.YtnchmnjkmhfleaaGreat

/-
  Numbers in decimal: what the program's calls return.
-/
namespace Go.Proofs.YtnchmnjkmhfleaaGreat
open Go.RowKit

theorem Upd.grow (w : World) (k : Nat) (os : Array Obj) : Upd [] w (Sort.grow (w.drewN k) os) := by
  refine ⟨rfl, rfl, rfl, ?_, fun i hi _ => ?_⟩
  · show w.heap.size ≤ (w.heap ++ os).size
    rw [Array.size_append]; omega
  · show (w.heap ++ os)[i]? = w.heap[i]?
    rw [Array.getElem?_append_left hi]

theorem isActionI (l : List UInt8) (w : World) (hl : l.length ≤ 2000000) :
    Calls Tryz.prog 33 #[es l] w fun e w' => e = .returned (.bool (actF l)) ∧ w = w' := by
  have S1 := Lib.hid (isNameI l w hl)
  cases hn : nameF l with
  | false =>
    have HR := Lib.hid (show actF l = false by simp [actF, hn])
    rw [hn] at S1
    clear hn
    go_enter Tryz.func33, Tryz.ntmps33
    go_wp2_with fail
    refine S1.out.mono ?_
    rintro e w1 ⟨rfl, rfl⟩
    clear S1
    go_wp2_with fail
    go_ret
    exact ⟨by rw [HR.out]; rfl, rfl⟩
  | true =>
    have HR := Lib.hid (show actF l = (l != tauL) by simp [actF, hn])
    rw [hn] at S1
    clear hn
    go_enter Tryz.func33, Tryz.ntmps33
    go_wp2_with fail
    refine S1.out.mono ?_
    rintro e w1 ⟨rfl, rfl⟩
    clear S1
    go_wp2_with fail
    go_ret
    refine ⟨?_, rfl⟩
    rw [HR.out]
    simp [tauL, bne]

end Go.Proofs.YtnchmnjkmhfleaaGreat

/-
  Names and labels by the reference: what its calls return.
-/
namespace Go.Proofs.YtnchmnjkmhfleaaGreat
open Go.RowKit

theorem smallS (b : UInt8) (w : World) : Calls Tryz.prog 114 #[.int .u8 (b.toNat : Int)] w fun e w' => e = .returned (.bool (sml b)) ∧ w = w' := by
  by_cases h1 : 97 ≤ b.toNat
  · by_cases h2 : b.toNat ≤ 122
    · have HR := Lib.hid (show sml b = true by simp [sml]; omega)
      have g1 : (97 : Int) ≤ (b.toNat : Int) := by omega
      have g2 : (b.toNat : Int) ≤ 122 := by omega
      go_enter Tryz.func114, Tryz.ntmps114
      go_wp2_with fail
      go_ret
      exact ⟨by rw [HR.out]; rfl, rfl⟩
    · have HR := Lib.hid (show sml b = false by simp [sml]; omega)
      have g1 : (97 : Int) ≤ (b.toNat : Int) := by omega
      have g2 : ¬ (b.toNat : Int) ≤ 122 := by omega
      go_enter Tryz.func114, Tryz.ntmps114
      go_wp2_with fail
      go_ret
      exact ⟨by rw [HR.out]; rfl, rfl⟩
  · have HR := Lib.hid (show sml b = false by simp [sml]; omega)
    have g1 : ¬ (97 : Int) ≤ (b.toNat : Int) := by omega
    go_enter Tryz.func114, Tryz.ntmps114
    go_wp2_with fail
    go_ret
    exact ⟨by rw [HR.out]; rfl, rfl⟩

theorem digitS (b : UInt8) (w : World) : Calls Tryz.prog 115 #[.int .u8 (b.toNat : Int)] w fun e w' => e = .returned (.bool (isDig b)) ∧ w = w' := by
  by_cases h1 : 48 ≤ b.toNat
  · by_cases h2 : b.toNat ≤ 57
    · have HR := Lib.hid (show isDig b = true by simp [isDig]; omega)
      have g1 : (48 : Int) ≤ (b.toNat : Int) := by omega
      have g2 : (b.toNat : Int) ≤ 57 := by omega
      go_enter Tryz.func115, Tryz.ntmps115
      go_wp2_with fail
      go_ret
      exact ⟨by rw [HR.out]; rfl, rfl⟩
    · have HR := Lib.hid (show isDig b = false by simp [isDig]; omega)
      have g1 : (48 : Int) ≤ (b.toNat : Int) := by omega
      have g2 : ¬ (b.toNat : Int) ≤ 57 := by omega
      go_enter Tryz.func115, Tryz.ntmps115
      go_wp2_with fail
      go_ret
      exact ⟨by rw [HR.out]; rfl, rfl⟩
  · have HR := Lib.hid (show isDig b = false by simp [isDig]; omega)
    have g1 : ¬ (48 : Int) ≤ (b.toNat : Int) := by omega
    go_enter Tryz.func115, Tryz.ntmps115
    go_wp2_with fail
    go_ret
    exact ⟨by rw [HR.out]; rfl, rfl⟩

set_option maxRecDepth 20000 in
set_option maxHeartbeats 2000000 in
theorem nameS (l : List UInt8) (w : World) (hl : l.length ≤ 2000000) : Calls Tryz.prog 74 #[es l] w fun e w' => e = .returned (.bool (nameF l)) ∧ w = w' := by
  cases hcase : l with
  | nil =>
    have HR := Lib.hid (show nameF [] = false by rfl)
    go_enter Tryz.func74, Tryz.ntmps74
    go_wp2_with fail
    go_ret
    exact ⟨by rw [HR.out]; rfl, rfl⟩
  | cons c r =>
    rw [← hcase]
    have hne : (l == []) = false := by rw [hcase]; rfl
    have hpos : 0 < l.length := by rw [hcase]; simp
    by_cases hlen : l.length ≤ 10
    · have hix : (⟨l.toArray⟩ : ByteArray)[0]'(by simpa [ByteArray.size] using hpos) = c := by
        simp [ByteArray.getElem_eq_getElem_data, hcase]
      have HN := Lib.hid (show nameF l = (sml c && l.all (fun c => sml c || isDig c)) by
        unfold nameF; rw [decide_eq_true (show 1 ≤ l.length from hpos), decide_eq_true hlen, hcase]; simp)
      have g1 : ¬ (10 : Int) < (l.length : Int) := by omega
      have S1 := Lib.hid (smallS c w)
      clear hcase
      cases hs : sml c with
      | false =>
        have HR := Lib.hid (show nameF l = false by rw [HN.out, hs]; rfl)
        rw [hs] at S1
        clear HN hs
        go_enter Tryz.func74, Tryz.ntmps74
        go_wp2_with fail
        refine S1.out.mono ?_
        rintro e w1 ⟨rfl, rfl⟩
        clear S1
        go_wp2_with fail
        go_ret
        exact ⟨by rw [HR.out]; rfl, rfl⟩
      | true =>
        have HA := Lib.hid (show nameF l = l.all (fun c => sml c || isDig c) by rw [HN.out, hs]; rfl)
        rw [hs] at S1
        clear HN hs
        go_enter Tryz.func74, Tryz.ntmps74
        go_wp2_with fail
        refine S1.out.mono ?_
        rintro e w1 ⟨rfl, rfl⟩
        clear S1 hix
        go_wp2_with fail
        go_loop [3] (fun i => ∃ k : Nat, k ≤ l.length ∧ i = .int .i64 k ∧ Hid (l.all (fun c => sml c || isDig c) = (l.drop k).all (fun c => sml c || isDig c))) (fun i => l.length - (intOf i).toNat)
        case atStart => exact ⟨0, Nat.zero_le _, rfl, Lib.hid rfl⟩
        case round =>
          obtain ⟨k, hk, rfl, HF⟩ := hrel
          by_cases hlt : k < l.length
          · obtain ⟨b, hb⟩ : ∃ b, l[k] = b := ⟨_, rfl⟩
            have hix : (⟨l.toArray⟩ : ByteArray)[k]'(by simpa [ByteArray.size] using hlt) = b := by rw [← hb]; simp [ByteArray.getElem_eq_getElem_data]
            have hF := HF.out
            rw [List.drop_eq_getElem_cons hlt, hb, List.all_cons] at hF
            have HG := Lib.hid hF
            have S2 := Lib.hid (smallS b w)
            have S3 := Lib.hid (digitS b w)
            clear hF HF hb
            cases hs : sml b with
            | true =>
              have HQ := Lib.hid (HG.out.trans (by rw [hs]; rfl) : l.all (fun c => sml c || isDig c) = (l.drop (k + 1)).all (fun c => sml c || isDig c))
              rw [hs] at S2
              clear HG hs S3
              go_wp2_with fail
              refine S2.out.mono ?_
              rintro e w1 ⟨rfl, rfl⟩
              clear S2
              go_wp2_with fail
              go_round
              case rel => exact ⟨k + 1, by omega, by go_num, HQ⟩
              case measure => simp [intOf]; omega
            | false =>
              rw [hs] at S2
              cases hd : isDig b with
              | true =>
                have HQ := Lib.hid (HG.out.trans (by rw [hs, hd]; rfl) : l.all (fun c => sml c || isDig c) = (l.drop (k + 1)).all (fun c => sml c || isDig c))
                rw [hd] at S3
                clear HG hs hd
                go_wp2_with fail
                refine S2.out.mono ?_
                rintro e w1 ⟨rfl, rfl⟩
                clear S2
                go_wp2_with fail
                refine S3.out.mono ?_
                rintro e w1 ⟨rfl, rfl⟩
                clear S3
                go_wp2_with fail
                go_round
                case rel => exact ⟨k + 1, by omega, by go_num, HQ⟩
                case measure => simp [intOf]; omega
              | false =>
                have HR := Lib.hid (show nameF l = false by rw [HA.out, HG.out, hs, hd]; rfl)
                rw [hd] at S3
                clear HG hs hd HA
                go_wp2_with fail
                refine S2.out.mono ?_
                rintro e w1 ⟨rfl, rfl⟩
                clear S2
                go_wp2_with fail
                refine S3.out.mono ?_
                rintro e w1 ⟨rfl, rfl⟩
                clear S3
                go_wp2_with fail
                go_ret
                exact ⟨by rw [HR.out]; rfl, rfl⟩
          · obtain rfl : k = l.length := by omega
            have HR := Lib.hid (show nameF l = true by rw [HA.out, HF.out, List.drop_of_length_le (Nat.le_refl _)]; rfl)
            clear HF HA
            go_wp2_with fail
            go_ret
            exact ⟨by rw [HR.out]; rfl, rfl⟩
    · have HR := Lib.hid (show nameF l = false by unfold nameF; rw [decide_eq_false hlen]; simp)
      have g1 : (10 : Int) < (l.length : Int) := by omega
      clear hcase hlen
      go_enter Tryz.func74, Tryz.ntmps74
      go_wp2_with fail
      go_ret
      exact ⟨by rw [HR.out]; rfl, rfl⟩

theorem actionS (l : List UInt8) (w : World) (hl : l.length ≤ 2000000) :
    Calls Tryz.prog 187 #[es l] w fun e w' => e = .returned (.bool (actF l)) ∧ w = w' := by
  have S1 := Lib.hid (nameS l w hl)
  cases hn : nameF l with
  | false =>
    have HR := Lib.hid (show actF l = false by simp [actF, hn])
    rw [hn] at S1
    clear hn
    go_enter Tryz.func187, Tryz.ntmps187
    go_wp2_with fail
    refine S1.out.mono ?_
    rintro e w1 ⟨rfl, rfl⟩
    clear S1
    go_wp2_with fail
    go_ret
    exact ⟨by rw [HR.out]; rfl, rfl⟩
  | true =>
    have HR := Lib.hid (show actF l = (l != tauL) by simp [actF, hn])
    rw [hn] at S1
    clear hn
    go_enter Tryz.func187, Tryz.ntmps187
    go_wp2_with fail
    refine S1.out.mono ?_
    rintro e w1 ⟨rfl, rfl⟩
    clear S1
    go_wp2_with fail
    go_ret
    refine ⟨?_, rfl⟩
    rw [HR.out]
    simp [tauL, bne]

end Go.Proofs.YtnchmnjkmhfleaaGreat

/-
  The order of texts.
-/
namespace Go.Proofs.YtnchmnjkmhfleaaGreat
open Go.RowKit

def bl (a b : List UInt8) : Bool := Op.bytesLess a b
theorem bl_total : ∀ a b : List UInt8, (bl a b || a == b) = !bl b a
  | [], [] => rfl
  | [], _ :: _ => rfl
  | _ :: _, [] => rfl
  | a :: x, b :: y => by
    have ih := bl_total x y
    unfold bl at ih ⊢
    simp only [Op.bytesLess]
    rcases Nat.lt_trichotomy a.toNat b.toNat with h | h | h
    · have h1 : a < b := UInt8.lt_iff_toNat_lt.2 h
      have h2 : ¬ b < a := fun h2 => by have := UInt8.lt_iff_toNat_lt.1 h2; omega
      have h3 : ¬ b = a := fun e => by rw [e] at h; omega
      simp [h1, h2, h3]
    · have e : a = b := UInt8.toNat_inj.1 h
      subst e
      have h2 : ¬ a < a := fun h2 => by have := UInt8.lt_iff_toNat_lt.1 h2; omega
      simp only [h2, decide_false, Bool.false_or, beq_self_eq_true, Bool.true_and]
      rw [← ih]
      simp
    · have h1 : b < a := UInt8.lt_iff_toNat_lt.2 h
      have h2 : ¬ a < b := fun h2 => by have := UInt8.lt_iff_toNat_lt.1 h2; omega
      have h3 : ¬ a = b := fun e => by rw [e] at h; omega
      simp [h1, h2, h3]

end Go.Proofs.YtnchmnjkmhfleaaGreat

/-
  Lists of names: whether one is valid, and whether a name is in it; both sides.
-/
namespace Go.Proofs.YtnchmnjkmhfleaaGreat
open Go.RowKit

def goodAt (l : List (List UInt8)) (j : Nat) : Bool := actF (l.getD j []) && (decide (j = 0) || bl (l.getD (j - 1) []) (l.getD j []))
/-- at most twelve names of actions, increasing. -/
def namesF (l : List (List UInt8)) : Bool := (List.range l.length).all (goodAt l) && decide (l.length ≤ 12)
theorem namesF_no {l : List (List UInt8)} {k : Nat} (hk : k < l.length) (h : goodAt l k = false) : namesF l = false := by
  unfold namesF
  rw [Bool.and_eq_false_iff]; left
  rw [List.all_eq_false]
  exact ⟨k, by simpa using hk, by simp [h]⟩
theorem namesF_yes {l : List (List UInt8)} (h : ∀ j, j < l.length → goodAt l j = true) : namesF l = decide (l.length ≤ 12) := by
  unfold namesF
  rw [show (List.range l.length).all (goodAt l) = true from List.all_eq_true.2 (fun j hj => h j (by simpa using hj)), Bool.true_and]
theorem goodAt_eq {l : List (List UInt8)} {k : Nat} (hk : k < l.length) : goodAt l k = (actF l[k] && (decide (k = 0) || bl (l.getD (k - 1) []) l[k])) := by
  unfold goodAt
  rw [List.getD_eq_getElem?_getD, List.getElem?_eq_getElem hk]; rfl

set_option maxRecDepth 20000 in
set_option maxHeartbeats 2000000 in
theorem namesOkI (v : Value) (xs : List (List UInt8)) (w : World) (fp : List Nat) (hR : R_S1 fp w [v] xs) (hl : xs.length ≤ 2000000) (ht : ∀ s ∈ xs, s.length ≤ 2000000) :
    Calls Tryz.prog 131 #[v] w fun e w' => e = .returned (.bool (namesF xs)) ∧ Upd [] w w' := by
  obtain ⟨a, c, rfl, hl1, hm1, hc⟩ := slF1_open hR
  unfold maxLen at hm1
  have HC := Lib.hid hc
  have HT := Lib.hid ht
  have HN := Lib.hid (fun k (hk : k < xs.length) (h : goodAt xs k = false) => namesF_no hk h)
  have HY := Lib.hid (fun (h : ∀ j, j < xs.length → goodAt xs j = true) => namesF_yes h)
  have HG := Lib.hid (fun k (hk : k < xs.length) => goodAt_eq hk)
  clear hR hc ht
  generalize namesF xs = Z at *
  go_enter Tryz.func131, Tryz.ntmps131
  go_wp2_with fail
  go_loopw [7] (fun iv wr => ∃ k : Nat, k ≤ xs.length ∧ iv = .int .i64 k ∧ wr = w ∧ Hid (∀ j, j < k → goodAt xs j = true)) (fun iv _ => xs.length - (intOf iv).toNat)
  case atStart => exact ⟨0, Nat.zero_le _, rfl, rfl, Lib.hid (fun j hj => absurd hj (Nat.not_lt_zero _))⟩
  case round =>
    obtain ⟨k, hk, rfl, rfl, HA⟩ := hrel
    by_cases hlt : k < xs.length
    · obtain ⟨b, off, rfl, -, -, hcell⟩ := HC.out k hlt
      have S1 := Lib.hid (fun W => isActionI xs[k] W (HT.out _ (List.getElem_mem hlt)))
      have HGK := Lib.hid (HG.out k hlt)
      have HK := Lib.hid hlt
      by_cases h0 : k = 0
      · subst h0
        replace HGK := Lib.hid (show goodAt xs 0 = actF xs[0] by rw [HGK.out]; simp; try rfl)
        simp only [Nat.add_zero] at hcell
        generalize xs[0] = x at *
        generalize actF x = q at *
        cases q with
        | false =>
          have HZ := Lib.hid (HN.out 0 HK.out HGK.out)
          clear HGK
          go_wp2_with fail
          refine (S1.out _).mono ?_
          rintro e w1 ⟨rfl, rfl⟩
          go_wp2_with fail
          go_ret
          exact ⟨by rw [HZ.out]; rfl, Upd.refl _ _⟩
        | true =>
          go_wp2_with fail
          refine (S1.out _).mono ?_
          rintro e w1 ⟨rfl, rfl⟩
          go_wp2_with fail
          go_roundw
          case rel =>
            refine ⟨1, by omega, by go_num, by first | rfl | trivial, Lib.hid (fun j hj => ?_)⟩
            have e : j = 0 := Nat.lt_one_iff.1 hj
            rw [e]; exact HGK.out
          case measure => simp [intOf]; omega
      · have hk1 : k - 1 < xs.length := by omega
        obtain ⟨b', off', hbb, -, -, hcell2⟩ := HC.out (k - 1) hk1
        cases hbb
        have i0 : IntKind.i64.wrap ((k : Int) - 1) = (k : Int) - 1 := IntWalk.i64_in _ (by omega)
        have i1 : ((k : Int) - 1).toNat = k - 1 := by omega
        have i3 : (0 : Int) ≤ (k : Int) - 1 := by omega
        have i4 : (k : Int) - 1 < (xs.length : Int) := by omega
        have i5 : (1 : Int) ≤ (k : Int) := by omega
        have i6 : (0 : Int) < (k : Int) := by omega
        have i7 : decide (0 < k) = true := decide_eq_true (by omega)
        have i8 : decide ((0 : Int) < (k : Int)) = true := decide_eq_true (by omega)
        replace HGK := Lib.hid (show goodAt xs k = (actF xs[k] && bl xs[k - 1] xs[k]) by
          rw [HGK.out, decide_eq_false h0, Bool.false_or, List.getD_eq_getElem?_getD, List.getElem?_eq_getElem hk1]; rfl)
        have HH0 := Lib.hid h0
        generalize xs[k] = x at *
        generalize xs[k - 1] = y at *
        clear h0
        cases hq : actF x with
        | false =>
          have HZ := Lib.hid (HN.out k HK.out (by rw [HGK.out, hq]; rfl))
          rw [hq] at S1
          clear HGK hq
          go_wp2_with fail
          refine (S1.out _).mono ?_
          rintro e w1 ⟨rfl, rfl⟩
          go_wp2_with fail
          go_ret
          exact ⟨by rw [HZ.out]; rfl, Upd.refl _ _⟩
        | true =>
          rw [hq] at S1
          have hcmp : (Op.bytesLess x y || x == y) = !bl y x := bl_total x y
          replace HGK := Lib.hid (show goodAt xs k = bl y x by rw [HGK.out, hq]; rfl)
          clear hq
          generalize bl y x = q at *
          cases q with
          | false =>
            have HZ := Lib.hid (HN.out k HK.out HGK.out)
            clear HGK
            go_wp2_with fail
            refine (S1.out _).mono ?_
            rintro e w1 ⟨rfl, rfl⟩
            go_wp2_with fail
            go_ret
            exact ⟨by rw [HZ.out]; rfl, Upd.refl _ _⟩
          | true =>
            go_wp2_with fail
            refine (S1.out _).mono ?_
            rintro e w1 ⟨rfl, rfl⟩
            go_wp2_with fail
            go_roundw
            case rel =>
              refine ⟨k + 1, by omega, by go_num, by first | rfl | trivial, Lib.hid (fun j hj => ?_)⟩
              by_cases e : j = k
              · subst e; exact HGK.out
              · exact HA.out j (by omega)
            case measure => simp [intOf]; omega
    · obtain rfl : k = xs.length := by omega
      have HZ := Lib.hid (HY.out HA.out)
      by_cases h12 : xs.length ≤ 12
      · have e : (xs.length : Int) ≤ 12 := by omega
        replace HZ := Lib.hid (show Z = true by rw [HZ.out, decide_eq_true h12])
        go_wp2_with fail
        go_ret
        exact ⟨by rw [HZ.out]; rfl, Upd.refl _ _⟩
      · have e : ¬ (xs.length : Int) ≤ 12 := by omega
        replace HZ := Lib.hid (show Z = false by rw [HZ.out, decide_eq_false h12])
        go_wp2_with fail
        go_ret
        exact ⟨by rw [HZ.out]; rfl, Upd.refl _ _⟩

set_option maxRecDepth 20000 in
set_option maxHeartbeats 2000000 in
theorem actionsS (v : Value) (xs : List (List UInt8)) (w : World) (fp : List Nat) (hR : R_S1 fp w [v] xs) (ht : ∀ s ∈ xs, s.length ≤ 2000000) :
    Calls Tryz.prog 188 #[v] w fun e w' => e = .returned (.bool (xs.all actF)) ∧ w = w' := by
  obtain ⟨a, c, rfl, hl1, hm1, hc⟩ := slF1_open hR
  unfold maxLen at hm1
  have HC := Lib.hid hc
  have HT := Lib.hid ht
  have HN := Lib.hid (fun k (hk : k < xs.length) (h : actF xs[k] = false) => (List.all_eq_false.2 ⟨xs[k], List.getElem_mem hk, by simp [h]⟩ : xs.all actF = false))
  have HY := Lib.hid (fun (h : ∀ j (hj : j < xs.length), actF xs[j] = true) => (List.all_eq_true.2 (fun s hs => by obtain ⟨j, hj, rfl⟩ := List.mem_iff_getElem.1 hs; exact h j hj) : xs.all actF = true))
  clear hR hc ht
  generalize xs.all actF = Z at *
  go_enter Tryz.func188, Tryz.ntmps188
  go_wp2_with fail
  go_loopw [3] (fun iv wr => ∃ k : Nat, k ≤ xs.length ∧ iv = .int .i64 k ∧ wr = w ∧ Hid (∀ j (hj : j < xs.length), j < k → actF xs[j] = true)) (fun iv _ => xs.length - (intOf iv).toNat)
  case atStart => exact ⟨0, Nat.zero_le _, rfl, rfl, Lib.hid (fun j _ hj => absurd hj (Nat.not_lt_zero _))⟩
  case round =>
    obtain ⟨k, hk, rfl, rfl, HA⟩ := hrel
    by_cases hlt : k < xs.length
    · obtain ⟨b, off, rfl, -, -, hcell⟩ := HC.out k hlt
      have S1 := Lib.hid (fun W => actionS xs[k] W (HT.out _ (List.getElem_mem hlt)))
      have HK := Lib.hid (HN.out k hlt)
      have HB := Lib.hid (fun (h : actF xs[k] = true) j (hj : j < xs.length) (hjk : j < k + 1) => (show actF xs[j] = true by
        by_cases e : j = k
        · subst e; exact h
        · exact HA.out j hj (by omega)))
      generalize xs[k] = x at *
      generalize actF x = q at *
      cases q with
      | false =>
        have HZ := Lib.hid (HK.out rfl)
        clear HK HB
        go_wp2_with fail
        refine (S1.out _).mono ?_
        rintro e w1 ⟨rfl, rfl⟩
        go_wp2_with fail
        go_ret
        exact ⟨by rw [HZ.out]; rfl, by first | rfl | trivial⟩
      | true =>
        replace HB := Lib.hid (HB.out rfl)
        clear HK
        go_wp2_with fail
        refine (S1.out _).mono ?_
        rintro e w1 ⟨rfl, rfl⟩
        go_wp2_with fail
        go_roundw
        case rel => exact ⟨k + 1, by omega, by go_num, by first | rfl | trivial, HB⟩
        case measure => simp [intOf]; omega
    · have HZ := Lib.hid (HY.out (fun j hj => HA.out j hj (by omega)))
      go_wp2_with fail
      go_ret
      exact ⟨by rw [HZ.out]; rfl, by first | rfl | trivial⟩

theorem namesF_of {l : List (List UInt8)} (ha : l.all actF = true) : (∀ j, 0 < j → j < l.length → bl (l.getD (j - 1) []) (l.getD j []) = true) → namesF l = decide (l.length ≤ 12) := fun h => namesF_yes (fun j hj => by
  rw [goodAt_eq hj, List.all_eq_true.1 ha _ (List.getElem_mem hj), Bool.true_and]
  by_cases h0 : j = 0
  · simp [h0]
  · have := h j (by omega) hj
    rw [List.getD_eq_getElem?_getD (i := j), List.getElem?_eq_getElem hj] at this
    rw [show bl (l.getD (j - 1) []) l[j] = true from this, Bool.or_true])
theorem namesF_noA {l : List (List UInt8)} (ha : l.all actF = false) : namesF l = false := by
  obtain ⟨s, hs, h⟩ := List.all_eq_false.1 ha
  obtain ⟨j, hj, rfl⟩ := List.mem_iff_getElem.1 hs
  exact namesF_no hj (by rw [goodAt_eq hj, Bool.eq_false_iff.2 h, Bool.false_and])
theorem namesF_noB {l : List (List UInt8)} {k : Nat} (hk : k < l.length) (h0 : 0 < k) (h : bl (l.getD (k - 1) []) l[k] = false) : namesF l = false :=
  namesF_no hk (by rw [goodAt_eq hk, h, decide_eq_false (by omega)]; simp)
theorem namesF_noL {l : List (List UInt8)} (h : ¬ l.length ≤ 12) : namesF l = false := by unfold namesF; rw [decide_eq_false h, Bool.and_false]

set_option maxRecDepth 20000 in
set_option maxHeartbeats 2000000 in
theorem nameListS (v : Value) (xs : List (List UInt8)) (w : World) (fp : List Nat) (hR : R_S1 fp w [v] xs) (hl : xs.length ≤ 2000000) (ht : ∀ s ∈ xs, s.length ≤ 2000000) :
    Calls Tryz.prog 161 #[v] w fun e w' => e = .returned (.bool (namesF xs)) ∧ Upd [] w w' := by
  have S1 := Lib.hid (fun W (h : W = w) => actionsS v xs W fp (by rw [h]; exact hR) ht)
  obtain ⟨a, c, rfl, hl1, hm1, hc⟩ := slF1_open hR
  unfold maxLen at hm1
  have HC := Lib.hid hc
  have HL := Lib.hid (fun (h : ¬ xs.length ≤ 12) => namesF_noL h)
  have HA := Lib.hid (fun (h : xs.all actF = false) => namesF_noA h)
  have HB := Lib.hid (fun k (hk : k < xs.length) (h0 : 0 < k) (h : bl (xs.getD (k - 1) []) xs[k] = false) => namesF_noB hk h0 h)
  have HY := Lib.hid (fun (ha : xs.all actF = true) (h : ∀ j, 0 < j → j < xs.length → bl (xs.getD (j - 1) []) (xs.getD j []) = true) => namesF_of ha h)
  clear hR hc ht
  generalize namesF xs = Z at *
  generalize xs.all actF = qa at *
  by_cases h12 : xs.length ≤ 12
  · have e12 : ¬ (12 : Int) < (xs.length : Int) := by omega
    cases qa with
    | false =>
      have HZ := Lib.hid (HA.out rfl)
      go_enter Tryz.func161, Tryz.ntmps161
      go_wp2_with fail
      refine (S1.out _ rfl).mono ?_
      rintro e w1 ⟨rfl, rfl⟩
      go_wp2_with fail
      go_ret
      exact ⟨by rw [HZ.out]; rfl, Upd.refl _ _⟩
    | true =>
      have HZ := Lib.hid (HY.out rfl)
      clear HA HL HY
      go_enter Tryz.func161, Tryz.ntmps161
      go_wp2_with fail
      refine (S1.out _ rfl).mono ?_
      rintro e w1 ⟨rfl, rfl⟩
      clear S1
      go_wp2_with fail
      go_loopw [3] (fun iv wr => ∃ (k m : Nat), 1 ≤ k ∧ iv = .int .i64 k ∧ k ≤ xs.length + 1 ∧ wr = w.drewN m ∧ Hid (∀ j, 0 < j → j < xs.length → j < k → bl (xs.getD (j - 1) []) (xs.getD j []) = true)) (fun iv _ => xs.length + 1 - (intOf iv).toNat)
      case atStart => exact ⟨1, 0, Nat.le_refl _, rfl, by omega, rfl, Lib.hid (fun j h1 _ h2 => absurd h2 (by omega))⟩
      case round =>
        obtain ⟨k, m, h1, rfl, hk1, rfl, HI⟩ := hrel
        by_cases hlt : k < xs.length
        · obtain ⟨b, off, rfl, -, -, hcell⟩ := HC.out k hlt
          obtain ⟨b', off', hbb, -, -, hcell2⟩ := HC.out (k - 1) (by omega)
          cases hbb
          have hk2 : k - 1 < xs.length := by omega
          have i0 : IntKind.i64.wrap ((k : Int) - 1) = (k : Int) - 1 := IntWalk.i64_in _ (by omega)
          have i1 : ((k : Int) - 1).toNat = k - 1 := by omega
          have i3 : (0 : Int) ≤ (k : Int) - 1 := by omega
          have i4 : (k : Int) - 1 < (xs.length : Int) := by omega
          have i5 : (1 : Int) ≤ (k : Int) := by omega
          have HBK := Lib.hid (show bl xs[k - 1] xs[k] = false → Z = false from fun h => HB.out k hlt (by omega) (by rw [List.getD_eq_getElem?_getD, List.getElem?_eq_getElem hk2]; exact h))
          have HIK := Lib.hid (show bl xs[k - 1] xs[k] = true → ∀ j, 0 < j → j < xs.length → j < k + 1 → bl (xs.getD (j - 1) []) (xs.getD j []) = true from fun h j q1 q2 q3 => by
            by_cases e : j = k
            · subst e
              rw [List.getD_eq_getElem?_getD, List.getElem?_eq_getElem hk2, List.getD_eq_getElem?_getD, List.getElem?_eq_getElem hlt]; exact h
            · exact HI.out j q1 q2 (by omega))
          generalize xs[k] = x at *
          generalize xs[k - 1] = y at *
          have hcmp : (Op.bytesLess x y || x == y) = !bl y x := bl_total x y
          have hcmp3 : Op.bytesLess y x = bl y x := rfl
          have hcmp2 : (Op.bytesLess x y || y == x) = !bl y x := by rw [← hcmp]; congr 1; rw [Bool.eq_iff_iff]; simp; exact eq_comm
          generalize bl y x = q at *
          cases q with
          | false =>
            have HZ := Lib.hid (HBK.out rfl)
            clear HBK HIK
            go_wp2_with fail
            go_quiet (fail)
            go_wp2_with fail
            go_ret
            exact ⟨by rw [HZ.out]; rfl, by first | exact (Upd.refl _ _).drewN _ | (rw [drewN_add]; exact (Upd.refl _ _).drewN _)⟩
          | true =>
            replace HIK := Lib.hid (HIK.out rfl)
            clear HBK
            go_wp2_with fail
            go_quiet (fail)
            go_wp2_with fail
            go_roundw
            case rel => exact ⟨k + 1, _, by omega, by go_num, by omega, rfl, HIK⟩
            case measure => simp [intOf]; omega
        · replace HZ := Lib.hid (HZ.out (fun j q1 q2 => HI.out j q1 q2 (by omega)))
          replace HZ := Lib.hid (show Z = true by rw [HZ.out, decide_eq_true h12])
          go_wp2_with fail
          go_ret
          exact ⟨by rw [HZ.out]; rfl, (Upd.refl _ _).drewN _⟩
  · have e12 : (12 : Int) < (xs.length : Int) := by omega
    have HZ := Lib.hid (HL.out h12)
    go_enter Tryz.func161, Tryz.ntmps161
    go_wp2_with fail
    go_ret
    exact ⟨by rw [HZ.out]; rfl, Upd.refl _ _⟩

end Go.Proofs.YtnchmnjkmhfleaaGreat

/-
  Systems of components, plainly: which are valid.
-/
namespace Go.Proofs.YtnchmnjkmhfleaaGreat
open Go.RowKit

/-- a component: which definition it begins with, and the values. -/
structure Co where
  dfn : Int
  vals : List Int
deriving DecidableEq
/-- two actions that meet, and what comes of them. -/
structure Me where
  left : List UInt8
  right : List UInt8
  result : List UInt8
deriving DecidableEq
/-- a system. -/
structure Sy where
  defs : List De
  comps : List Co
  meets : List Me
  allow : List (List UInt8)
  hide : List (List UInt8)
deriving DecidableEq

/-- a component is valid for definitions. -/
def compOk (ds : List De) (c : Co) : Bool :=
  inB c.dfn 0 ((ds.length : Int) - 1) && ((c.vals.length : Int) == (ds.map De.pars).getD c.dfn.toNat 0) && c.vals.all (fun n => inB n 0 63)
def compsOk (ds : List De) (l : List Co) : Bool := inB (l.length : Int) 1 3 && l.all (compOk ds)
/-- meetings are ordered by the left name and then by the right one. -/
def lessM (a b : Me) : Bool := bl a.left b.left || (a.left == b.left && bl a.right b.right)
def goodM (l : List Me) (j : Nat) (m : Me) : Bool :=
  (actF m.left && actF m.right && actF m.result && !bl m.right m.left) && (decide (j = 0) || lessM (l.getD (j - 1) ⟨[], [], []⟩) m) &&
    l.all (fun o => !(o.left == m.result || o.right == m.result))
def meetsF (l : List Me) : Bool := ((List.range l.length).all fun j => goodM l j (l.getD j ⟨[], [], []⟩)) && decide (l.length ≤ 6)
theorem meetsF_no {l : List Me} {k : Nat} (hk : k < l.length) (h : goodM l k l[k] = false) : meetsF l = false := by
  unfold meetsF
  rw [Bool.and_eq_false_iff]; left
  rw [List.all_eq_false]
  refine ⟨k, by simpa using hk, ?_⟩
  rw [List.getD_eq_getElem?_getD, List.getElem?_eq_getElem hk, Option.getD_some, h]; simp
theorem meetsF_yes {l : List Me} (h : ∀ j (hj : j < l.length), goodM l j l[j] = true) : meetsF l = decide (l.length ≤ 6) := by
  unfold meetsF
  rw [List.all_eq_true.2 (fun j hj => ?_), Bool.true_and]
  have hj : j < l.length := by simpa using hj
  rw [List.getD_eq_getElem?_getD, List.getElem?_eq_getElem hj, Option.getD_some]
  exact h j hj
/-- marked texts. -/
def up_S1 (k : Int) (r : List (List UInt8)) : List (List UInt8) := mkS k r.length
/-- a system is valid. -/
def sysOk (s : Sy) : Bool := defsOk s.defs && compsOk s.defs s.comps && meetsF s.meets && namesF s.allow && namesF s.hide

end Go.Proofs.YtnchmnjkmhfleaaGreat

/-
  The places of a body's parts, by the tree and by counting; the end of a part: plain.
-/
namespace Go.Proofs.YtnchmnjkmhfleaaGreat
open Go.RowKit

mutual
/-- the places of a tree's parts: how many variables are in scope, and whether it stands behind an action. -/
def plT : Tr Pa → Int → Bool → List (Int × Bool)
  | .mk p args, s, b => (s, b) :: plTs args (s + if sumP p then 1 else 0) (p.kind == 1)
def plTs : List (Tr Pa) → Int → Bool → List (Int × Bool)
  | [], _, _ => []
  | x :: xs, s, b => plT x s b ++ plTs xs s b
end
mutual
theorem plT_fst : ∀ (x : Tr Pa) (s : Int) (b : Bool), (plT x s b).map Prod.fst = scT sumP x s
  | .mk p args, s, b => by simp only [plT, scT, List.map_cons]; rw [plTs_fst args]
theorem plTs_fst : ∀ (xs : List (Tr Pa)) (s : Int) (b : Bool), (plTs xs s b).map Prod.fst = scTs sumP xs s
  | [], _, _ => by simp [plTs, scTs]
  | x :: xs, s, b => by simp only [plTs, scTs, List.map_append]; rw [plT_fst x, plTs_fst xs]
end
theorem plT_len (x : Tr Pa) (s : Int) (b : Bool) : (plT x s b).length = (flatT x).length := by
  rw [← scT_len sumP x s, ← plT_fst x s b, List.length_map]
theorem plTs_len (xs : List (Tr Pa)) (s : Int) (b : Bool) : (plTs xs s b).length = (flatTs xs).length := by
  rw [← scTs_len sumP xs s, ← plTs_fst xs s b, List.length_map]
theorem plTs_append (xs ys : List (Tr Pa)) (s : Int) (b : Bool) : plTs (xs ++ ys) s b = plTs xs s b ++ plTs ys s b := by
  induction xs with
  | nil => simp [plTs]
  | cons x xs ih => simp [plTs, ih]
theorem plTs_take (xs : List (Tr Pa)) (s : Int) (b : Bool) (k : Nat) (h : k < xs.length) : plTs (xs.take (k + 1)) s b = plTs (xs.take k) s b ++ plT xs[k] s b := by
  rw [List.take_succ_eq_append_getElem h, plTs_append]; simp [plTs]
theorem plT_head (x : Tr Pa) (s : Int) (b : Bool) : (plT x s b)[0]? = some (s, b) := by cases x; simp [plT]
theorem kd_nil {p : Pa} {args : List (Tr Pa)} (h : (args.length : Int) = folP p) : (args = [] → (p.kind == 1) = false) ∧ ((p.kind == 1) = true → args.length ≤ 1) := by
  constructor
  · intro e
    subst e
    simp only [List.length_nil] at h
    unfold folP at h
    cases hk : p.kind == 1 with
    | false => rfl
    | true => rw [if_pos (Or.inl (by simpa using hk))] at h; omega
  · intro e
    unfold folP at h
    rw [if_pos (Or.inl (by simpa using e))] at h; omega
mutual
/-- the last part of a tree is no action. -/
theorem last_kd : ∀ (x : Tr Pa), okT folP x = true → ∃ p, (flatT x)[(flatT x).length - 1]? = some p ∧ (p.kind == 1) = false
  | .mk p args, h => by
    simp only [okT, Bool.and_eq_true, decide_eq_true_eq] at h
    by_cases e : args = []
    · subst e
      exact ⟨p, by simp [flatT, flatTs], (kd_nil h.1).1 rfl⟩
    · obtain ⟨q, h1, h2⟩ := last_kds args h.2 e
      refine ⟨q, ?_, h2⟩
      have hp : 1 ≤ (flatTs args).length := by
        cases args with
        | nil => exact absurd rfl e
        | cons x xs => rw [flatTs, List.length_append]; have := flatT_pos x; omega
      rw [flatT, List.length_cons, show (flatTs args).length + 1 - 1 = ((flatTs args).length - 1) + 1 by omega, List.getElem?_cons_succ]
      exact h1
theorem last_kds : ∀ (xs : List (Tr Pa)), okTs folP xs = true → xs ≠ [] → ∃ p, (flatTs xs)[(flatTs xs).length - 1]? = some p ∧ (p.kind == 1) = false
  | [], _, h => absurd rfl h
  | x :: xs, h, _ => by
    simp only [okTs, Bool.and_eq_true] at h
    have hx := flatT_pos x
    by_cases e : xs = []
    · subst e
      obtain ⟨p, h1, h2⟩ := last_kd x h.1
      exact ⟨p, by simpa [flatTs] using h1, h2⟩
    · obtain ⟨q, h1, h2⟩ := last_kds xs h.2 e
      refine ⟨q, ?_, h2⟩
      have hl : (flatTs xs).length - 1 < (flatTs xs).length := (List.getElem?_eq_some_iff.1 h1).1
      rw [flatTs, List.length_append, List.getElem?_append_right (by omega), show (flatT x).length + (flatTs xs).length - 1 - (flatT x).length = (flatTs xs).length - 1 by omega]
      exact h1
end
mutual
/-- a part stands behind an action if the one before it is one. -/
theorem plT_snd : ∀ (x : Tr Pa) (s : Int) (b : Bool) (i : Nat) (p : Pa), okT folP x = true → (flatT x)[i]? = some p → i + 1 < (flatT x).length → ((plT x s b).map Prod.snd)[i + 1]? = some (p.kind == 1)
  | .mk q args, s, b, i, p, h, hp, hi => by
    simp only [okT, Bool.and_eq_true, decide_eq_true_eq] at h
    simp only [flatT, List.length_cons] at hi
    simp only [plT, List.map_cons, List.getElem?_cons_succ]
    cases i with
    | zero =>
      simp [flatT] at hp
      subst hp
      cases args with
      | nil => simp [flatTs] at hi
      | cons x xs =>
        rw [plTs, List.map_append, List.getElem?_append_left (by rw [List.length_map, plT_len]; exact flatT_pos x), List.getElem?_map, plT_head]; rfl
    | succ i =>
      simp only [flatT, List.getElem?_cons_succ] at hp
      exact plTs_snd args (s + if sumP q then 1 else 0) (q.kind == 1) i p h.2 (kd_nil h.1).2 hp (by omega)
theorem plTs_snd : ∀ (xs : List (Tr Pa)) (s : Int) (b : Bool) (i : Nat) (p : Pa), okTs folP xs = true → (b = true → xs.length ≤ 1) → (flatTs xs)[i]? = some p → i + 1 < (flatTs xs).length → ((plTs xs s b).map Prod.snd)[i + 1]? = some (p.kind == 1)
  | [], _, _, i, p, _, _, hp, _ => by simp [flatTs] at hp
  | x :: xs, s, b, i, p, h, hb, hp, hi => by
    simp only [okTs, Bool.and_eq_true] at h
    simp only [flatTs, List.length_append] at hi
    have hx := flatT_pos x
    rw [plTs, List.map_append]
    by_cases h1 : i + 1 < (flatT x).length
    · rw [List.getElem?_append_left (by rw [List.length_map, plT_len]; exact h1)]
      exact plT_snd x s b i p h.1 (by rw [flatTs, List.getElem?_append_left (by omega)] at hp; exact hp) h1
    · rw [List.getElem?_append_right (by rw [List.length_map, plT_len]; omega), List.length_map, plT_len]
      by_cases h2 : i + 1 = (flatT x).length
      · rw [h2, Nat.sub_self]
        obtain ⟨q, g1, g2⟩ := last_kd x h.1
        rw [flatTs, List.getElem?_append_left (by omega), show i = (flatT x).length - 1 by omega, g1] at hp
        cases hp
        rw [g2]
        cases xs with
        | nil => simp [flatTs] at hi; omega
        | cons y ys =>
          have hbf : b = false := by
            cases b with
            | false => rfl
            | true => have := hb rfl; simp at this
          rw [plTs, List.map_append, List.getElem?_append_left (by rw [List.length_map, plT_len]; exact flatT_pos y), List.getElem?_map, plT_head, hbf]; rfl
      · obtain ⟨j, rfl⟩ : ∃ j, i = (flatT x).length + j := ⟨i - (flatT x).length, by omega⟩
        rw [show (flatT x).length + j + 1 - (flatT x).length = j + 1 by omega]
        refine plTs_snd xs s b j p h.2 (fun e => by have := hb e; rw [List.length_cons] at this; omega) ?_ (by omega)
        rw [flatTs, List.getElem?_append_right (by omega), show (flatT x).length + j - (flatT x).length = j by omega] at hp
        exact hp
end
/-- the place of each part of a body. -/
theorem place_at {d : De} {x : Tr Pa} (hok : okT folP x = true) (hfl : flatT x = d.body) (i : Nat) (hi : i < d.body.length) :
    (plT x d.pars false)[i]? = some (d.pars + cntB folP sumP d.body i, behindP d.body i) := by
  have hl : (plT x d.pars false).length = d.body.length := by rw [plT_len, hfl]
  have h1 : ((plT x d.pars false).map Prod.fst)[i]? = some (d.pars + cntB folP sumP d.body i) := by
    rw [plT_fst]
    have := scT_cnt (ar := folP) (bind := sumP) x d.pars [] i hok (by rw [hfl]; exact hi)
    rw [List.append_nil, hfl] at this
    exact this
  have h2 : ((plT x d.pars false).map Prod.snd)[i]? = some (behindP d.body i) := by
    cases i with
    | zero => rw [List.getElem?_map, plT_head]; rfl
    | succ i =>
      have hp : (flatT x)[i]? = some d.body[i] := by rw [hfl]; exact List.getElem?_eq_getElem (by omega)
      rw [plT_snd x d.pars false i d.body[i] hok hp (by rw [hfl]; exact hi)]
      unfold behindP
      rw [decide_eq_true (by omega), Bool.true_and, Nat.add_sub_cancel, List.getD_eq_getElem?_getD, List.getElem?_map, List.getElem?_eq_getElem (show i < d.body.length by omega)]
      rfl
  rw [List.getElem?_map] at h1 h2
  rw [List.getElem?_eq_getElem (by omega)] at h1 h2 ⊢
  simp only [Option.map_some, Option.some.injEq] at h1 h2 ⊢
  exact Prod.ext h1 h2
theorem fill_in {β : Type} (row A B : List β) (k : Nat) (h : k + A.length + B.length ≤ row.length) :
    (row.take k ++ (A ++ row.drop (k + A.length))).take (k + A.length) ++ (B ++ (row.take k ++ (A ++ row.drop (k + A.length))).drop (k + A.length + B.length)) = row.take k ++ ((A ++ B) ++ row.drop (k + A.length + B.length)) := by
  have h1 : (row.take k).length = k := by rw [List.length_take]; omega
  have e : row.take k ++ (A ++ row.drop (k + A.length)) = (row.take k ++ A) ++ row.drop (k + A.length) := by simp
  have h2 : (row.take k ++ A).length = k + A.length := by rw [List.length_append, h1]
  rw [e, List.take_append_of_le_length (by omega), List.take_of_length_le (by omega), List.drop_append, List.drop_eq_nil_of_le (by omega), List.nil_append, h2, show k + A.length + B.length - (k + A.length) = B.length by omega, List.drop_drop]
  simp
/-- the shape's count never falls below what is still wanted of a part. -/
theorem endN_step {α : Type} (ar : α → Int) (m : Int) (t : α) (l : List α) (h : 0 < m) : endN ar m (t :: l) = 1 + endN ar (m + ar t - 1) l := by rw [endN, if_neg (by omega)]
theorem endN_done {α : Type} (ar : α → Int) (m : Int) (l : List α) (h : m ≤ 0) : endN ar m l = 0 := by
  cases l with
  | nil => rfl
  | cons t l => rw [endN, if_pos h]

theorem cntB_bd {α : Type} (ar : α → Int) (bind : α → Bool) : ∀ (l : List α) (i : Nat), 0 ≤ cntB ar bind l i ∧ cntB ar bind l i ≤ (l.length : Int)
  | [], i => by simp [cntB]
  | t :: l, 0 => by simp [cntB]; omega
  | t :: l, i + 1 => by
    obtain ⟨h1, h2⟩ := cntB_bd ar bind l i
    rw [cntB, List.length_cons]
    split <;> omega

end Go.Proofs.YtnchmnjkmhfleaaGreat

/-
  Which lists of definitions are valid, definition by definition: plain.
-/
namespace Go.Proofs.YtnchmnjkmhfleaaGreat
open Go.RowKit

/-- a definition of a list is as it must be. -/
def goodD (ds : List De) (k : Nat) (d : De) : Bool := nameF d.name && !((ds.take k).any fun o => o.name == d.name) && (faultP ds d).2 == 0
def sizeD (ds : List De) : Bool := (decide (1 ≤ ds.length) && decide (ds.length ≤ 4)) && (ds.all fun d => inB d.pars 0 3)
theorem goodD_dup {ds : List De} {k : Nat} (hk : k < ds.length) (h : ((ds.take k).any fun o => o.name == ds[k].name) = true) : ¬ (ds.map De.name).Nodup := by
  intro hn
  rw [List.any_eq_true] at h
  obtain ⟨o, ho, he⟩ := h
  obtain ⟨j, hj, rfl⟩ := List.mem_iff_getElem.1 ho
  simp only [List.length_take] at hj
  rw [List.getElem_take] at he
  have e : (ds.map De.name)[j]'(by simp; omega) = (ds.map De.name)[k]'(by simpa using hk) := by simpa using he
  rw [List.nodup_iff_pairwise_ne, List.pairwise_iff_getElem] at hn
  exact hn j k (by simp; omega) (by simpa using hk) (by omega) e
theorem goodD_nodup : ∀ {ds : List De}, (∀ k (hk : k < ds.length), ((ds.take k).any fun o => o.name == ds[k].name) = false) → (ds.map De.name).Nodup := by
  intro ds h
  rw [List.nodup_iff_pairwise_ne, List.pairwise_iff_getElem]
  intro i j hi hj hij
  simp only [List.length_map] at hi hj
  have := h j hj
  rw [List.any_eq_false] at this
  have h2 := this ds[i] (List.mem_iff_getElem.2 ⟨i, by simp; omega, by simp⟩)
  simpa using h2
theorem defsOk_no {ds : List De} {k : Nat} (hk : k < ds.length) (h : goodD ds k ds[k] = false) : defsOk ds = false := by
  cases hd : defsOk ds with
  | false => rfl
  | true =>
    exfalso
    unfold defsOk at hd
    simp only [Bool.and_eq_true, List.all_eq_true, decide_eq_true_eq, beq_iff_eq] at hd
    obtain ⟨⟨⟨⟨-, -⟩, h3⟩, h4⟩, h5⟩ := hd
    unfold goodD at h
    have hm : ds[k] ∈ ds := List.getElem_mem hk
    rw [h3 _ hm, h5 _ hm] at h
    simp only [Bool.true_and, BEq.rfl, Bool.and_true, Bool.not_eq_false'] at h
    exact goodD_dup hk h h4
theorem defsOk_yes {ds : List De} (h : ∀ j (hj : j < ds.length), goodD ds j ds[j] = true) : defsOk ds = sizeD ds := by
  have hg : ∀ j (hj : j < ds.length), nameF ds[j].name = true ∧ ((ds.take j).any fun o => o.name == ds[j].name) = false ∧ (faultP ds ds[j]).2 = 0 := fun j hj => by
    have := h j hj
    unfold goodD at this
    simp only [Bool.and_eq_true, Bool.not_eq_true', beq_iff_eq] at this
    exact ⟨this.1.1, this.1.2, this.2⟩
  have h1 : (ds.all fun d => nameF d.name) = true := List.all_eq_true.2 (fun d hd => by obtain ⟨j, hj, rfl⟩ := List.mem_iff_getElem.1 hd; exact (hg j hj).1)
  have h2 : (ds.all fun d => (faultP ds d).2 == 0) = true := List.all_eq_true.2 (fun d hd => by obtain ⟨j, hj, rfl⟩ := List.mem_iff_getElem.1 hd; simpa using (hg j hj).2.2)
  have h3 := goodD_nodup (fun k hk => (hg k hk).2.1)
  unfold defsOk sizeD
  rw [h1, h2, decide_eq_true h3]; simp
theorem defsOk_size {ds : List De} (h : sizeD ds = false) : defsOk ds = false := by
  unfold sizeD at h
  unfold defsOk
  rw [h]; rfl

end Go.Proofs.YtnchmnjkmhfleaaGreat

/-
  What is valid in a body, part by part, and how long its text is: plain.
-/
namespace Go.Proofs.YtnchmnjkmhfleaaGreat
open Go.RowKit

/-- a valid part. -/
structure PaFine (ds : List De) (p : Pa) : Prop where
  kind : 0 ≤ p.kind ∧ p.kind ≤ 5
  act : p.kind = 1 → p.name.length ≤ 10
  three : p.args.length ≤ 3
  one : p.kind = 3 → p.args.length = 1
  sum : p.kind = 4 → 1 ≤ p.num ∧ p.num ≤ 7
  call : p.kind = 5 → 0 ≤ p.num ∧ p.num < ds.length
  exps : ∀ e ∈ p.args, eOk e = true
theorem reason_fine {ds : List De} (hp : ∀ d ∈ ds, 0 ≤ d.pars ∧ d.pars ≤ 3) {p : Pa} {sc : Int} {b : Bool} (hs : sc ≤ 29) (h : reasonP ds p sc b = 0) : PaFine ds p := by
  unfold reasonP at h
  split at h
  · omega
  split at h
  · omega
  split at h
  · omega
  split at h
  · omega
  split at h
  · omega
  split at h
  · omega
  split at h
  · omega
  rename_i h1 h2 h3 h4 h5 h6 h7
  simp only [Bool.not_eq_true', Bool.not_eq_false] at h1 h4
  simp only [Bool.and_eq_true, Bool.or_eq_true, beq_iff_eq, Bool.not_eq_true', not_and, not_or, Bool.not_eq_false] at h2 h3
  have hk : 0 ≤ p.kind ∧ p.kind ≤ 5 := by
    unfold kindP at h1
    simp only [Bool.and_eq_true] at h1
    exact inB_true h1.1.1.1
  have hcall : p.kind = 5 → 0 ≤ p.num ∧ p.num < ds.length := fun e => by have := inB_true (h3.2 e); omega
  refine ⟨hk, fun e => ?_, ?_, fun e => ?_, fun e => inB_true (h3.1 e), hcall, fun e he => ?_⟩
  · have := h2 e
    unfold nameF at this
    simp only [Bool.and_eq_true, decide_eq_true_eq] at this
    exact this.1.1.2
  · unfold countP at h4
    split at h4
    · simp only [Bool.or_eq_true, Bool.and_eq_true, beq_iff_eq, decide_eq_true_eq] at h4
      omega
    split at h4
    · simp only [beq_iff_eq] at h4; omega
    split at h4
    · rename_i e5
      obtain ⟨n0, n1⟩ := hcall e5
      obtain ⟨j, hj⟩ : ∃ j : Nat, p.num = j := ⟨p.num.toNat, by omega⟩
      have hjl : j < ds.length := by omega
      rw [hj, Int.toNat_natCast, List.getD_eq_getElem?_getD, List.getElem?_map, List.getElem?_eq_getElem hjl] at h4
      simp only [Option.map_some, Option.getD_some, beq_iff_eq] at h4
      have := hp ds[j] (List.getElem_mem hjl)
      omega
    · unfold kindP at h1
      simp only [Bool.and_eq_true, Bool.or_eq_true, beq_iff_eq] at h1
      omega
  · unfold countP at h4
    rw [if_neg (by omega), if_pos e] at h4
    simpa using h4
  · have := h7
    rw [Bool.not_eq_true, List.any_eq_false] at this
    have := this e he
    exact eOk15 (by simpa using this) hs
theorem from_none {ds : List De} {d : De} {body : List Pa} : ∀ (l : List Pa) (i : Nat), (faultFrom ds d body i l).2 = 0 → ∀ j (hj : j < l.length), reasonP ds l[j] (d.pars + cntB folP sumP body (i + j)) (behindP body (i + j)) = 0
  | [], _, _, j, hj => by simp at hj
  | p :: l, i, h, j, hj => by
    rw [faultFrom] at h
    split at h
    · rename_i h0
      cases j with
      | zero => simpa using h0
      | succ j =>
        have := from_none l (i + 1) h j (by simpa using hj)
        rw [show i + 1 + j = i + (j + 1) by omega] at this
        simpa using this
    · rename_i h0
      exact absurd h h0
theorem defs_fine {ds : List De} (h : defsOk ds = true) : ds.length ≤ 4 ∧ 1 ≤ ds.length ∧ (∀ d ∈ ds, 0 ≤ d.pars ∧ d.pars ≤ 3) ∧ (∀ d ∈ ds, d.name.length ≤ 10) ∧ ∀ d ∈ ds, bodyOk d = true ∧ d.body.length ≤ 20 ∧ ∀ p ∈ d.body, PaFine ds p := by
  unfold defsOk at h
  simp only [Bool.and_eq_true, List.all_eq_true, decide_eq_true_eq, beq_iff_eq] at h
  obtain ⟨⟨⟨⟨⟨h1, h2⟩, h3⟩, h4⟩, -⟩, h6⟩ := h
  have hp : ∀ d ∈ ds, 0 ≤ d.pars ∧ d.pars ≤ 3 := fun d hd => inB_true (h3 d hd)
  refine ⟨h2, h1, hp, fun d hd => ?_, fun d hd => ?_⟩
  · have := h4 d hd
    unfold nameF at this
    simp only [Bool.and_eq_true, decide_eq_true_eq] at this
    exact this.1.1.2
  · have hf := h6 d hd
    unfold faultP at hf
    by_cases hb : bodyOk d = true
    · rw [if_pos hb] at hf
      have hl : d.body.length ≤ 20 := by
        have := hb
        unfold bodyOk at this
        simp only [Bool.and_eq_true, decide_eq_true_eq] at this
        exact this.1.2
      refine ⟨hb, hl, fun p hm => ?_⟩
      obtain ⟨j, hj, rfl⟩ := List.mem_iff_getElem.1 hm
      have hz := from_none d.body 0 hf j hj
      rw [Nat.zero_add] at hz
      have hc := cntB_bd folP sumP d.body j
      have := (hp d hd)
      exact reason_fine hp (by omega) hz
    · rw [if_neg hb] at hf
      simp at hf
end Go.Proofs.YtnchmnjkmhfleaaGreat

/-
  What is known of a valid system, plainly.
-/
namespace Go.Proofs.YtnchmnjkmhfleaaGreat
open Go.RowKit

theorem act_len {l : List UInt8} (h : actF l = true) : l.length ≤ 10 := by
  unfold actF nameF at h; simp only [Bool.and_eq_true, decide_eq_true_eq] at h; omega
theorem names_fine {l : List (List UInt8)} (h : namesF l = true) : l.length ≤ 12 ∧ ∀ p ∈ l, p.length ≤ 10 := by
  unfold namesF at h
  simp only [Bool.and_eq_true, decide_eq_true_eq, List.all_eq_true] at h
  refine ⟨h.2, fun p hp => ?_⟩
  obtain ⟨j, hj, rfl⟩ := List.mem_iff_getElem.1 hp
  have := h.1 j (by simpa using hj)
  unfold goodAt at this
  simp only [Bool.and_eq_true] at this
  have h1 := act_len this.1
  rwa [List.getD_eq_getElem?_getD, List.getElem?_eq_getElem hj, Option.getD_some] at h1
theorem meets_fine {l : List Me} (h : meetsF l = true) : l.length ≤ 6 ∧ ∀ m ∈ l, m.left.length ≤ 10 ∧ m.right.length ≤ 10 ∧ m.result.length ≤ 10 := by
  unfold meetsF at h
  simp only [Bool.and_eq_true, decide_eq_true_eq, List.all_eq_true] at h
  refine ⟨h.2, fun p hp => ?_⟩
  obtain ⟨j, hj, rfl⟩ := List.mem_iff_getElem.1 hp
  have := h.1 j (by simpa using hj)
  rw [List.getD_eq_getElem?_getD, List.getElem?_eq_getElem hj, Option.getD_some] at this
  unfold goodM at this
  simp only [Bool.and_eq_true] at this
  exact ⟨act_len this.1.1.1.1.1, act_len this.1.1.1.1.2, act_len this.1.1.1.2⟩
theorem comps_fine {ds : List De} {l : List Co} (h : compsOk ds l = true) : (1 ≤ l.length ∧ l.length ≤ 3) ∧ ∀ c ∈ l, (0 ≤ c.dfn ∧ c.dfn < ds.length) ∧ ((c.vals.length : Int) = (ds.map De.pars).getD c.dfn.toNat 0) ∧ ∀ x ∈ c.vals, 0 ≤ x ∧ x ≤ 63 := by
  unfold compsOk at h
  simp only [Bool.and_eq_true, List.all_eq_true] at h
  obtain ⟨h1, h2⟩ := h
  have h1 := inB_true h1
  refine ⟨by omega, fun c hc => ?_⟩
  have := h2 c hc
  unfold compOk at this
  simp only [Bool.and_eq_true, List.all_eq_true, beq_iff_eq] at this
  have h3 := inB_true this.1.1
  exact ⟨by omega, this.1.2, fun x hx => inB_true (this.2 x hx)⟩
/-- what is known of a valid system. -/
structure SyGd (s : Sy) : Prop where
  defs : defsOk s.defs = true
  dl : s.defs.length ≤ 4
  cl : 1 ≤ s.comps.length ∧ s.comps.length ≤ 3
  comp : ∀ c ∈ s.comps, ∃ j : Nat, c.dfn = j ∧ j < s.defs.length ∧ c.vals.length ≤ 3 ∧ ∀ x ∈ c.vals, 0 ≤ x ∧ x ≤ 99
  nam : ∀ d ∈ s.defs, d.name.length ≤ 10
  meets : s.meets.length ≤ 6 ∧ ∀ m ∈ s.meets, m.left.length ≤ 10 ∧ m.right.length ≤ 10 ∧ m.result.length ≤ 10
  allow : s.allow.length ≤ 12 ∧ ∀ p ∈ s.allow, p.length ≤ 10
  hide : s.hide.length ≤ 12 ∧ ∀ p ∈ s.hide, p.length ≤ 10
theorem SyGd.of {s : Sy} (h : sysOk s = true) : SyGd s := by
  unfold sysOk at h
  simp only [Bool.and_eq_true] at h
  obtain ⟨⟨⟨⟨h1, h2⟩, h3⟩, h4⟩, h5⟩ := h
  obtain ⟨d1, d2, d3, d4, d5⟩ := defs_fine h1
  obtain ⟨c1, c2⟩ := comps_fine h2
  refine ⟨h1, d1, c1, fun c hc => ?_, d4, meets_fine h3, names_fine h4, names_fine h5⟩
  obtain ⟨e1, e2, e3⟩ := c2 c hc
  have hj : c.dfn.toNat < s.defs.length := by omega
  refine ⟨c.dfn.toNat, by omega, hj, ?_, fun x hx => ?_⟩
  · rw [List.getD_eq_getElem?_getD, List.getElem?_map, List.getElem?_eq_getElem hj] at e2
    have := d3 _ (List.getElem_mem hj)
    simp only [Option.map_some, Option.getD_some] at e2
    omega
  · have := e3 x hx; omega

end Go.Proofs.YtnchmnjkmhfleaaGreat
