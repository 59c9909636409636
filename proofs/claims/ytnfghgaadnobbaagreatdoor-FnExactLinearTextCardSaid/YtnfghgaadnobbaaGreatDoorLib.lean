/-
  Readings of slices with footprints, their frame rules, and worlds that differ in new blocks and given old blocks alone: a library for the walks, over any program.
-/
import Derived.WalkKit
import Derived.WalkSpells
import Derived.WalkLawsBesides
import Derived.WalkSmall
import Derived.Lib.Hide
namespace Go.Proofs.YtnfghgaadnobbaaGreatDoor
open Go.RowKit

/-- w' is w with new blocks, and with writes to the old blocks of f alone. -/
structure Upd (f : List Nat) (w w' : World) : Prop where
  os : w'.os = w.os
  tape : w'.tape = w.tape
  output : w'.output = w.output
  size : w.heap.size ≤ w'.heap.size
  block : ∀ k, k < w.heap.size → k ∉ f → w'.heap[k]? = w.heap[k]?

namespace Upd
variable {f g : List Nat} {w w1 w2 : World}
theorem refl (f : List Nat) (w : World) : Upd f w w := ⟨rfl, rfl, rfl, Nat.le_refl _, fun _ _ _ => rfl⟩
theorem trans (h : Upd f w w1) (k : Upd f w1 w2) : Upd f w w2 :=
  ⟨k.os.trans h.os, k.tape.trans h.tape, k.output.trans h.output, Nat.le_trans h.size k.size,
   fun i hi hf => (k.block i (Nat.lt_of_lt_of_le hi h.size) hf).trans (h.block i hi hf)⟩
theorem mono (h : Upd f w w1) (hs : ∀ b ∈ f, b ∈ g) : Upd g w w1 :=
  ⟨h.os, h.tape, h.output, h.size, fun k hk hf => h.block k hk (fun hm => hf (hs k hm))⟩
/-- what is written is new since w. -/
theorem fresh (h : Upd g w w1) (k : Upd f w1 w2) (hf : ∀ b ∈ f, w.heap.size ≤ b ∨ b ∈ g) : Upd g w w2 :=
  ⟨k.os.trans h.os, k.tape.trans h.tape, k.output.trans h.output, Nat.le_trans h.size k.size,
   fun i hi hg => (k.block i (Nat.lt_of_lt_of_le hi h.size) (fun hm => by rcases hf i hm with h' | h'; · omega
                                                                          · exact hg h')).trans (h.block i hi hg)⟩
theorem drew (h : Upd f w w1) : Upd f w w1.drew := ⟨h.os, h.tape, h.output, h.size, h.block⟩
theorem drewN (h : Upd f w w1) (n : Nat) : Upd f w (w1.drewN n) := by
  have e : (w1.drewN n).heap = w1.heap := by simp
  refine ⟨?_, ?_, ?_, ?_, ?_⟩
  · exact h.os
  · exact h.tape
  · exact h.output
  · exact h.size
  · exact h.block
theorem alloc (h : Upd f w w1) (o : Obj) : Upd f w (w1.alloc o) :=
  h.trans ⟨rfl, rfl, rfl, by simp, fun k hk _ => Below.heap_alloc _ _ _ (by omega)⟩
theorem setCell (h : Upd f w w1) {p : Addr} (hp : w.heap.size ≤ p.block ∨ p.block ∈ f) (u : Value) : Upd f w (w1.setCell p u) :=
  h.fresh (f := [p.block]) ⟨rfl, rfl, rfl, by simp [World.setCell], fun k hk hf => Below.heap_setCell _ _ _ _ (by simpa using hf)⟩ (by simpa using hp)
theorem grown {row : Option Nat} (h : Upd f w w1) (hg : w1.grownBy w2 row) (hr : ∀ k, row = some k → w.heap.size ≤ k ∨ k ∈ f) : Upd f w w2 :=
  h.fresh (f := row.toList) ⟨hg.os, hg.tape, hg.output, hg.size, fun k hk hf => hg.block k hk (fun e => hf (by simp [← e]))⟩
    (fun b hb => hr b (by simpa using hb))
theorem below (h : Upd [] w w1) : Below w.heap.size w w1 := ⟨h.os, h.tape, h.output, h.size, fun k hk => h.block k hk (by simp)⟩
theorem ofBelow (h : Below w.heap.size w w1) : Upd [] w w1 := ⟨h.os, h.tape, h.output, h.size, fun k hk _ => h.block k hk⟩
end Upd

/-- v is a slice of k elements of n cells each; its cells, one behind the other, are cs; the block that it lies in is fp. -/
def Flat (fp : List Nat) (w : World) (v : Value) (n k : Nat) (cs : List Value) : Prop :=
  ∃ a cap, v = .slice a k cap ∧ k ≤ cap ∧ cap ≤ maxLen ∧ cs.length = k * n ∧
    ((k = 0 ∧ fp = []) ∨ ∃ b off, a = some ⟨b, off, none⟩ ∧ fp = [b] ∧ b < w.heap.size ∧ ∀ j u, cs[j]? = some u → w.cell? ⟨b, off + j, none⟩ = some u)

theorem Flat.lt {fp : List Nat} {w : World} {v : Value} {n k : Nat} {cs : List Value} (h : Flat fp w v n k cs) : ∀ b ∈ fp, b < w.heap.size := by
  obtain ⟨a, cap, -, -, -, -, ⟨-, rfl⟩ | ⟨b, off, -, rfl, hb, -⟩⟩ := h <;> simp_all

theorem Flat.frame {fp : List Nat} {w w' : World} {v : Value} {n k : Nat} {cs : List Value} (h : Flat fp w v n k cs)
    (hs : w.heap.size ≤ w'.heap.size) (hb : ∀ b ∈ fp, w'.heap[b]? = w.heap[b]?) : Flat fp w' v n k cs := by
  obtain ⟨a, cap, rfl, h1, h2, h3, h4⟩ := h
  refine ⟨a, cap, rfl, h1, h2, h3, ?_⟩
  rcases h4 with h4 | ⟨b, off, rfl, rfl, hbl, hc⟩
  · exact Or.inl h4
  · exact Or.inr ⟨b, off, rfl, rfl, by omega, fun j u hu => by
      rw [World.cell?_of_block (w := w) (hb b (by simp))]; exact hc j u hu⟩

theorem Flat.upd {fp f : List Nat} {w w' : World} {v : Value} {n k : Nat} {cs : List Value} (h : Flat fp w v n k cs)
    (hu : Upd f w w') (hd : ∀ b ∈ fp, b ∉ f) : Flat fp w' v n k cs :=
  h.frame hu.size fun b hb => hu.block b (h.lt b hb) (hd b hb)

theorem Flat.at0 {fp : List Nat} {w : World} {a : Option Addr} {cap n k : Nat} {cs : List Value} (h : Flat fp w (.slice a k cap) n k cs) (hk : 0 < k) :
    ∃ b off, a = some ⟨b, off, none⟩ ∧ fp = [b] ∧ ∀ j u, cs[j]? = some u → w.cell? ⟨b, off + j, none⟩ = some u := by
  obtain ⟨a', cap', hv, -, -, -, h4⟩ := h
  cases hv
  rcases h4 with ⟨rfl, -⟩ | ⟨b, off, rfl, rfl, -, hc⟩
  · omega
  · exact ⟨b, off, rfl, rfl, hc⟩

/-- The blocks of fp are different rows of cells, none of which is frozen. -/
def Own (fp : List Nat) (w : World) : Prop := fp.Nodup ∧ ∀ b ∈ fp, ∃ c t, w.heap[b]? = some (.cells c t (0, 0))

theorem Own.nil (w : World) : Own [] w := ⟨List.nodup_nil, by simp⟩
theorem Own.frame {fp : List Nat} {w w' : World} (h : Own fp w) (hb : ∀ b ∈ fp, w'.heap[b]? = w.heap[b]?) : Own fp w' :=
  ⟨h.1, fun b hm => by rw [hb b hm]; exact h.2 b hm⟩
theorem Own.lt {fp : List Nat} {w : World} (h : Own fp w) : ∀ b ∈ fp, b < w.heap.size := fun b hb => by
  obtain ⟨c, t, hc⟩ := h.2 b hb; exact (Array.getElem?_eq_some_iff.1 hc).1
theorem Own.upd {fp f : List Nat} {w w' : World} (h : Own fp w) (hu : Upd f w w') (hd : ∀ b ∈ fp, b ∉ f) : Own fp w' :=
  h.frame fun b hb => hu.block b (h.lt b hb) (hd b hb)
theorem Own.frozen {fp : List Nat} {w : World} (h : Own fp w) {b : Nat} (hb : b ∈ fp) (o : Nat) : w.frozen? ⟨b, o, none⟩ = false := by
  obtain ⟨c, t, hc⟩ := h.2 b hb; simp [World.frozen?, hc]
theorem Own.setCell {fp : List Nat} {w : World} (h : Own fp w) (p : Addr) (u : Value) : Own fp (w.setCell p u) :=
  ⟨h.1, fun b hb => by
    obtain ⟨c, t, hc⟩ := h.2 b hb
    by_cases e : b = p.block
    · subst e; refine ⟨if p.spot.isSome then c else c.setIfInBounds p.off u, t, ?_⟩; simp [World.setCell, Array.getElem?_modify, hc]
    · exact ⟨c, t, by rw [Below.heap_setCell _ _ _ _ e]; exact hc⟩⟩

/-- A store into a flat slice that is owned. -/
theorem Flat.set {fp : List Nat} {w : World} {b off cap n k : Nat} {cs : List Value} (h : Flat fp w (.slice (some ⟨b, off, none⟩) k cap) n k cs)
    {j : Nat} (hj : j < k * n) (u : Value) : Flat fp (w.setCell ⟨b, off + j, none⟩ u) (.slice (some ⟨b, off, none⟩) k cap) n k (cs.set j u) := by
  obtain ⟨a, cap', hv, h1, h2, h3, h4⟩ := h
  simp only [Value.slice.injEq, true_and] at hv
  obtain ⟨rfl, rfl⟩ := hv
  refine ⟨_, _, rfl, h1, h2, by simpa using h3, ?_⟩
  rcases h4 with ⟨rfl, rfl⟩ | ⟨b', off', hb', rfl, hbl, hc⟩
  · simp at hj
  · simp only [Option.some.injEq, Addr.mk.injEq, and_true] at hb'
    obtain ⟨rfl, rfl⟩ := hb'
    refine Or.inr ⟨b, off, rfl, rfl, by simpa [World.setCell] using hbl, fun i x hx => ?_⟩
    rw [List.getElem?_set] at hx
    by_cases hij : j = i
    · subst hij
      rw [if_pos rfl, if_pos (by omega)] at hx
      cases hx
      exact World.cell?_setCell_same _ _ _ (hc j cs[j] (by simp))
    · rw [if_neg hij] at hx
      rw [World.cell?_setCell_other _ _ _ _ (by simp)]
      exact hc i x hx

theorem Flat.ofOwns {w : World} {base : Nat} {e : TypeId} {size : Nat} {v : Value} {n : Nat} {xs : List Value} (h : w.ownsRow base e size v n xs) :
    ∃ fp, Flat fp w v size n xs ∧ Own fp w ∧ (∀ b ∈ fp, base ≤ b) ∧ (∀ b ∈ fp, v.ownBlock = some b) := by
  obtain ⟨hl, ⟨rfl, rfl⟩ | ⟨g, cap, cur, rfl, hg, hh, hn, hm, hc, ht⟩⟩ := h
  · exact ⟨[], ⟨none, 0, rfl, Nat.le_refl _, by simp [maxLen], hl, Or.inl ⟨rfl, rfl⟩⟩, Own.nil _, by simp, by simp⟩
  · refine ⟨[g], ⟨_, cap, rfl, hn, hm, hl, Or.inr ⟨g, 0, rfl, rfl, (Array.getElem?_eq_some_iff.1 hh).1, fun j u hu => ?_⟩⟩, ⟨by simp, by simpa using ⟨cur, e, hh⟩⟩, by simpa using hg, by simp [Value.ownBlock]⟩
    have hj : j < n * size := by rw [← hl]; exact (List.getElem?_eq_some_iff.1 hu).1
    rw [← ht, List.getElem?_take, if_pos hj] at hu
    simpa [World.cell?, hh] using hu

/-- A reading: its footprint, the world, the cells, what they read as. -/
abbrev Rp (α : Type) := List Nat → World → List Value → α → Prop

/-- A slice whose elements hold no memory: enc gives an element's n cells. -/
def slF {α : Type} (n : Nat) (enc : α → List Value) : Rp (List α) := fun fp w cs xs => ∃ v, cs = [v] ∧ Flat fp w v n xs.length (xs.flatMap enc)

/-- A slice whose elements are one cell each, and hold memory of their own. -/
def slP {α : Type} (R : Rp α) : Rp (List α) := fun fp w cs xs =>
  ∃ v us fb fps, cs = [v] ∧ Flat fb w v 1 xs.length us ∧ List.length fps = xs.length ∧ fp = fb ++ List.flatten fps ∧
    ∀ i (h : i < xs.length) u (f : List Nat), us[i]? = some u → fps[i]? = some f → R f w [u] xs[i]

/-- What holds of a reading: it is kept where its blocks are. -/
structure Kept {α : Type} (R : Rp α) : Prop where
  lt : ∀ {fp w cs x}, R fp w cs x → ∀ b ∈ fp, b < w.heap.size
  frame : ∀ {fp w w' cs x}, R fp w cs x → w.heap.size ≤ w'.heap.size → (∀ b ∈ fp, w'.heap[b]? = w.heap[b]?) → R fp w' cs x

theorem Kept.upd {α : Type} {R : Rp α} (K : Kept R) {fp f w w' cs x} (h : R fp w cs x) (hu : Upd f w w') (hd : ∀ b ∈ fp, b ∉ f) : R fp w' cs x :=
  K.frame h hu.size fun b hb => hu.block b (K.lt h b hb) (hd b hb)

theorem slF_kept {α : Type} (n : Nat) (enc : α → List Value) : Kept (slF n enc) :=
  ⟨fun ⟨_, _, h⟩ => h.lt, fun ⟨v, e, h⟩ hs hb => ⟨v, e, h.frame hs hb⟩⟩

theorem slP_kept {α : Type} {R : Rp α} (K : Kept R) : Kept (slP R) := by
  constructor
  · rintro fp w cs x ⟨v, us, fb, fps, rfl, hf, hl, rfl, hr⟩ b hb
    rcases List.mem_append.1 hb with hb | hb
    · exact hf.lt b hb
    · obtain ⟨f, hfm, hbf⟩ := List.mem_flatten.1 hb
      obtain ⟨i, hi, rfl⟩ := List.mem_iff_getElem.1 hfm
      have hus : us.length = x.length := by obtain ⟨_, _, _, _, _, h3, _⟩ := hf; simpa using h3
      exact K.lt (hr i (by omega) us[i] fps[i] (by simp) (by simp)) b hbf
  · rintro fp w w' cs x ⟨v, us, fb, fps, rfl, hf, hl, rfl, hr⟩ hs hb
    refine ⟨v, us, fb, fps, rfl, hf.frame hs (fun b h => hb b (by simp [h])), hl, rfl, fun i h u f hu hf' => ?_⟩
    refine K.frame (hr i h u f hu hf') hs fun b hbf => hb b ?_
    exact List.mem_append_right _ (List.mem_flatten.2 ⟨f, List.mem_of_getElem? hf', hbf⟩)

theorem flatMap_single {α β : Type} (f : α → β) (xs : List α) : xs.flatMap (fun x => [f x]) = xs.map f := by
  induction xs with
  | nil => rfl
  | cons a l ih => rw [List.flatMap_cons, ih]; rfl

/-- an element of a slice whose elements are one cell each and hold no memory. -/
theorem slF1_open {α : Type} {enc : α → Value} {fp : List Nat} {w : World} {v : Value} {xs : List α} (h : slF 1 (fun x => [enc x]) fp w [v] xs) :
    ∃ a cap, v = .slice a xs.length cap ∧ xs.length ≤ cap ∧ cap ≤ maxLen ∧
      ∀ i (h : i < xs.length), ∃ b off, a = some ⟨b, off, none⟩ ∧ fp = [b] ∧ b < w.heap.size ∧ w.cell? ⟨b, off + i, none⟩ = some (enc xs[i]) := by
  obtain ⟨v', hv, a, cap, rfl, h1, h2, h3, h4⟩ := h
  cases hv
  refine ⟨a, cap, rfl, h1, h2, fun i hi => ?_⟩
  rcases h4 with ⟨h0, -⟩ | ⟨b, off, rfl, rfl, hbl, hc⟩
  · omega
  · refine ⟨b, off, rfl, rfl, hbl, hc i _ ?_⟩
    rw [flatMap_single]; simp [hi]

/-- What a call makes anew reads so, and is its own. -/
def New {α : Type} (R : Rp α) (w w' : World) (v : Value) (x : α) : Prop :=
  ∃ fp, R fp w' [v] x ∧ Own fp w' ∧ ∀ b ∈ fp, w.heap.size ≤ b

theorem New.ofOwns {α : Type} {enc : α → Value} {w w' : World} {e : TypeId} {v : Value} {xs : List α}
    (h : w'.ownsRow w.heap.size e 1 v xs.length (xs.map enc)) : New (slF 1 (fun x => [enc x])) w w' v xs := by
  obtain ⟨fp, h1, h2, h3, -⟩ := Flat.ofOwns h
  exact ⟨fp, ⟨v, rfl, by rw [flatMap_single]; exact h1⟩, h2, h3⟩

theorem set_fill {α β : Type} (f : α → β) (z : β) (xs : List α) (k : Nat) (hk : k < xs.length) :
    ((xs.take k).map f ++ List.replicate (xs.length - k) z).set k (f xs[k]) = (xs.take (k + 1)).map f ++ List.replicate (xs.length - (k + 1)) z := by
  have hl : ((xs.take k).map f).length = k := by simp; omega
  rw [List.set_append_right _ _ (by omega), hl, Nat.sub_self, show xs.length - k = (xs.length - (k + 1)) + 1 from by omega, List.replicate_succ, List.set_cons_zero,
    List.take_succ_eq_append_getElem hk, List.map_append]
  simp

theorem fill_zero {α β : Type} (f : α → β) (z : β) (xs : List α) : List.replicate xs.length z = (xs.take 0).map f ++ List.replicate (xs.length - 0) z := by simp

theorem fill_at {α β : Type} (f : α → β) (z : β) (xs : List α) (k : Nat) (hk : k < xs.length) :
    ((xs.take k).map f ++ List.replicate (xs.length - k) z)[k]? = some z := by
  have hl : ((xs.take k).map f).length = k := by simp; omega
  rw [List.getElem?_append_right (by omega), hl, Nat.sub_self, List.getElem?_replicate, if_pos (by omega)]

theorem made_one (z : Value) (hz : z.cells = #[z]) (n : Nat) : (madeCells z.cells (n * 1)).toList = List.replicate n z := by
  rw [hz, Nat.mul_one, toList_madeCells_one]

/-- the numbers from k on, n of them. -/
def upFrom (k : Int) : Nat → List Int
  | 0 => []
  | n + 1 => k :: upFrom (k + 1) n

@[simp] theorem upFrom_length (k : Int) (n : Nat) : (upFrom k n).length = n := by
  induction n generalizing k with
  | zero => rfl
  | succ n ih => simp [upFrom, ih]

theorem upFrom_get (k : Int) (n i : Nat) (h : i < n) : (upFrom k n)[i]? = some (k + i) := by
  induction n generalizing k i with
  | zero => omega
  | succ n ih =>
    cases i with
    | zero => simp [upFrom]
    | succ i => simp only [upFrom, List.getElem?_cons_succ]; rw [ih _ _ (by omega)]; congr 1; omega

theorem upFrom_snoc (k : Int) (n : Nat) : upFrom k (n + 1) = upFrom k n ++ [k + n] := by
  induction n generalizing k with
  | zero => simp [upFrom]
  | succ n ih => rw [upFrom, ih, upFrom, List.cons_append, show k + 1 + (n : Int) = k + ((n + 1 : Nat) : Int) from by omega]

theorem up_set (xs : List Int) (k0 : Int) (k : Nat) (hk : k < xs.length) :
    (upFrom k0 k ++ xs.drop k).set k (k0 + k) = upFrom k0 (k + 1) ++ xs.drop (k + 1) := by
  rw [List.set_append_right _ _ (by simp), upFrom_length, Nat.sub_self, List.drop_eq_getElem_cons hk, List.set_cons_zero, upFrom_snoc]
  simp

theorem drop_step {α : Type} [BEq α] (xs ys : List α) (k : Nat) (h1 : k < xs.length) (h2 : k < ys.length) :
    (xs.drop k == ys.drop k) = (xs[k] == ys[k] && (xs.drop (k + 1) == ys.drop (k + 1))) := by
  rw [List.drop_eq_getElem_cons h1, List.drop_eq_getElem_cons h2]; rfl

theorem drewN_add (w : World) (a b : Nat) : (w.drewN a).drewN b = w.drewN (a + b) := by
  simp [World.drewN, Nat.add_assoc]

theorem Kept.drewN {α : Type} {R : Rp α} (K : Kept R) {fp w cs x} (h : R fp w cs x) (n : Nat) : R fp (w.drewN n) cs x :=
  K.frame h (Nat.le_refl _) (fun _ _ => rfl)

theorem Kept.new {α : Type} {R : Rp α} (K : Kept R) {w w1 w2 : World} {v : Value} {x : α} {f : List Nat} (h : New R w w1 v x) (hu : Upd f w1 w2) (hf : ∀ b ∈ f, b < w.heap.size) : New R w w2 v x := by
  obtain ⟨fp, h1, h2, h3⟩ := h
  have hd : ∀ b ∈ fp, b ∉ f := fun b hb hm => by have := hf b hm; have := h3 b hb; omega
  exact ⟨fp, K.upd h1 hu hd, h2.upd hu hd, h3⟩

theorem slP_open {α : Type} {R : Rp α} {fp : List Nat} {w : World} {v : Value} {xs : List α} (h : slP R fp w [v] xs) :
    ∃ a cap, v = .slice a xs.length cap ∧ xs.length ≤ cap ∧ cap ≤ maxLen ∧
      ∀ i (h : i < xs.length), ∃ b off u f, a = some ⟨b, off, none⟩ ∧ b ∈ fp ∧ b < w.heap.size ∧ w.cell? ⟨b, off + i, none⟩ = some u ∧ (∀ c ∈ f, c ∈ fp) ∧ R f w [u] xs[i] := by
  obtain ⟨v', us, fb, fps, hv, ⟨a, cap, rfl, h1, h2, h3, h4⟩, hl, rfl, hr⟩ := h
  cases hv
  refine ⟨a, cap, rfl, h1, h2, fun i hi => ?_⟩
  rcases h4 with ⟨h0, -⟩ | ⟨b, off, rfl, rfl, hbl, hc⟩
  · omega
  · have hu : us[i]? = some us[i] := by simp
    have hf : fps[i]? = some fps[i] := by simp
    exact ⟨b, off, us[i], fps[i], rfl, by simp, hbl, hc i _ hu, fun c hc => List.mem_append_right _ (List.mem_flatten.2 ⟨_, List.mem_of_getElem? hf, hc⟩), hr i hi _ _ hu hf⟩

theorem nodup_flatten' {α : Type} (L : List (List α)) : L.flatten.Nodup ↔ (∀ l ∈ L, l.Nodup) ∧ L.Pairwise (fun a b => ∀ x ∈ a, ∀ y ∈ b, x ≠ y) :=
  List.pairwise_flatten

/-- One element of a slice that is owned is written: the others stay. -/
theorem slP_set {α : Type} {R : Rp α} (K : Kept R) {fp : List Nat} {w : World} {v : Value} {xs : List α} (h : slP R fp w [v] xs) (hO : Own fp w) (i : Nat) (hi : i < xs.length) :
    ∃ a cap b off u f, v = .slice a xs.length cap ∧ xs.length ≤ cap ∧ cap ≤ maxLen ∧ a = some ⟨b, off, none⟩ ∧ b ∈ fp ∧ b < w.heap.size ∧ w.cell? ⟨b, off + i, none⟩ = some u ∧ (∀ c ∈ f, c ∈ fp) ∧ R f w [u] xs[i] ∧ Own f w ∧
      ∀ w' y, Upd f w w' → R f w' [u] y → Own f w' → slP R fp w' [v] (xs.set i y) ∧ Own fp w' := by
  obtain ⟨v', us, fb, fps, hv, hF, hl, rfl, hr⟩ := h
  cases hv
  have hF' := hF
  obtain ⟨a, cap, rfl, h1, h2, h3, h4⟩ := hF
  rcases h4 with ⟨h0, -⟩ | ⟨b, off, rfl, rfl, hbl, hc⟩
  · omega
  · have hu : us[i]? = some us[i] := by simp
    have hf : fps[i]? = some fps[i] := by simp
    obtain ⟨hnd, hrow⟩ := hO
    have hnd' := hnd
    rw [List.nodup_append] at hnd'
    obtain ⟨-, hnf, hdis⟩ := hnd'
    have hsub : ∀ c ∈ fps[i], c ∈ [b] ++ fps.flatten := fun c hc => List.mem_append_right _ (List.mem_flatten.2 ⟨_, List.mem_of_getElem? hf, hc⟩)
    refine ⟨_, cap, b, off, us[i], fps[i], rfl, h1, h2, rfl, by simp, hbl, hc i _ hu, hsub, hr i hi _ _ hu hf, ⟨?_, fun c hc => hrow c (hsub c hc)⟩, ?_⟩
    · rw [nodup_flatten'] at hnf; exact hnf.1 _ (List.mem_of_getElem? hf)
    · intro w' y hU hR' hO'
      have hother : ∀ j g, fps[j]? = some g → j ≠ i → ∀ c ∈ g, c ∉ fps[i] := by
        intro j g hg hji c hcg hci
        rw [nodup_flatten'] at hnf
        have hp := List.pairwise_iff_getElem.1 hnf.2
        obtain ⟨hjl, rfl⟩ := List.getElem?_eq_some_iff.1 hg
        rcases Nat.lt_or_gt_of_ne hji with h | h
        · exact hp j i hjl (by omega) h _ hcg _ hci rfl
        · exact hp i j (by omega) hjl h _ hci _ hcg rfl
      have hbn : b ∉ fps[i] := fun hm => hdis b (by simp) b (List.mem_flatten.2 ⟨_, List.mem_of_getElem? hf, hm⟩) rfl
      refine ⟨⟨_, us, [b], fps, rfl, ?_, by simpa using hl, rfl, ?_⟩, ⟨hnd, ?_⟩⟩
      · rw [List.length_set]; exact hF'.upd hU (by simpa using hbn)
      · intro j hj u g hu' hg
        by_cases hji : j = i
        · subst hji
          rw [hu] at hu'; rw [hf] at hg; cases hu'; cases hg
          simpa using hR'
        · rw [List.getElem_set_ne (by omega)]
          exact K.upd (hr j (by simpa using hj) u g hu' hg) hU (hother j g hg hji)
      · intro c hc
        by_cases hci : c ∈ fps[i]
        · exact hO'.2 c hci
        · rw [hU.block c (by obtain ⟨_, _, hh⟩ := hrow c hc; exact (Array.getElem?_eq_some_iff.1 hh).1) hci]
          exact hrow c hc

/-- Elements of one cell each, with memory of their own, from block base on and apart from the blocks ob. -/
def Rows {α : Type} (R : Rp α) (base : Nat) (ob : List Nat) (w : World) (us : List Value) (xs : List α) : Prop :=
  ∃ fps : List (List Nat), fps.length = xs.length ∧ us.length = xs.length ∧ Own fps.flatten w ∧ (∀ b ∈ fps.flatten, base ≤ b ∧ b ∉ ob) ∧
    ∀ i (h : i < xs.length) u (f : List Nat), us[i]? = some u → fps[i]? = some f → R f w [u] xs[i]

namespace Rows
variable {α : Type} {R : Rp α} {base : Nat} {ob : List Nat} {w w1 : World} {us : List Value} {xs : List α}

theorem nil (R : Rp α) (base : Nat) (ob : List Nat) (w : World) : Rows R base ob w [] [] := ⟨[], rfl, rfl, Own.nil w, by simp, by simp⟩

theorem length (h : Rows R base ob w us xs) : us.length = xs.length := by obtain ⟨_, _, h, _⟩ := h; exact h

theorem upd (K : Kept R) (h : Rows R base ob w us xs) {f : List Nat} (hu : Upd f w w1) (hf : ∀ b ∈ f, b ∈ ob ∨ b < base) : Rows R base ob w1 us xs := by
  obtain ⟨fps, h1, h2, h3, h4, h5⟩ := h
  have hd : ∀ b ∈ fps.flatten, b ∉ f := fun b hb hm => by
    rcases hf b hm with h | h
    · exact (h4 b hb).2 h
    · have := (h4 b hb).1; omega
  refine ⟨fps, h1, h2, h3.upd hu hd, h4, fun i hi u f' hu' hf' => K.upd (h5 i hi u f' hu' hf') hu fun b hb => hd b (List.mem_flatten.2 ⟨_, List.mem_of_getElem? hf', hb⟩)⟩

theorem ob' (h : Rows R base ob w us xs) {ob2 : List Nat} (hb : ∀ b ∈ ob2, b ∈ ob ∨ b < base ∨ w.heap.size ≤ b) : Rows R base ob2 w us xs := by
  obtain ⟨fps, h1, h2, h3, h4, h5⟩ := h
  refine ⟨fps, h1, h2, h3, fun b hb' => ⟨(h4 b hb').1, fun hm => ?_⟩, h5⟩
  rcases hb b hm with h | h | h
  · exact (h4 b hb').2 h
  · have := (h4 b hb').1; omega
  · have := h3.lt b hb'; omega

theorem push (K : Kept R) (h : Rows R base ob w us xs) {u : Value} {x : α} (hu : Upd [] w w1) (hn : New R w w1 u x) (hb : base ≤ w.heap.size) (hob : ∀ b ∈ ob, b < w.heap.size) :
    Rows R base ob w1 (us ++ [u]) (xs ++ [x]) := by
  obtain ⟨fps, h1, h2, h3, h4, h5⟩ := h.upd K hu (by simp)
  obtain ⟨fps', h1', h2', h3', h4', h5'⟩ := h
  obtain ⟨fp, g1, g2, g3⟩ := hn
  have hlt : ∀ b ∈ fps'.flatten, b < w.heap.size := h3'.lt
  refine ⟨fps' ++ [fp], by simp [h1'], by simp [h2], ⟨?_, ?_⟩, ?_, ?_⟩
  · rw [List.flatten_append, List.nodup_append]
    refine ⟨h3'.1, by simpa using g2.1, fun a ha b hb' e => ?_⟩
    subst e
    have := hlt a ha
    have := g3 a (by simpa using hb')
    omega
  · intro b hb'
    rw [List.flatten_append] at hb'
    rcases List.mem_append.1 hb' with hb' | hb'
    · exact (h3'.upd hu (by simp)).2 b hb'
    · exact g2.2 b (by simpa using hb')
  · intro b hb'
    rw [List.flatten_append] at hb'
    rcases List.mem_append.1 hb' with hb' | hb'
    · exact h4' b hb'
    · have := g3 b (by simpa using hb')
      exact ⟨by omega, fun hm => by have := hob b hm; omega⟩
  · intro i hi u' f' hu' hf'
    by_cases e : i < xs.length
    · rw [List.getElem?_append_left (by omega)] at hu' hf'
      rw [List.getElem_append_left e]
      exact K.upd (h5' i e u' f' hu' hf') hu (by simp)
    · have ei : i = xs.length := by simp at hi; omega
      subst ei
      rw [List.getElem?_append_right (by omega)] at hu' hf'
      rw [h2, Nat.sub_self] at hu'
      rw [h1', Nat.sub_self] at hf'
      simp at hu' hf'
      subst hu' hf'
      simpa using g1

theorem new (h : Rows R base ob w us xs) {w0 : World} {e : TypeId} {v : Value} (ho : w.ownsRow w0.heap.size e 1 v xs.length us) (hob : ∀ b, v.ownBlock = some b → b ∈ ob) (hb : w0.heap.size ≤ base) :
    New (slP R) w0 w v xs := by
  obtain ⟨fps, h1, h2, h3, h4, h5⟩ := h
  obtain ⟨fb, g1, g2, g3, g4⟩ := Flat.ofOwns ho
  refine ⟨fb ++ fps.flatten, ⟨v, us, fb, fps, rfl, g1, h1, rfl, h5⟩, ⟨?_, ?_⟩, ?_⟩
  · rw [List.nodup_append]
    refine ⟨g2.1, h3.1, fun a ha b hb' e => ?_⟩
    subst e
    exact (h4 a hb').2 (hob a (g4 a ha))
  · intro b hb'
    rcases List.mem_append.1 hb' with hb' | hb'
    · exact g2.2 b hb'
    · exact h3.2 b hb'
  · intro b hb'
    rcases List.mem_append.1 hb' with hb' | hb'
    · exact g3 b hb'
    · have := (h4 b hb').1; omega
end Rows

section
variable {P : Program} (w : World)

/-- append, with where the result lies: where it was, or in a new block. -/
theorem run_append_tight (base : Nat) (t ty e : TypeId) (i : TypeInfo) (z : Value) (size bytes : Nat) (ht : P.underlying t = some (.slice e)) (hi : P.info? e = some i) (hz : i.zero = some z)
    (hsize : i.size = size) (hby : i.bytes = bytes) (hzs : z.cells.size = size) (hsz : 0 < size)
    (v : Value) (n : Nat) (xs : List Value) (hown : w.ownsRow base e size v n xs)
    (a : Addr) (m c : Nat) (news : List Value) (hl : news.length = m * size) (hnews : ∀ j u, news[j]? = some u → w.cell? (a.add j) = some u) (h1 : ∀ u ∈ news, u.oneCell' = true)
    (h63 : n + m ≤ maxLen) (hbytes : (n + m) * bytes ≤ 140737488355328) (hbase : base ≤ w.heap.size) :
    ∃ v' w', (Builtin.append_ #[t, t] ty #[v, .slice (some a) m c]).run P w = .ok v' w' ∧ w'.ownsRow base e size v' (n + m) (xs ++ news) ∧ w.grownBy w' v.ownBlock ∧
      (∀ b, v'.ownBlock = some b → v.ownBlock = some b ∨ w.heap.size ≤ b) := by
  obtain ⟨v', w', hr, h2, h3, -⟩ := run_append_own (P := P) w base t ty e i z size bytes ht hi hz hsize hby hzs hsz v n xs hown a m c news hl hnews h1 h63 hbytes hbase
  refine ⟨v', w', hr, h2, h3, fun b hb => ?_⟩
  subst hsize
  subst hby
  have hsmall : n + m ≤ 9223372036854775807 := by simp only [maxLen] at h63; omega
  rcases hown.2 with ⟨rfl, rfl⟩ | ⟨g, cap, cur, rfl, hbg, hg, hnc, hcm, hcs, htake⟩
  · have hx : xs = [] := List.eq_nil_of_length_eq_zero (by simpa using hown.1)
    subst hx
    obtain ⟨v2, w2, hr2, h22, -, -⟩ := run_append_own (P := P) w w.heap.size t ty e i z _ _ ht hi hz rfl rfl hzs hsz _ 0 [] (World.ownsRow_nil w _ e i.size) a m c news hl hnews h1 h63 hbytes (Nat.le_refl _)
    rw [hr] at hr2
    cases hr2
    rcases h22.2 with ⟨rfl, -⟩ | ⟨g, cap, cur, rfl, hbg, -⟩
    · simp [Value.ownBlock] at hb
    · simp [Value.ownBlock] at hb; omega
  · by_cases hroom : n + m ≤ cap
    · have hfit : n * i.size + news.length ≤ cur.size := by rw [hl, hcs, ← Nat.add_mul]; exact Nat.mul_le_mul_right _ hroom
      have hr2 := run_append_room (P := P) w t ty e i ht hi g n cap cur hg a m c news hl hnews h1 hroom hfit
      rw [hr] at hr2
      cases hr2
      exact Or.inl hb
    · have holds : ∀ j u, xs[j]? = some u → w.cell? ((⟨g, 0, none⟩ : Addr).add j) = some u := hown.cells (g := g) rfl
      have hr2 := run_append_grow (P := P) w t ty e i z ht hi hz ⟨g, 0, none⟩ n cap xs hown.1 holds a m c news hl hnews (by omega) (by omega) (growslice_fits (by omega) hbytes)
      rw [hr] at hr2
      cases hr2
      simp [Value.ownBlock] at hb; omega

theorem wpList_append_tight {ops : Array Oper} {rest : List Oper} {o : Oper} {a : Act} {Q : Exit → Act → World → Prop} (hgd : o.guard = none) (s x : Operand) (t : TypeId)
    (ho : o.op = .call { callee := .builtin .append, args := #[s, x], argTypes := #[t, t] })
    (base : Nat) (e : TypeId) (i : TypeInfo) (z : Value) (size bytes : Nat) (ht : P.underlying t = some (.slice e)) (hi : P.info? e = some i) (hz : i.zero = some z)
    (hsize : i.size = size) (hby : i.bytes = bytes) (hzs : z.cells.size = size) (hsz : 0 < size)
    (v : Value) (n : Nat) (xs : List Value) (hs : a.eval s = v) (hown : w.ownsRow base e size v n xs)
    (ad : Addr) (m c : Nat) (news : List Value) (hx : a.eval x = .slice (some ad) m c) (hl : news.length = m * size) (hnews : ∀ j u, news[j]? = some u → w.cell? (ad.add j) = some u) (h1 : ∀ u ∈ news, u.oneCell' = true)
    (h63 : n + m ≤ maxLen) (hbytes : (n + m) * bytes ≤ 140737488355328) (hbase : base ≤ w.heap.size)
    (h : ∀ v' w', w'.ownsRow base e size v' (n + m) (xs ++ news) → w.grownBy w' v.ownBlock → (∀ b, v'.ownBlock = some b → v.ownBlock = some b ∨ w.heap.size ≤ b) → wpList P ops Q rest (a.put o.dst v') w') : wpList P ops Q (o :: rest) a w := by
  refine wpList_plain hgd fun _ hK => ?_
  obtain ⟨v', w', hr, h2, h3, h4⟩ := run_append_tight (P := P) w base t o.type e i z size bytes ht hi hz hsize hby hzs hsz v n xs hown ad m c news hl hnews h1 h63 hbytes hbase
  unfold Oper.wp execOp
  simp only [ho, resolve, invoke, builtin, Sem.run_bind, Sem.run_pure, Result.andThen_ok, List.map_toArray, List.map_cons, List.map_nil, hs, hx, hr]
  exact hK _ _ (h v' w' h2 h3 h4)
end

theorem New.form {α : Type} {enc : α → List Value} {n : Nat} {w w' : World} {v : Value} {x : List α} (h : New (slF n enc) w w' v x) : ∃ a cap, v = .slice a x.length cap := by
  obtain ⟨fp, ⟨v', hv, a, cap, rfl, -⟩, -⟩ := h
  cases hv; exact ⟨_, _, rfl⟩
theorem New.formP {α : Type} {R : Rp α} {w w' : World} {v : Value} {x : List α} (h : New (slP R) w w' v x) : ∃ a cap, v = .slice a x.length cap := by
  obtain ⟨fp, ⟨v', us, fb, fps, hv, ⟨a, cap, rfl, -⟩, -⟩, -⟩ := h
  cases hv; exact ⟨_, _, rfl⟩

/-- A slice of one-cell elements with memory of their own that a call collects by append: e is the element's type. -/
def Acc {α : Type} (R : Rp α) (w0 : World) (e : TypeId) (w : World) (v : Value) (xs : List α) : Prop :=
  ∃ us, w.ownsRow w0.heap.size e 1 v xs.length us ∧ Rows R w0.heap.size v.ownBlock.toList w us xs

namespace Acc
variable {α : Type} {R : Rp α} {w0 w w1 w2 : World} {e : TypeId} {v : Value} {xs : List α}

theorem nil (R : Rp α) (w0 : World) (e : TypeId) (w : World) : Acc R w0 e w (.slice none 0 0) [] := ⟨[], World.ownsRow_nil _ _ _ _, Rows.nil _ _ _ _⟩

theorem upd (K : Kept R) (h : Acc R w0 e w v xs) (hu : Upd [] w w1) : Acc R w0 e w1 v xs := by
  obtain ⟨us, h1, h2⟩ := h
  exact ⟨us, h1.kept (row := none) ⟨hu.os, hu.tape, hu.output, hu.size, fun k hk _ => hu.block k hk (by simp)⟩ (by cases v.ownBlock <;> simp), h2.upd K hu (by simp)⟩

theorem new (h : Acc R w0 e w v xs) : New (slP R) w0 w v xs := by
  obtain ⟨us, h1, h2⟩ := h
  exact h2.new h1 (fun b hb => by simp [hb]) (Nat.le_refl _)

/-- Behind an append of one element u, made between w and w1, boxed in a new block: what the append's law leaves. -/
theorem push (K : Kept R) {us : List Value} (hown : w.ownsRow w0.heap.size e 1 v xs.length us) (hrows : Rows R w0.heap.size v.ownBlock.toList w us xs) (hs : w0.heap.size ≤ w.heap.size) {u : Value} {x : α} (hu : Upd [] w w1) (hn : New R w w1 u x) (o : Obj) {v2 : Value}
    (h2 : w2.ownsRow w0.heap.size e 1 v2 (xs.length + 1) (us ++ [u])) (hg : (w1.alloc o).grownBy w2 v.ownBlock)
    (ht : ∀ b, v2.ownBlock = some b → v.ownBlock = some b ∨ (w1.alloc o).heap.size ≤ b) : Acc R w0 e w2 v2 (xs ++ [x]) := by
  refine ⟨us ++ [u], by simpa using h2, ?_⟩
  have hob : ∀ b ∈ v.ownBlock.toList, b < w.heap.size := fun b hb => (hown.lt b (by simpa using hb)).2
  have hr1 := hrows.push K hu hn hs hob
  have hu2 : Upd [] w1 (w1.alloc o) := (Upd.refl _ _).alloc o
  have hr2 := hr1.upd K hu2 (by simp)
  have hu3 : Upd v.ownBlock.toList (w1.alloc o) w2 := (Upd.refl _ _).grown hg (fun k hk => Or.inr (by simp [hk]))
  have hr3 := Rows.ob' hr2 (ob2 := v.ownBlock.toList ++ v2.ownBlock.toList) (by
    intro b hb
    rcases List.mem_append.1 hb with hb | hb
    · exact Or.inl hb
    · rcases ht b (by simpa using hb) with h | h
      · exact Or.inl (by simp [h])
      · exact Or.inr (Or.inr h))
  have hr4 := hr3.upd K hu3 (fun b hb => Or.inl (List.mem_append_left _ hb))
  exact hr4.ob' (fun b hb => Or.inl (List.mem_append_right _ hb))
end Acc

theorem new_lit {α : Type} {enc : α → Value} (w : World) (e : TypeId) (xs : List α) (hl : xs.length ≤ maxLen) :
    New (slF 1 (fun x => [enc x])) w (w.alloc (.cells (xs.map enc).toArray e)) (.slice (some ⟨w.heap.size, 0, none⟩) xs.length xs.length) xs :=
  New.ofOwns (e := e) (by simpa using World.ownsRow_lit (base := w.heap.size) (e := e) (size := 1) w (xs.map enc).toArray xs.length (Nat.le_refl _) hl (by simp))

/-- One cell of a row of a matrix is read, or written where the matrix is owned. -/
theorem mat_cell {α : Type} {enc : α → Value} {fp : List Nat} {w : World} {v : Value} {M : List (List α)} (h : slP (slF 1 (fun x => [enc x])) fp w [v] M) (i j : Nat) (hi : i < M.length) (hj : j < M[i].length) :
    ∃ cap b off b2 o2 c2, v = .slice (some ⟨b, off, none⟩) M.length cap ∧ M.length ≤ cap ∧ cap ≤ maxLen ∧ b < w.heap.size ∧ w.cell? ⟨b, off + i, none⟩ = some (.slice (some ⟨b2, o2, none⟩) M[i].length c2) ∧ M[i].length ≤ c2 ∧ c2 ≤ maxLen ∧ b2 < w.heap.size ∧
      w.cell? ⟨b2, o2 + j, none⟩ = some (enc M[i][j]) ∧ b2 ∈ fp ∧
      (Own fp w → w.frozen? ⟨b2, o2 + j, none⟩ = false ∧ ∀ x, slP (slF 1 (fun x => [enc x])) fp (w.setCell ⟨b2, o2 + j, none⟩ (enc x)) [v] (M.set i (M[i].set j x)) ∧ Own fp (w.setCell ⟨b2, o2 + j, none⟩ (enc x))) := by
  have K : Kept (slF 1 (fun x : α => [enc x])) := slF_kept _ _
  obtain ⟨a, cap, rfl, h1, h2, hc⟩ := slP_open h
  obtain ⟨b, off, u, f, rfl, hb, hbl, hcell, hsub, hr⟩ := hc i hi
  obtain ⟨a2, c2, rfl, g1, g2, g3⟩ := slF1_open hr
  obtain ⟨b2, o2, rfl, rfl, hb2, hc2⟩ := g3 j hj
  refine ⟨cap, b, off, b2, o2, c2, rfl, h1, h2, hbl, hcell, g1, g2, hb2, hc2, hsub _ (by simp), fun hO => ⟨hO.frozen (hsub _ (by simp)) _, fun x => ?_⟩⟩
  obtain ⟨a', cap', b', off', u', f', hv, -, -, rfl, hb', hbl', hcell', hsub', hr', hof, hput⟩ := slP_set K h hO i hi
  simp only [Value.slice.injEq, Option.some.injEq, Addr.mk.injEq] at hv
  obtain ⟨⟨rfl, rfl, -⟩, -, rfl⟩ := hv
  rw [hcell] at hcell'
  cases hcell'
  obtain ⟨v', hv', hF⟩ := hr'
  cases hv'
  have hf' : f' = [b2] := by
    obtain ⟨_, _, hv, _, _, _, ⟨h0, _⟩ | ⟨b3, o3, hb3, hf3, _⟩⟩ := hF
    · omega
    · cases hv; cases hb3; exact hf3
  subst hf'
  refine hput _ _ ((Upd.refl _ _).setCell (by simp) _) ⟨_, rfl, ?_⟩ (hof.setCell _ _)
  have := hF.set (j := j) (by omega) (enc x)
  rw [flatMap_single] at this ⊢
  rw [← List.map_set] at this
  simpa using this

/-- A row that is filled element by element: what a store of a new element at place k leaves. The last four are for the world behind the store. -/
theorem fill_push {α : Type} {R : Rp α} (K : Kept R) {w0 wr w2 : World} {B n k base : Nat} {e : TypeId} {z u : Value} {us : List Value} {xs : List α} {x : α} (hU : Upd [] w0 wr) (hsz : B < wr.heap.size) (hB : w0.heap.size ≤ B) (hb : base ≤ B)
    (hown : wr.ownsRow base e 1 (.slice (some ⟨B, 0, none⟩) n n) n (us ++ List.replicate (n - k) z)) (hrows : Rows R base [B] wr us xs) (hx : xs.length = k) (hk : k < n) (hu2 : Upd [] wr w2) (hn : New R wr w2 u x) :
    w2.cell? ⟨B, k, none⟩ = some z ∧ w2.frozen? ⟨B, k, none⟩ = false ∧ Hid ((w2.setCell ⟨B, k, none⟩ u).ownsRow base e 1 (.slice (some ⟨B, 0, none⟩) n n) n ((us ++ [u]) ++ List.replicate (n - (k + 1)) z) ∧
      Rows R base [B] (w2.setCell ⟨B, k, none⟩ u) (us ++ [u]) (xs ++ [x]) ∧ Upd [] w0 (w2.setCell ⟨B, k, none⟩ u) ∧ B < (w2.setCell ⟨B, k, none⟩ u).heap.size) := by
  have hlu : us.length = k := by rw [hrows.length, hx]
  have hown2 := hown.kept (row := none) ⟨hu2.os, hu2.tape, hu2.output, hu2.size, fun k hk _ => hu2.block k hk (by simp)⟩ (by cases hv : Value.ownBlock (.slice (some ⟨B, 0, none⟩) n n) <;> simp)
  have hst := (hown2.stored k u).1
  rw [List.set_append_right _ _ (by omega), hlu, Nat.sub_self, show n - k = (n - (k + 1)) + 1 from by omega, List.replicate_succ, List.set_cons_zero,
    show us ++ u :: List.replicate (n - (k + 1)) z = (us ++ [u]) ++ List.replicate (n - (k + 1)) z from by simp] at hst
  refine ⟨?_, hown2.frozenAt k, hst, ?_, (hU.trans hu2).setCell (Or.inl hB) _, ?_⟩
  · rw [hown2.cellAt k (by omega), List.getElem?_append_right (by omega), hlu, Nat.sub_self, List.getElem?_replicate, if_pos (by omega)]
  · exact (hrows.push K hu2 hn (by omega) (by simpa using hsz)).upd K (f := [B]) ((Upd.refl _ _).setCell (by simp) _) (by simp)
  · have := hu2.size
    simp [World.setCell]; omega

theorem New.nilF {α : Type} (n : Nat) (enc : α → List Value) (w w' : World) : New (slF n enc) w w' (.slice none 0 0) [] :=
  ⟨[], ⟨_, rfl, none, 0, rfl, Nat.le_refl _, by simp [maxLen], by simp, Or.inl ⟨rfl, rfl⟩⟩, Own.nil _, by simp⟩
theorem New.nilP {α : Type} (R : Rp α) (w w' : World) : New (slP R) w w' (.slice none 0 0) [] :=
  ⟨[], ⟨_, [], [], [], rfl, ⟨none, 0, rfl, Nat.le_refl _, by simp [maxLen], by simp, Or.inl ⟨rfl, rfl⟩⟩, rfl, rfl, by simp⟩, Own.nil _, by simp⟩

theorem Kept.drew {α : Type} {R : Rp α} (K : Kept R) {fp w cs x} (h : R fp w cs x) : R fp w.drew cs x := K.frame h (Nat.le_refl _) (fun _ _ => rfl)
theorem Own.drew {fp : List Nat} {w : World} (h : Own fp w) : Own fp w.drew := h

/-- One element of an owned slice of one-cell elements is read, or written. -/
theorem slF1_cell {α : Type} {enc : α → Value} {fp : List Nat} {w : World} {v : Value} {xs : List α} (h : slF 1 (fun x => [enc x]) fp w [v] xs) (j : Nat) (hj : j < xs.length) :
    ∃ b off cap, v = .slice (some ⟨b, off, none⟩) xs.length cap ∧ xs.length ≤ cap ∧ cap ≤ maxLen ∧ fp = [b] ∧ b < w.heap.size ∧ w.cell? ⟨b, off + j, none⟩ = some (enc xs[j]) ∧
      ∀ x, slF 1 (fun x => [enc x]) fp (w.setCell ⟨b, off + j, none⟩ (enc x)) [v] (xs.set j x) := by
  obtain ⟨a, cap, rfl, h1, h2, hc⟩ := slF1_open h
  obtain ⟨b, off, rfl, rfl, hb, hcell⟩ := hc j hj
  refine ⟨b, off, cap, rfl, h1, h2, rfl, hb, hcell, fun x => ⟨_, rfl, ?_⟩⟩
  obtain ⟨v', hv, hF⟩ := h
  cases hv
  have := hF.set (j := j) (by omega) (enc x)
  rw [flatMap_single] at this ⊢
  rw [← List.map_set] at this
  simpa using this

theorem Acc.lit0 {α : Type} (R : Rp α) (w0 : World) (e : TypeId) (w : World) (h : w0.heap.size ≤ w.heap.size) : Acc R w0 e (w.alloc (.cells #[] e)) (.slice (some ⟨w.heap.size, 0, none⟩) 0 0) [] :=
  ⟨[], by simpa using World.ownsRow_lit (base := w0.heap.size) (e := e) (size := 1) w #[] 0 h (by simp [maxLen]) (by simp), Rows.nil _ _ _ _⟩

theorem flatMap_two_get {α : Type} (e1 e2 : α → Value) (xs : List α) (i : Nat) (h : i < xs.length) :
    (xs.flatMap fun x => [e1 x, e2 x])[i * 2]? = some (e1 xs[i]) ∧ (xs.flatMap fun x => [e1 x, e2 x])[i * 2 + 1]? = some (e2 xs[i]) := by
  induction xs generalizing i with
  | nil => simp at h
  | cons x xs ih =>
    cases i with
    | zero => simp
    | succ i =>
      have h' : i < xs.length := by simpa using h
      obtain ⟨h1, h2⟩ := ih i h'
      rw [show (i + 1) * 2 = i * 2 + 1 + 1 from by omega]
      simp only [List.flatMap_cons, List.cons_append, List.nil_append, List.getElem?_cons_succ, List.getElem_cons_succ]
      exact ⟨h1, h2⟩
theorem flatMap_two_length {α : Type} (e1 e2 : α → Value) (xs : List α) : (xs.flatMap fun x => [e1 x, e2 x]).length = xs.length * 2 := by
  induction xs with
  | nil => rfl
  | cons x xs ih => rw [List.flatMap_cons, List.length_append, ih, List.length_cons]; simp only [List.length_cons, List.length_nil]; omega
theorem flatMap_two_set {α : Type} (e1 e2 : α → Value) (xs : List α) (i : Nat) (h : i < xs.length) (y : α) :
    ((xs.flatMap fun x => [e1 x, e2 x]).set (i * 2) (e1 y)).set (i * 2 + 1) (e2 y) = (xs.set i y).flatMap fun x => [e1 x, e2 x] := by
  induction xs generalizing i with
  | nil => simp at h
  | cons x xs ih =>
    cases i with
    | zero => simp
    | succ i =>
      have h' : i < xs.length := by simpa using h
      rw [show (i + 1) * 2 = i * 2 + 1 + 1 from by omega]
      simp only [List.flatMap_cons, List.cons_append, List.nil_append, List.set_cons_succ, ih i h']

/-- an element of a slice of elements of two cells. -/
theorem slF2_open {α : Type} {e1 e2 : α → Value} {fp : List Nat} {w : World} {v : Value} {xs : List α} (h : slF 2 (fun x => [e1 x, e2 x]) fp w [v] xs) :
    ∃ a cap, v = .slice a xs.length cap ∧ xs.length ≤ cap ∧ cap ≤ maxLen ∧
      ∀ i (h : i < xs.length), ∃ b off, a = some ⟨b, off, none⟩ ∧ fp = [b] ∧ b < w.heap.size ∧ w.cell? ⟨b, off + i * 2, none⟩ = some (e1 xs[i]) ∧ w.cell? ⟨b, off + i * 2 + 1, none⟩ = some (e2 xs[i]) := by
  obtain ⟨v', hv, a, cap, rfl, h1, h2, h3, h4⟩ := h
  cases hv
  refine ⟨a, cap, rfl, h1, h2, fun i hi => ?_⟩
  rcases h4 with ⟨h0, -⟩ | ⟨b, off, rfl, rfl, hbl, hc⟩
  · omega
  · obtain ⟨g1, g2⟩ := flatMap_two_get e1 e2 xs i hi
    exact ⟨b, off, rfl, rfl, hbl, hc _ _ g1, by have := hc _ _ g2; rwa [← Nat.add_assoc] at this⟩

/-- both cells of an element are written. -/
theorem slF2_set {α : Type} {e1 e2 : α → Value} {fp : List Nat} {w : World} {b off cap : Nat} {xs : List α} (h : slF 2 (fun x => [e1 x, e2 x]) fp w [.slice (some ⟨b, off, none⟩) xs.length cap] xs) (i : Nat) (hi : i < xs.length) (y : α) :
    slF 2 (fun x => [e1 x, e2 x]) fp ((w.setCell ⟨b, off + i * 2, none⟩ (e1 y)).setCell ⟨b, off + i * 2 + 1, none⟩ (e2 y)) [.slice (some ⟨b, off, none⟩) xs.length cap] (xs.set i y) := by
  obtain ⟨v', hv, hF⟩ := h
  cases hv
  have h1 := hF.set (j := i * 2) (by omega) (e1 y)
  have h2 := h1.set (j := i * 2 + 1) (by omega) (e2 y)
  rw [flatMap_two_set _ _ _ _ hi, ← Nat.add_assoc] at h2
  exact ⟨_, rfl, by simpa using h2⟩

theorem New.ofOwns2 {α : Type} {e1 e2 : α → Value} {w w' : World} {e : TypeId} {v : Value} {xs : List α}
    (h : w'.ownsRow w.heap.size e 2 v xs.length (xs.flatMap fun x => [e1 x, e2 x])) : New (slF 2 (fun x => [e1 x, e2 x])) w w' v xs := by
  obtain ⟨fp, h1, h2, h3, -⟩ := Flat.ofOwns h
  exact ⟨fp, ⟨v, rfl, h1⟩, h2, h3⟩

theorem Upd.keep {w w1 : World} {p : Addr} {v : Value} (hu : Upd [] w w1) (h : w.cell? p = some v) : w1.cell? p = some v :=
  (hu.below.cell (World.block_lt_of_cell? w p h)).trans h

theorem made_two (z0 z1 : Value) (n : Nat) : (madeCells (Value.agg #[z0, z1]).cells (n * 2)).toList = (List.replicate n ()).flatMap fun _ => [z0, z1] := by
  apply List.ext_getElem?
  intro i
  by_cases hi : i < n * 2
  · have h2 : i / 2 < (List.replicate n ()).length := by simp; omega
    obtain ⟨g1, g2⟩ := flatMap_two_get (fun _ : Unit => z0) (fun _ : Unit => z1) (List.replicate n ()) (i / 2) h2
    rcases Nat.mod_two_eq_zero_or_one i with h | h
    · have e : i / 2 * 2 = i := by omega
      rw [e] at g1
      rw [g1]
      simp [madeCells, hi, Value.cells, h]
    · have e : i / 2 * 2 + 1 = i := by omega
      rw [e] at g2
      rw [g2]
      simp [madeCells, hi, Value.cells, h]
  · rw [List.getElem?_eq_none (by simp [madeCells]; omega), List.getElem?_eq_none (by rw [flatMap_two_length (fun _ : Unit => z0) (fun _ => z1)]; simp; omega)]

theorem Acc.other {α : Type} {R : Rp α} (K : Kept R) {w0 w w1 : World} {e : TypeId} {v : Value} {xs : List α} (h : Acc R w0 e w v xs) {b : Nat} (hu : Upd [b] w w1) (hb : b < w0.heap.size) : Acc R w0 e w1 v xs := by
  obtain ⟨us, h1, h2⟩ := h
  refine ⟨us, h1.kept (row := some b) ⟨hu.os, hu.tape, hu.output, hu.size, fun k hk hne => hu.block k hk (by simpa using hne)⟩ ?_, h2.upd K hu (by simp; omega)⟩
  cases hv : v.ownBlock with
  | none => exact Or.inl rfl
  | some g =>
    right
    have := (h1.lt g hv).1
    intro e; cases e; omega

theorem ownsRow_form {w : World} {base : Nat} {e : TypeId} {size : Nat} {v : Value} {n : Nat} {xs : List Value} (h : w.ownsRow base e size v n xs) : ∃ a c, v = .slice a n c := by
  rcases h.2 with ⟨rfl, rfl⟩ | ⟨g, cap, cur, rfl, -⟩
  · exact ⟨_, _, rfl⟩
  · exact ⟨_, _, rfl⟩

theorem ownsRow_upd {w w1 : World} {base : Nat} {e : TypeId} {size : Nat} {v : Value} {n : Nat} {xs : List Value} (h : w.ownsRow base e size v n xs) (hu : Upd [] w w1) : w1.ownsRow base e size v n xs :=
  h.kept (row := none) ⟨hu.os, hu.tape, hu.output, hu.size, fun k hk _ => hu.block k hk (by simp)⟩ (by cases v.ownBlock <;> simp)

theorem New.mono {α : Type} {R : Rp α} {w0 w w' : World} {v : Value} {x : α} (h : New R w w' v x) (hs : w0.heap.size ≤ w.heap.size) : New R w0 w' v x := by
  obtain ⟨fp, h1, h2, h3⟩ := h
  exact ⟨fp, h1, h2, fun b hb => Nat.le_trans hs (h3 b hb)⟩

end Go.Proofs.YtnfghgaadnobbaaGreatDoor
