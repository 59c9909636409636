/-
  A row of cells known whole; elements of several cells collected by append.
-/
import Derived.Test.YtnfghgaadnobbaaGreatDoorLib4
import Derived.Deep.AppendLies
import Derived.Deep.RegionLaw
namespace Go.Proofs.YtnfghgaadnobbaaGreatDoor
open Go.RowKit

/-- block T holds these cells, and none is frozen. -/
def RowAt (W : World) (T : Nat) (ty : TypeId) (cs : List Value) : Prop := W.heap[T]? = some (.cells cs.toArray ty (0, 0))
namespace RowAt
variable {W W' : World} {T : Nat} {ty : TypeId} {cs : List Value}
theorem new (W : World) (ty : TypeId) (cs : List Value) : RowAt (W.alloc (.cells cs.toArray ty)) W.heap.size ty cs := heap_alloc_new W _
theorem lt (h : RowAt W T ty cs) : T < W.heap.size := (Array.getElem?_eq_some_iff.1 h).1
theorem upd (h : RowAt W T ty cs) {f : List Nat} (hu : Upd f W W') (hT : T ∉ f) : RowAt W' T ty cs := by
  unfold RowAt; rw [hu.block T h.lt hT]; exact h
theorem cell (h : RowAt W T ty cs) (j : Nat) (c : Value) (hc : cs[j]? = some c) : W.cell? ⟨T, j, none⟩ = some c := by unfold RowAt at h; simp [World.cell?, h, hc]
theorem fz (h : RowAt W T ty cs) (j : Nat) : W.frozen? ⟨T, j, none⟩ = false := by unfold RowAt at h; simp [World.frozen?, h]
theorem store (h : RowAt W T ty cs) (j : Nat) (v : Value) : RowAt (W.setCell ⟨T, j, none⟩ v) T ty (cs.set j v) := by
  unfold RowAt at h ⊢; simp [World.setCell, Array.getElem?_modify, h]
theorem other (h : RowAt W T ty cs) (g j : Nat) (v : Value) (hg : g ≠ T) : RowAt (W.setCell ⟨g, j, none⟩ v) T ty cs := by
  unfold RowAt at h ⊢; rw [Below.heap_setCell _ _ _ _ (by simpa using fun e => hg e.symm)]; exact h
theorem row (h : RowAt W T ty cs) (ds : List Value) : RowAt (W.setRow T ds.toArray) T ty ds := setRow_heap W T _ _ _ _ h
theorem own (h : RowAt W T ty cs) : Own [T] W := ⟨by simp, by intro b hb; obtain rfl : b = T := (by simpa using hb); exact ⟨_, _, h⟩⟩
end RowAt

/-- A slice of elements of n cells each, with memory of their own, that a call collects by append: e is the element's type. -/
def AccQ {α : Type} (n : Nat) (R : Rp α) (w0 : World) (e : TypeId) (w : World) (v : Value) (xs : List α) : Prop :=
  ∃ us, w.ownsRow w0.heap.size e n v xs.length (List.flatten us) ∧ RowsQ n R w0.heap.size v.ownBlock.toList w us xs

namespace AccQ
variable {α : Type} {n : Nat} {R : Rp α} {w0 w w1 w2 : World} {e : TypeId} {v : Value} {xs : List α}

theorem nil (n : Nat) (R : Rp α) (w0 : World) (e : TypeId) (w : World) : AccQ n R w0 e w (.slice none 0 0) [] := ⟨[], World.ownsRow_nil _ _ _ _, RowsQ.nil _ _ _ _ _⟩
theorem lit0 (n : Nat) (R : Rp α) (w0 : World) (e : TypeId) (w : World) (h : w0.heap.size ≤ w.heap.size) : AccQ n R w0 e (w.alloc (.cells #[] e)) (.slice (some ⟨w.heap.size, 0, none⟩) 0 0) [] :=
  ⟨[], by simpa using World.ownsRow_lit (base := w0.heap.size) (e := e) (size := n) w #[] 0 h (by simp [maxLen]) (by simp), RowsQ.nil _ _ _ _ _⟩
theorem upd (K : Kept R) (h : AccQ n R w0 e w v xs) (hu : Upd [] w w1) : AccQ n R w0 e w1 v xs := by
  obtain ⟨us, h1, h2⟩ := h
  exact ⟨us, ownsRow_upd h1 hu, h2.upd K hu (by simp)⟩
theorem other (K : Kept R) (h : AccQ n R w0 e w v xs) {b : Nat} (hu : Upd [b] w w1) (hb : b < w0.heap.size) : AccQ n R w0 e w1 v xs := by
  obtain ⟨us, h1, h2⟩ := h
  refine ⟨us, h1.kept (row := some b) ⟨hu.os, hu.tape, hu.output, hu.size, fun k hk hne => hu.block k hk (by simpa using hne)⟩ ?_, h2.upd K hu (by simp; omega)⟩
  cases hv : v.ownBlock with
  | none => exact Or.inl rfl
  | some g =>
    right
    have := (h1.lt g hv).1
    intro e; cases e; omega
theorem new (h : AccQ n R w0 e w v xs) : New (slQ n R) w0 w v xs := by
  obtain ⟨us, h1, h2⟩ := h
  exact h2.new h1 (fun b hb => by simp [hb]) (Nat.le_refl _)
theorem own (h : AccQ n R w0 e w v xs) : ∃ us, w.ownsRow w0.heap.size e n v xs.length us := by obtain ⟨us, h1, -⟩ := h; exact ⟨_, h1⟩
theorem form (h : AccQ n R w0 e w v xs) : ∃ a c, v = .slice a xs.length c := by obtain ⟨us, h1, -⟩ := h; exact ownsRow_form h1
/-- Behind an append of one element, its cells made between w and w1 and laid into a new block: what the append's law leaves. -/
theorem push (K : Kept R) {us : List (List Value)} (hown : w.ownsRow w0.heap.size e n v xs.length us.flatten) (hrows : RowsQ n R w0.heap.size v.ownBlock.toList w us xs) (hs : w0.heap.size ≤ w.heap.size) {u : List Value} {x : α} (hu : Upd [] w w1) (hn : NewQ R w w1 u x) (hl : u.length = n) (o : Obj) {v2 : Value}
    (h2 : w2.ownsRow w0.heap.size e n v2 (xs.length + 1) (us.flatten ++ u)) (hg : (w1.alloc o).grownBy w2 v.ownBlock)
    (ht : ∀ b, v2.ownBlock = some b → v.ownBlock = some b ∨ (w1.alloc o).heap.size ≤ b) : AccQ n R w0 e w2 v2 (xs ++ [x]) := by
  refine ⟨us ++ [u], by simpa using h2, ?_⟩
  have hob : ∀ b ∈ v.ownBlock.toList, b < w.heap.size := fun b hb => (hown.lt b (by simpa using hb)).2
  have hr1 := hrows.push K hu hn hl hs hob
  have hu2 : Upd [] w1 (w1.alloc o) := (Upd.refl _ _).alloc o
  have hr2 := hr1.upd K hu2 (by simp)
  have hu3 : Upd v.ownBlock.toList (w1.alloc o) w2 := (Upd.refl _ _).grown hg (fun k hk => Or.inr (by simp [hk]))
  have hr3 := RowsQ.ob' hr2 (ob2 := v.ownBlock.toList ++ v2.ownBlock.toList) (by
    intro b hb
    rcases List.mem_append.1 hb with hb | hb
    · exact Or.inl hb
    · rcases ht b (by simpa using hb) with h | h
      · exact Or.inl (by simp [h])
      · exact Or.inr (Or.inr h))
  have hr4 := hr3.upd K hu3 (fun b hb => Or.inl (List.mem_append_left _ hb))
  exact hr4.ob' (fun b hb => Or.inl (List.mem_append_right _ hb))
end AccQ

end Go.Proofs.YtnfghgaadnobbaaGreatDoor
