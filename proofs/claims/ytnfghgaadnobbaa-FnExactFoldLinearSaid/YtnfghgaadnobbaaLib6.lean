/-
  Elements of several cells collected by append, while blocks beside are written.
-/
import Derived.Test.YtnfghgaadnobbaaLib5
namespace Go.Proofs.Ytnfghgaadnobbaa
open Go.RowKit

/-- a slice of elements of n cells each that a call collects by append, none of whose memory lies in the blocks of ex. -/
def AccZ {α : Type} (n : Nat) (R : Rp α) (base : Nat) (e : TypeId) (ex : List Nat) (w : World) (v : Value) (xs : List α) : Prop :=
  ∃ us, w.ownsRow base e n v xs.length (List.flatten us) ∧ RowsQ n R base (ex ++ v.ownBlock.toList) w us xs ∧ (∀ b, v.ownBlock = some b → b ∉ ex) ∧ ∀ b ∈ ex, b < w.heap.size

namespace AccZ
variable {α : Type} {n : Nat} {R : Rp α} {base : Nat} {ex : List Nat} {w w1 w2 : World} {e : TypeId} {v : Value} {xs : List α}

theorem nil (n : Nat) (R : Rp α) (base : Nat) (e : TypeId) (w : World) (hZ : ∀ b ∈ ex, b < w.heap.size) : AccZ n R base e ex w (.slice none 0 0) [] :=
  ⟨[], World.ownsRow_nil _ _ _ _, RowsQ.nil _ _ _ _ _, by simp [Value.ownBlock], hZ⟩
theorem start {q : Nat} (h : w.ownsRow base e n (.slice (some ⟨q, 0, none⟩) 0 0) 0 []) (hq : q ∉ ex) (hZ : ∀ b ∈ ex, b < w.heap.size) : AccZ n R base e ex w (.slice (some ⟨q, 0, none⟩) 0 0) [] :=
  ⟨[], by simpa using h, RowsQ.nil _ _ _ _ _, fun b hb => by simp [Value.ownBlock] at hb; subst hb; exact hq, hZ⟩
theorem upd (K : Kept R) (h : AccZ n R base e ex w v xs) (hu : Upd [] w w1) : AccZ n R base e ex w1 v xs := by
  obtain ⟨us, h1, h2, h3, h4⟩ := h
  exact ⟨us, ownsRow_upd h1 hu, h2.upd K hu (by simp), h3, fun b hb => Nat.lt_of_lt_of_le (h4 b hb) hu.size⟩
theorem put (K : Kept R) (h : AccZ n R base e ex w v xs) {f : List Nat} (hu : Upd f w w1) (hf : ∀ b ∈ f, b ∈ ex) : AccZ n R base e ex w1 v xs := by
  obtain ⟨us, h1, h2, h3, h4⟩ := h
  refine ⟨us, ?_, h2.upd K hu (fun b hb => Or.inl (List.mem_append_left _ (hf b hb))), h3, fun b hb => Nat.lt_of_lt_of_le (h4 b hb) hu.size⟩
  rcases h1 with ⟨q0, q1 | ⟨g, cap, cur, rfl, hg, hh, r1, r2, r3, r4⟩⟩
  · exact ⟨q0, Or.inl q1⟩
  · refine ⟨q0, Or.inr ⟨g, cap, cur, rfl, hg, ?_, r1, r2, r3, r4⟩⟩
    rw [hu.block g (Array.getElem?_eq_some_iff.1 hh).1 (fun hm => h3 g rfl (hf g hm))]; exact hh
theorem own (h : AccZ n R base e ex w v xs) : ∃ us, w.ownsRow base e n v xs.length us := by obtain ⟨us, h1, -⟩ := h; exact ⟨_, h1⟩
theorem form (h : AccZ n R base e ex w v xs) : ∃ a c, v = .slice a xs.length c := by obtain ⟨us, h1, -⟩ := h; exact ownsRow_form h1
theorem new (h : AccZ n R base e ex w v xs) {w0 : World} (hb : w0.heap.size = base) : ∃ fp, slQ n R fp w [v] xs ∧ Own fp w ∧ ∀ b ∈ fp, base ≤ b ∧ b ∉ ex := by
  obtain ⟨us, h1, h2, h3, h4⟩ := h
  subst hb
  obtain ⟨fps, q1, q2, q6, q3, q4, q5⟩ := h2
  obtain ⟨fb, ⟨a, cap, rfl, r1, r2, -, r4⟩, g2, g3, g4⟩ := Flat.ofOwns h1
  refine ⟨fb ++ fps.flatten, ⟨a, cap, us, fb, fps, rfl, r1, r2, q2, q6, q1, rfl, ?_, q5⟩, own_join g2 q3 (fun b hb hc => (q4 b hc).2 (by simp [g4 b hb])), ?_⟩
  · rcases r4 with r4 | ⟨b, off, rfl, rfl, hbl, hc⟩
    · exact Or.inl r4
    · refine Or.inr ⟨b, off, rfl, rfl, hbl, fun i j u c hu hj => ?_⟩
      rw [Nat.add_assoc]
      exact hc _ _ (flat_at q6 hu hj)
  · intro b hb
    rcases List.mem_append.1 hb with hb | hb
    · exact ⟨g3 b hb, h3 b (g4 b hb)⟩
    · exact ⟨(q4 b hb).1, fun e => (q4 b hb).2 (by simp [e])⟩
/-- Behind an append of one element, its cells made between w and w1 and laid into a new block. -/
theorem push (K : Kept R) {us : List (List Value)} (hown : w.ownsRow base e n v xs.length us.flatten) (hrows : RowsQ n R base (ex ++ v.ownBlock.toList) w us xs) (hvZ : ∀ b, v.ownBlock = some b → b ∉ ex) (hZ : ∀ b ∈ ex, b < w.heap.size) (hs : base ≤ w.heap.size) {u : List Value} {x : α} (hu : Upd [] w w1) (hn : NewQ R w w1 u x) (hl : u.length = n) (o : Obj) {v2 : Value}
    (h2 : w2.ownsRow base e n v2 (xs.length + 1) (us.flatten ++ u)) (hg : (w1.alloc o).grownBy w2 v.ownBlock)
    (ht : ∀ b, v2.ownBlock = some b → v.ownBlock = some b ∨ (w1.alloc o).heap.size ≤ b) : AccZ n R base e ex w2 v2 (xs ++ [x]) := by
  have hsz := hu.size
  have hgs := hg.size
  refine ⟨us ++ [u], by simpa using h2, ?_, ?_, ?_⟩
  · have hob : ∀ b ∈ ex ++ v.ownBlock.toList, b < w.heap.size := fun b hb => by
      rcases List.mem_append.1 hb with hb | hb
      · exact hZ b hb
      · exact (hown.lt b (by simpa using hb)).2
    have hr1 := hrows.push K hu hn hl hs hob
    have hu2 : Upd [] w1 (w1.alloc o) := (Upd.refl _ _).alloc o
    have hr2 := hr1.upd K hu2 (by simp)
    have hu3 : Upd v.ownBlock.toList (w1.alloc o) w2 := (Upd.refl _ _).grown hg (fun k hk => Or.inr (by simp [hk]))
    have hr3 := RowsQ.ob' hr2 (ob2 := (ex ++ v.ownBlock.toList) ++ v2.ownBlock.toList) (by
      intro b hb
      rcases List.mem_append.1 hb with hb | hb
      · exact Or.inl hb
      · rcases ht b (by simpa using hb) with h | h
        · exact Or.inl (by simp [h])
        · exact Or.inr (Or.inr h))
    have hr4 := hr3.upd K hu3 (fun b hb => Or.inl (List.mem_append_left _ (List.mem_append_right _ hb)))
    exact hr4.ob' (fun b hb => Or.inl (by
      rcases List.mem_append.1 hb with hb | hb
      · exact List.mem_append_left _ (List.mem_append_left _ hb)
      · exact List.mem_append_right _ hb))
  · intro b hb hm
    rcases ht b hb with h | h
    · exact hvZ b h hm
    · have := hZ b hm; simp at h; omega
  · intro b hb
    have := hZ b hb; simp at hgs; omega
end AccZ

end Go.Proofs.Ytnfghgaadnobbaa
