/-
  Some elements of a slice of structs, collected in their order by append, beside blocks that are written.
-/
import Derived.Test.YtnfghgaadnobbaaLib7
import Derived.Test.YtnfghgaadnobbaaLib6
namespace Go.Proofs.Ytnfghgaadnobbaa
open Go.RowKit

theorem RawQ.upd {α : Type} {n : Nat} {R : Rp α} (K : Kept R) {w w' : World} {b off : Nat} {T : List (Trip α)} (h : RawQ n R w b off T) {f : List Nat} (hu : Upd f w w') (hb : b ∉ f) (hf : ∀ c ∈ (T.map (·.2.1)).flatten, c ∉ f) : RawQ n R w' b off T :=
  ⟨Nat.lt_of_lt_of_le h.bl hu.size, h.rows.upd h.bl hu hb, fun t ht => ⟨(h.each t ht).1, K.upd (h.each t ht).2 hu (fun c hc => hf c (List.mem_flatten.2 ⟨_, List.mem_map.2 ⟨t, ht, rfl⟩, hc⟩))⟩⟩

/-- a slice of structs row by row, also where it holds none: block d stands for its row then. -/
theorem slQ_rows {α : Type} {n : Nat} {R : Rp α} {fp : List Nat} {w : World} {v : Value} {xs : List α} (h : slQ n R fp w [v] xs) (hO : Own fp w) (d : Nat) (hd : Own [d] w) :
    ∃ b off a cap T, v = .slice a xs.length cap ∧ xs.length ≤ cap ∧ cap ≤ maxLen ∧ xs = T.map (·.2.2) ∧ RawQ n R w b off T ∧ Own (b :: (T.map (·.2.1)).flatten) w ∧ (∀ c ∈ (T.map (·.2.1)).flatten, c ∈ fp) ∧ (0 < xs.length → a = some ⟨b, off, none⟩) := by
  by_cases h0 : 0 < xs.length
  · obtain ⟨b, off, cap, T, hv, h1, h2, h3, h4, h5⟩ := slQ_raw h h0
    exact ⟨b, off, _, cap, T, hv, h1, h2, h3, h5, by rw [← h4]; exact hO, fun c hc => by rw [h4]; exact List.mem_cons_of_mem _ hc, fun _ => rfl⟩
  · obtain rfl : xs = [] := List.length_eq_zero_iff.1 (by omega)
    obtain ⟨a, cap, hv, h1, h2, -⟩ := slQ_open h
    exact ⟨d, 0, a, cap, [], hv, h1, h2, rfl, ⟨hd.lt d (by simp), by intro i u hi; simp at hi, by simp⟩, by simpa using hd, by simp, fun h => absurd h (by simp)⟩

/-- some elements collected by append: their rows, and that the row lies apart from the blocks of ex. -/
structure PickQ {α : Type} (n base : Nat) (e : TypeId) (ex : List Nat) (w : World) (v : Value) (S : List (Trip α)) : Prop where
  own : w.ownsRow base e n v S.length (S.map (·.1)).flatten
  far : ∀ b, v.ownBlock = some b → b ∉ ex
  exl : ∀ b ∈ ex, b < w.heap.size

namespace PickQ
variable {α : Type} {n base : Nat} {e : TypeId} {ex : List Nat} {w w1 w2 : World} {v : Value} {S : List (Trip α)}
theorem nil (hZ : ∀ b ∈ ex, b < w.heap.size) : PickQ n base e ex w (.slice none 0 0) ([] : List (Trip α)) := ⟨World.ownsRow_nil _ _ _ _, by simp [Value.ownBlock], hZ⟩
theorem start {q : Nat} (h : w.ownsRow base e n (.slice (some ⟨q, 0, none⟩) 0 0) 0 []) (hq : q ∉ ex) (hZ : ∀ b ∈ ex, b < w.heap.size) : PickQ n base e ex w (.slice (some ⟨q, 0, none⟩) 0 0) ([] : List (Trip α)) :=
  ⟨by simpa using h, fun b hb => by simp [Value.ownBlock] at hb; subst hb; exact hq, hZ⟩
theorem upd (h : PickQ n base e ex w v S) (hu : Upd [] w w1) : PickQ n base e ex w1 v S :=
  ⟨ownsRow_upd h.own hu, h.far, fun b hb => Nat.lt_of_lt_of_le (h.exl b hb) hu.size⟩
theorem put (h : PickQ n base e ex w v S) {f : List Nat} (hu : Upd f w w1) (hf : ∀ b ∈ f, b ∈ ex) : PickQ n base e ex w1 v S := by
  refine ⟨?_, h.far, fun b hb => Nat.lt_of_lt_of_le (h.exl b hb) hu.size⟩
  rcases h.own with ⟨q0, q1 | ⟨g, cap, cur, rfl, hg, hh, r1, r2, r3, r4⟩⟩
  · exact ⟨q0, Or.inl q1⟩
  · refine ⟨q0, Or.inr ⟨g, cap, cur, rfl, hg, ?_, r1, r2, r3, r4⟩⟩
    rw [hu.block g (Array.getElem?_eq_some_iff.1 hh).1 (fun hm => h.far g rfl (hf g hm))]; exact hh
theorem form (h : PickQ n base e ex w v S) : ∃ a c, v = .slice a S.length c := ownsRow_form h.own
theorem push (h : PickQ n base e ex w v S) (t : Trip α) (o : Obj) {v2 : Value} (h2 : w2.ownsRow base e n v2 (S.length + 1) ((S.map (·.1)).flatten ++ t.1)) (hg : (w.alloc o).grownBy w2 v.ownBlock)
    (ht : ∀ b, v2.ownBlock = some b → v.ownBlock = some b ∨ (w.alloc o).heap.size ≤ b) : PickQ n base e ex w2 v2 (S ++ [t]) := by
  have hgs := hg.size
  simp at hgs
  refine ⟨by simpa using h2, fun b hb hm => ?_, fun b hb => by have := h.exl b hb; omega⟩
  rcases ht b hb with h' | h'
  · exact h.far b h' hm
  · have := h.exl b hm; simp at h'; omega
theorem fin {R : Rp α} {b off : Nat} {T : List (Trip α)} (h : PickQ n base e ex w v S) (hr : RawQ n R w b off T) (hO : Own (b :: (T.map (·.2.1)).flatten) w) (hlt : ∀ c ∈ (T.map (·.2.1)).flatten, c < base) (hs : S.Sublist T) :
    ∃ fp, slQ n R fp w [v] (S.map (·.2.2)) ∧ Own fp w ∧ ∀ c ∈ fp, (base ≤ c ∧ c ∉ ex) ∨ c ∈ (T.map (·.2.1)).flatten := by
  obtain ⟨fb, ⟨a, cap, rfl, r1, r2, -, r4⟩, g2, g3, g4⟩ := Flat.ofOwns h.own
  have hsub : (S.map (·.2.1)).flatten.Sublist (T.map (·.2.1)).flatten := sub_flatten (hs.map _)
  have hn : ∀ u ∈ S.map (·.1), u.length = n := fun u hu => by
    obtain ⟨t, ht, rfl⟩ := List.mem_map.1 hu
    exact (hr.each t (hs.subset ht)).1
  refine ⟨fb ++ (S.map (·.2.1)).flatten, ⟨a, cap, S.map (·.1), fb, S.map (·.2.1), by simp, by simpa using r1, r2, by simp, hn, by simp, rfl, ?_, ?_⟩, own_join g2 ?_ ?_, ?_⟩
  · rcases r4 with r4 | ⟨b', off', rfl, rfl, hbl, hc⟩
    · exact Or.inl (by simpa using r4)
    · refine Or.inr ⟨b', off', rfl, rfl, hbl, fun i j u c hu hj => ?_⟩
      rw [Nat.add_assoc]
      exact hc _ _ (flat_at hn hu hj)
  · intro i hi u f hu hf
    rw [List.getElem?_map] at hu hf
    have hi' : i < S.length := by simpa using hi
    rw [List.getElem?_eq_getElem hi'] at hu hf
    cases hu; cases hf
    have := (hr.each _ (hs.subset (List.getElem_mem hi'))).2
    simpa using this
  · have hnd := List.nodup_cons.1 hO.1
    exact ⟨hnd.2.sublist hsub, fun c hc => hO.2 c (List.mem_cons_of_mem _ (hsub.subset hc))⟩
  · intro c h1 h2
    have := g3 c h1
    have := hlt c (hsub.subset h2)
    omega
  · intro c hc
    rcases List.mem_append.1 hc with hc | hc
    · exact Or.inl ⟨g3 c hc, h.far c (g4 c hc)⟩
    · exact Or.inr (hsub.subset hc)
end PickQ

end Go.Proofs.Ytnfghgaadnobbaa
