/-
  The values that the reference draws.
-/
import Derived.Test.YtkhifpgpkklokaaDoorR8
namespace Go.Proofs.YtkhifpgpkklokaaDoor
open Go.RowKit

theorem ownsRow_other {w w1 : World} {base : Nat} {e : TypeId} {size : Nat} {v : Value} {n : Nat} {xs : List Value} (h : w.ownsRow base e size v n xs) {f : List Nat} (hu : Upd f w w1) (hf : ∀ b ∈ f, b < base) : w1.ownsRow base e size v n xs := by
  obtain ⟨g1, g2⟩ := h
  refine ⟨g1, ?_⟩
  rcases g2 with g2 | ⟨g, cap, cur, hv, hb, hh, q1, q2, q3, q4⟩
  · exact Or.inl g2
  · refine Or.inr ⟨g, cap, cur, hv, hb, ?_, q1, q2, q3, q4⟩
    rw [hu.block g (Array.getElem?_eq_some_iff.1 hh).1 (fun hm => by have := hf g hm; omega)]; exact hh

def ValsOut (w : World) (e : Ending) (w' : World) : Prop := (∃ (v' : Value) (xs : List Int), e = .returned v' ∧ xs.length = 3 ∧ xs.all isV = true ∧ New R1 w w' v' xs) ∧ Upd [] w w'

end Go.Proofs.YtkhifpgpkklokaaDoor
