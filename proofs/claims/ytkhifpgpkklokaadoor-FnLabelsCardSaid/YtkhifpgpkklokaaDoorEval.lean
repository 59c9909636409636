/-
  Evaluate: what the calls return for a valid expression and values for all its variables.
-/
import Derived.Test.YtkhifpgpkklokaaDoorVals
import Derived.Test.YtkhifpgpkklokaaDoorFoldS
namespace Go.Proofs.YtkhifpgpkklokaaDoor
open Go.RowKit

theorem vals_bd {vals : List Int} (h : vals.all isV = true) (k : Nat) : 0 ≤ vals.getD k 0 ∧ vals.getD k 0 ≤ 63 := by
  rw [List.getD_eq_getElem?_getD]
  by_cases hk : k < vals.length
  · rw [List.getElem?_eq_getElem hk]
    exact inB_true (List.all_eq_true.1 h _ (List.getElem_mem hk))
  · rw [List.getElem?_eq_none (by omega)]; simp
theorem lack_no {x : Ex} {n : Int} (h : goodE n x = true) : (flatE x).any (lackV n) = false := by
  unfold goodE at h
  rw [Bool.and_eq_true] at h
  rw [List.any_eq_false]
  intro t ht
  have := List.all_eq_true.1 h.2 t ht
  unfold lackV
  by_cases h1 : t.1 = 1
  · simp only [tOk, h1, if_true] at this
    have := inB_true (by simpa using this)
    simp [h1]; omega
  · simp [h1]

end Go.Proofs.YtkhifpgpkklokaaDoor
