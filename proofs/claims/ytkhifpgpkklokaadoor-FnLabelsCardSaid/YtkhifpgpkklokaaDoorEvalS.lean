/-
  Evaluate, the reference's side.
-/
import Derived.Test.YtkhifpgpkklokaaDoorEval
namespace Go.Proofs.YtkhifpgpkklokaaDoor
open Go.RowKit

theorem isE_of_good {x : Ex} {nv : Int} (h : goodE nv x = true) (hl : (flatE x).length ≤ 60) : isE (flatE x) nv 60 = true := by
  unfold goodE at h
  rw [Bool.and_eq_true] at h
  have := run_tree nv x [] 0 h.1 h.2
  simp only [List.append_nil, run] at this
  rw [show ((0 + 1 : Nat) : Int) = 1 from rfl] at this
  unfold isE
  rw [this]
  simp; omega

end Go.Proofs.YtkhifpgpkklokaaDoor
