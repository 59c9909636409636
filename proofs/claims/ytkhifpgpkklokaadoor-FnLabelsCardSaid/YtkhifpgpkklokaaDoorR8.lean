/-
  What the law FnTerms draws.
-/
import Derived.Test.YtkhifpgpkklokaaDoorEvalS
namespace Go.Proofs.YtkhifpgpkklokaaDoor
open Go.RowKit

def Terms2Out (w : World) (e : Ending) (w' : World) : Prop :=
  (∃ (v1 v2 : Value) (x y : Ex), e = .returned (.tuple #[v1, v2]) ∧ goodE 3 x = true ∧ goodE 3 y = true ∧ (flatE x).length ≤ 15 ∧ (flatE y).length ≤ 7 ∧ New R_T1 w w' v1 (flatE x) ∧ New R_T1 w w' v2 (flatE y)) ∧ Upd [] w w'

theorem r8Long (v v2 : Value) (code more : List Int) (w : World) (fc fm : List Nat) (hR : R_B fc w [v] code) (hR2 : R_B fm w [v2] more) (h : code.length ≤ 1048576 ∧ more.length ≤ 1048576) :
    Calls Tryd.prog 4 #[v, v2] w fun e w' => e = .returned (.bool false) ∧ w = w' := by
  obtain ⟨a, cap, rfl, h1, h2, -⟩ := slF1_open hR
  obtain ⟨a', cap', rfl, h1', h2', -⟩ := slF1_open hR2
  unfold maxLen at h2 h2'
  obtain ⟨g1, g2⟩ := h
  clear hR hR2
  go_enter Tryd.func4, Tryd.ntmps4
  go_wp2_with fail
  go_ret
  exact ⟨by simp; omega, rfl⟩


end Go.Proofs.YtkhifpgpkklokaaDoor
