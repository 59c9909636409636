/-
  An input that is too long for the laws over bytes.
-/
import Derived.Test.YtnioopbficcbeaaSrc
namespace Go.Proofs.Ytnioopbficcbeaa
open Go.RowKit

theorem b10Long (v : Value) (code : List Int) (w : World) (fc : List Nat) (hR : R_B fc w [v] code) :
    Calls Try.prog 16 #[v] w fun e w' => e = .returned (.bool (decide (1048576 < (code.length : Int)))) ∧ w = w' := by
  obtain ⟨a, cap, rfl, h1, h2, -⟩ := slF1_open hR
  unfold maxLen at h2
  go_enter Try.func16, Try.ntmps16
  go_wp2_with fail
  go_ret
  exact ⟨by simp, rfl⟩

end Go.Proofs.Ytnioopbficcbeaa
