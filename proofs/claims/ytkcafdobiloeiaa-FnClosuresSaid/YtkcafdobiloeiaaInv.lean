/-
  InverseRelation, both sides, in the form that the law's walk wants.
-/
import Derived.Test.YtkcafdobiloeiaaRelW
import Derived.Test.YtkcafdobiloeiaaHarnN
namespace Go.Proofs.Ytkcafdobiloeiaa

theorem inv_i (n : Int) (xs : List (List Int)) (v : Value) (w : World) (b : -9223372036854775808 ≤ n ∧ n ≤ 9223372036854775807) (fp : List Nat) (hR : R_N2 fp w [v] xs) :
    Calls Try.prog 19 #[.int .i64 n, v] w fun e w' => (∃ v', e = .returned (.tuple #[v', .int .i64 (invRes n xs).2]) ∧ New R_N2 w w' v' (invRes n xs).1) ∧ Upd [] w w' :=
  invImpl n xs v w fp b.1 b.2 hR
theorem inv_s (n : Int) (xs : List (List Int)) (v : Value) (w : World) (_b : -9223372036854775808 ≤ n ∧ n ≤ 9223372036854775807) (fp : List Nat) (hR : R_N2 fp w [v] xs) :
    Calls Try.prog 17 #[.int .i64 n, v] w fun e w' => (∃ v', e = .returned (.tuple #[v', .int .i64 (invRes n xs).2]) ∧ New R_N2 w w' v' (invRes n xs).1) ∧ Upd [] w w' :=
  invSpec n xs v w fp hR
theorem inv_b (n : Int) (xs : List (List Int)) : mkF_N2 (invRes n xs).1 ≤ 3200 := by
  unfold invRes mkF_N2
  split
  · rename_i h; exact pairs_tot _ _ (by have := relB_n h; omega)
  · simp [tot]
end Go.Proofs.Ytkcafdobiloeiaa
