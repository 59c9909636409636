/-
  The helper functions over []int64 and [][]int64 under one scheme of names: sz, to, eq, mark, held.
-/
import Derived.Test.YtkhifpgpkklokaaGreatDoorHarn
import Derived.Test.YtkhifpgpkklokaaGreatDoorOpen
namespace Go.Proofs.YtkhifpgpkklokaaGreatDoor
open Go.RowKit

theorem beq_refl_true {α : Type} [BEq α] [LawfulBEq α] (a : α) : (a == a) = true := by simp

abbrev R_N1 := R1
abbrev R_N2 := R2
theorem R_N1k : Kept R_N1 := R1k
theorem R_N2k : Kept R_N2 := R2k
def szF_N1 (x : List Int) : Int := x.length
def szF_N2 (x : List (List Int)) : Int := x.length + tot x
def mkF_N1 (x : List Int) : Int := x.length
def mkF_N2 (x : List (List Int)) : Int := tot x
theorem szF_N1_nonneg (x : List Int) : 0 ≤ szF_N1 x := by unfold szF_N1; omega
theorem szF_N2_nonneg (x : List (List Int)) : 0 ≤ szF_N2 x := by have := tot_nonneg x; unfold szF_N2; omega
theorem mkF_N1_nonneg (x : List Int) : 0 ≤ mkF_N1 x := by unfold mkF_N1; omega
theorem mkF_N2_nonneg (x : List (List Int)) : 0 ≤ mkF_N2 x := tot_nonneg x
theorem mkF_N1_le (x : List Int) : mkF_N1 x ≤ 16 * szF_N1 x := by unfold mkF_N1 szF_N1; omega
theorem mkF_N2_le (x : List (List Int)) : mkF_N2 x ≤ 16 * szF_N2 x := by have := tot_nonneg x; unfold mkF_N2 szF_N2; omega

theorem opens_N1 : Opens Tryz.prog 25 R_N1 (fun xs => ∀ n ∈ xs, (Lit.int .i64 n).wf = true) :=
  opens_ints Tryz.underlying25 Tryz.underlying2 (by kernel_rfl)
end Go.Proofs.YtkhifpgpkklokaaGreatDoor
