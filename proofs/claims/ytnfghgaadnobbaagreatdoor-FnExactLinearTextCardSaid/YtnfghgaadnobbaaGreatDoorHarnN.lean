/-
  The helper functions over []int64 and [][]int64 under one scheme of names: sz, to, eq, mark, held.
-/
import Derived.Test.YtnfghgaadnobbaaGreatDoorHarn
import Derived.Test.YtnfghgaadnobbaaGreatDoorOpen
namespace Go.Proofs.YtnfghgaadnobbaaGreatDoor
open Go.RowKit

theorem beq_refl_true {α : Type} [BEq α] [LawfulBEq α] (a : α) : (a == a) = true := by simp

abbrev R_N1 := R1
abbrev R_N2 := R2
theorem R_N1k : Kept R_N1 := R1k
theorem R_N2k : Kept R_N2 := R2k
def szF_N1 (x : List Int) : Int := x.length
def szF_N2 (x : List (List Int)) : Int := x.length + tot x
def mkF_N1 (x : List Int) : Int := x.length
def mkF_N2 (x : List (List Int)) : Int := tot x
theorem szF_N1_nonneg (x : List Int) : 0 ≤ szF_N1 x := by unfold szF_N1; omega
theorem szF_N2_nonneg (x : List (List Int)) : 0 ≤ szF_N2 x := by have := tot_nonneg x; unfold szF_N2; omega
theorem mkF_N1_nonneg (x : List Int) : 0 ≤ mkF_N1 x := by unfold mkF_N1; omega
theorem mkF_N2_nonneg (x : List (List Int)) : 0 ≤ mkF_N2 x := tot_nonneg x
theorem mkF_N1_le (x : List Int) : mkF_N1 x ≤ 16 * szF_N1 x := by unfold mkF_N1 szF_N1; omega
theorem mkF_N2_le (x : List (List Int)) : mkF_N2 x ≤ 16 * szF_N2 x := by have := tot_nonneg x; unfold mkF_N2 szF_N2; omega

theorem sz_N1 (v : Value) (xs : List Int) (left : Int) (w : World) (fp : List Nat) (hl : 0 ≤ left) (hl2 : left ≤ 1048576) (hR : R_N1 fp w [v] xs) :
    Calls Tryz.prog 9 #[v, .int .i64 left] w fun e w' => (∃ r : Int, e = .returned (.int .i64 r) ∧ (r = -1 ∨ (0 ≤ r ∧ r + szF_N1 xs = left))) ∧ w = w' :=
  sz1 v xs left w fp hl hl2 hR
theorem to_N1 (v : Value) (xs : List Int) (w : World) (fp : List Nat) (hl : szF_N1 xs ≤ 1048576) (hR : R_N1 fp w [v] xs) :
    Calls Tryz.prog 13 #[v] w fun e w' => (∃ v', e = .returned v' ∧ New R_N1 w w' v' xs) ∧ Upd [] w w' :=
  to1 v xs w fp (by unfold szF_N1 at hl; omega) hR
theorem eq_N1 (v1 v2 : Value) (xs ys : List Int) (w : World) (f1 f2 : List Nat) (h1 : R_N1 f1 w [v1] xs) (h2 : R_N1 f2 w [v2] ys) :
    Calls Tryz.prog 23 #[v1, v2] w fun e w' => e = .returned (.bool (xs == ys)) ∧ Upd [] w w' :=
  (eq1 v1 v2 xs ys w f1 f2 h1 h2).mono fun _ _ ⟨h, n, e⟩ => ⟨h, by rw [e]; exact (Upd.refl _ _).drewN _⟩
theorem opens_N1 : Opens Tryz.prog 22 R_N1 (fun xs => ∀ n ∈ xs, (Lit.int .i64 n).wf = true) :=
  opens_ints Tryz.underlying22 Tryz.underlying2 (by kernel_rfl)
end Go.Proofs.YtnfghgaadnobbaaGreatDoor
