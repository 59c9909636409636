/-
  The laws' helper functions over terms (a kind and a value) and lists of terms.
-/
import Derived.Test.YtkhifpgpkklokaaGreatDoorHarnN
import Derived.Deep.RegionHeld3
import Derived.Deep.RegionWith
namespace Go.Proofs.YtkhifpgpkklokaaGreatDoor
open Go.RowKit Go.ChangeShapes

abbrev Tm := Int × Int
abbrev R_T1 : Rp (List Tm) := slF 2 (fun t => [ei t.1, ei t.2])
theorem R_T1k : Kept R_T1 := slF_kept _ _
def szF_T1 (x : List Tm) : Int := x.length
def mkF_T1 (x : List Tm) : Int := 2 * x.length
theorem szF_T1_nonneg (x : List Tm) : 0 ≤ szF_T1 x := by unfold szF_T1; omega
theorem mkF_T1_nonneg (x : List Tm) : 0 ≤ mkF_T1 x := by unfold mkF_T1; omega
theorem mkF_T1_le (x : List Tm) : mkF_T1 x ≤ 16 * szF_T1 x := by unfold mkF_T1 szF_T1; omega

theorem fill2 (xs : List Tm) (k : Nat) (hk : k < xs.length) :
    (((xs.take k ++ List.replicate (xs.length - k) (0, 0)).flatMap fun t : Tm => [ei t.1, ei t.2])[k * 2]? = some (ei 0) ∧ ((xs.take k ++ List.replicate (xs.length - k) (0, 0)).flatMap fun t : Tm => [ei t.1, ei t.2])[k * 2 + 1]? = some (ei 0)) ∧
    (xs.take k ++ List.replicate (xs.length - k) ((0, 0) : Tm)).set k xs[k] = xs.take (k + 1) ++ List.replicate (xs.length - (k + 1)) (0, 0) := by
  have hl : (xs.take k).length = k := by simp; omega
  have hlen : (xs.take k ++ List.replicate (xs.length - k) ((0, 0) : Tm)).length = xs.length := by simp; omega
  have hel : (xs.take k ++ List.replicate (xs.length - k) ((0, 0) : Tm))[k]'(by omega) = (0, 0) := by
    rw [List.getElem_append_right (by omega)]; simp
  refine ⟨?_, ?_⟩
  · have := flatMap_two_get (fun t : Tm => ei t.1) (fun t : Tm => ei t.2) (xs.take k ++ List.replicate (xs.length - k) (0, 0)) k (by omega)
    rw [hel] at this
    exact this
  · rw [List.set_append_right _ _ (by omega), hl, Nat.sub_self, show xs.length - k = (xs.length - (k + 1)) + 1 from by omega, List.replicate_succ, List.set_cons_zero, List.take_succ_eq_append_getElem hk, List.append_assoc, List.singleton_append]

/-- the terms numbered through from k0 on. -/
def upT (k0 : Int) : Nat → List Tm
  | 0 => []
  | n + 1 => (k0, k0 + 1) :: upT (k0 + 2) n
@[simp] theorem upT_length (k0 : Int) (n : Nat) : (upT k0 n).length = n := by
  induction n generalizing k0 with
  | zero => rfl
  | succ n ih => simp [upT, ih]
theorem upT_snoc (k0 : Int) (n : Nat) : upT k0 (n + 1) = upT k0 n ++ [(k0 + 2 * n, k0 + 2 * n + 1)] := by
  induction n generalizing k0 with
  | zero => simp [upT]
  | succ n ih =>
    rw [upT, ih, upT, List.cons_append, show k0 + 2 + 2 * (n : Int) = k0 + 2 * ((n + 1 : Nat) : Int) from by omega]
theorem upT_get (k0 : Int) (n i : Nat) (h : i < n) : (upT k0 n)[i]'(by simpa using h) = (k0 + 2 * i, k0 + 2 * i + 1) := by
  induction n generalizing k0 i with
  | zero => omega
  | succ n ih =>
    cases i with
    | zero => simp [upT]
    | succ i => simp only [upT, List.getElem_cons_succ]; rw [ih _ _ (by omega)]; simp; omega
theorem upT_set (xs : List Tm) (k0 : Int) (k : Nat) (hk : k < xs.length) :
    (upT k0 k ++ xs.drop k).set k (k0 + 2 * k, k0 + 2 * k + 1) = upT k0 (k + 1) ++ xs.drop (k + 1) := by
  rw [List.set_append_right _ _ (by simp), upT_length, Nat.sub_self, List.drop_eq_getElem_cons hk, List.set_cons_zero, upT_snoc]
  simp

end Go.Proofs.YtkhifpgpkklokaaGreatDoor
