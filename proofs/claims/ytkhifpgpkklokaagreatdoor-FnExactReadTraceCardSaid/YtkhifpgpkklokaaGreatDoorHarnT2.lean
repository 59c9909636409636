/-
  The laws' helper functions over slices of slices (T2): what each call returns and makes.
-/
import Derived.Test.YtkhifpgpkklokaaGreatDoorHarnT
namespace Go.Proofs.YtkhifpgpkklokaaGreatDoor
open Go.RowKit

abbrev R_T2 : Rp (List (List Tm)) := slP R_T1
theorem R_T2k : Kept R_T2 := slP_kept R_T1k
def mkF_T2 (xss : List (List Tm)) : Int := (xss.map mkF_T1).sum
def szF_T2 (xss : List (List Tm)) : Int := xss.length + (xss.map szF_T1).sum
theorem mkF_T2_nonneg (xss : List (List Tm)) : 0 ≤ mkF_T2 xss := by
  unfold mkF_T2; induction xss with
  | nil => simp
  | cons r rs ih => simp only [List.map_cons, List.sum_cons]; have := mkF_T1_nonneg r; omega
theorem szF_T2_sum (xss : List (List Tm)) : 0 ≤ (xss.map szF_T1).sum := by
  induction xss with
  | nil => simp
  | cons r rs ih => simp only [List.map_cons, List.sum_cons]; have := szF_T1_nonneg r; omega
theorem szF_T2_nonneg (xss : List (List Tm)) : 0 ≤ szF_T2 xss := by have := szF_T2_sum xss; unfold szF_T2; omega
theorem mkF_T2_le (xss : List (List Tm)) : mkF_T2 xss ≤ 16 * szF_T2 xss := by
  unfold mkF_T2 szF_T2; induction xss with
  | nil => simp
  | cons r rs ih => simp only [List.map_cons, List.sum_cons, List.length_cons]; have := mkF_T1_le r; omega
theorem mkF_T2_snoc (xss : List (List Tm)) (k : Nat) (h : k < xss.length) : mkF_T2 (xss.take (k + 1)) = mkF_T2 (xss.take k) + mkF_T1 xss[k] := by
  unfold mkF_T2; rw [List.take_succ_eq_append_getElem h, List.map_append, List.sum_append]; simp
theorem mkF_T2_take (xss : List (List Tm)) (k : Nat) : mkF_T2 (xss.take k) ≤ mkF_T2 xss := by
  have h := mkF_T2_nonneg (xss.drop k)
  conv => rhs; rw [← List.take_append_drop k xss]
  unfold mkF_T2 at *; rw [List.map_append, List.sum_append]; omega

def mkd_T2 : Int → List (List Tm) → List (List Tm)
  | _, [] => []
  | k, r :: rs => (fun (k : Int) (r : List Tm) => upT k r.length) k r :: mkd_T2 (k + mkF_T1 r) rs
@[simp] theorem mkd_T2_length (k : Int) (xss : List (List Tm)) : (mkd_T2 k xss).length = xss.length := by
  induction xss generalizing k with
  | nil => rfl
  | cons r rs ih => simp [mkd_T2, ih]
theorem mkd_T2_append (k : Int) (xs ys : List (List Tm)) : mkd_T2 k (xs ++ ys) = mkd_T2 k xs ++ mkd_T2 (k + mkF_T2 xs) ys := by
  induction xs generalizing k with
  | nil => simp [mkd_T2, mkF_T2]
  | cons r rs ih => simp only [List.cons_append, mkd_T2, ih, mkF_T2, List.map_cons, List.sum_cons, Int.add_assoc]
theorem mkd_T2_set (xss : List (List Tm)) (k0 : Int) (k : Nat) (hk : k < xss.length) :
    (mkd_T2 k0 (xss.take k) ++ xss.drop k).set k ((fun (k : Int) (r : List Tm) => upT k r.length) (k0 + mkF_T2 (xss.take k)) xss[k]) = mkd_T2 k0 (xss.take (k + 1)) ++ xss.drop (k + 1) := by
  have hl : (mkd_T2 k0 (xss.take k)).length = k := by simp; omega
  rw [List.set_append_right _ _ (by omega), hl, Nat.sub_self, List.drop_eq_getElem_cons hk, List.set_cons_zero, List.take_succ_eq_append_getElem hk, mkd_T2_append]
  simp [mkd_T2]
theorem mkd_T2_get (xss : List (List Tm)) (k0 : Int) (k : Nat) (hk : k < xss.length) :
    (mkd_T2 k0 xss)[k]'(by simpa using hk) = (fun (k : Int) (r : List Tm) => upT k r.length) (k0 + mkF_T2 (xss.take k)) xss[k] := by
  have h : (mkd_T2 k0 xss)[k]? = some ((fun (k : Int) (r : List Tm) => upT k r.length) (k0 + mkF_T2 (xss.take k)) xss[k]) := by
    conv => lhs; rw [← List.take_append_drop k xss, mkd_T2_append, List.drop_eq_getElem_cons hk, mkd_T2]
    rw [List.getElem?_append_right (by simp; omega)]
    simp [Nat.min_eq_left (Nat.le_of_lt hk)]
  exact Option.some.inj ((List.getElem?_eq_getElem _).symm.trans h)

end Go.Proofs.YtkhifpgpkklokaaGreatDoor
