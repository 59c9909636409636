/-
  The laws' helper functions over lists of numbers: what each call returns and makes.
-/
import Derived.Test.YtkhifpgpkklokaaGreatDoorRows
import Derived.Test.YtkhifpgpkklokaaGreatDoorLib
import Derived.Deep.QuietTactic
import Derived.BigQuiet
namespace Go.Proofs.YtkhifpgpkklokaaGreatDoor
open Go.RowKit

abbrev ei (n : Int) : Value := .int .i64 n
abbrev R1 : Rp (List Int) := slF 1 (fun n => [ei n])
abbrev R2 : Rp (List (List Int)) := slP R1

theorem Tryz.info2 : (Tryz.prog.info? 2).map (fun i => (i.zero, i.size, i.bytes)) = some (some (.int .i64 0), 1, 8) := by kernel_rfl
theorem Tryz.info25 : (Tryz.prog.info? 25).map (fun i => (i.zero, i.size, i.bytes)) = some (some (.slice none 0 0), 1, 24) := by kernel_rfl

theorem R1k : Kept R1 := slF_kept _ _
theorem R2k : Kept R2 := slP_kept R1k

/-- the rows of a matrix, numbered through. -/
def mk2 : Int → List (List Int) → List (List Int)
  | _, [] => []
  | k, r :: rs => upFrom k r.length :: mk2 (k + r.length) rs
def tot (xss : List (List Int)) : Int := (xss.map (fun r => (r.length : Int))).sum
@[simp] theorem mk2_length (k : Int) (xss : List (List Int)) : (mk2 k xss).length = xss.length := by
  induction xss generalizing k with
  | nil => rfl
  | cons r rs ih => simp [mk2, ih]
theorem tot_nonneg (xss : List (List Int)) : 0 ≤ tot xss := by
  unfold tot; induction xss with
  | nil => simp
  | cons r rs ih => simp only [List.map_cons, List.sum_cons]; omega
theorem tot_snoc (xss : List (List Int)) (k : Nat) (h : k < xss.length) : tot (xss.take (k + 1)) = tot (xss.take k) + xss[k].length := by
  unfold tot; rw [List.take_succ_eq_append_getElem h, List.map_append, List.sum_append]; simp
theorem tot_take_le (xss : List (List Int)) (k : Nat) : tot (xss.take k) ≤ tot xss := by
  conv => rhs; rw [← List.take_append_drop k xss]
  have := tot_nonneg (xss.drop k)
  unfold tot at *; simp only [List.map_append, List.sum_append]; omega
theorem mk2_append (k : Int) (xs ys : List (List Int)) : mk2 k (xs ++ ys) = mk2 k xs ++ mk2 (k + tot xs) ys := by
  induction xs generalizing k with
  | nil => simp [mk2, tot]
  | cons r rs ih => simp only [List.cons_append, mk2, ih, tot, List.map_cons, List.sum_cons, Int.add_assoc]
theorem mk2_set (xss : List (List Int)) (k0 : Int) (k : Nat) (hk : k < xss.length) :
    (mk2 k0 (xss.take k) ++ xss.drop k).set k (upFrom (k0 + tot (xss.take k)) xss[k].length) = mk2 k0 (xss.take (k + 1)) ++ xss.drop (k + 1) := by
  have hl : (mk2 k0 (xss.take k)).length = k := by simp; omega
  rw [List.set_append_right _ _ (by omega), hl, Nat.sub_self, List.drop_eq_getElem_cons hk, List.set_cons_zero, List.take_succ_eq_append_getElem hk, mk2_append]
  simp [mk2]
theorem mk2_get (xss : List (List Int)) (k0 : Int) (k : Nat) (hk : k < xss.length) :
    (mk2 k0 xss)[k]'(by simpa using hk) = upFrom (k0 + tot (xss.take k)) xss[k].length := by
  have h : (mk2 k0 xss)[k]? = some (upFrom (k0 + tot (xss.take k)) xss[k].length) := by
    conv => lhs; rw [← List.take_append_drop k xss, mk2_append, List.drop_eq_getElem_cons hk, mk2]
    rw [List.getElem?_append_right (by simp; omega)]
    simp [Nat.min_eq_left (Nat.le_of_lt hk)]
  exact Option.some.inj ((List.getElem?_eq_getElem _).symm.trans h)

end Go.Proofs.YtkhifpgpkklokaaGreatDoor
