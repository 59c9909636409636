/-
  The laws' helper functions over lists of texts.
-/
import Derived.Test.YtnfghgaadnobbaaGreatDoorHarnN
import Derived.Test.YtnfghgaadnobbaaGreatDoorLabB
import Derived.Deep.RegionHeld3
namespace Go.Proofs.YtnfghgaadnobbaaGreatDoor
open Go.RowKit

abbrev R_S1 : Rp (List (List UInt8)) := RS
theorem R_S1k : Kept R_S1 := RSk
def totS (x : List (List UInt8)) : Int := (x.map (fun r => (r.length : Int))).sum
def szF_S1 (x : List (List UInt8)) : Int := x.length + totS x
def mkF_S1 (x : List (List UInt8)) : Int := x.length
theorem totS_nonneg (x : List (List UInt8)) : 0 ≤ totS x := by
  unfold totS; induction x with
  | nil => simp
  | cons r rs ih => simp only [List.map_cons, List.sum_cons]; omega
theorem totS_snoc (x : List (List UInt8)) (k : Nat) (h : k < x.length) : totS (x.take (k + 1)) = totS (x.take k) + x[k].length := by
  unfold totS; rw [List.take_succ_eq_append_getElem h, List.map_append, List.sum_append]; simp
theorem totS_take_le (x : List (List UInt8)) (k : Nat) : totS (x.take k) ≤ totS x := by
  conv => rhs; rw [← List.take_append_drop k x]
  have := totS_nonneg (x.drop k)
  unfold totS at *; simp only [List.map_append, List.sum_append]; omega
theorem totS_mem (x : List (List UInt8)) (p : List UInt8) (h : p ∈ x) : (p.length : Int) ≤ totS x := by
  obtain ⟨k, hk, rfl⟩ := List.mem_iff_getElem.1 h
  have h1 := totS_snoc x k hk
  have h2 := totS_take_le x (k + 1)
  have h3 := totS_nonneg (x.take k)
  omega
theorem szF_S1_nonneg (x : List (List UInt8)) : 0 ≤ szF_S1 x := by have := totS_nonneg x; unfold szF_S1; omega
theorem mkF_S1_nonneg (x : List (List UInt8)) : 0 ≤ mkF_S1 x := by unfold mkF_S1; omega
theorem mkF_S1_le (x : List (List UInt8)) : mkF_S1 x ≤ 16 * szF_S1 x := by have := totS_nonneg x; unfold mkF_S1 szF_S1; omega
theorem str_cat (a b : List UInt8) : (ByteArray.mk a.toArray ++ ByteArray.mk b.toArray) = ByteArray.mk (a ++ b).toArray := ByteArray.mk_append_mk a b

/-- no text is longer than a machine's memory. -/
def strsOk (x : List (List UInt8)) : Prop := ∀ p ∈ x, p.length ≤ 9223372036854775807

/-- the text that marks the number k. -/
def mtx (k : Int) : List UInt8 := 109 :: Lib.decDigits k.toNat

/-- n marks from k on. -/
def mkS (k : Int) (n : Nat) : List (List UInt8) := (upFrom k n).map mtx
@[simp] theorem mkS_length (k : Int) (n : Nat) : (mkS k n).length = n := by simp [mkS]
theorem mkS_get (k : Int) (n i : Nat) (h : i < n) : (mkS k n)[i]? = some (mtx (k + i)) := by
  unfold mkS; rw [List.getElem?_map, upFrom_get k n i h]; rfl
theorem mkS_set (xs : List (List UInt8)) (k0 : Int) (k : Nat) (hk : k < xs.length) : (mkS k0 k ++ xs.drop k).set k (mtx (k0 + k)) = mkS k0 (k + 1) ++ xs.drop (k + 1) := by
  rw [List.set_append_right _ _ (by simp), mkS_length, Nat.sub_self, List.drop_eq_getElem_cons hk, List.set_cons_zero]
  unfold mkS
  rw [upFrom_snoc, List.map_append]
  simp

end Go.Proofs.YtnfghgaadnobbaaGreatDoor
