/-
  The order of texts.
-/
import Derived.Test.YtnfghgaadnobbaaLib
namespace Go.Proofs.Ytnfghgaadnobbaa
open Go.RowKit

def bl (a b : List UInt8) : Bool := Op.bytesLess a b
theorem bl_total : ∀ a b : List UInt8, (bl a b || a == b) = !bl b a
  | [], [] => rfl
  | [], _ :: _ => rfl
  | _ :: _, [] => rfl
  | a :: x, b :: y => by
    have ih := bl_total x y
    unfold bl at ih ⊢
    simp only [Op.bytesLess]
    rcases Nat.lt_trichotomy a.toNat b.toNat with h | h | h
    · have h1 : a < b := UInt8.lt_iff_toNat_lt.2 h
      have h2 : ¬ b < a := fun h2 => by have := UInt8.lt_iff_toNat_lt.1 h2; omega
      have h3 : ¬ b = a := fun e => by rw [e] at h; omega
      simp [h1, h2, h3]
    · have e : a = b := UInt8.toNat_inj.1 h
      subst e
      have h2 : ¬ a < a := fun h2 => by have := UInt8.lt_iff_toNat_lt.1 h2; omega
      simp only [h2, decide_false, Bool.false_or, beq_self_eq_true, Bool.true_and]
      rw [← ih]
      simp
    · have h1 : b < a := UInt8.lt_iff_toNat_lt.2 h
      have h2 : ¬ a < b := fun h2 => by have := UInt8.lt_iff_toNat_lt.1 h2; omega
      have h3 : ¬ a = b := fun e => by rw [e] at h; omega
      simp [h1, h2, h3]

end Go.Proofs.Ytnfghgaadnobbaa
