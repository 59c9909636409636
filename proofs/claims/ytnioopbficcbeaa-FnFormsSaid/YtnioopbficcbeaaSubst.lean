/-
  A variable replaced by an expression, plainly.
-/
import Derived.Test.YtnioopbficcbeaaFormsP
namespace Go.Proofs.Ytnioopbficcbeaa
open Go.RowKit

/-- terms in which a variable is replaced by terms. -/
def replL (k : Int) (b : List Tm) : List Tm → List Tm
  | [] => []
  | t :: ts => (if t.1 = 1 ∧ t.2 = k then b else [t]) ++ replL k b ts

theorem replL_append (k : Int) (b xs ys : List Tm) : replL k b (xs ++ ys) = replL k b xs ++ replL k b ys := by
  induction xs with
  | nil => rfl
  | cons x xs ih => simp [replL, ih]

theorem replL_len (k : Int) (b xs : List Tm) (n : Nat) (hb : b.length ≤ n) (hn : 1 ≤ n) : (replL k b xs).length ≤ xs.length * n := by
  induction xs with
  | nil => simp [replL]
  | cons x xs ih =>
    have h1 : (if x.1 = 1 ∧ x.2 = k then b else [x]).length ≤ n := by
      split
      · exact hb
      · simpa using hn
    rw [replL, List.length_append, List.length_cons, Nat.add_mul]
    omega

mutual
def subE (k : Int) (y : Ex) : Ex → Ex
  | .mk t args => if t.1 = 1 ∧ t.2 = k then y else .mk t (subEs k y args)
def subEs (k : Int) (y : Ex) : List Ex → List Ex
  | [] => []
  | x :: xs => subE k y x :: subEs k y xs
end

theorem subEs_length (k : Int) (y : Ex) (xs : List Ex) : (subEs k y xs).length = xs.length := by
  induction xs with
  | nil => rfl
  | cons x xs ih => simp [subEs, ih]

theorem var_args {nv : Int} {t : Tm} {args : List Ex} (h : goodE nv (.mk t args) = true) (h1 : t.1 = 1) : args = [] := by
  rw [goodE_mk] at h
  simp only [Bool.and_eq_true, decide_eq_true_eq] at h
  have := h.1.1
  simp [arity, h1] at this
  exact this

mutual
theorem flatE_sub (nv k : Int) (y : Ex) : ∀ x : Ex, goodE nv x = true → flatE (subE k y x) = replL k (flatE y) (flatE x)
  | .mk t args, h => by
    rw [subE]
    split
    · rename_i h1
      have ha := var_args h h1.1
      subst ha
      simp [flatE, flatEs, replL, h1]
    · rename_i h1
      rw [goodE_mk] at h
      simp only [Bool.and_eq_true] at h
      simp only [flatE, replL, if_neg h1, flatEs_sub nv k y args h.2, List.cons_append, List.nil_append]
theorem flatEs_sub (nv k : Int) (y : Ex) : ∀ xs : List Ex, goodEs nv xs = true → flatEs (subEs k y xs) = replL k (flatE y) (flatEs xs)
  | [], _ => rfl
  | x :: xs, h => by
    rw [goodEs_cons, Bool.and_eq_true] at h
    rw [subEs, flatEs, flatEs, replL_append, flatE_sub nv k y x h.1, flatEs_sub nv k y xs h.2]
end

mutual
theorem subE_good (nv k : Int) (y : Ex) (hy : goodE nv y = true) : ∀ x : Ex, goodE nv x = true → goodE nv (subE k y x) = true
  | .mk t args, h => by
    rw [subE]
    split
    · exact hy
    · rw [goodE_mk] at h ⊢
      simp only [Bool.and_eq_true] at h ⊢
      exact ⟨⟨by rw [subEs_length]; exact h.1.1, h.1.2⟩, subEs_good nv k y hy args h.2⟩
theorem subEs_good (nv k : Int) (y : Ex) (hy : goodE nv y = true) : ∀ xs : List Ex, goodEs nv xs = true → goodEs nv (subEs k y xs) = true
  | [], h => h
  | x :: xs, h => by
    rw [goodEs_cons, Bool.and_eq_true] at h
    rw [subEs, goodEs_cons, Bool.and_eq_true]
    exact ⟨subE_good nv k y hy x h.1, subEs_good nv k y hy xs h.2⟩
end

mutual
theorem valE_sub (vals : List Int) (nv : Int) (k : Nat) (hk : k < vals.length) (y : Ex) : ∀ x : Ex, goodE nv x = true → valE vals (subE k y x) = valE (vals.set k (valE vals y)) x
  | .mk t args, h => by
    rw [subE]
    split
    · rename_i h1
      have ht : t.1 ≠ 0 := by omega
      have : t.2.toNat = k := by omega
      rw [valE, if_neg ht, if_pos h1.1, this]
      simp [List.getD_eq_getElem?_getD, hk]
    · rename_i h1
      have h0 := h
      rw [goodE_mk] at h
      simp only [Bool.and_eq_true] at h
      rw [valE, valE, valEs_sub vals nv k hk y args h.2]
      by_cases hv : t.1 = 1
      · have ht : t.1 ≠ 0 := by omega
        rw [if_neg ht, if_neg ht, if_pos hv, if_pos hv]
        have hok := h.1.2
        simp [tOk, hv] at hok
        have hb := inB_true hok
        have : t.2.toNat ≠ k := fun e => h1 ⟨hv, by omega⟩
        simp [List.getD_eq_getElem?_getD, Ne.symm this]
      · rw [if_neg hv, if_neg hv]
theorem valEs_sub (vals : List Int) (nv : Int) (k : Nat) (hk : k < vals.length) (y : Ex) : ∀ xs : List Ex, goodEs nv xs = true → valEs vals (subEs k y xs) = valEs (vals.set k (valE vals y)) xs
  | [], _ => rfl
  | x :: xs, h => by
    rw [goodEs_cons, Bool.and_eq_true] at h
    rw [subEs, valEs, valEs, valE_sub vals nv k hk y x h.1, valEs_sub vals nv k hk y xs h.2]
end

end Go.Proofs.Ytnioopbficcbeaa
