/-
  Values of trees, and folding, plainly.
-/
import Derived.Test.YtnfghgaadnobbaaGreatDoorPost
namespace Go.Proofs.YtnfghgaadnobbaaGreatDoor

def truthV (b : Bool) : Int := if b then 1 else 0
def opV (op a b : Int) : Int :=
  if op = 0 then (a + b) % 64 else if op = 1 then (a - b + 64) % 64 else if op = 2 then a * b % 64
  else if op = 3 then truthV (a == b) else if op = 4 then truthV (a != b) else if op = 5 then truthV (decide (a < b)) else if op = 6 then truthV (decide (a ≤ b))
  else if op = 7 then truthV (a != 0 && b != 0) else truthV (a != 0 || b != 0)

theorem truthV_bd (b : Bool) : 0 ≤ truthV b ∧ truthV b ≤ 63 := by unfold truthV; split <;> omega
theorem opV_bd (op a b : Int) : 0 ≤ opV op a b ∧ opV op a b ≤ 63 := by
  unfold opV
  repeat' split
  all_goals first | exact truthV_bd _ | (constructor <;> omega)

mutual
def valE (vals : List Int) : Ex → Int
  | .mk t args => if t.1 = 0 then t.2 else if t.1 = 1 then vals.getD t.2.toNat 0 else if t.1 = 3 then truthV ((valEs vals args).getD 0 0 == 0) else opV t.2 ((valEs vals args).getD 0 0) ((valEs vals args).getD 1 0)
def valEs (vals : List Int) : List Ex → List Int
  | [] => []
  | x :: xs => valE vals x :: valEs vals xs
end

def isNum : Ex → Bool | .mk t _ => t.1 == 0
mutual
def foldE : Ex → Ex
  | .mk t args => if args = [] then .mk t args else if (foldEs args).all isNum then .mk (0, valE [] (.mk t (foldEs args))) [] else .mk t (foldEs args)
def foldEs : List Ex → List Ex
  | [] => []
  | x :: xs => foldE x :: foldEs xs
end

theorem foldEs_map (xs : List Ex) : foldEs xs = xs.map foldE := by
  induction xs with
  | nil => rfl
  | cons x xs ih => simp [foldEs, ih]
theorem valEs_map (vals : List Int) (xs : List Ex) : valEs vals xs = xs.map (valE vals) := by
  induction xs with
  | nil => rfl
  | cons x xs ih => simp [valEs, ih]

/-- a tree with valid terms for a number of variables. -/
def goodE (nv : Int) (x : Ex) : Bool := okE x && (flatE x).all (fun t => tOk t nv)
def goodEs (nv : Int) (xs : List Ex) : Bool := okEs xs && (flatEs xs).all (fun t => tOk t nv)

theorem goodEs_cons (nv : Int) (x : Ex) (xs : List Ex) : goodEs nv (x :: xs) = (goodE nv x && goodEs nv xs) := by
  simp only [goodEs, goodE, okEs, flatEs, List.all_append]
  cases okE x <;> cases okEs xs <;> simp
theorem goodEs_all (nv : Int) (xs : List Ex) : goodEs nv xs = xs.all (goodE nv) := by
  induction xs with
  | nil => rfl
  | cons x xs ih => rw [goodEs_cons, ih]; rfl
theorem goodE_mk (nv : Int) (t : Tm) (args : List Ex) : goodE nv (.mk t args) = (decide ((args.length : Int) = arity t) && tOk t nv && goodEs nv args) := by
  simp only [goodE, goodEs, okE, flatE, List.all_cons]
  cases decide ((args.length : Int) = arity t) <;> cases tOk t nv <;> cases okEs args <;> simp

theorem tOk_kind {t : Tm} {nv : Int} (h : tOk t nv = true) : t.1 = 0 ∨ t.1 = 1 ∨ t.1 = 2 ∨ t.1 = 3 := by
  unfold tOk at h
  repeat' split at h
  all_goals first | omega | cases h

theorem arity0 {t : Tm} {nv : Int} (h : tOk t nv = true) (h0 : arity t = 0) : t.1 = 0 ∨ t.1 = 1 := by
  rcases tOk_kind h with h | h | h | h
  · exact Or.inl h
  · exact Or.inr h
  · simp [arity, h] at h0
  · simp [arity, h] at h0

mutual
theorem valE_bd (vals : List Int) (nv : Int) (hv : ∀ k, 0 ≤ vals.getD k 0 ∧ vals.getD k 0 ≤ 63) : ∀ x : Ex, goodE nv x = true → 0 ≤ valE vals x ∧ valE vals x ≤ 63
  | .mk t args, h => by
    rw [goodE_mk] at h
    simp only [Bool.and_eq_true] at h
    rw [valE]
    split
    · rename_i h0
      have := h.1.2
      simp only [tOk, h0, if_true] at this
      exact inB_true this
    · split
      · exact hv _
      · split
        · exact truthV_bd _
        · exact opV_bd _ _ _
end

theorem isNum_good {x : Ex} {nv : Int} (h : goodE nv x = true) (hn : isNum x = true) : ∃ n, x = .mk (0, n) [] ∧ 0 ≤ n ∧ n ≤ 63 := by
  obtain ⟨⟨a, n⟩, args⟩ := x
  simp [isNum] at hn
  subst hn
  rw [goodE_mk] at h
  simp only [Bool.and_eq_true, decide_eq_true_eq] at h
  have ha : args = [] := List.eq_nil_of_length_eq_zero (by have := h.1.1; simp [arity] at this; simpa using this)
  subst ha
  have := h.1.2
  simp only [tOk, if_true] at this
  exact ⟨n, rfl, inB_true this⟩

mutual
theorem foldE_good (nv : Int) : ∀ x : Ex, goodE nv x = true → goodE nv (foldE x) = true
  | .mk t args, h => by
    rw [foldE]
    split
    · exact h
    · have h' := h
      rw [goodE_mk] at h
      simp only [Bool.and_eq_true] at h
      have ih := foldEs_good nv args h.2
      have hx : goodE nv (.mk t (foldEs args)) = true := by
        rw [goodE_mk]; simp only [Bool.and_eq_true]; exact ⟨⟨by rw [foldEs_map, List.length_map]; exact h.1.1, h.1.2⟩, ih⟩
      split
      · have hb := valE_bd [] nv (by intro k; simp) _ hx
        rw [goodE_mk]
        simp only [Bool.and_eq_true]
        exact ⟨⟨by simp [arity], by simp only [tOk, if_true]; exact inB_mk hb⟩, rfl⟩
      · exact hx
theorem foldEs_good (nv : Int) : ∀ xs : List Ex, goodEs nv xs = true → goodEs nv (foldEs xs) = true
  | [], h => h
  | x :: xs, h => by
    rw [goodEs_cons, Bool.and_eq_true] at h
    rw [foldEs, goodEs_cons, Bool.and_eq_true]
    exact ⟨foldE_good nv x h.1, foldEs_good nv xs h.2⟩
end

mutual
theorem foldE_len : ∀ x : Ex, (flatE (foldE x)).length ≤ (flatE x).length
  | .mk t args => by
    rw [foldE]
    split
    · exact Nat.le_refl _
    · split
      · simp [flatE, flatEs]
      · simp only [flatE, List.length_cons]; have := foldEs_len args; omega
theorem foldEs_len : ∀ xs : List Ex, (flatEs (foldEs xs)).length ≤ (flatEs xs).length
  | [] => Nat.le_refl _
  | x :: xs => by
    simp only [foldEs, flatEs, List.length_append]
    have := foldE_len x; have := foldEs_len xs; omega
end

theorem eOk_good {e : List Tm} (h : eOk e = true) (x : Ex) (hok : okE x = true) (hfl : flatE x = e) : goodE 29 x = true := by
  have ha : (flatE x).all (fun t => tOk t 29) = true := by
    rw [hfl]
    unfold eOk isE at h
    rw [Bool.and_eq_true] at h
    exact run_all 29 e 1 (by have := h.2; intro hh; rw [hh] at this; simp at this)
  unfold goodE; rw [hok, ha]; rfl

mutual
/-- folding changes no value. -/
theorem valE_fold (vals : List Int) (nv : Int) : ∀ x : Ex, goodE nv x = true → valE vals (foldE x) = valE vals x
  | .mk t args, h => by
    rw [goodE_mk] at h
    simp only [Bool.and_eq_true, decide_eq_true_eq] at h
    rw [foldE]
    split
    · rfl
    · rename_i hne
      have ih := valEs_fold vals nv args h.2
      have hg := foldEs_good nv args h.2
      split
      · rename_i hnum
        have hk : t.1 ≠ 0 ∧ t.1 ≠ 1 := by
          have hz : arity t ≠ 0 := by rw [← h.1.1]; intro hz; exact hne (List.eq_nil_of_length_eq_zero (by omega))
          constructor <;> (intro e; apply hz; simp [arity, e])
        have hsame : valEs [] (foldEs args) = valEs vals args := by
          rw [← ih]
          exact vals_num vals nv (foldEs args) hg hnum
        simp only [valE, if_true, hk.1, hk.2, if_false, hsame]
      · simp only [valE, ih]
theorem valEs_fold (vals : List Int) (nv : Int) : ∀ xs : List Ex, goodEs nv xs = true → valEs vals (foldEs xs) = valEs vals xs
  | [], _ => rfl
  | x :: xs, h => by
    rw [goodEs_cons, Bool.and_eq_true] at h
    rw [foldEs, valEs, valEs, valE_fold vals nv x h.1, valEs_fold vals nv xs h.2]
theorem vals_num (vals : List Int) (nv : Int) : ∀ xs : List Ex, goodEs nv xs = true → xs.all isNum = true → valEs [] xs = valEs vals xs
  | [], _, _ => rfl
  | x :: xs, h, hn => by
    rw [goodEs_cons, Bool.and_eq_true] at h
    rw [List.all_cons, Bool.and_eq_true] at hn
    obtain ⟨n, rfl, -⟩ := isNum_good h.1 hn.1
    rw [valEs, valEs, vals_num vals nv xs h.2 hn.2]
    simp [valE]
end

end Go.Proofs.YtnfghgaadnobbaaGreatDoor
