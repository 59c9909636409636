/-
  Postfix form: the stack of trees, plainly.
-/
import Derived.Test.YtnfghgaadnobbaaGreatDoorOps
namespace Go.Proofs.YtnfghgaadnobbaaGreatDoor

/-- terms in postfix order, onto a stack of trees (its top is the list's end). -/
def pfE : List Tm → List Ex → Option (List Ex)
  | [], st => some st
  | t :: ts, st => if (st.length : Int) < arity t then none else pfE ts (st.take (st.length - (arity t).toNat) ++ [.mk t (st.drop (st.length - (arity t).toNat))])

theorem flatEs_all (P : Tm → Bool) (xs ys : List Ex) : (flatEs (xs ++ ys)).all P = ((flatEs xs).all P && (flatEs ys).all P) := by
  rw [flatEs_append, List.all_append]

theorem pfE_ok : ∀ (ts : List Tm) (st out : List Ex), okEs st = true → pfE ts st = some out → okEs out = true ∧ (∀ P : Tm → Bool, (flatEs out).all P = ((flatEs st).all P && ts.all P)) ∧ (flatEs out).length = (flatEs st).length + ts.length
  | [], st, out, h, hp => by simp [pfE] at hp; subst hp; exact ⟨h, by simp, by simp⟩
  | t :: ts, st, out, h, hp => by
    rw [pfE] at hp
    split at hp
    · cases hp
    · rename_i hlt
      have hb := arity_bd t
      have hst : okEs (st.take (st.length - (arity t).toNat)) = true ∧ okEs (st.drop (st.length - (arity t).toNat)) = true := by
        rw [← List.take_append_drop (st.length - (arity t).toNat) st, okEs_append, Bool.and_eq_true] at h; exact h
      have hfl : flatEs st = flatEs (st.take (st.length - (arity t).toNat)) ++ flatEs (st.drop (st.length - (arity t).toNat)) := by
        rw [← flatEs_append, List.take_append_drop]
      obtain ⟨g1, g2, g3⟩ := pfE_ok ts _ out (by
        rw [okEs_append, hst.1]
        simp only [okEs, okE, hst.2, Bool.and_true, Bool.true_and, decide_eq_true_eq, List.length_drop]
        omega) hp
      refine ⟨g1, fun P => ?_, ?_⟩
      · rw [g2 P, flatEs_all, hfl, List.all_append]
        simp only [flatEs, flatE, List.append_nil, List.all_cons]
        cases (flatEs (List.take (st.length - (arity t).toNat) st)).all P <;> cases (flatEs (List.drop (st.length - (arity t).toNat) st)).all P <;> cases P t <;> cases ts.all P <;> rfl
      · rw [g3, flatEs_append, hfl]
        simp only [flatEs, flatE, List.append_nil, List.length_append, List.length_cons]
        omega

mutual
theorem run_tree (nv : Int) : ∀ (x : Ex) (rest : List Tm) (n : Nat), okE x = true → (flatE x).all (fun t => tOk t nv) = true → run nv (flatE x ++ rest) ((n + 1 : Nat) : Int) = run nv rest n
  | .mk t args, rest, n, h, ha => by
    simp only [okE, Bool.and_eq_true, decide_eq_true_eq] at h
    simp only [flatE, List.all_cons, Bool.and_eq_true] at ha
    rw [flatE, List.cons_append, run, if_neg (by omega), if_pos ha.1, show (((n + 1 : Nat) : Int) + (arity t - 1)) = ((n + args.length : Nat) : Int) from by omega]
    exact run_trees nv args rest n h.2 ha.2
theorem run_trees (nv : Int) : ∀ (xs : List Ex) (rest : List Tm) (n : Nat), okEs xs = true → (flatEs xs).all (fun t => tOk t nv) = true → run nv (flatEs xs ++ rest) ((n + xs.length : Nat) : Int) = run nv rest n
  | [], rest, n, _, _ => by simp [flatEs]
  | x :: xs, rest, n, h, ha => by
    simp only [okEs, Bool.and_eq_true] at h
    simp only [flatEs, List.all_append, Bool.and_eq_true] at ha
    rw [flatEs, List.append_assoc, List.length_cons, show n + (xs.length + 1) = (n + xs.length) + 1 from by omega, run_tree nv x _ _ h.1 ha.1]
    exact run_trees nv xs rest n h.2 ha.2
end

theorem run_all (nv : Int) : ∀ (ts : List Tm) (n : Int), run nv ts n ≠ none → ts.all (fun t => tOk t nv) = true
  | [], _, _ => rfl
  | t :: ts, n, h => by
    rw [run] at h
    split at h
    · exact absurd rfl h
    · split at h
      · rename_i ht
        rw [List.all_cons, ht, run_all nv ts _ h]; rfl
      · exact absurd rfl h

theorem eOk_tree (x : Ex) (h : okE x = true) : eOk (flatE x) = (decide ((flatE x).length ≤ 60) && (flatE x).all (fun t => tOk t 29)) := by
  unfold eOk isE
  cases ha : (flatE x).all (fun t => tOk t 29)
  · have : (run 29 (flatE x) 1 == some 0) = false := by
      cases hr : run 29 (flatE x) 1 with
      | none => rfl
      | some m => have := run_all 29 (flatE x) 1 (by rw [hr]; simp); rw [this] at ha; cases ha
    rw [this]; simp
  · have := run_tree 29 x [] 0 h ha
    simp only [List.append_nil, run] at this
    rw [show ((0 + 1 : Nat) : Int) = 1 from rfl] at this
    rw [this]
    simp only [Int.natCast_zero, beq_self_eq_true, Bool.and_true]
    rw [decide_eq_decide]; omega

end Go.Proofs.YtnfghgaadnobbaaGreatDoor
