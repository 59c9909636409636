/-
  Canonical forms, plainly; forests of the rest of a valid list of terms.
-/
import Derived.Test.YtnfghgaadnobbaaGreatDoorFold
namespace Go.Proofs.YtnfghgaadnobbaaGreatDoor

def cmpT (a b : Tm) : Int := if cmpI a.1 b.1 ≠ 0 then cmpI a.1 b.1 else cmpI a.2 b.2
def cmpTL : List Tm → List Tm → Int
  | [], [] => 0
  | [], _ :: _ => -1
  | _ :: _, [] => 1
  | x :: xs, y :: ys => if cmpT x y ≠ 0 then cmpT x y else cmpTL xs ys
/-- by length, then by terms. -/
def gtL (a b : List Tm) : Bool := if a.length = b.length then decide (cmpTL a b > 0) else decide (b.length < a.length)
def stays (t : Tm) : Bool := t.1 != 2 || (t.2 == 1 || t.2 == 5 || t.2 == 6)
def swapE (t : Tm) (bs : List Ex) : List Ex := if stays t then bs else if gtL (flatE (bs.getD 0 (.mk (0, 0) []))) (flatE (bs.getD 1 (.mk (0, 0) []))) then bs.reverse else bs
mutual
def canonE : Ex → Ex
  | .mk t args => .mk t (swapE t (canonEs args))
def canonEs : List Ex → List Ex
  | [] => []
  | x :: xs => canonE x :: canonEs xs
end
theorem canonEs_map (xs : List Ex) : canonEs xs = xs.map canonE := by
  induction xs with
  | nil => rfl
  | cons x xs ih => simp [canonEs, ih]

theorem cmpI_gt (a b : Int) : (cmpI a b ≠ 0 ↔ a ≠ b) ∧ (0 < cmpI a b ↔ b < a) ∧ (cmpI a b = 0 ↔ a = b) ∧ -1 ≤ cmpI a b ∧ cmpI a b ≤ 1 := by
  unfold cmpI; split
  · omega
  · split <;> omega

theorem cmpT_bd (a b : Tm) : -1 ≤ cmpT a b ∧ cmpT a b ≤ 1 := by
  unfold cmpT; split
  · exact (cmpI_gt _ _).2.2.2
  · exact (cmpI_gt _ _).2.2.2
theorem cmpT_eq (a b : Tm) : cmpT a b = 0 ↔ a = b := by
  obtain ⟨a1, a2⟩ := a
  obtain ⟨b1, b2⟩ := b
  have h1 := cmpI_gt a1 b1
  have h2 := cmpI_gt a2 b2
  simp only [cmpT, Prod.mk.injEq]
  split <;> omega
theorem cmpTL_bd : ∀ a b : List Tm, -1 ≤ cmpTL a b ∧ cmpTL a b ≤ 1
  | [], [] => by simp [cmpTL]
  | [], _ :: _ => by simp [cmpTL]
  | _ :: _, [] => by simp [cmpTL]
  | x :: xs, y :: ys => by
    rw [cmpTL]; split
    · exact cmpT_bd _ _
    · exact cmpTL_bd _ _

theorem cmpTL_step (xs ys : List Tm) (k : Nat) (h1 : k < xs.length) (h2 : k < ys.length) :
    cmpTL (xs.drop k) (ys.drop k) = if cmpT xs[k] ys[k] ≠ 0 then cmpT xs[k] ys[k] else cmpTL (xs.drop (k + 1)) (ys.drop (k + 1)) := by
  rw [List.drop_eq_getElem_cons h1, List.drop_eq_getElem_cons h2, cmpTL]

theorem swapE_perm (t : Tm) (bs : List Ex) : (swapE t bs).Perm bs := by
  unfold swapE
  split
  · exact List.Perm.refl _
  · split
    · exact List.reverse_perm _
    · exact List.Perm.refl _

theorem flatEs_length (xs : List Ex) : (flatEs xs).length = (xs.map (fun x => (flatE x).length)).sum := by
  induction xs with
  | nil => rfl
  | cons x xs ih => simp [flatEs, ih]
mutual
theorem canonE_len : ∀ x : Ex, (flatE (canonE x)).length = (flatE x).length
  | .mk t args => by
    have h1 := canonEs_len args
    simp only [canonE, flatE, List.length_cons, flatEs_length] at *
    rw [List.Perm.sum_nat ((swapE_perm t (canonEs args)).map _), h1]
theorem canonEs_len : ∀ xs : List Ex, (flatEs (canonEs xs)).length = (flatEs xs).length
  | [] => rfl
  | x :: xs => by
    simp only [canonEs, flatEs, List.length_append, canonE_len x, canonEs_len xs]
end
mutual
theorem canonE_good (nv : Int) : ∀ x : Ex, goodE nv x = true → goodE nv (canonE x) = true
  | .mk t args, h => by
    rw [goodE_mk] at h
    simp only [Bool.and_eq_true] at h
    have ih := canonEs_good nv args h.2
    rw [canonE, goodE_mk]
    simp only [Bool.and_eq_true]
    refine ⟨⟨?_, h.1.2⟩, ?_⟩
    · rw [(swapE_perm t (canonEs args)).length_eq, canonEs_map, List.length_map]; exact h.1.1
    · rw [goodEs_all, List.all_eq_true] at ih ⊢
      intro x hx
      exact ih x ((swapE_perm t (canonEs args)).mem_iff.1 hx)
theorem canonEs_good (nv : Int) : ∀ xs : List Ex, goodEs nv xs = true → goodEs nv (canonEs xs) = true
  | [], h => h
  | x :: xs, h => by
    rw [goodEs_cons, Bool.and_eq_true] at h
    rw [canonEs, goodEs_cons, Bool.and_eq_true]
    exact ⟨canonE_good nv x h.1, canonEs_good nv xs h.2⟩
end

theorem run_append (nv : Int) : ∀ (a b : List Tm) (n : Int), run nv (a ++ b) n = (run nv a n).bind (run nv b)
  | [], b, n => by simp [run]
  | t :: a, b, n => by
    rw [List.cons_append, run, run]
    split
    · rfl
    · split
      · exact run_append nv a b _
      · rfl
theorem run_nonneg (nv : Int) : ∀ (a : List Tm) (n m : Int), run nv a n = some m → 0 ≤ n → 0 ≤ m
  | [], n, m, h, h0 => by simp [run] at h; omega
  | t :: a, n, m, h, h0 => by
    rw [run] at h
    split at h
    · cases h
    · split at h
      · exact run_nonneg nv a _ m h (by have := arity_bd t; omega)
      · cases h

/-- the forest of the last terms of a valid list, one term longer. -/
theorem forest_step {e : List Tm} (h : eOk e = true) (k : Nat) (hk : k < e.length) (xs : List Ex) (hok : okEs xs = true) (hfl : flatEs xs = e.drop (k + 1)) (hlen : run 29 (e.take (k + 1)) 1 = some (xs.length : Int)) :
    tOk e[k] 29 = true ∧ (arity e[k]).toNat ≤ xs.length ∧ run 29 (e.take k) 1 = some (((xs.length - (arity e[k]).toNat + 1 : Nat)) : Int) ∧
      okEs (.mk e[k] (xs.take (arity e[k]).toNat) :: xs.drop (arity e[k]).toNat) = true ∧ flatEs (.mk e[k] (xs.take (arity e[k]).toNat) :: xs.drop (arity e[k]).toNat) = e.drop k := by
  have hr : run 29 e 1 = some 0 := by unfold eOk isE at h; rw [Bool.and_eq_true] at h; simpa using h.2
  have hb := arity_bd e[k]
  rw [List.take_succ_eq_append_getElem hk, run_append] at hlen
  cases hm : run 29 (e.take k) 1 with
  | none => rw [hm] at hlen; simp at hlen
  | some m =>
    rw [hm] at hlen
    have hm0 := run_nonneg 29 _ _ _ hm (by omega)
    simp only [Option.bind_some, run] at hlen
    split at hlen
    · cases hlen
    · rename_i hne
      split at hlen
      · rename_i ht
        simp only [Option.some.injEq] at hlen
        have hA : (arity e[k]).toNat ≤ xs.length := by omega
        refine ⟨ht, hA, by congr 1; omega, ?_, ?_⟩
        · have hsp : okEs (xs.take (arity e[k]).toNat) = true ∧ okEs (xs.drop (arity e[k]).toNat) = true := by
            rw [← List.take_append_drop (arity e[k]).toNat xs, okEs_append, Bool.and_eq_true] at hok; exact hok
          simp only [okEs, okE, hsp.1, hsp.2, Bool.and_true, decide_eq_true_eq, List.length_take]
          omega
        · rw [List.drop_eq_getElem_cons hk, ← hfl]
          simp only [flatEs, flatE, List.cons_append]
          rw [← flatEs_append, List.take_append_drop]
      · cases hlen

theorem forest_start {e : List Tm} (h : eOk e = true) : run 29 (e.take e.length) 1 = some (([] : List Ex).length : Int) := by
  unfold eOk isE at h; rw [Bool.and_eq_true] at h
  rw [List.take_length]; simpa using h.2
theorem forest_end {e : List Tm} {xs : List Ex} (hlen : run 29 (e.take 0) 1 = some (xs.length : Int)) : ∃ x, xs = [x] := by
  simp [run] at hlen
  match xs, hlen with
  | [x], _ => exact ⟨x, rfl⟩
  | [], h => simp at h
  | _ :: _ :: _, h => simp at h; omega

theorem trees_inj (n : Nat) : ∀ (xs ys : List Ex) (r s : List Tm), (flatEs xs).length ≤ n → okEs xs = true → okEs ys = true → xs.length = ys.length → flatEs xs ++ r = flatEs ys ++ s → xs = ys ∧ r = s := by
  induction n with
  | zero =>
    intro xs ys r s hn _ _ hl h
    cases xs with
    | nil =>
      have : ys = [] := List.eq_nil_of_length_eq_zero (by simpa using hl.symm)
      subst this; exact ⟨rfl, by simpa [flatEs] using h⟩
    | cons x xs => have := flatE_pos x; simp [flatEs] at hn; rw [hn.1] at this; simp at this
  | succ n ih =>
    intro xs ys r s hn h1 h2 hl h
    match xs, ys, hl with
    | [], [], _ => exact ⟨rfl, by simpa [flatEs] using h⟩
    | .mk t cs :: xs, .mk u bs :: ys, hl =>
      simp only [flatEs, flatE, List.cons_append, List.cons.injEq, List.append_assoc, List.length_cons, List.length_append] at h hn
      simp only [okEs, okE, Bool.and_eq_true, decide_eq_true_eq] at h1 h2
      obtain ⟨rfl, h⟩ := h
      have hab : cs.length = bs.length := by have := h1.1.1; have := h2.1.1; omega
      obtain ⟨h3, h4⟩ := ih (cs ++ xs) (bs ++ ys) r s (by rw [flatEs_append, List.length_append]; omega) (by rw [okEs_append, h1.1.2, h1.2]; rfl) (by rw [okEs_append, h2.1.2, h2.2]; rfl)
        (by simp only [List.length_append]; simp at hl; omega) (by rw [flatEs_append, flatEs_append, List.append_assoc, List.append_assoc]; exact h)
      obtain ⟨rfl, rfl⟩ := List.append_inj h3 hab
      exact ⟨rfl, h4⟩
theorem tree_inj {x y : Ex} (h1 : okE x = true) (h2 : okE y = true) (h : flatE x = flatE y) : x = y := by
  have := (trees_inj _ [x] [y] [] [] (Nat.le_refl _) (by simpa [okEs] using h1) (by simpa [okEs] using h2) rfl (by simpa [flatEs] using h)).1
  simpa using this

open Classical in
noncomputable def canonRes (e : List Tm) : List Tm × Int := if h : eOk e = true then (flatE (canonE (treeOf e h)), 0) else ([], 1)

end Go.Proofs.YtnfghgaadnobbaaGreatDoor
