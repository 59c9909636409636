/-
  What the law FnClosures holds against each other: plain facts.
-/
import Derived.Test.YtkcafdobiloeiaaClosure
namespace Go.Proofs.Ytkcafdobiloeiaa

theorem cmpL_neg : ∀ p q : List Int, cmpL q p = - cmpL p q
  | [], [] => rfl
  | [], _ :: _ => rfl
  | _ :: _, [] => rfl
  | x :: xs, y :: ys => by
    simp only [cmpL]
    by_cases h1 : x < y
    · rw [if_pos h1, if_neg (by omega), if_pos h1]; rfl
    · by_cases h2 : y < x
      · rw [if_pos h2, if_neg h1, if_pos h2]
      · rw [if_neg h2, if_neg h1, if_neg h1, if_neg h2, cmpL_neg xs ys]
theorem ltP_asymm {p q : List Int} (h1 : ltP p q) (h2 : ltP q p) : False := by
  unfold ltP at h1 h2; rw [cmpL_neg p q] at h2; omega
theorem sorted_ext : ∀ xs ys : List (List Int), xs.Pairwise ltP → ys.Pairwise ltP → (∀ p, p ∈ xs ↔ p ∈ ys) → xs = ys
  | [], [], _, _, _ => rfl
  | [], y :: ys, _, _, h => by have := (h y).2 (by simp); simp at this
  | x :: xs, [], _, _, h => by have := (h x).1 (by simp); simp at this
  | x :: xs, y :: ys, h1, h2, h => by
    rw [List.pairwise_cons] at h1 h2
    have hxy : x = y := by
      rcases List.mem_cons.1 ((h x).1 (by simp)) with e | hx
      · exact e
      · rcases List.mem_cons.1 ((h y).2 (by simp)) with e | hy
        · exact e.symm
        · exact (ltP_asymm (h1.1 y hy) (h2.1 x hx)).elim
    subst hxy
    rw [sorted_ext xs ys h1.2 h2.2 (fun p => ?_)]
    constructor
    · intro hp
      rcases List.mem_cons.1 ((h p).1 (List.mem_cons_of_mem _ hp)) with e | hp2
      · subst e; exact (ltP_asymm (h1.1 _ hp) (h1.1 _ hp)).elim
      · exact hp2
    · intro hp
      rcases List.mem_cons.1 ((h p).2 (List.mem_cons_of_mem _ hp)) with e | hp2
      · subst e; exact (ltP_asymm (h2.1 _ hp) (h2.1 _ hp)).elim
      · exact hp2

theorem ltP_pair (a b c d : Int) : ltP [a, b] [c, d] ↔ a < c ∨ (a = c ∧ b < d) := by
  simp only [ltP, cmpL]
  by_cases h1 : a < c
  · rw [if_pos h1]; simp [h1]
  · rw [if_neg h1]
    by_cases h2 : c < a
    · rw [if_pos h2]; simp; omega
    · rw [if_neg h2]
      by_cases h3 : b < d
      · rw [if_pos h3]; simp; omega
      · rw [if_neg h3]
        by_cases h4 : d < b
        · rw [if_pos h4]; simp; omega
        · rw [if_neg h4]; simp; omega

theorem prs_relB {m : Nat} {r : List (List Int)} (h : relB m r = true) : prs m r := by
  intro p hp
  obtain ⟨i, hi, rfl⟩ := List.mem_iff_getElem.1 hp
  obtain ⟨a, b, e, ha, hb⟩ := relB_pair h i hi
  exact ⟨a, b, e, by omega, by omega⟩
theorem sorted_relB {m : Nat} {r : List (List Int)} (h : relB m r = true) : r.Pairwise ltP := by
  rw [List.pairwise_iff_getElem]
  have step : ∀ i, (hi : i + 1 < r.length) → ltP (r[i]'(by omega)) r[i + 1] := by
    intro i hi
    rw [relB, Bool.and_eq_true] at h
    have h1 := relTo_at h.2 hi
    rw [relOk, Bool.and_eq_true] at h1
    have h2 := h1.2
    have g1 : r.getD (i + 1) [] = r[i + 1] := by rw [List.getD_eq_getElem?_getD, List.getElem?_eq_getElem hi]; rfl
    have g2 : r.getD i [] = r[i]'(by omega) := by rw [List.getD_eq_getElem?_getD, List.getElem?_eq_getElem (by omega)]; rfl
    simp only [Nat.add_one_sub_one, g1, g2, Bool.or_eq_true, beq_iff_eq, decide_eq_true_eq] at h2
    rcases h2 with h2 | h2
    · omega
    · exact h2
  intro i j hi hj hij
  induction j with
  | zero => omega
  | succ j ih =>
    by_cases he : i = j
    · subst he; exact step i hj
    · have h1 := ih (by omega) (by omega)
      have h2 := step j hj
      obtain ⟨a, b, e1, -, -⟩ := prs_relB h _ (List.getElem_mem hi)
      obtain ⟨c, d, e2, -, -⟩ := prs_relB h _ (List.getElem_mem (show j < r.length by omega))
      obtain ⟨e, f, e3, -, -⟩ := prs_relB h _ (List.getElem_mem hj)
      rw [e1, e2, ltP_pair] at h1
      rw [e2, e3, ltP_pair] at h2
      rw [e1, e3, ltP_pair]; omega

theorem hasF_mem {m : Nat} {r : List (List Int)} (h : prs m r) (i j : Nat) : hasF r i j = true ↔ [(i : Int), (j : Int)] ∈ r := by
  rw [hasF_iff]
  constructor
  · rintro ⟨p, hp, hP⟩
    obtain ⟨x, y, rfl, -, -⟩ := h p hp
    obtain ⟨rfl, rfl⟩ := (IsP_mk x y i j).1 hP
    exact hp
  · intro hp
    exact ⟨_, hp, (IsP_mk i j i j).2 ⟨rfl, rfl⟩⟩

/-- a relation is the list of its matrix. -/
theorem allTo_hasF {m : Nat} {r : List (List Int)} (h : relB m r = true) : allTo m (hasF r) m = r := by
  refine sorted_ext _ _ (allTo_sorted _ _ _) (sorted_relB h) fun p => ?_
  rw [mem_allTo]
  constructor
  · rintro ⟨i, j, -, -, hf, rfl⟩
    exact (hasF_mem (prs_relB h) i j).1 hf
  · intro hp
    obtain ⟨x, y, rfl, hx, hy⟩ := prs_relB h p hp
    exact ⟨x, y, hx, hy, (hasF_mem (prs_relB h) x y).2 hp, rfl⟩

theorem mem_clos {m : Nat} {F : Nat → Nat → Bool} (i j : Nat) (hi : i < m) (hj : j < m) : [(i : Int), (j : Int)] ∈ allTo m F m ↔ F i j = true := by
  rw [mem_allTo]
  constructor
  · rintro ⟨a, b, -, -, hf, e⟩
    simp at e
    obtain ⟨e1, e2⟩ := e
    obtain rfl : i = a := by omega
    obtain rfl : j = b := by omega
    exact hf
  · intro h; exact ⟨i, j, hi, hj, h, rfl⟩

theorem compF_mem {m : Nat} {r q : List (List Int)} (hr : prs m r) (hq : prs m q) (i j : Nat) : compF r q i j = true ↔ ∃ k, k < m ∧ [(i : Int), (k : Int)] ∈ r ∧ [(k : Int), (j : Int)] ∈ q := by
  simp only [compF, decide_eq_true_eq]
  constructor
  · rintro ⟨p, hp, s, hs, hM⟩
    obtain ⟨x, y, rfl, hx, hy⟩ := hr p hp
    obtain ⟨a, b, rfl, ha, hb⟩ := hq s hs
    obtain ⟨rfl, rfl, rfl⟩ := (M1_mk x y a b i j).1 hM
    exact ⟨y, hy, hp, hs⟩
  · rintro ⟨k, hk, h1, h2⟩
    exact ⟨_, h1, _, h2, (M1_mk i k k j i j).2 ⟨rfl, rfl, rfl⟩⟩

section
variable {m : Nat} {r : List (List Int)}
theorem clos_twice : allTo m (compF (allTo m (closeF m (hasF r)) m) (allTo m (closeF m (hasF r)) m)) m = allTo m (closeF m (hasF r)) m := by
  refine allTo_congr fun i j hi hj => ?_
  rw [Bool.eq_iff_iff, compF_mem (prs_allTo m _) (prs_allTo m _)]
  constructor
  · rintro ⟨k, hk, h1, h2⟩
    exact closeF_trans m _ i j k hi hj hk ((mem_clos i k hi hk).1 h1) ((mem_clos k j hk hj).1 h2)
  · intro h
    exact ⟨j, hj, (mem_clos i j hi hj).2 h, (mem_clos j j hj hj).2 (closeF_refl m _ j hj)⟩
theorem clos_left (hr : relB m r = true) : ∀ p ∈ allTo m (compF r (allTo m (closeF m (hasF r)) m)) m, p ∈ allTo m (closeF m (hasF r)) m := by
  intro p hp
  obtain ⟨i, j, hi, hj, hf, rfl⟩ := (mem_allTo _ _ _ _).1 hp
  rw [compF_mem (prs_relB hr) (prs_allTo m _)] at hf
  obtain ⟨k, hk, h1, h2⟩ := hf
  rw [mem_clos i j hi hj]
  exact closeF_trans m _ i j k hi hj hk (closeF_has m _ i k ((hasF_mem (prs_relB hr) i k).2 h1)) ((mem_clos k j hk hj).1 h2)
theorem clos_span (hr : relB m r = true) : normL (leadL m r) = normL (leadL m (allTo m (closeF m (hasF r)) m)) :=
  normL_lead m r _ (prs_relB hr) (prs_allTo m _)
    (fun x y h => by
      obtain ⟨x', y', e, hx, hy⟩ := prs_relB hr _ h
      simp at e
      obtain ⟨e1, e2⟩ := e
      exact (mem_clos x y (by omega) (by omega)).2 (closeF_has m _ x y ((hasF_mem (prs_relB hr) x y).2 h)))
    (fun x y h => by
      obtain ⟨x', y', e, hx, hy⟩ := prs_allTo m _ _ h
      simp at e
      obtain ⟨e1, e2⟩ := e
      exact (mem_clos x y (by omega) (by omega)).1 h)
end

theorem invTo_mem {m : Nat} {r : List (List Int)} (h : prs m r) (i j : Nat) : invTo r r.length i j = true ↔ [(j : Int), (i : Int)] ∈ r := by
  unfold invTo
  rw [List.take_length, List.any_eq_true]
  constructor
  · rintro ⟨p, hp, hP⟩
    obtain ⟨x, y, rfl, -, -⟩ := h p hp
    simp at hP
    obtain ⟨e1, e2⟩ := hP
    obtain rfl : y = i := by omega
    obtain rfl : x = j := by omega
    exact hp
  · intro hp; exact ⟨_, hp, by simp⟩
theorem inv_back {m : Nat} {r : List (List Int)} (hr : relB m r = true) :
    allTo m (invTo (allTo m (invTo r r.length) m) (allTo m (invTo r r.length) m).length) m = r := by
  conv => rhs; rw [← allTo_hasF hr]
  refine allTo_congr fun i j hi hj => ?_
  rw [Bool.eq_iff_iff, invTo_mem (prs_allTo m _), mem_clos j i hj hi, invTo_mem (prs_relB hr), hasF_mem (prs_relB hr)]

end Go.Proofs.Ytkcafdobiloeiaa
