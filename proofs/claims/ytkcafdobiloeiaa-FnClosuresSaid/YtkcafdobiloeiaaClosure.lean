/-
  The closure of a relation, the numbering and the span: plain facts.
-/
import Derived.Test.YtkcafdobiloeiaaSpan
namespace Go.Proofs.Ytkcafdobiloeiaa

theorem wRow_eq (m : Nat) (F : Nat → Nat → Bool) (b : Nat) : ∀ (a i j : Nat), wRow m F b a i j = (F i j || (decide (i < a ∧ j < m) && (F i b && F b j)))
  | 0, i, j => by simp [wRow]
  | a + 1, i, j => by
    have h1 : wRow m F b a a b = F a b := by rw [wRow_eq m F b a]; simp
    have h2 : ∀ j, wRow m F b a b j = F b j := by
      intro j; rw [wRow_eq m F b a]; cases F b b <;> cases F b j <;> simp
    rw [wRow, rowPart, h1, h2, wRow_eq m F b a]
    by_cases hia : i = a
    · subst hia
      cases F i j <;> cases F i b <;> cases F b j <;> simp
    · have e1 : decide (i = a ∧ j < m) = false := by simp [hia]
      have e2 : decide (i < a + 1 ∧ j < m) = decide (i < a ∧ j < m) := by rw [decide_eq_decide]; omega
      rw [e1, e2]; simp

theorem wAll_succ (m : Nat) (F : Nat → Nat → Bool) (b i j : Nat) : wAll m F (b + 1) i j = true ↔ wAll m F b i j = true ∨ (i < m ∧ j < m ∧ wAll m F b i b = true ∧ wAll m F b b j = true) := by
  rw [wAll, wRow_eq]
  simp [and_assoc]

theorem wAll_closed (m : Nat) (F : Nat → Nat → Bool) : ∀ b, b ≤ m → ∀ k, k < b → ∀ i j, i < m → j < m → wAll m F b i k = true → wAll m F b k j = true → wAll m F b i j = true
  | 0, _, k, hk, _, _, _, _, _, _ => by omega
  | b + 1, hb, k, hk, i, j, hi, hj, h1, h2 => by
    have ih := wAll_closed m F b (by omega)
    rw [wAll_succ] at h1 h2 ⊢
    by_cases hkb : k = b
    · subst hkb
      have g1 : wAll m F k i k = true := by rcases h1 with h | ⟨-, -, h, -⟩ <;> exact h
      have g2 : wAll m F k k j = true := by rcases h2 with h | ⟨-, -, -, h⟩ <;> exact h
      exact Or.inr ⟨hi, hj, g1, g2⟩
    · have hkb' : k < b := by omega
      rcases h1 with h1 | ⟨-, -, h1, h1'⟩
      · rcases h2 with h2 | ⟨-, -, h2, h2'⟩
        · exact Or.inl (ih k hkb' i j hi hj h1 h2)
        · exact Or.inr ⟨hi, hj, ih k hkb' i b hi (by omega) h1 h2, h2'⟩
      · rcases h2 with h2 | ⟨-, -, h2, h2'⟩
        · exact Or.inr ⟨hi, hj, h1, ih k hkb' b j (by omega) hj h1' h2⟩
        · exact Or.inr ⟨hi, hj, h1, h2'⟩

theorem wAll_mono (m : Nat) (F : Nat → Nat → Bool) (i j : Nat) (h : F i j = true) : ∀ b, wAll m F b i j = true
  | 0 => h
  | b + 1 => by rw [wAll_succ]; exact Or.inl (wAll_mono m F i j h b)

theorem wAll_least (m : Nat) (F : Nat → Nat → Bool) (T : Nat → Nat → Prop) (ht : ∀ i j k, T i j → T j k → T i k) (hF : ∀ i j, F i j = true → T i j) : ∀ b i j, wAll m F b i j = true → T i j
  | 0, i, j, h => hF i j h
  | b + 1, i, j, h => by
    rw [wAll_succ] at h
    rcases h with h | ⟨-, -, h1, h2⟩
    · exact wAll_least m F T ht hF b i j h
    · exact ht _ _ _ (wAll_least m F T ht hF b i b h1) (wAll_least m F T ht hF b b j h2)

theorem closeF_refl (m : Nat) (F : Nat → Nat → Bool) (i : Nat) (h : i < m) : closeF m F i i = true := wAll_mono _ _ _ _ (by simp [reflTo, h]) _
theorem closeF_has (m : Nat) (F : Nat → Nat → Bool) (i j : Nat) (h : F i j = true) : closeF m F i j = true := wAll_mono _ _ _ _ (by simp [reflTo, h]) _
theorem closeF_trans (m : Nat) (F : Nat → Nat → Bool) (i j k : Nat) (hi : i < m) (hj : j < m) (hk : k < m) (h1 : closeF m F i k = true) (h2 : closeF m F k j = true) : closeF m F i j = true :=
  wAll_closed m _ m (Nat.le_refl _) k hk i j hi hj h1 h2
theorem closeF_least (m : Nat) (F : Nat → Nat → Bool) (T : Nat → Nat → Prop) (hr : ∀ i, T i i) (ht : ∀ i j k, T i j → T j k → T i k) (hF : ∀ i j, F i j = true → T i j) (i j : Nat) (h : closeF m F i j = true) : T i j := by
  refine wAll_least m _ T ht (fun i j h => ?_) m i j h
  simp only [reflTo, Bool.or_eq_true, decide_eq_true_eq] at h
  rcases h with h | ⟨rfl, -⟩
  · exact hF i j h
  · exact hr i

/-! ### Numbering -/
theorem normL_congr (xs ys : List Int) (hl : xs.length = ys.length) (h : ∀ i j, (hi : i < xs.length) → (hj : j < xs.length) → (xs[i] = xs[j] ↔ ys[i]'(by omega) = ys[j]'(by omega))) : normL xs = normL ys := by
  have key : ∀ k, k ≤ xs.length → (seen (xs.take k)).length = (seen (ys.take k)).length ∧ ∀ i, (hi : i < xs.length) → i < k → (seen (xs.take k)).idxOf xs[i] = (seen (ys.take k)).idxOf (ys[i]'(by omega)) := by
    intro k
    induction k with
    | zero => intro _; exact ⟨by simp [seen], fun i _ hi => by omega⟩
    | succ k ih =>
      intro hk
      obtain ⟨h1, h2⟩ := ih (by omega)
      have hkx : k < xs.length := by omega
      have hky : k < ys.length := by omega
      have mem : ∀ (zs : List Int) (hz : k < zs.length), zs[k] ∈ seen (zs.take k) ↔ ∃ i, ∃ (_ : i < k), zs[i]'(by omega) = zs[k] := by
        intro zs hz
        rw [mem_seen, List.mem_iff_getElem]
        constructor
        · rintro ⟨i, hi, e⟩
          simp at hi
          exact ⟨i, by omega, by simpa using e⟩
        · rintro ⟨i, hi, e⟩
          exact ⟨i, by simp; omega, by simpa using e⟩
      have hmem : xs[k] ∈ seen (xs.take k) ↔ ys[k] ∈ seen (ys.take k) := by
        rw [mem xs hkx, mem ys hky]
        constructor
        · rintro ⟨i, hi, e⟩; exact ⟨i, hi, (h i k (by omega) hkx).1 e⟩
        · rintro ⟨i, hi, e⟩; exact ⟨i, hi, (h i k (by omega) hkx).2 e⟩
      rw [seen_take xs k hkx, seen_take ys k hky]
      by_cases hin : xs[k] ∈ seen (xs.take k)
      · rw [if_pos hin, if_pos (hmem.1 hin)]
        refine ⟨h1, fun i hi hik => ?_⟩
        by_cases hik' : i = k
        · subst hik'
          obtain ⟨q, hq, e⟩ := (mem xs hkx).1 hin
          have e2 := (h q i (by omega) hkx).1 e
          rw [← e, ← e2]
          exact h2 q (by omega) hq
        · exact h2 i hi (by omega)
      · have hin2 : ¬ ys[k] ∈ seen (ys.take k) := fun hh => hin (hmem.2 hh)
        rw [if_neg hin, if_neg hin2]
        refine ⟨by simp [h1], fun i hi hik => ?_⟩
        by_cases hik' : i = k
        · subst hik'
          rw [List.idxOf_append, List.idxOf_append, if_neg hin, if_neg hin2]
          simp [h1]
        · have m1 : xs[i] ∈ seen (xs.take k) := by rw [mem_seen, List.mem_iff_getElem]; exact ⟨i, by simp; omega, by simp⟩
          have m2 : ys[i]'(by omega) ∈ seen (ys.take k) := by rw [mem_seen, List.mem_iff_getElem]; exact ⟨i, by simp; omega, by simp⟩
          rw [List.idxOf_append, List.idxOf_append, if_pos m1, if_pos m2]
          exact h2 i hi (by omega)
  obtain ⟨-, h2⟩ := key xs.length (Nat.le_refl _)
  rw [List.take_length, show ys.take xs.length = ys from by rw [hl, List.take_length]] at h2
  unfold normL
  apply List.ext_getElem (by simp [hl])
  intro i hi hi2
  simp only [List.getElem_map]
  rw [h2 i (by simpa using hi) (by simpa using hi)]

/-! ### The span -/
def foldM (r : List (List Int)) (l : List Int) : List Int := r.foldl (fun l p => mergeL l (p.getD 0 0).toNat (p.getD 1 0).toNat) l
theorem foldM_length (r : List (List Int)) : ∀ l, (foldM r l).length = l.length := by
  induction r with
  | nil => intro l; rfl
  | cons p r ih => intro l; show (foldM r _).length = _; rw [ih, mergeL_length]
theorem foldM_keep (r : List (List Int)) : ∀ (l : List Int) (i j : Nat), l.getD i 0 = l.getD j 0 → i < l.length → j < l.length → (foldM r l).getD i 0 = (foldM r l).getD j 0 := by
  induction r with
  | nil => intro l i j h _ _; exact h
  | cons p r ih =>
    intro l i j h hi hj
    refine ih _ i j ?_ (by rw [mergeL_length]; exact hi) (by rw [mergeL_length]; exact hj)
    simp only [mergeL, List.getD_eq_getElem?_getD, List.getElem?_map, List.getElem?_eq_getElem hi, List.getElem?_eq_getElem hj, Option.map_some, Option.getD_some] at h ⊢
    rw [h]
def prs (m : Nat) (r : List (List Int)) : Prop := ∀ p ∈ r, ∃ x y : Nat, p = [(x : Int), (y : Int)] ∧ x < m ∧ y < m
theorem mergeL_get (l : List Int) (x y i : Nat) (hi : i < l.length) : (mergeL l x y).getD i 0 = repl (l.getD x 0) (l.getD y 0) (l.getD i 0) := by
  simp only [mergeL, List.getD_eq_getElem?_getD, List.getElem?_map, List.getElem?_eq_getElem hi, Option.map_some, Option.getD_some]
theorem foldM_has (m : Nat) (r : List (List Int)) : ∀ (l : List Int), l.length = m → prs m r → ∀ x y : Nat, [(x : Int), (y : Int)] ∈ r → (foldM r l).getD x 0 = (foldM r l).getD y 0 := by
  induction r with
  | nil => intro l _ _ x y h; simp at h
  | cons p r ih =>
    intro l hl hp x y h
    have hp' : prs m r := fun q hq => hp q (List.mem_cons_of_mem _ hq)
    rcases List.mem_cons.1 h with h | h
    · obtain ⟨x', y', e, hx, hy⟩ := hp p (by simp)
      rw [← h] at e
      simp at e
      obtain ⟨e1, e2⟩ := e
      obtain rfl : x = x' := by omega
      obtain rfl : y = y' := by omega
      subst h
      refine foldM_keep r _ x y ?_ (by rw [mergeL_length, hl]; exact hx) (by rw [mergeL_length, hl]; exact hy)
      simp only [List.getD_cons_zero, List.getD_cons_succ, Int.toNat_natCast]
      rw [mergeL_get _ _ _ _ (by rw [hl]; exact hx), mergeL_get _ _ _ _ (by rw [hl]; exact hy)]
      unfold repl; rw [if_pos rfl]; split <;> rfl
    · exact ih _ (by rw [mergeL_length]; exact hl) hp' x y h
theorem foldM_least (m : Nat) (r : List (List Int)) (T : Nat → Nat → Prop) (hs : ∀ i j, T i j → T j i) (ht : ∀ i j k, T i j → T j k → T i k) :
    ∀ (l : List Int), l.length = m → prs m r → (∀ x y : Nat, [(x : Int), (y : Int)] ∈ r → T x y) → (∀ i j, i < m → j < m → l.getD i 0 = l.getD j 0 → T i j) → ∀ i j, i < m → j < m → (foldM r l).getD i 0 = (foldM r l).getD j 0 → T i j := by
  induction r with
  | nil => intro l _ _ _ h0 i j hi hj h; exact h0 i j hi hj h
  | cons p r ih =>
    intro l hl hp hT h0 i j hi hj h
    have hp' : prs m r := fun q hq => hp q (List.mem_cons_of_mem _ hq)
    obtain ⟨x, y, rfl, hx, hy⟩ := hp p (by simp)
    have hxy := hT x y (by simp)
    refine ih (mergeL l x y) (by rw [mergeL_length]; exact hl) hp' (fun a b hab => hT a b (List.mem_cons_of_mem _ hab)) ?_ i j hi hj (by simpa [foldM] using h)
    intro a b ha hb hab
    rw [mergeL_get _ _ _ _ (by omega), mergeL_get _ _ _ _ (by omega)] at hab
    unfold repl at hab
    split at hab
    · rename_i e1
      split at hab
      · rename_i e2; exact h0 a b ha hb (by rw [e1, e2])
      · exact ht _ _ _ (h0 a x ha hx e1) (ht _ _ _ hxy (h0 y b hy hb hab))
    · split at hab
      · rename_i e2
        exact ht _ _ _ (h0 a y ha hy hab) (ht _ _ _ (hs _ _ hxy) (h0 x b hx hb e2.symm))
      · exact h0 a b ha hb hab


theorem leadL_fold (m : Nat) (r : List (List Int)) : leadL m r = foldM r (upFrom 0 m) := rfl
theorem upFrom_getD (m i : Nat) (h : i < m) : (upFrom 0 m).getD i 0 = i := by
  rw [List.getD_eq_getElem?_getD, upFrom_get 0 m i h]; simp

/-- lists of pairs with the same closure have the same span. -/
theorem normL_lead (m : Nat) (r c : List (List Int)) (hr : prs m r) (hc : prs m c) (h1 : ∀ x y : Nat, [(x : Int), (y : Int)] ∈ r → [(x : Int), (y : Int)] ∈ c)
    (h2 : ∀ x y : Nat, [(x : Int), (y : Int)] ∈ c → closeF m (hasF r) x y = true) : normL (leadL m r) = normL (leadL m c) := by
  have hlr := leadL_length m r
  have hlc := leadL_length m c
  have get : ∀ (z : List (List Int)) (i : Nat) (hi : i < (leadL m z).length), (leadL m z)[i] = (leadL m z).getD i 0 := by
    intro z i hi; rw [List.getD_eq_getElem?_getD, List.getElem?_eq_getElem hi]; rfl
  refine normL_congr _ _ (by rw [hlr, hlc]) fun i j hi hj => ?_
  have hi' : i < m := by omega
  have hj' : j < m := by omega
  rw [get r i hi, get r j hj, get c i (by omega), get c j (by omega)]
  have start : ∀ (T : Nat → Nat → Prop), (∀ i, T i i) → ∀ i j, i < m → j < m → (upFrom 0 m).getD i 0 = (upFrom 0 m).getD j 0 → T i j := by
    intro T hT i j hi hj h
    rw [upFrom_getD m i hi, upFrom_getD m j hj] at h
    obtain rfl : i = j := by omega
    exact hT i
  constructor
  · exact foldM_least m r (fun i j => (leadL m c).getD i 0 = (leadL m c).getD j 0) (fun _ _ h => h.symm) (fun _ _ _ h k => h.trans k) (upFrom 0 m) (by simp) hr
      (fun x y hxy => foldM_has m c (upFrom 0 m) (by simp) hc x y (h1 x y hxy)) (start _ (fun _ => rfl)) i j hi' hj'
  · refine foldM_least m c (fun i j => (leadL m r).getD i 0 = (leadL m r).getD j 0) (fun _ _ h => h.symm) (fun _ _ _ h k => h.trans k) (upFrom 0 m) (by simp) hc
      (fun x y hxy => ?_) (start _ (fun _ => rfl)) i j hi' hj'
    refine closeF_least m (hasF r) (fun i j => (leadL m r).getD i 0 = (leadL m r).getD j 0) (fun _ => rfl) (fun _ _ _ h k => h.trans k) (fun a b hab => ?_) x y (h2 x y hxy)
    obtain ⟨p, hp, hP⟩ := (hasF_iff r a b).1 hab
    obtain ⟨x', y', rfl, hx', hy'⟩ := hr p hp
    obtain ⟨rfl, rfl⟩ := (IsP_mk x' y' a b).1 hP
    exact foldM_has m r (upFrom 0 m) (by simp) hr a b hp

/-! ### The list of a matrix -/
theorem mem_rowTo (f : Nat → Nat → Bool) (i k : Nat) (p : List Int) : p ∈ rowTo f i k ↔ ∃ j, j < k ∧ f i j = true ∧ p = [(i : Int), (j : Int)] := by
  induction k with
  | zero => simp [rowTo]
  | succ k ih =>
    rw [rowTo_succ, List.mem_append, ih]
    constructor
    · rintro (⟨j, h1, h2, h3⟩ | h)
      · exact ⟨j, by omega, h2, h3⟩
      · split at h
        · rename_i hf; exact ⟨k, by omega, hf, by simpa using h⟩
        · simp at h
    · rintro ⟨j, h1, h2, h3⟩
      by_cases hj : j = k
      · subst hj; right; rw [if_pos h2]; simpa using h3
      · left; exact ⟨j, by omega, h2, h3⟩
theorem mem_allTo (n : Nat) (f : Nat → Nat → Bool) (k : Nat) (p : List Int) : p ∈ allTo n f k ↔ ∃ i j, i < k ∧ j < n ∧ f i j = true ∧ p = [(i : Int), (j : Int)] := by
  induction k with
  | zero => simp [allTo]
  | succ k ih =>
    rw [allTo_succ, List.mem_append, ih, mem_rowTo]
    constructor
    · rintro (⟨i, j, h1, h2, h3, h4⟩ | ⟨j, h1, h2, h3⟩)
      · exact ⟨i, j, by omega, h2, h3, h4⟩
      · exact ⟨k, j, by omega, h1, h2, h3⟩
    · rintro ⟨i, j, h1, h2, h3, h4⟩
      by_cases hi : i = k
      · subst hi; right; exact ⟨j, h2, h3, h4⟩
      · left; exact ⟨i, j, by omega, h2, h3, h4⟩
theorem prs_allTo (n : Nat) (f : Nat → Nat → Bool) : prs n (allTo n f n) := by
  intro p hp
  obtain ⟨i, j, h1, h2, -, h4⟩ := (mem_allTo n f n p).1 hp
  exact ⟨i, j, h4, h1, h2⟩
theorem allTo_refl_len (n : Nat) (f : Nat → Nat → Bool) (k : Nat) (hk : k ≤ n) (h : ∀ i, i < k → f i i = true) : k ≤ (allTo n f k).length := by
  induction k with
  | zero => simp
  | succ k ih =>
    rw [allTo_succ, List.length_append]
    have h1 := ih (by omega) (fun i hi => h i (by omega))
    have h2 : 0 < (rowTo f k n).length := List.length_pos_of_mem ((mem_rowTo f k n [(k : Int), (k : Int)]).2 ⟨k, by omega, h k (by omega), rfl⟩)
    omega

/-- pairs in order. -/
def ltP (p q : List Int) : Prop := cmpL p q < 0
theorem rowTo_sorted (f : Nat → Nat → Bool) (i k : Nat) : (rowTo f i k).Pairwise ltP := by
  induction k with
  | zero => simp [rowTo]
  | succ k ih =>
    rw [rowTo_succ, List.pairwise_append]
    refine ⟨ih, by split <;> simp, fun p hp q hq => ?_⟩
    obtain ⟨j, h1, -, rfl⟩ := (mem_rowTo f i k p).1 hp
    split at hq
    · simp at hq; subst hq
      simp only [ltP, cmpL, Int.lt_irrefl, if_false]
      rw [if_pos (by omega)]; decide
    · simp at hq
theorem allTo_sorted (n : Nat) (f : Nat → Nat → Bool) (k : Nat) : (allTo n f k).Pairwise ltP := by
  induction k with
  | zero => simp [allTo]
  | succ k ih =>
    rw [allTo_succ, List.pairwise_append]
    refine ⟨ih, rowTo_sorted f k n, fun p hp q hq => ?_⟩
    obtain ⟨i, j, h1, -, -, rfl⟩ := (mem_allTo n f k p).1 hp
    obtain ⟨j', -, -, rfl⟩ := (mem_rowTo f k n q).1 hq
    simp only [ltP, cmpL]
    rw [if_pos (by omega)]; decide

theorem relB_allTo (m : Nat) (f : Nat → Nat → Bool) (h1 : 1 ≤ m) (h2 : m ≤ 40) : relB m (allTo m f m) = true := by
  have hs := allTo_sorted m f m
  have hp := prs_allTo m f
  rw [relB, Bool.and_eq_true, relTo, List.all_eq_true]
  refine ⟨inB_mk ⟨by omega, by omega⟩, fun i hi => ?_⟩
  rw [List.mem_range] at hi
  rw [relOk, Bool.and_eq_true]
  have hg : (allTo m f m).getD i [] = (allTo m f m)[i] := by rw [List.getD_eq_getElem?_getD, List.getElem?_eq_getElem hi]; rfl
  obtain ⟨x, y, hxy, hx, hy⟩ := hp _ (List.getElem_mem hi)
  refine ⟨?_, ?_⟩
  · rw [hg, hxy]
    simp only [pairOk, List.getD_cons_zero, List.getD_cons_succ, List.length_cons, List.length_nil, Bool.and_eq_true]
    exact ⟨⟨by decide, inB_mk ⟨by omega, by omega⟩⟩, inB_mk ⟨by omega, by omega⟩⟩
  · by_cases h0 : i = 0
    · simp [h0]
    · rw [Bool.or_eq_true]; right
      have hg' : (allTo m f m).getD (i - 1) [] = (allTo m f m)[i - 1]'(by omega) := by rw [List.getD_eq_getElem?_getD, List.getElem?_eq_getElem (by omega)]; rfl
      rw [hg, hg']
      have := List.pairwise_iff_getElem.1 hs (i - 1) i (by omega) hi (by omega)
      simpa [ltP] using this

end Go.Proofs.Ytkcafdobiloeiaa
