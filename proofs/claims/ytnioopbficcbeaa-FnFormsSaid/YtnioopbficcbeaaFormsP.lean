/-
  The canonical form is its own canonical form and has the same values: plain facts.
-/
import Derived.Test.YtnioopbficcbeaaCanon
namespace Go.Proofs.Ytnioopbficcbeaa

theorem cmpI_neg (a b : Int) : cmpI b a = - cmpI a b := by
  unfold cmpI
  by_cases h1 : a < b
  · rw [if_neg (by omega), if_pos h1, if_pos h1]; rfl
  · by_cases h2 : b < a
    · rw [if_pos h2, if_neg h1, if_pos h2]
    · rw [if_neg h2, if_neg h1, if_neg h1, if_neg h2]; rfl
theorem cmpT_neg (a b : Tm) : cmpT b a = - cmpT a b := by
  unfold cmpT
  rw [cmpI_neg a.1 b.1, cmpI_neg a.2 b.2]
  by_cases h : cmpI a.1 b.1 = 0
  · simp [h]
  · rw [if_pos (by omega), if_pos h]
theorem cmpTL_neg : ∀ a b : List Tm, cmpTL b a = - cmpTL a b
  | [], [] => rfl
  | [], _ :: _ => rfl
  | _ :: _, [] => rfl
  | x :: xs, y :: ys => by
    rw [cmpTL, cmpTL, cmpT_neg x y, cmpTL_neg xs ys]
    by_cases h : cmpT x y = 0
    · simp [h]
    · rw [if_pos (by omega), if_pos h]
theorem gtL_asymm {a b : List Tm} (h : gtL a b = true) : gtL b a = false := by
  unfold gtL at h ⊢
  by_cases hl : a.length = b.length
  · rw [if_pos hl] at h
    rw [if_pos hl.symm, cmpTL_neg a b]
    simp at h ⊢; omega
  · rw [if_neg hl] at h
    rw [if_neg (fun e => hl e.symm)]
    simp at h ⊢; omega

theorem swapE_two (t : Tm) (a b : Ex) : swapE t [a, b] = if stays t then [a, b] else if gtL (flatE a) (flatE b) then [b, a] else [a, b] := by simp [swapE]

theorem swapE_idem (t : Tm) (bs : List Ex) (h : stays t = true ∨ bs.length = 2) : swapE t (swapE t bs) = swapE t bs := by
  rcases h with h | h
  · simp [swapE, h]
  · match bs, h with
    | [a, b], _ =>
      rw [swapE_two]
      split
      · rename_i hs; simp [swapE, hs]
      · rename_i hs
        split
        · rename_i hg; rw [swapE_two, if_neg hs, gtL_asymm hg]; rfl
        · rename_i hg; rw [swapE_two, if_neg hs, if_neg hg]

theorem good_two {nv : Int} {t : Tm} {args : List Ex} (h : goodE nv (.mk t args) = true) : stays t = true ∨ args.length = 2 := by
  rw [goodE_mk] at h
  simp only [Bool.and_eq_true, decide_eq_true_eq] at h
  by_cases h2 : t.1 = 2
  · right; have := h.1.1; simp [arity, h2] at this; omega
  · left; simp [stays, h2]

mutual
theorem canonE_idem (nv : Int) : ∀ x : Ex, goodE nv x = true → canonE (canonE x) = canonE x
  | .mk t args, h => by
    have h2 := good_two h
    rw [goodE_mk] at h
    simp only [Bool.and_eq_true] at h
    have ih := canonEs_idem nv args h.2
    have hfix : canonEs (swapE t (canonEs args)) = swapE t (canonEs args) := by
      rw [canonEs_map]
      have : ∀ x ∈ swapE t (canonEs args), canonE x = x := by
        intro x hx
        have hx' : x ∈ canonEs args := (swapE_perm t _).mem_iff.1 hx
        rw [canonEs_map] at ih
        obtain ⟨i, hi, rfl⟩ := List.mem_iff_getElem.1 hx'
        have := congrArg (fun l => l[i]?) ih
        simpa [List.getElem?_map, List.getElem?_eq_getElem hi] using this
      exact (List.map_congr_left this).trans (List.map_id' _)
    rw [canonE, canonE, hfix, swapE_idem]
    rcases h2 with h2 | h2
    · exact Or.inl h2
    · right; rw [canonEs_map, List.length_map]; exact h2
theorem canonEs_idem (nv : Int) : ∀ xs : List Ex, goodEs nv xs = true → canonEs (canonEs xs) = canonEs xs
  | [], _ => rfl
  | x :: xs, h => by
    rw [goodEs_cons, Bool.and_eq_true] at h
    rw [canonEs, canonEs, canonE_idem nv x h.1, canonEs_idem nv xs h.2]
end

theorem opV_comm (op a b : Int) (h1 : op ≠ 1) (h5 : op ≠ 5) (h6 : op ≠ 6) : opV op a b = opV op b a := by
  unfold opV
  simp only [h1, h5, h6, if_false]
  split
  · rw [Int.add_comm]
  · split
    · rw [Int.mul_comm]
    · split
      · congr 1; exact Bool.beq_comm
      · split
        · congr 1; exact bne_comm
        · split
          · congr 1; exact Bool.and_comm _ _
          · congr 1; exact Bool.or_comm _ _

mutual
theorem valE_canon (vals : List Int) (nv : Int) : ∀ x : Ex, goodE nv x = true → valE vals (canonE x) = valE vals x
  | .mk t args, h => by
    have h2 := good_two h
    rw [goodE_mk] at h
    simp only [Bool.and_eq_true] at h
    have ih := valEs_canon vals nv args h.2
    rw [canonE]
    by_cases hs : stays t = true
    · have : swapE t (canonEs args) = canonEs args := by simp [swapE, hs]
      rw [this]
      simp only [valE, ih]
    · have hl : args.length = 2 := h2.resolve_left hs
      match args, hl with
      | [a, b], _ =>
        simp only [stays, Bool.or_eq_true, bne_iff_ne, beq_iff_eq, not_or, ne_eq, Classical.not_not] at hs
        have hcs : canonEs [a, b] = [canonE a, canonE b] := rfl
        rw [hcs] at ih ⊢
        simp only [valEs, List.cons.injEq, and_true] at ih
        rw [swapE_two]
        split
        · simp only [valE, valEs, ih.1, ih.2]
        · split
          · simp only [valE, valEs, ih.1, ih.2, hs.1, List.getD_cons_zero, List.getD_cons_succ]
            simp only [Int.reduceEq, if_false]
            exact opV_comm _ _ _ hs.2.1.1 hs.2.1.2 hs.2.2
          · simp only [valE, valEs, ih.1, ih.2]
theorem valEs_canon (vals : List Int) (nv : Int) : ∀ xs : List Ex, goodEs nv xs = true → valEs vals (canonEs xs) = valEs vals xs
  | [], _ => rfl
  | x :: xs, h => by
    rw [goodEs_cons, Bool.and_eq_true] at h
    rw [canonEs, valEs, valEs, valE_canon vals nv x h.1, valEs_canon vals nv xs h.2]
end

end Go.Proofs.Ytnioopbficcbeaa
