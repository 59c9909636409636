/-
  Expressions as trees: how a tree lies in memory; the terms of a tree in order; a valid list of terms is one tree's.
-/
import Derived.Test.YtnfghgaadnobbaaGreatDoorTerms
namespace Go.Proofs.YtnfghgaadnobbaaGreatDoor
open Go.RowKit

inductive Ex where
  | mk (t : Tm) (args : List Ex)

mutual
def RE : Ex → List Nat → World → List Value → Prop
  | .mk t args, fp, w, cs => ∃ b s fa us fb fps, cs = [.pointer (some ⟨b, 0, none⟩)] ∧ fp = b :: fa ∧ w.cell? ⟨b, 0, none⟩ = some (ei t.1) ∧ w.cell? ⟨b, 1, none⟩ = some (ei t.2) ∧ w.cell? ⟨b, 2, none⟩ = some s ∧
      Flat fb w s 1 args.length us ∧ List.length fps = args.length ∧ fa = fb ++ List.flatten fps ∧ REs args fps w us
def REs : List Ex → List (List Nat) → World → List Value → Prop
  | [], _, _, _ => True
  | x :: xs, fps, w, us => ∃ f fs u vs, fps = f :: fs ∧ us = u :: vs ∧ RE x f w [u] ∧ REs xs fs w vs
end

mutual
def flatE : Ex → List Tm
  | .mk t args => t :: flatEs args
def flatEs : List Ex → List Tm
  | [] => []
  | x :: xs => flatE x ++ flatEs xs
end

mutual
def okE : Ex → Bool
  | .mk t args => decide ((args.length : Int) = arity t) && okEs args
def okEs : List Ex → Bool
  | [] => true
  | x :: xs => okE x && okEs xs
end

abbrev R_E : Rp Ex := fun fp w cs x => RE x fp w cs

theorem REs_get : ∀ (xs : List Ex) (fps : List (List Nat)) (w : World) (us : List Value), REs xs fps w us → ∀ i (h : i < xs.length) u (f : List Nat), us[i]? = some u → fps[i]? = some f → RE xs[i] f w [u]
  | [], _, _, _, _, i, h, _, _, _, _ => by simp at h
  | x :: xs, fps, w, us, hr, i, h, u, f, hu, hf => by
    obtain ⟨f0, fs, u0, vs, rfl, rfl, h1, h2⟩ := hr
    cases i with
    | zero => simp at hu hf; subst hu hf; exact h1
    | succ i => exact REs_get xs fs w vs h2 i (by simpa using h) u f (by simpa using hu) (by simpa using hf)

theorem REs_mk : ∀ (xs : List Ex) (fps : List (List Nat)) (w : World) (us : List Value), fps.length = xs.length → us.length = xs.length →
    (∀ i (h : i < xs.length) u (f : List Nat), us[i]? = some u → fps[i]? = some f → RE xs[i] f w [u]) → REs xs fps w us
  | [], _, _, _, _, _, _ => trivial
  | x :: xs, fps, w, us, h1, h2, h => by
    match fps, us, h1, h2 with
    | f :: fs, u :: vs, h1, h2 =>
      exact ⟨f, fs, u, vs, rfl, rfl, h 0 (by simp) u f rfl rfl, REs_mk xs fs w vs (by simpa using h1) (by simpa using h2) (fun i hi u' f' hu hf => h (i + 1) (by simpa using hi) u' f' (by simpa using hu) (by simpa using hf))⟩

theorem R_E_open {fp : List Nat} {w : World} {v : Value} {t : Tm} {args : List Ex} (h : R_E fp w [v] (.mk t args)) :
    ∃ b s fa, v = .pointer (some ⟨b, 0, none⟩) ∧ fp = b :: fa ∧ w.cell? ⟨b, 0, none⟩ = some (ei t.1) ∧ w.cell? ⟨b, 1, none⟩ = some (ei t.2) ∧ w.cell? ⟨b, 2, none⟩ = some s ∧ slP R_E fa w [s] args := by
  simp only [R_E, RE] at h
  obtain ⟨b, s, fa, us, fb, fps, hv, rfl, h1, h2, h3, h4, h5, rfl, h6⟩ := h
  simp at hv
  exact ⟨b, s, _, hv, rfl, h1, h2, h3, s, us, fb, fps, rfl, h4, h5, rfl, REs_get _ _ _ _ h6⟩

theorem R_E_mk {w : World} {t : Tm} {args : List Ex} {b : Nat} {s : Value} {fa : List Nat} (h1 : w.cell? ⟨b, 0, none⟩ = some (ei t.1)) (h2 : w.cell? ⟨b, 1, none⟩ = some (ei t.2)) (h3 : w.cell? ⟨b, 2, none⟩ = some s)
    (h : slP R_E fa w [s] args) : R_E (b :: fa) w [.pointer (some ⟨b, 0, none⟩)] (.mk t args) := by
  obtain ⟨v, us, fb, fps, hv, h4, h5, rfl, h6⟩ := h
  cases hv
  have hl : us.length = args.length := by obtain ⟨_, _, _, _, _, h, _⟩ := h4; simpa using h
  simp only [R_E, RE]
  exact ⟨b, s, _, us, fb, fps, rfl, rfl, h1, h2, h3, h4, h5, rfl, REs_mk _ _ _ _ h5 hl h6⟩

theorem R_E_form {fp : List Nat} {w : World} {v : Value} {x : Ex} (h : R_E fp w [v] x) : ∃ b, v = .pointer (some ⟨b, 0, none⟩) := by
  obtain ⟨t, args⟩ := x
  obtain ⟨b, -, -, rfl, -⟩ := R_E_open h
  exact ⟨b, rfl⟩

mutual
theorem RE_lt : ∀ (x : Ex) (fp : List Nat) (w : World) (cs : List Value), RE x fp w cs → ∀ b ∈ fp, b < w.heap.size
  | .mk t args, fp, w, cs, h, b, hb => by
    simp only [RE] at h
    obtain ⟨b0, s, fa, us, fb, fps, -, rfl, h1, -, -, h4, h5, rfl, h6⟩ := h
    rcases List.mem_cons.1 hb with rfl | hb
    · exact World.block_lt_of_cell? w _ h1
    · rcases List.mem_append.1 hb with hb | hb
      · exact h4.lt b hb
      · exact REs_lt args fps w us h5 h6 b hb
theorem REs_lt : ∀ (xs : List Ex) (fps : List (List Nat)) (w : World) (us : List Value), fps.length = xs.length → REs xs fps w us → ∀ b ∈ fps.flatten, b < w.heap.size
  | [], fps, _, _, h, _, b, hb => by simp at h; subst h; simp at hb
  | x :: xs, fps, w, us, hl, h, b, hb => by
    simp only [REs] at h
    obtain ⟨f, fs, u, vs, rfl, rfl, h1, h2⟩ := h
    rw [List.flatten_cons] at hb
    rcases List.mem_append.1 hb with hb | hb
    · exact RE_lt x f w [u] h1 b hb
    · exact REs_lt xs fs w vs (by simpa using hl) h2 b hb
end

mutual
theorem RE_frame : ∀ (x : Ex) (fp : List Nat) (w w' : World) (cs : List Value), RE x fp w cs → w.heap.size ≤ w'.heap.size → (∀ b ∈ fp, w'.heap[b]? = w.heap[b]?) → RE x fp w' cs
  | .mk t args, fp, w, w', cs, h, hs, hb => by
    simp only [RE] at h ⊢
    obtain ⟨b0, s, fa, us, fb, fps, rfl, rfl, h1, h2, h3, h4, h5, rfl, h6⟩ := h
    have hb0 := hb b0 (by simp)
    refine ⟨b0, s, _, us, fb, fps, rfl, rfl, ?_, ?_, ?_, h4.frame hs (fun b h => hb b (by simp [h])), h5, rfl, REs_frame args fps w w' us h6 hs (fun b h => hb b (by simp only [List.mem_cons, List.mem_append]; exact Or.inr (Or.inr h)))⟩
    · rw [World.cell?_of_block (w := w) hb0]; exact h1
    · rw [World.cell?_of_block (w := w) hb0]; exact h2
    · rw [World.cell?_of_block (w := w) hb0]; exact h3
theorem REs_frame : ∀ (xs : List Ex) (fps : List (List Nat)) (w w' : World) (us : List Value), REs xs fps w us → w.heap.size ≤ w'.heap.size → (∀ b ∈ fps.flatten, w'.heap[b]? = w.heap[b]?) → REs xs fps w' us
  | [], _, _, _, _, _, _, _ => trivial
  | x :: xs, fps, w, w', us, h, hs, hb => by
    simp only [REs] at h ⊢
    obtain ⟨f, fs, u, vs, rfl, rfl, h1, h2⟩ := h
    exact ⟨f, fs, u, vs, rfl, rfl, RE_frame x f w w' [u] h1 hs (fun b h => hb b (by rw [List.flatten_cons]; exact List.mem_append_left _ h)), REs_frame xs fs w w' vs h2 hs (fun b h => hb b (by rw [List.flatten_cons]; exact List.mem_append_right _ h))⟩
end

theorem R_Ek : Kept R_E := ⟨fun h => RE_lt _ _ _ _ h, fun h hs hb => RE_frame _ _ _ _ _ h hs hb⟩

theorem flatEs_append (xs ys : List Ex) : flatEs (xs ++ ys) = flatEs xs ++ flatEs ys := by
  induction xs with
  | nil => rfl
  | cons x xs ih => simp [flatEs, ih]
theorem okEs_append (xs ys : List Ex) : okEs (xs ++ ys) = (okEs xs && okEs ys) := by
  induction xs with
  | nil => simp [okEs]
  | cons x xs ih => simp [okEs, ih, Bool.and_assoc]
theorem flatE_pos (x : Ex) : 1 ≤ (flatE x).length := by cases x; simp [flatE]

/-- terms behind which no operand is wanted are the terms of trees. -/
theorem trees_of_run (nv : Int) : ∀ (ts : List Tm) (n : Nat), run nv ts n = some 0 → ∃ xs : List Ex, xs.length = n ∧ okEs xs = true ∧ flatEs xs = ts
  | [], n, h => ⟨[], by simp [run] at h; simp; omega, rfl, rfl⟩
  | t :: ts, n, h => by
    rw [run] at h
    by_cases hn : (n : Int) = 0
    · simp [hn] at h
    · rw [if_neg hn] at h
      by_cases ht : tOk t nv = true
      · rw [if_pos ht] at h
        have hb := arity_bd t
        obtain ⟨m, hm⟩ : ∃ m : Nat, arity t = m := ⟨(arity t).toNat, by omega⟩
        rw [hm, show ((n : Int) + ((m : Int) - 1)) = ((n - 1 + m : Nat) : Int) from by omega] at h
        obtain ⟨xs, h1, h2, h3⟩ := trees_of_run nv ts (n - 1 + m) h
        refine ⟨.mk t (xs.take m) :: xs.drop m, by simp; omega, ?_, ?_⟩
        · have hok : okEs (xs.take m) = true ∧ okEs (xs.drop m) = true := by
            have := h2; rw [← List.take_append_drop m xs, okEs_append, Bool.and_eq_true] at this; exact this
          simp only [okEs, okE, hok.1, hok.2, Bool.and_true, decide_eq_true_eq, hm]
          simp; omega
        · simp only [flatEs, flatE]
          rw [List.cons_append, ← flatEs_append, List.take_append_drop, h3]
      · rw [if_neg ht] at h; cases h

theorem tree_of_ok {e : List Tm} (h : eOk e = true) : ∃ x : Ex, okE x = true ∧ flatE x = e := by
  unfold eOk isE at h
  rw [Bool.and_eq_true] at h
  have h2 : run 29 e ((1 : Nat) : Int) = some 0 := by simpa using h.2
  obtain ⟨xs, h3, h4, h5⟩ := trees_of_run 29 e 1 h2
  match xs, h3 with
  | [x], _ => exact ⟨x, by simpa [okEs] using h4, by simpa [flatEs] using h5⟩

end Go.Proofs.YtnfghgaadnobbaaGreatDoor
