/-
  OperandsOf, both sides.
-/
import Derived.Test.YtnfghgaadnobbaaGreatDoorTreeW
namespace Go.Proofs.YtnfghgaadnobbaaGreatDoor
open Go.RowKit

abbrev R_T2' : Rp (List (List Tm)) := slP R_T1

noncomputable def treeOf (e : List Tm) (h : eOk e = true) : Ex := Classical.choose (tree_of_ok h)
theorem treeOf_ok (e : List Tm) (h : eOk e = true) : okE (treeOf e h) = true ∧ flatE (treeOf e h) = e := Classical.choose_spec (tree_of_ok h)
def argsOf : Ex → List Ex | .mk _ args => args
def termOf : Ex → Tm | .mk t _ => t
open Classical in
noncomputable def opsRes (e : List Tm) : List (List Tm) × Int := if h : eOk e = true then ((argsOf (treeOf e h)).map flatE, 0) else ([], 1)

theorem eOk_len {e : List Tm} (h : eOk e = true) : 1 ≤ e.length ∧ e.length ≤ 60 := by have := isE_len h; omega

set_option maxHeartbeats 400000 in
theorem treeE (x : Ex) (w : World) (v : Value) (fp : List Nat) (hok : okE x = true) (hl : (flatE x).length ≤ 100) (hR : R_T1 fp w [v] (flatE x)) :
    Calls Tryz.prog 18 #[v] w fun e w' => (∃ v', e = .returned v' ∧ New R_E w w' v' x) ∧ Upd [] w w' := by
  have S2 := treeFrom _ x [] w v fp (Nat.le_refl _) hok hl (by simpa using hR)
  obtain ⟨a, cap, rfl, g1, g2, -⟩ := slF2_open hR
  go_enter Tryz.func18, Tryz.ntmps18
  go_wp2_with fail
  refine S2.mono ?_
  rintro e w1 ⟨⟨v1, vr, fr, rfl, hn, -, -⟩, hu⟩
  go_wp2_with fail
  go_ret
  exact ⟨⟨_, rfl, hn⟩, hu⟩

theorem Tryz.infoTS : (Tryz.prog.info? 45).map (fun i => (i.zero, i.size, i.bytes)) = some (some (.slice none 0 0), 1, 24) := by kernel_rfl

theorem flatE_arg_le (x : Ex) (k : Nat) (h : k < (argsOf x).length) : (flatE (argsOf x)[k]).length ≤ (flatE x).length := by
  obtain ⟨t, args⟩ := x
  simp only [argsOf, flatE, List.length_cons] at *
  have e1 : flatEs args = flatEs (args.take k) ++ (flatE args[k] ++ flatEs (args.drop (k + 1))) := by
    conv => lhs; rw [← List.take_append_drop k args, flatEs_append, List.drop_eq_getElem_cons (show k < args.length from h)]
    rfl
  rw [e1, List.length_append, List.length_append]; omega

theorem slF_sub {α : Type} {n : Nat} {enc : α → List Value} (he : ∀ x, (enc x).length = n) {fp : List Nat} {w : World} {b off len cap : Nat} {xs : List α}
    (h : slF n enc fp w [.slice (some ⟨b, off, none⟩) len cap] xs) (i j : Nat) (hij : i ≤ j) (hj : j ≤ xs.length) :
    ∃ fp', slF n enc fp' w [.slice (some ⟨b, off + i * n, none⟩) (j - i) (cap - i)] ((xs.take j).drop i) ∧ (∀ c ∈ fp', c ∈ fp) := by
  obtain ⟨v, hv, a, cap', hv2, h1, h2, h3, h4⟩ := h
  cases hv
  simp only [Value.slice.injEq] at hv2
  obtain ⟨rfl, rfl, rfl⟩ := hv2
  have hfl : ∀ ys : List α, (ys.flatMap enc).length = ys.length * n := by
    intro ys
    induction ys with
    | nil => simp
    | cons y ys ih => rw [List.flatMap_cons, List.length_append, he, ih, List.length_cons, Nat.add_mul]; omega
  have hlen : ((xs.take j).drop i).length = j - i := by simp; omega
  rcases h4 with ⟨h0, rfl⟩ | ⟨b', off', hb', rfl, hbl, hc⟩
  · have : j = 0 := by omega
    subst this
    obtain rfl : i = 0 := by omega
    exact ⟨[], ⟨_, rfl, some ⟨b, off + 0 * n, none⟩, cap - 0, by simp, by simp, by omega, by simp, Or.inl ⟨by simp, rfl⟩⟩, by simp⟩
  · simp only [Option.some.injEq, Addr.mk.injEq, and_true] at hb'
    obtain ⟨rfl, rfl⟩ := hb'
    refine ⟨[b], ⟨_, rfl, some ⟨b, off + i * n, none⟩, cap - i, by rw [hlen], by omega, by omega, hfl _, Or.inr ⟨b, off + i * n, rfl, rfl, hbl, fun q u hu => ?_⟩⟩, by simp⟩
    have e1 : xs.flatMap enc = (xs.take i).flatMap enc ++ (((xs.take j).drop i).flatMap enc ++ (xs.drop j).flatMap enc) := by
      rw [← List.flatMap_append, ← List.flatMap_append]
      congr 1
      rw [← List.append_assoc]
      conv => lhs; rw [← List.take_append_drop j xs]
      congr 1
      conv => lhs; rw [← List.take_append_drop i (xs.take j)]
      rw [List.take_take, Nat.min_eq_left hij]
    have hti : ((xs.take i).flatMap enc).length = i * n := by rw [hfl]; congr 1; simp; omega
    have hq : q < (((xs.take j).drop i).flatMap enc).length := (List.getElem?_eq_some_iff.1 hu).1
    have := hc (i * n + q) u (by rw [e1, List.getElem?_append_right (by omega), hti, Nat.add_sub_cancel_left, List.getElem?_append_left hq]; exact hu)
    rw [Nat.add_assoc]; exact this

theorem ops_b (e : List Tm) : mkF_T2 (opsRes e).1 ≤ 300 := by
  unfold opsRes
  split
  · rename_i h
    obtain ⟨-, hfl⟩ := treeOf_ok e h
    have hlen := eOk_len h
    generalize treeOf e h = x at *
    obtain ⟨t, args⟩ := x
    simp only [flatE] at hfl
    have h1 : (flatEs args).length ≤ 60 := by have : (flatEs args).length + 1 = e.length := by rw [← hfl]; rfl
                                              omega
    have h2 : ∀ xs : List Ex, mkF_T2 (xs.map flatE) = 2 * (flatEs xs).length := by
      intro xs
      induction xs with
      | nil => rfl
      | cons y ys ih =>
        unfold mkF_T2 at *
        simp only [List.map_cons, List.sum_cons, flatEs, List.length_append, ih, mkF_T1]
        omega
    simp only [argsOf]
    rw [h2]; omega
  · simp [mkF_T2]

end Go.Proofs.YtnfghgaadnobbaaGreatDoor
