/-
  DifferingValues where two expressions agree for all values within the bounds 3, 2, 2.
-/
import Derived.Test.YtnioopbficcbeaaAssign
namespace Go.Proofs.Ytnioopbficcbeaa
open Go.RowKit

theorem enter_diff1 (args : Array Value) (w : World) : Sem.run Try.prog (callFunc 44 args) w = .ok (.enter 44 args) w := by go_simp

set_option maxRecDepth 20000 in
set_option maxHeartbeats 2000000 in
theorem diff1 (x y : Ex) (vals : List Int) (vv tx ty : Value) (w : World) (fx fy fv : List Nat) (px py po pc : Nat) (hgx : goodE vals.length x = true) (hgy : goodE vals.length y = true) (hv : vals.all isV = true)
    (heq : valE vals x = valE vals y) (hpx : w.cell? ⟨px, 0, none⟩ = some tx) (hpy : w.cell? ⟨py, 0, none⟩ = some ty) (hx : R_E fx w [tx] x) (hy : R_E fy w [ty] y) (hV : R1 fv w [vv] vals) :
    Calls Try.prog 44 #[vv, .pointer (some ⟨px, 0, none⟩), .pointer (some ⟨py, 0, none⟩), .pointer (some ⟨po, 0, none⟩), .pointer (some ⟨pc, 0, none⟩)] w fun e w' => e = .returned (.bool true) ∧ Upd [] w w' := by
  have C1 := Lib.hid (fun n' => Calls.quiet_of (valueE _ x (w.drewN n') tx vv fx fv vals vals.length (Nat.le_refl _) hgx (by omega) (fun k => vals_bd hv k) (R_Ek.drewN hx n') (R1k.drewN hV n')))
  have C2 := fun n' => Calls.quiet_of (valueE _ y (w.drewN n') ty vv fy fv vals vals.length (Nat.le_refl _) hgy (by omega) (fun k => vals_bd hv k) (R_Ek.drewN hy n') (R1k.drewN hV n'))
  rw [← heq] at C2
  have HC2 := Lib.hid C2
  generalize valE vals x = A at *
  obtain ⟨bx, rfl⟩ := R_E_form hx
  obtain ⟨by', rfl⟩ := R_E_form hy
  clear C2 hgx hgy hv heq hx hy hV
  go_enter Try.func44, Try.ntmps44
  go_wp2_with fail
  go_quiet ((go_at_call 45; first | (with_reducible exact C1.out _) | (with_reducible exact HC2.out _)))
  go_wp2_with fail
  go_ret
  exact ⟨rfl, (Upd.refl _ _).drewN _⟩

/-- a slice of two slices. -/
theorem two_T2 {w : World} {B : Nat} {u1 u2 : Value} {e1 e2 : List Tm} {f1 f2 : List Nat} (h0 : w.cell? ⟨B, 0, none⟩ = some u1) (h1 : w.cell? ⟨B, 1, none⟩ = some u2) (r1 : R_T1 f1 w [u1] e1) (r2 : R_T1 f2 w [u2] e2) :
    R_T2 ([B] ++ [f1, f2].flatten) w [.slice (some ⟨B, 0, none⟩) 2 2] [e1, e2] := by
  refine ⟨_, [u1, u2], [B], [f1, f2], rfl, ⟨_, 2, rfl, Nat.le_refl _, by simp [maxLen], rfl, Or.inr ⟨B, 0, rfl, rfl, World.block_lt_of_cell? w _ h0, fun j u hj => ?_⟩⟩, rfl, rfl, fun i hi u f hu hf => ?_⟩
  · match j, hj with
    | 0, hj => simp at hj; subst hj; exact h0
    | 1, hj => simp at hj; subst hj; exact h1
    | (j + 2), hj => simp at hj
  · match i, hi, hu, hf with
    | 0, _, hu, hf => simp at hu hf; subst hu hf; exact r1
    | 1, _, hu, hf => simp at hu hf; subst hu hf; exact r2
    | (i + 2), hi, _, _ => simp at hi; omega

set_option maxRecDepth 20000 in
set_option maxHeartbeats 2000000 in
theorem differ (x y : Ex) (v1 v2 vb : Value) (w : World) (f1 f2 fb : List Nat) (hgx : goodE 3 x = true) (hgy : goodE 3 y = true) (hlx : (flatE x).length ≤ 60) (hly : (flatE y).length ≤ 60)
    (heq : ∀ vals : List Int, vals.length = 3 → vals.all isV = true → valE vals x = valE vals y) (h1 : R_T1 f1 w [v1] (flatE x)) (h2 : R_T1 f2 w [v2] (flatE y)) (hb : R1 fb w [vb] [3, 2, 2]) :
    Calls Try.prog 19 #[v1, v2, vb] w fun e w' => (∃ v', e = .returned (.tuple #[v', .int .i64 3])) ∧ Upd [] w w' := by
  have hex := eOk_of_good hgx (by omega) hlx
  have hey := eOk_of_good hgy (by omega) hly
  obtain ⟨a1, c1, rfl, -, -, -⟩ := slF2_open h1
  obtain ⟨a2, c2, rfl, -, -, -⟩ := slF2_open h2
  generalize hv1 : Value.slice a1 (flatE x).length c1 = v1 at *
  generalize hv2 : Value.slice a2 (flatE y).length c2 = v2 at *
  have S1 := fun (w' : World) (hu : Upd [] w w') => termsOk v1 (flatE x) w' f1 (R_T1k.upd h1 hu (by simp))
  rw [hex] at S1
  have HS1 := Lib.hid S1
  have S2 := fun (w' : World) (hu : Upd [] w w') => termsOk v2 (flatE y) w' f2 (R_T1k.upd h2 hu (by simp))
  rw [hey] at S2
  have HS2 := Lib.hid S2
  have hokx : okE x = true := by unfold goodE at hgx; rw [Bool.and_eq_true] at hgx; exact hgx.1
  have hoky : okE y = true := by unfold goodE at hgy; rw [Bool.and_eq_true] at hgy; exact hgy.1
  have hcov : [flatE x, flatE y].any (fun e => e.any (lackV 3)) = false := by simp only [List.any_cons, List.any_nil, lack_no hgx, lack_no hgy, Bool.or_false]
  have S3 := Lib.hid (fun (w' : World) (hu : Upd [] w w') (B : Nat) (c0 : w'.cell? ⟨B, 0, none⟩ = some v1) (c1 : w'.cell? ⟨B, 1, none⟩ = some v2) =>
    bounds322 [flatE x, flatE y] _ vb w' _ fb (two_T2 c0 c1 (R_T1k.upd h1 hu (by simp)) (R_T1k.upd h2 hu (by simp))) (R1k.upd hb hu (by simp)) hcov)
  have S4 := Lib.hid (fun (w' : World) (hu : Upd [] w w') => treeE x w' v1 f1 hokx (by omega) (R_T1k.upd h1 hu (by simp)))
  have S5 := Lib.hid (fun (w' : World) (hu : Upd [] w w') => treeE y w' v2 f2 hoky (by omega) (R_T1k.upd h2 hu (by simp)))
  have HB := Lib.hid hb
  have HG := Lib.hid (And.intro hgx hgy)
  have HEQ := Lib.hid heq
  have HU := Lib.hid (Upd.refl [] w)
  clear S1 S2 hex hey hokx hoky hcov hgx hgy heq h1 h2 hb
  subst hv1 hv2
  go_enter Try.func19, Try.ntmps19
  go_wp2_with fail
  refine (HS1.out _ HU.out).mono ?_
  rintro e w1 ⟨rfl, hu1⟩
  have HU1 := Lib.hid (HU.out.trans hu1)
  clear HS1 hu1 HU
  go_wp2_with fail
  refine (HS2.out _ HU1.out).mono ?_
  rintro e w2 ⟨rfl, hu2⟩
  have HU2 := Lib.hid (HU1.out.trans hu2)
  have S3' := Lib.hid (S3.out _ (HU2.out.alloc (.cells #[.slice a1 (flatE x).length c1, .slice a2 (flatE y).length c2] 24)) w2.heap.size (cell_new _ _ _ _ rfl 0 _ rfl) (cell_new _ _ _ _ rfl 1 _ rfl))
  clear HS2 hu2 HU1 S3
  go_wp2_with fail
  refine S3'.out.mono ?_
  rintro e w3 ⟨rfl, hu3⟩
  have HU3 := Lib.hid ((HU2.out.alloc _).trans hu3)
  have S4' := Lib.hid (S4.out _ HU3.out)
  clear hu3 HU2 S3' S4
  go_wp2_with fail
  refine S4'.out.mono ?_
  rintro e w4 ⟨⟨tx, rfl, fx, hx, -, -⟩, hu4⟩
  have HU4 := Lib.hid (HU3.out.trans hu4)
  have S5' := Lib.hid (S5.out _ HU4.out)
  obtain ⟨bx, rfl⟩ := R_E_form hx
  have HX := Lib.hid hx
  clear hx hu4 HU3 S4' S5
  go_wp2_with fail
  refine S5'.out.mono ?_
  rintro e w5 ⟨⟨ty, rfl, fy, hy, -, -⟩, hu5⟩
  have HU5 := Lib.hid (HU4.out.trans hu5)
  obtain ⟨by', rfl⟩ := R_E_form hy
  have HX5 := Lib.hid (R_Ek.upd HX.out hu5 (by simp))
  have HY5 := Lib.hid hy
  clear hy hu5 HU4 S5' HX
  go_wp2_with fail
  obtain ⟨wa, hwa⟩ : ∃ wa, wa = ((((w5.alloc (.cells #[.pointer (some ⟨bx, 0, none⟩)] 51)).alloc (.cells #[.pointer (some ⟨by', 0, none⟩)] 51)).alloc (.cells #[.slice none 0 0] 34)).alloc (.cells #[.int .i64 3] 2)) := ⟨_, rfl⟩
  have hu : ∀ (w : World) (o : Obj), Upd [] w (w.alloc o) := fun w o => (Upd.refl [] w).alloc o
  have e0 : wa.cell? ⟨w5.heap.size, 0, none⟩ = some (.pointer (some ⟨bx, 0, none⟩)) := by
    rw [hwa]; exact (hu _ _).keep ((hu _ _).keep ((hu _ _).keep (cell_new _ _ _ _ rfl 0 _ rfl)))
  have e1 : wa.cell? ⟨w5.heap.size + 1, 0, none⟩ = some (.pointer (some ⟨by', 0, none⟩)) := by
    rw [hwa]; exact (hu _ _).keep ((hu _ _).keep (cell_new _ _ _ _ (by simp) 0 _ rfl))
  have e2 : wa.cell? ⟨w5.heap.size + 1 + 1, 0, none⟩ = some (.slice none 0 0) := by
    rw [hwa]; exact (hu _ _).keep (cell_new _ _ _ _ (by simp) 0 _ rfl)
  have e3 : wa.cell? ⟨w5.heap.size + 1 + 1 + 1, 0, none⟩ = some (.int .i64 3) := by
    rw [hwa]; exact cell_new _ _ _ _ (by simp) 0 _ rfl
  have hua : Upd [] w5 wa := by rw [hwa]; exact ((((Upd.refl [] w5).alloc _).alloc _).alloc _).alloc _
  rw [← hwa]
  have S6 := Lib.hid (assign322 44 #[.pointer (some ⟨w5.heap.size, 0, none⟩), .pointer (some ⟨w5.heap.size + 1, 0, none⟩), .pointer (some ⟨w5.heap.size + 1 + 1, 0, none⟩), .pointer (some ⟨w5.heap.size + 1 + 1 + 1, 0, none⟩)] vb wa fb
    (R1k.upd HB.out (HU5.out.trans hua) (by simp)) enter_diff1 (fun wr u f vals hl hv huw hr =>
      diff1 x y vals u _ _ wr fx fy f _ _ _ _ (by rw [hl]; exact HG.out.1) (by rw [hl]; exact HG.out.2) hv (HEQ.out vals hl hv) (huw.keep e0) (huw.keep e1) (R_Ek.upd HX5.out (hua.trans huw) (by simp)) (R_Ek.upd HY5.out (hua.trans huw) (by simp)) hr))
  have HUA := Lib.hid (HU5.out.trans hua)
  clear hwa hu e0 e1 hua
  refine S6.out.mono ?_
  rintro e w6 ⟨rfl, hu6⟩
  have e2 := hu6.keep e2
  have e3 := hu6.keep e3
  have HU6 := Lib.hid (HUA.out.trans hu6)
  clear hu6 HUA S6
  go_wp2_with fail
  go_quiet (fail)
  go_wp2_with fail
  go_ret2
  exact ⟨⟨_, rfl⟩, HU6.out.drewN _⟩

end Go.Proofs.Ytnioopbficcbeaa
