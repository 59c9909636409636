/-
  The law FnExactExpressionText: the call returns true for every input, where the tables of the operators hold what they hold at the start, and writes nothing that was there.
-/
import Derived.Test.YtnioopbficcbeaaDoorTextS
namespace Go.Proofs.YtnioopbficcbeaaDoor
open Go.RowKit

noncomputable def textRes (e : List Tm) : List UInt8 := if h : eOk e = true then textE (treeOf e h) else []

set_option maxRecDepth 20000 in
set_option maxHeartbeats 1000000 in
theorem text_i (e : List Tm) (v : Value) (w : World) (fp : List Nat) (hG : Glob w) (hR : R_T1 fp w [v] e) :
    Calls Tryd.prog 9 #[v] w fun r w' => r = .returned (es (textRes e)) ∧ Upd [] w w' := by
  have hR0 := Lib.hid hR
  have HG := Lib.hid hG
  cases hb : eOk e
  · have hres : textRes e = [] := by simp [textRes, hb]
    rw [hres]
    clear hres hG hR
    go_enter Tryd.func9, Tryd.ntmps9
    go_wp2_with fail
    refine (termsOk _ e _ fp hR0.out).mono ?_
    rintro r w1 ⟨rfl, hu⟩
    rw [hb]
    go_wp2_with fail
    go_ret
    exact ⟨rfl, hu⟩
  · have hres : textRes e = textE (treeOf e hb) := by simp [textRes, hb]
    obtain ⟨hok, hfl⟩ := treeOf_ok e hb
    have hlen := eOk_len hb
    have hgood := eOk_good hb _ hok hfl
    rw [hres]
    have HB := Lib.hid hb
    generalize treeOf e hb = x at *
    have HOK := Lib.hid hok
    have HFL := Lib.hid hfl
    have HGD := Lib.hid hgood
    have hl60 : (flatE x).length ≤ 60 := by rw [hfl]; omega
    clear hres hok hfl hgood hG hR hb
    go_enter Tryd.func9, Tryd.ntmps9
    go_wp2_with fail
    refine (termsOk _ e _ fp hR0.out).mono ?_
    rintro r w1 ⟨rfl, hu⟩
    rw [HB.out]
    have S2 := Lib.hid (treeE x w1 v fp HOK.out (by omega) (by rw [HFL.out]; exact R_T1k.upd hR0.out hu (by simp)))
    have HU := Lib.hid hu
    clear hu
    go_wp2_with fail
    refine S2.out.mono ?_
    rintro r w2 ⟨⟨vt, rfl, ft, ht, -, -⟩, hu2⟩
    have S3 := Lib.hid (textI _ x w2 vt ft (Nat.le_refl _) (by omega) HGD.out (HG.out.upd (HU.out.trans hu2)) ht)
    have HU2 := Lib.hid (HU.out.trans hu2)
    clear S2 ht hu2
    go_wp2_with fail
    refine S3.out.mono ?_
    rintro r w3 ⟨rfl, m, rfl⟩
    go_wp2_with fail
    go_ret
    exact ⟨rfl, HU2.out.drewN m⟩

set_option maxRecDepth 20000 in
set_option maxHeartbeats 1000000 in
theorem text_s (e : List Tm) (v : Value) (w : World) (fp : List Nat) (hR : R_T1 fp w [v] e) :
    Calls Tryd.prog 7 #[v] w fun r w' => r = .returned (es (textRes e)) ∧ Upd [] w w' := by
  have hR0 := Lib.hid hR
  cases hb : eOk e
  · have hres : textRes e = [] := by simp [textRes, hb]
    rw [hres]
    clear hres hR
    go_enter Tryd.func7, Tryd.ntmps7
    go_wp2_with fail
    refine (l03Any _ e _ fp hR0.out).mono ?_
    rintro r w1 ⟨rfl, rfl⟩
    rw [hb]
    go_wp2_with fail
    go_ret
    exact ⟨rfl, Upd.refl _ _⟩
  · have hres : textRes e = textE (treeOf e hb) := by simp [textRes, hb]
    obtain ⟨hok, hfl⟩ := treeOf_ok e hb
    have hlen := eOk_len hb
    have hgood := eOk_good hb _ hok hfl
    rw [hres]
    have HB := Lib.hid hb
    generalize treeOf e hb = x at *
    have S2 := Lib.hid (l04TextS x v w fp hok (by rw [hfl]; exact hb) hgood (by rw [hfl]; omega) (by rw [hfl]; exact hR0.out))
    clear hres hok hfl hgood hR hb
    go_enter Tryd.func7, Tryd.ntmps7
    go_wp2_with fail
    refine (l03Any _ e _ fp hR0.out).mono ?_
    rintro r w1 ⟨rfl, rfl⟩
    rw [HB.out]
    go_wp2_with fail
    refine S2.out.mono ?_
    rintro r w3 ⟨rfl, hu⟩
    go_wp2_with fail
    go_ret
    exact ⟨rfl, hu⟩

set_option maxRecDepth 20000 in
set_option maxHeartbeats 2000000 in
theorem lawText (e : List Tm) (v_e : Value) (f_e : List Nat) (w : World) (hG : Glob w) (hR_e : R_T1 f_e w [v_e] e) :
    Calls Tryd.prog 3 #[v_e] w fun e w' => e = .returned (.bool true) ∧ Upd [] w w' := by
  have tn_e := mkF_T1_nonneg e
  have HG := Lib.hid hG
  have HR := Lib.hid hR_e
  clear hG
  go_enter Tryd.func3, Tryd.ntmps3
  go_wp2_with fail
  refine (sz_T1 v_e e _ _ f_e (by omega) (by omega) hR_e).mono ?_
  rintro e w' ⟨⟨r_e, rfl, hr_e⟩, rfl⟩
  rcases hr_e with rfl | ⟨hp_e, hq_e⟩
  · clear hR_e
    go_wp2_with fail
    go_ret
    exact ⟨rfl, Upd.refl _ _⟩
  · have hz_e : szF_T1 e ≤ 1048576 := by have := szF_T1_nonneg e; omega
    have hx_e : r_e ≤ 1048576 := by have := szF_T1_nonneg e; omega
    have S1 := Lib.hid (to_T1 v_e e w f_e hz_e HR.out)
    clear hq_e hR_e
    go_wp2_with fail
    refine S1.out.mono ?_
    rintro e w1 ⟨⟨v1, rfl, f1, r1, -, -⟩, u1⟩
    have S2 := Lib.hid (text_s e v1 w1 f1 r1)
    have U1 := Lib.hid u1
    clear S1 u1 r1
    have TI := Lib.hid (text_i e)
    generalize textRes e = T at *
    go_wp2_with fail
    refine S2.out.mono ?_
    rintro e w2 ⟨rfl, u2⟩
    have U2 := Lib.hid (U1.out.trans u2)
    have S3 := Lib.hid (to_T1 v_e _ w2 f_e hz_e (R_T1k.upd HR.out U2.out (by simp)))
    clear S2 u2 U1
    go_wp2_with fail
    refine S3.out.mono ?_
    rintro e w3 ⟨⟨v3, rfl, f3, r3, -, -⟩, u3⟩
    have U3 := Lib.hid (U2.out.trans u3)
    have S4 := Lib.hid (TI.out v3 w3 f3 (HG.out.upd U3.out) r3)
    have R3 := Lib.hid r3
    clear S3 u3 U2 r3
    go_wp2_with fail
    refine S4.out.mono ?_
    rintro e w4 ⟨rfl, u4⟩
    have U4 := Lib.hid (U3.out.trans u4)
    have R4 := Lib.hid (R_T1k.upd R3.out u4 (by simp))
    have S5 := Lib.hid (to_T1 v_e _ w4 f_e hz_e (R_T1k.upd HR.out U4.out (by simp)))
    clear S4 u4 U3 R3
    go_wp2_with fail
    refine S5.out.mono ?_
    rintro e w5 ⟨⟨v5, rfl, f5, r5, -, -⟩, u5⟩
    have U5 := Lib.hid (U4.out.trans u5)
    have S6 := eq_T1 v3 v5 _ _ w5 f3 f5 (R_T1k.upd R4.out u5 (by simp)) r5
    rw [beq_self_eq_true] at S6
    have HS6 := Lib.hid S6
    clear S5 u5 U4 R4 r5 S6
    go_wp2_with fail
    refine HS6.out.mono ?_
    rintro e w6 ⟨rfl, u6⟩
    have U6 := Lib.hid (U5.out.trans u6)
    clear HS6 u6 U5
    go_wp2_with fail
    go_ret
    exact ⟨rfl, U6.out⟩

end Go.Proofs.YtnioopbficcbeaaDoor
