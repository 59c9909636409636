/-
  The law FnExactHideLinear: the call returns true for every input, and writes nothing that was there.
-/
import Derived.Test.YtnfghgaadnobbaaLinHw
namespace Go.Proofs.Ytnfghgaadnobbaa
open Go.RowKit

set_option maxRecDepth 20000 in
set_option maxHeartbeats 4000000 in
theorem lawHide (cs : List Value) (x : Ln) (v_a : Value) (a : List (List UInt8)) (f_a : List Nat) (w : World) (fp : List Nat) (hR : R_Ln fp w cs x) (hS : LnOk x) (hR_a : R_S1 f_a w [v_a] a) (ok_a : strsOk a) :
    Calls Try.prog 7 #[.agg cs.toArray, v_a] w fun e w' => e = .returned (.bool true) ∧ Upd [] w w' := by
  have hR' := hR
  obtain ⟨v1, v2, f1, f2, rfl, -, -, rfl⟩ := hR
  have HRX := Lib.hid (fun W (hu : Upd [] w W) => R_Lnk.upd hR' hu (by simp))
  have HR_a := Lib.hid (fun W (hu : Upd [] w W) => R_S1k.upd hR_a hu (by simp))
  obtain ⟨BA, hBA⟩ : ∃ B, B = w.heap.size := ⟨_, rfl⟩
  obtain ⟨wA, hwA⟩ : ∃ wA, wA = w.alloc (.cells #[ei x.pars, v1, v2] 25) := ⟨_, rfl⟩
  have uA : Upd [] w wA := by rw [hwA]; exact (Upd.refl _ _).alloc _
  have UA := Lib.hid uA
  have qA : RowAt wA BA 25 [ei x.pars, v1, v2] := by rw [hwA, hBA]; exact RowAt.new _ _ _
  have HQA := Lib.hid (fun W (hu : Upd [] wA W) => qA.upd hu (by simp))
  have S1 := Lib.hid (sz_Ln _ x 1048576 wA _ (by omega) (by omega) (HRX.out wA uA) hS)
  obtain ⟨a_a, c_a, rfl, hx1_a, hx2_a, -⟩ := slF1_open hR_a
  unfold maxLen at hx2_a
  clear hR' hS uA qA hR_a
  go_enter Try.func7, Try.ntmps7
  go_upto_region 1 with (fail)
  rw [← hwA, ← hBA]
  have HBA := Lib.hid hBA
  clear hwA hBA
  have u0 : Upd [] wA wA := Upd.refl _ _
  have z_A_0 := (HQA.out _ u0).cell 0 _ rfl
  have z_A_1 := (HQA.out _ u0).cell 1 _ rfl
  have z_A_2 := (HQA.out _ u0).cell 2 _ rfl
  go_wp2_with fail
  refine S1.out.mono ?_
  rintro e w1 ⟨⟨r, rfl, hr⟩, uu⟩
  clear S1 z_A_0 z_A_1 z_A_2
  have u1 := u0.trans uu
  clear u0 uu
  rcases hr with rfl | ⟨hr0_x, hr1_x⟩
  · have HU := Lib.hid (UA.out.trans u1)
    go_wp2_with fail
    go_ret
    exact ⟨rfl, HU.out⟩
  · have hsz : szF_Ln x ≤ 1048576 := by omega
    have hnn := szF_Ln_nonneg x
    have S2 := sz_S1 (.slice a_a a.length c_a) a r w1 f_a (by omega) (by omega) (HR_a.out w1 (UA.out.trans u1)) ok_a
    go_wp2_with fail
    refine S2.mono ?_
    clear S2
    rintro e w' ⟨⟨r_a, rfl, hr_a⟩, rfl⟩
    rcases hr_a with rfl | ⟨hr0_a, hr1_a⟩
    · have HU := Lib.hid (UA.out.trans u1)
      go_wp2_with fail
      go_ret
      exact ⟨rfl, HU.out⟩
    · have hz_a : szF_S1 a ≤ 1048576 := by have := szF_S1_nonneg a; omega
      have hz9_a : 0 ≤ r_a := by omega
      have HSZ := Lib.hid hsz
      have hF := ln_fit hsz
      have tn_x := mkF_Ln_nonneg x
      have hm_x := mkF_Ln_le x
      have tn_a := mkF_S1_nonneg a
      have hm_a := mkF_S1_le a
      have hM0 : 1 + mkF_Ln x ≤ 100000000 := by omega
      obtain ⟨hla, hsa⟩ := strs_fit hz_a
      have hMy : 1 + mkF_Ln (hidF x a).1 ≤ 4611686018427387904 := by have := hidF_b x a hM0; omega
      have tn_y := mkF_Ln_nonneg (hidF x a).1
      obtain ⟨⟨y, cc⟩, hG⟩ : ∃ G, hidF x a = G := ⟨_, rfl⟩
      rw [hG] at hMy tn_y
      simp only at hMy tn_y
      have hMk := hMy
      have HG := Lib.hid hG
      clear hG
      have hcc : ((cc : Int) != (cc : Int)) = false := by simp
      clear hsz hm_x hr1_x hnn
      have z_A_0 := (HQA.out _ u1).cell 0 _ rfl
      have z_A_1 := (HQA.out _ u1).cell 1 _ rfl
      have z_A_2 := (HQA.out _ u1).cell 2 _ rfl
      have S2 := to_Ln _ x w1 _ HSZ.out (HRX.out _ (UA.out.trans u1))
      go_wp2_with fail
      refine S2.mono ?_
      clear S2 z_A_0 z_A_1 z_A_2
      rintro e w2 ⟨⟨us, rfl, -, -, hn⟩, uu⟩
      obtain ⟨p1_a_x, q1_a_x, p2_a_x, q2_a_x, rfl⟩ := ln_form hn
      obtain ⟨fp_a_x, rr, oo, ge_a_x⟩ := hn
      have u2 : Upd [] wA w2 := u1.trans (uu)
      have HL_a_x := Lib.hid (show ∀ b ∈ fp_a_x, wA.heap.size ≤ b from fun b hb => by have := ge_a_x b hb; have := u1.size; omega)
      have r2_a_x := rr
      have o2_a_x := oo
      clear u1 uu ge_a_x rr oo
      have S2 := to_S1 (.slice a_a a.length c_a) a w2 _ hz_a (HR_a.out _ (UA.out.trans u2))
      go_wp2_with fail
      refine S2.mono ?_
      clear S2
      rintro e w3 ⟨⟨vv, rfl, hn⟩, uu⟩
      obtain ⟨p1_a_a, q1_a_a, rfl⟩ := hn.form
      obtain ⟨fp_a_a, rr, oo, ge_a_a⟩ := hn
      have lt_a_x := R_Lnk.lt r2_a_x
      have u3 : Upd [] wA w3 := u2.trans (uu)
      have r3_a_x := R_Lnk.upd r2_a_x (uu) (by simp)
      have o3_a_x := o2_a_x.upd (uu) (by simp)
      have HL_a_a := Lib.hid (show ∀ b ∈ fp_a_a, wA.heap.size ≤ b from fun b hb => by have := ge_a_a b hb; have := u2.size; omega)
      have HD_a_x_a_a := Lib.hid (show ∀ b ∈ fp_a_x, b ∉ fp_a_a from fun b hb hm => by have := lt_a_x b hb; have := ge_a_a b hm; omega)
      have r3_a_a := rr
      have o3_a_a := oo
      clear u2 r2_a_x o2_a_x uu ge_a_a rr oo lt_a_x
      have S2 := hidFS [ei (x).pars, .slice p1_a_x (x).start.length q1_a_x, .slice p2_a_x (x).sms.length q2_a_x] x (.slice p1_a_a a.length q1_a_a) a w3 fp_a_x fp_a_a r3_a_x r3_a_a hF hla hsa
      rw [HG.out] at S2
      go_wp2_with fail
      refine S2.mono ?_
      clear S2
      rintro e w4 ⟨⟨us, rfl, -, -, hn⟩, uu⟩
      obtain ⟨p1_w0, q1_w0, p2_w0, q2_w0, rfl⟩ := ln_form hn
      obtain ⟨fp_w0, rr, oo, ge_w0⟩ := hn
      have lt_a_x := R_Lnk.lt r3_a_x
      have lt_a_a := R_S1k.lt r3_a_a
      have u4 : Upd [] wA w4 := u3.trans (uu)
      have HL_w0 := Lib.hid (show ∀ b ∈ fp_w0, wA.heap.size ≤ b from fun b hb => by have := ge_w0 b hb; have := u3.size; omega)
      have r4_w0 := rr
      have o4_w0 := oo
      clear u3 r3_a_x o3_a_x r3_a_a o3_a_a uu ge_w0 rr oo lt_a_x lt_a_a
      obtain ⟨w5, hwB⟩ : ∃ wB, wB = w4.alloc (.cells #[ei (y).pars, .slice p1_w0 (y).start.length q1_w0, .slice p2_w0 (y).sms.length q2_w0] 29) := ⟨_, rfl⟩
      have uB : Upd [] w4 w5 := by rw [hwB]; exact (Upd.refl _ _).alloc _
      obtain ⟨B_w0, hB⟩ : ∃ B, B = w4.heap.size := ⟨_, rfl⟩
      have qq : RowAt w5 B_w0 29 [ei (y).pars, .slice p1_w0 (y).start.length q1_w0, .slice p2_w0 (y).sms.length q2_w0] := by rw [hwB, hB]; exact RowAt.new _ _ _
      have lt_w0 := R_Lnk.lt r4_w0
      have HN_w0_w0 := Lib.hid (show B_w0 ∉ fp_w0 from fun hm => by have := lt_w0 _ hm; omega)
      have u5 : Upd [] wA w5 := u4.trans (uB)
      have r5_w0 := R_Lnk.upd r4_w0 (uB) (by simp)
      have o5_w0 := o4_w0.upd (uB) (by simp)
      have q5_w0 := qq
      clear u4 r4_w0 o4_w0 lt_w0 uB qq
      go_upto_region 9 with (fail)
      rw [← hwB, ← hB]
      clear hwB hB
      have z_A_0 := (HQA.out _ u5).cell 0 _ rfl
      have z_A_1 := (HQA.out _ u5).cell 1 _ rfl
      have z_A_2 := (HQA.out _ u5).cell 2 _ rfl
      have S2 := to_Ln _ x w5 _ HSZ.out (HRX.out _ (UA.out.trans u5))
      go_wp2_with fail
      refine S2.mono ?_
      clear S2 z_A_0 z_A_1 z_A_2
      rintro e w6 ⟨⟨us, rfl, -, -, hn⟩, uu⟩
      obtain ⟨p1_x_x, q1_x_x, p2_x_x, q2_x_x, rfl⟩ := ln_form hn
      obtain ⟨fp_x_x, rr, oo, ge_x_x⟩ := hn
      have lt_w0 := R_Lnk.lt r5_w0
      have bl_w0 := q5_w0.lt
      have u6 : Upd [] wA w6 := u5.trans (uu)
      have r6_w0 := R_Lnk.upd r5_w0 (uu) (by simp)
      have o6_w0 := o5_w0.upd (uu) (by simp)
      have q6_w0 := q5_w0.upd (uu) (by simp)
      have HL_x_x := Lib.hid (show ∀ b ∈ fp_x_x, wA.heap.size ≤ b from fun b hb => by have := ge_x_x b hb; have := u5.size; omega)
      have HD_w0_x_x := Lib.hid (show ∀ b ∈ fp_w0, b ∉ fp_x_x from fun b hb hm => by have := lt_w0 b hb; have := ge_x_x b hm; omega)
      have HN_w0_x_x := Lib.hid (show B_w0 ∉ fp_x_x from fun hm => by have := ge_x_x _ hm; omega)
      have r6_x_x := rr
      have o6_x_x := oo
      clear u5 r5_w0 o5_w0 q5_w0 uu ge_x_x rr oo lt_w0 bl_w0
      obtain ⟨w7, hwB⟩ : ∃ wB, wB = w6.alloc (.cells #[ei (x).pars, .slice p1_x_x (x).start.length q1_x_x, .slice p2_x_x (x).sms.length q2_x_x] 29) := ⟨_, rfl⟩
      have uB : Upd [] w6 w7 := by rw [hwB]; exact (Upd.refl _ _).alloc _
      obtain ⟨B_x_x, hB⟩ : ∃ B, B = w6.heap.size := ⟨_, rfl⟩
      have qq : RowAt w7 B_x_x 29 [ei (x).pars, .slice p1_x_x (x).start.length q1_x_x, .slice p2_x_x (x).sms.length q2_x_x] := by rw [hwB, hB]; exact RowAt.new _ _ _
      have lt_w0 := R_Lnk.lt r6_w0
      have lt_x_x := R_Lnk.lt r6_x_x
      have bl_w0 := q6_w0.lt
      have HN_x_x_w0 := Lib.hid (show B_x_x ∉ fp_w0 from fun hm => by have := lt_w0 _ hm; omega)
      have HN_x_x_x_x := Lib.hid (show B_x_x ∉ fp_x_x from fun hm => by have := lt_x_x _ hm; omega)
      have u7 : Upd [] wA w7 := u6.trans (uB)
      have r7_w0 := R_Lnk.upd r6_w0 (uB) (by simp)
      have o7_w0 := o6_w0.upd (uB) (by simp)
      have r7_x_x := R_Lnk.upd r6_x_x (uB) (by simp)
      have o7_x_x := o6_x_x.upd (uB) (by simp)
      have q7_w0 := q6_w0.upd (uB) (by simp)
      have q7_x_x := qq
      clear u6 r6_w0 o6_w0 r6_x_x o6_x_x q6_w0 lt_w0 lt_x_x bl_w0 uB qq
      go_upto_region 10 with (fail)
      rw [← hwB, ← hB]
      clear hwB hB
      have S2 := to_S1 (.slice a_a a.length c_a) a w7 _ hz_a (HR_a.out _ (UA.out.trans u7))
      go_wp2_with fail
      refine S2.mono ?_
      clear S2
      rintro e w8 ⟨⟨vv, rfl, hn⟩, uu⟩
      obtain ⟨p1_x_a, q1_x_a, rfl⟩ := hn.form
      obtain ⟨fp_x_a, rr, oo, ge_x_a⟩ := hn
      have lt_w0 := R_Lnk.lt r7_w0
      have lt_x_x := R_Lnk.lt r7_x_x
      have bl_w0 := q7_w0.lt
      have bl_x_x := q7_x_x.lt
      have u8 : Upd [] wA w8 := u7.trans (uu)
      have r8_w0 := R_Lnk.upd r7_w0 (uu) (by simp)
      have o8_w0 := o7_w0.upd (uu) (by simp)
      have r8_x_x := R_Lnk.upd r7_x_x (uu) (by simp)
      have o8_x_x := o7_x_x.upd (uu) (by simp)
      have q8_w0 := q7_w0.upd (uu) (by simp)
      have q8_x_x := q7_x_x.upd (uu) (by simp)
      have HL_x_a := Lib.hid (show ∀ b ∈ fp_x_a, wA.heap.size ≤ b from fun b hb => by have := ge_x_a b hb; have := u7.size; omega)
      have HD_w0_x_a := Lib.hid (show ∀ b ∈ fp_w0, b ∉ fp_x_a from fun b hb hm => by have := lt_w0 b hb; have := ge_x_a b hm; omega)
      have HD_x_x_x_a := Lib.hid (show ∀ b ∈ fp_x_x, b ∉ fp_x_a from fun b hb hm => by have := lt_x_x b hb; have := ge_x_a b hm; omega)
      have HN_w0_x_a := Lib.hid (show B_w0 ∉ fp_x_a from fun hm => by have := ge_x_a _ hm; omega)
      have HN_x_x_x_a := Lib.hid (show B_x_x ∉ fp_x_a from fun hm => by have := ge_x_a _ hm; omega)
      have r8_x_a := rr
      have o8_x_a := oo
      clear u7 r7_w0 o7_w0 r7_x_x o7_x_x q7_w0 q7_x_x uu ge_x_a rr oo lt_w0 lt_x_x bl_w0 bl_x_x
      have z_x_x_0 := q8_x_x.cell 0 _ rfl
      have z_x_x_1 := q8_x_x.cell 1 _ rfl
      have z_x_x_2 := q8_x_x.cell 2 _ rfl
      have S2 := hidFI [ei (x).pars, .slice p1_x_x (x).start.length q1_x_x, .slice p2_x_x (x).sms.length q2_x_x] x (.slice p1_x_a a.length q1_x_a) a w8 fp_x_x fp_x_a r8_x_x r8_x_a hF hla hsa
      rw [HG.out] at S2
      go_wp2_with fail
      refine S2.mono ?_
      clear S2 z_x_x_0 z_x_x_1 z_x_x_2
      rintro e w9 ⟨⟨us, rfl, -, -, hn⟩, uu⟩
      obtain ⟨p1_g0, q1_g0, p2_g0, q2_g0, rfl⟩ := ln_form hn
      obtain ⟨fp_g0, rr, oo, ge_g0⟩ := hn
      have lt_w0 := R_Lnk.lt r8_w0
      have lt_x_x := R_Lnk.lt r8_x_x
      have lt_x_a := R_S1k.lt r8_x_a
      have bl_w0 := q8_w0.lt
      have bl_x_x := q8_x_x.lt
      have u9 : Upd [] wA w9 := u8.trans (uu)
      have r9_w0 := R_Lnk.upd r8_w0 (uu) (by simp)
      have o9_w0 := o8_w0.upd (uu) (by simp)
      have r9_x_x := R_Lnk.upd r8_x_x (uu) (by simp)
      have o9_x_x := o8_x_x.upd (uu) (by simp)
      have r9_x_a := R_S1k.upd r8_x_a (uu) (by simp)
      have o9_x_a := o8_x_a.upd (uu) (by simp)
      have q9_w0 := q8_w0.upd (uu) (by simp)
      have q9_x_x := q8_x_x.upd (uu) (by simp)
      have HL_g0 := Lib.hid (show ∀ b ∈ fp_g0, wA.heap.size ≤ b from fun b hb => by have := ge_g0 b hb; have := u8.size; omega)
      have HD_w0_g0 := Lib.hid (show ∀ b ∈ fp_w0, b ∉ fp_g0 from fun b hb hm => by have := lt_w0 b hb; have := ge_g0 b hm; omega)
      have HD_x_x_g0 := Lib.hid (show ∀ b ∈ fp_x_x, b ∉ fp_g0 from fun b hb hm => by have := lt_x_x b hb; have := ge_g0 b hm; omega)
      have HD_x_a_g0 := Lib.hid (show ∀ b ∈ fp_x_a, b ∉ fp_g0 from fun b hb hm => by have := lt_x_a b hb; have := ge_g0 b hm; omega)
      have HN_w0_g0 := Lib.hid (show B_w0 ∉ fp_g0 from fun hm => by have := ge_g0 _ hm; omega)
      have HN_x_x_g0 := Lib.hid (show B_x_x ∉ fp_g0 from fun hm => by have := ge_g0 _ hm; omega)
      have r9_g0 := rr
      have o9_g0 := oo
      clear u8 r8_w0 o8_w0 r8_x_x o8_x_x r8_x_a o8_x_a q8_w0 q8_x_x uu ge_g0 rr oo lt_w0 lt_x_x lt_x_a bl_w0 bl_x_x
      obtain ⟨w10, hwB⟩ : ∃ wB, wB = w9.alloc (.cells #[ei (y).pars, .slice p1_g0 (y).start.length q1_g0, .slice p2_g0 (y).sms.length q2_g0] 29) := ⟨_, rfl⟩
      have uB : Upd [] w9 w10 := by rw [hwB]; exact (Upd.refl _ _).alloc _
      obtain ⟨B_g0, hB⟩ : ∃ B, B = w9.heap.size := ⟨_, rfl⟩
      have qq : RowAt w10 B_g0 29 [ei (y).pars, .slice p1_g0 (y).start.length q1_g0, .slice p2_g0 (y).sms.length q2_g0] := by rw [hwB, hB]; exact RowAt.new _ _ _
      have lt_w0 := R_Lnk.lt r9_w0
      have lt_x_x := R_Lnk.lt r9_x_x
      have lt_x_a := R_S1k.lt r9_x_a
      have lt_g0 := R_Lnk.lt r9_g0
      have bl_w0 := q9_w0.lt
      have bl_x_x := q9_x_x.lt
      have HN_g0_w0 := Lib.hid (show B_g0 ∉ fp_w0 from fun hm => by have := lt_w0 _ hm; omega)
      have HN_g0_x_x := Lib.hid (show B_g0 ∉ fp_x_x from fun hm => by have := lt_x_x _ hm; omega)
      have HN_g0_x_a := Lib.hid (show B_g0 ∉ fp_x_a from fun hm => by have := lt_x_a _ hm; omega)
      have HN_g0_g0 := Lib.hid (show B_g0 ∉ fp_g0 from fun hm => by have := lt_g0 _ hm; omega)
      have u10 : Upd [] wA w10 := u9.trans (uB)
      have r10_w0 := R_Lnk.upd r9_w0 (uB) (by simp)
      have o10_w0 := o9_w0.upd (uB) (by simp)
      have r10_x_x := R_Lnk.upd r9_x_x (uB) (by simp)
      have o10_x_x := o9_x_x.upd (uB) (by simp)
      have r10_x_a := R_S1k.upd r9_x_a (uB) (by simp)
      have o10_x_a := o9_x_a.upd (uB) (by simp)
      have r10_g0 := R_Lnk.upd r9_g0 (uB) (by simp)
      have o10_g0 := o9_g0.upd (uB) (by simp)
      have q10_w0 := q9_w0.upd (uB) (by simp)
      have q10_x_x := q9_x_x.upd (uB) (by simp)
      have q10_g0 := qq
      clear u9 r9_w0 o9_w0 r9_x_x o9_x_x r9_x_a o9_x_a r9_g0 o9_g0 q9_w0 q9_x_x lt_w0 lt_x_x lt_x_a lt_g0 bl_w0 bl_x_x uB qq
      go_upto_region 12 with (fail)
      rw [← hwB, ← hB]
      clear hwB hB
      have z_g0_0 := q10_g0.cell 0 _ rfl
      have z_g0_1 := q10_g0.cell 1 _ rfl
      have z_g0_2 := q10_g0.cell 2 _ rfl
      have z_w0_0 := q10_w0.cell 0 _ rfl
      have z_w0_1 := q10_w0.cell 1 _ rfl
      have z_w0_2 := q10_w0.cell 2 _ rfl
      have S2 := eq_Ln [ei (y).pars, .slice p1_g0 (y).start.length q1_g0, .slice p2_g0 (y).sms.length q2_g0] [ei (y).pars, .slice p1_w0 (y).start.length q1_w0, .slice p2_w0 (y).sms.length q2_w0] _ w10 _ _ r10_g0 r10_w0
      go_wp2_with fail
      refine S2.mono ?_
      clear S2 z_g0_0 z_g0_1 z_g0_2 z_w0_0 z_w0_1 z_w0_2
      rintro e w11 ⟨rfl, uu⟩
      have u11 : Upd [] wA w11 := u10.trans (uu)
      have r11_w0 := R_Lnk.upd r10_w0 (uu) (by simp)
      have o11_w0 := o10_w0.upd (uu) (by simp)
      have r11_x_x := R_Lnk.upd r10_x_x (uu) (by simp)
      have o11_x_x := o10_x_x.upd (uu) (by simp)
      have r11_x_a := R_S1k.upd r10_x_a (uu) (by simp)
      have o11_x_a := o10_x_a.upd (uu) (by simp)
      have r11_g0 := R_Lnk.upd r10_g0 (uu) (by simp)
      have o11_g0 := o10_g0.upd (uu) (by simp)
      have q11_w0 := q10_w0.upd (uu) (by simp)
      have q11_x_x := q10_x_x.upd (uu) (by simp)
      have q11_g0 := q10_g0.upd (uu) (by simp)
      clear u10 r10_w0 o10_w0 r10_x_x o10_x_x r10_x_a o10_x_a r10_g0 o10_g0 q10_w0 q10_x_x q10_g0 uu
      have z_x_x_0 := q11_x_x.cell 0 _ rfl
      have z_x_x_1 := q11_x_x.cell 1 _ rfl
      have z_x_x_2 := q11_x_x.cell 2 _ rfl
      have z_A_0 := (HQA.out _ u11).cell 0 _ rfl
      have z_A_1 := (HQA.out _ u11).cell 1 _ rfl
      have z_A_2 := (HQA.out _ u11).cell 2 _ rfl
      have S6 := to_Ln _ x w11.drew _ HSZ.out (HRX.out _ (UA.out.trans u11).drew)
      have S7 := Lib.hid (fun W us f (hu : Upd [] w11.drew W) (h : R_Ln f W us x) => eq_Ln [ei (x).pars, .slice p1_x_x (x).start.length q1_x_x, .slice p2_x_x (x).sms.length q2_x_x] us x W _ f (R_Lnk.upd r11_x_x ((Upd.refl [] _).drew.trans hu) (by simp)) h)
      go_wp2_with fail
      go_region_held3 (fun w' => w'.cell? ⟨B_x_x, 0, none⟩ = some (ei (x).pars) ∧ w'.cell? ⟨B_x_x, 1, none⟩ = some (.slice p1_x_x (x).start.length q1_x_x) ∧ w'.cell? ⟨B_x_x, 2, none⟩ = some (.slice p2_x_x (x).sms.length q2_x_x) ∧ w'.cell? ⟨BA, 0, none⟩ = some (ei x.pars) ∧ w'.cell? ⟨BA, 1, none⟩ = some (v1) ∧ w'.cell? ⟨BA, 2, none⟩ = some (v2)) (go_keep)
        (first
          | ((go_at_call 11); (refine S6.mono ?_); rintro e w6' ⟨⟨us, rfl, -, -, hn⟩, hu6⟩; obtain ⟨p1_t, q1_t, p2_t, q2_t, rfl⟩ := ln_form hn; obtain ⟨fp_t, rr6, -, -⟩ := hn; have y_0 := hu6.keep z_x_x_0; have y_1 := hu6.keep z_x_x_1; have y_2 := hu6.keep z_x_x_2; have y_3 := hu6.keep z_A_0; have y_4 := hu6.keep z_A_1; have y_5 := hu6.keep z_A_2)
          | ((go_at_call 13); (refine (S7.out w6' _ fp_t hu6 rr6).mono ?_); rintro e w12 ⟨rfl, hu7⟩; have t_0 := hu7.keep y_0; have t_1 := hu7.keep y_1; have t_2 := hu7.keep y_2; have t_3 := hu7.keep y_3; have t_4 := hu7.keep y_4; have t_5 := hu7.keep y_5))
      have uu : Upd [] w11 w12 := ((Upd.refl [] w11).drew.trans hu6).trans hu7
      have u12 : Upd [] wA w12 := u11.trans (uu)
      have r12_w0 := R_Lnk.upd r11_w0 (uu) (by simp)
      have o12_w0 := o11_w0.upd (uu) (by simp)
      have r12_x_x := R_Lnk.upd r11_x_x (uu) (by simp)
      have o12_x_x := o11_x_x.upd (uu) (by simp)
      have r12_x_a := R_S1k.upd r11_x_a (uu) (by simp)
      have o12_x_a := o11_x_a.upd (uu) (by simp)
      have r12_g0 := R_Lnk.upd r11_g0 (uu) (by simp)
      have o12_g0 := o11_g0.upd (uu) (by simp)
      have q12_w0 := q11_w0.upd (uu) (by simp)
      have q12_x_x := q11_x_x.upd (uu) (by simp)
      have q12_g0 := q11_g0.upd (uu) (by simp)
      clear u11 r11_w0 o11_w0 r11_x_x o11_x_x r11_x_a o11_x_a r11_g0 o11_g0 q11_w0 q11_x_x q11_g0 uu S6 S7 hu6 hu7 rr6 z_x_x_0 z_x_x_1 z_x_x_2 z_A_0 z_A_1 z_A_2 y_0 y_1 y_2 y_3 y_4 y_5 t_0 t_1 t_2 t_3 t_4 t_5
      have S2 := to_S1 (.slice a_a a.length c_a) a w12 _ hz_a (HR_a.out _ (UA.out.trans u12))
      go_wp2_with fail
      refine S2.mono ?_
      clear S2
      rintro e w13 ⟨⟨vv, rfl, hn⟩, uu⟩
      obtain ⟨p1_b_a, q1_b_a, rfl⟩ := hn.form
      obtain ⟨fp_b_a, rr, oo, ge_b_a⟩ := hn
      have lt_w0 := R_Lnk.lt r12_w0
      have lt_x_x := R_Lnk.lt r12_x_x
      have lt_x_a := R_S1k.lt r12_x_a
      have lt_g0 := R_Lnk.lt r12_g0
      have bl_w0 := q12_w0.lt
      have bl_x_x := q12_x_x.lt
      have bl_g0 := q12_g0.lt
      have u13 : Upd [] wA w13 := u12.trans (uu)
      have r13_w0 := R_Lnk.upd r12_w0 (uu) (by simp)
      have o13_w0 := o12_w0.upd (uu) (by simp)
      have r13_x_x := R_Lnk.upd r12_x_x (uu) (by simp)
      have o13_x_x := o12_x_x.upd (uu) (by simp)
      have r13_x_a := R_S1k.upd r12_x_a (uu) (by simp)
      have o13_x_a := o12_x_a.upd (uu) (by simp)
      have r13_g0 := R_Lnk.upd r12_g0 (uu) (by simp)
      have o13_g0 := o12_g0.upd (uu) (by simp)
      have q13_w0 := q12_w0.upd (uu) (by simp)
      have q13_x_x := q12_x_x.upd (uu) (by simp)
      have q13_g0 := q12_g0.upd (uu) (by simp)
      have HL_b_a := Lib.hid (show ∀ b ∈ fp_b_a, wA.heap.size ≤ b from fun b hb => by have := ge_b_a b hb; have := u12.size; omega)
      have HD_w0_b_a := Lib.hid (show ∀ b ∈ fp_w0, b ∉ fp_b_a from fun b hb hm => by have := lt_w0 b hb; have := ge_b_a b hm; omega)
      have HD_x_x_b_a := Lib.hid (show ∀ b ∈ fp_x_x, b ∉ fp_b_a from fun b hb hm => by have := lt_x_x b hb; have := ge_b_a b hm; omega)
      have HD_x_a_b_a := Lib.hid (show ∀ b ∈ fp_x_a, b ∉ fp_b_a from fun b hb hm => by have := lt_x_a b hb; have := ge_b_a b hm; omega)
      have HD_g0_b_a := Lib.hid (show ∀ b ∈ fp_g0, b ∉ fp_b_a from fun b hb hm => by have := lt_g0 b hb; have := ge_b_a b hm; omega)
      have HN_w0_b_a := Lib.hid (show B_w0 ∉ fp_b_a from fun hm => by have := ge_b_a _ hm; omega)
      have HN_x_x_b_a := Lib.hid (show B_x_x ∉ fp_b_a from fun hm => by have := ge_b_a _ hm; omega)
      have HN_g0_b_a := Lib.hid (show B_g0 ∉ fp_b_a from fun hm => by have := ge_b_a _ hm; omega)
      have r13_b_a := rr
      have o13_b_a := oo
      clear u12 r12_w0 o12_w0 r12_x_x o12_x_x r12_x_a o12_x_a r12_g0 o12_g0 q12_w0 q12_x_x q12_g0 uu ge_b_a rr oo lt_w0 lt_x_x lt_x_a lt_g0 bl_w0 bl_x_x bl_g0
      have S2 := eq_S1 (.slice p1_x_a a.length q1_x_a) (.slice p1_b_a a.length q1_b_a) _ _ w13 _ _ r13_x_a r13_b_a
      go_wp2_with fail
      refine S2.mono ?_
      clear S2
      rintro e w14 ⟨rfl, uu⟩
      rw [beq_refl_true]
      have u14 : Upd [] wA w14 := u13.trans (uu)
      have r14_w0 := R_Lnk.upd r13_w0 (uu) (by simp)
      have o14_w0 := o13_w0.upd (uu) (by simp)
      have r14_x_x := R_Lnk.upd r13_x_x (uu) (by simp)
      have o14_x_x := o13_x_x.upd (uu) (by simp)
      have r14_x_a := R_S1k.upd r13_x_a (uu) (by simp)
      have o14_x_a := o13_x_a.upd (uu) (by simp)
      have r14_g0 := R_Lnk.upd r13_g0 (uu) (by simp)
      have o14_g0 := o13_g0.upd (uu) (by simp)
      have q14_w0 := q13_w0.upd (uu) (by simp)
      have q14_x_x := q13_x_x.upd (uu) (by simp)
      have q14_g0 := q13_g0.upd (uu) (by simp)
      clear u13 r13_w0 o13_w0 r13_x_x o13_x_x r13_x_a o13_x_a r13_g0 o13_g0 r13_b_a o13_b_a q13_w0 q13_x_x q13_g0 uu
      have z_x_x_0 := q14_x_x.cell 0 _ rfl
      have z_x_x_1 := q14_x_x.cell 1 _ rfl
      have z_x_x_2 := q14_x_x.cell 2 _ rfl
      go_wp2_with fail
      refine (mark_Ln [ei (x).pars, .slice p1_x_x (x).start.length q1_x_x, .slice p2_x_x (x).sms.length q2_x_x] x _ _ fp_x_x (by omega) (by omega) r14_x_x o14_x_x).mono ?_
      clear z_x_x_0 z_x_x_1 z_x_x_2
      rintro e w15 ⟨rfl, r15_x_x, o15_x_x, uu⟩
      have u15 : Upd [] wA w15 := u14.fresh (uu) (fun b hb => Or.inl (HL_x_x.out b hb))
      have r15_w0 := R_Lnk.upd r14_w0 (uu) HD_w0_x_x.out
      have o15_w0 := o14_w0.upd (uu) HD_w0_x_x.out
      have r15_x_a := R_S1k.upd r14_x_a (uu) (fun b hb hm => HD_x_x_x_a.out b hm hb)
      have o15_x_a := o14_x_a.upd (uu) (fun b hb hm => HD_x_x_x_a.out b hm hb)
      have r15_g0 := R_Lnk.upd r14_g0 (uu) (fun b hb hm => HD_x_x_g0.out b hm hb)
      have o15_g0 := o14_g0.upd (uu) (fun b hb hm => HD_x_x_g0.out b hm hb)
      have q15_w0 := q14_w0.upd (uu) HN_w0_x_x.out
      have q15_x_x := q14_x_x.upd (uu) HN_x_x_x_x.out
      have q15_g0 := q14_g0.upd (uu) HN_g0_x_x.out
      clear u14 r14_w0 o14_w0 r14_x_x o14_x_x r14_x_a o14_x_a r14_g0 o14_g0 q14_w0 q14_x_x q14_g0 r15_x_x o15_x_x q15_x_x uu
      go_wp2_with fail
      refine (mark_S1 (.slice p1_x_a a.length q1_x_a) a _ _ fp_x_a (by omega) (by omega) r15_x_a o15_x_a).mono ?_
      rintro e w16 ⟨rfl, r16_x_a, o16_x_a, uu⟩
      have u16 : Upd [] wA w16 := u15.fresh (uu) (fun b hb => Or.inl (HL_x_a.out b hb))
      have r16_w0 := R_Lnk.upd r15_w0 (uu) HD_w0_x_a.out
      have o16_w0 := o15_w0.upd (uu) HD_w0_x_a.out
      have r16_g0 := R_Lnk.upd r15_g0 (uu) (fun b hb hm => HD_x_a_g0.out b hm hb)
      have o16_g0 := o15_g0.upd (uu) (fun b hb hm => HD_x_a_g0.out b hm hb)
      have q16_w0 := q15_w0.upd (uu) HN_w0_x_a.out
      have q16_g0 := q15_g0.upd (uu) HN_g0_x_a.out
      clear u15 r15_w0 o15_w0 r15_x_a o15_x_a r15_g0 o15_g0 q15_w0 q15_g0 r16_x_a o16_x_a uu
      have hk : 0 ≤ 1 + mkF_Ln x + mkF_S1 a := by omega
      have z_g0_0 := q16_g0.cell 0 _ rfl
      have z_g0_1 := q16_g0.cell 1 _ rfl
      have z_g0_2 := q16_g0.cell 2 _ rfl
      have z_w0_0 := q16_w0.cell 0 _ rfl
      have z_w0_1 := q16_w0.cell 1 _ rfl
      have z_w0_2 := q16_w0.cell 2 _ rfl
      have S2 := eq_Ln [ei (y).pars, .slice p1_g0 (y).start.length q1_g0, .slice p2_g0 (y).sms.length q2_g0] [ei (y).pars, .slice p1_w0 (y).start.length q1_w0, .slice p2_w0 (y).sms.length q2_w0] _ w16 _ _ r16_g0 r16_w0
      go_wp2_with fail
      refine S2.mono ?_
      clear S2 z_g0_0 z_g0_1 z_g0_2 z_w0_0 z_w0_1 z_w0_2
      rintro e w17 ⟨rfl, uu⟩
      have u17 : Upd [] wA w17 := u16.trans (uu)
      have r17_w0 := R_Lnk.upd r16_w0 (uu) (by simp)
      have o17_w0 := o16_w0.upd (uu) (by simp)
      have r17_g0 := R_Lnk.upd r16_g0 (uu) (by simp)
      have o17_g0 := o16_g0.upd (uu) (by simp)
      have q17_w0 := q16_w0.upd (uu) (by simp)
      have q17_g0 := q16_g0.upd (uu) (by simp)
      clear u16 r16_w0 o16_w0 r16_g0 o16_g0 q16_w0 q16_g0 uu
      have z_g0_0 := q17_g0.cell 0 _ rfl
      have z_g0_1 := q17_g0.cell 1 _ rfl
      have z_g0_2 := q17_g0.cell 2 _ rfl
      go_wp2_with fail
      refine (mark_Ln [ei (y).pars, .slice p1_g0 (y).start.length q1_g0, .slice p2_g0 (y).sms.length q2_g0] y _ _ fp_g0 (by omega) (by omega) r17_g0 o17_g0).mono ?_
      clear z_g0_0 z_g0_1 z_g0_2
      rintro e w18 ⟨rfl, r18_g0, o18_g0, uu⟩
      have u18 : Upd [] wA w18 := u17.fresh (uu) (fun b hb => Or.inl (HL_g0.out b hb))
      have r18_w0 := R_Lnk.upd r17_w0 (uu) HD_w0_g0.out
      have o18_w0 := o17_w0.upd (uu) HD_w0_g0.out
      have q18_w0 := q17_w0.upd (uu) HN_w0_g0.out
      have q18_g0 := q17_g0.upd (uu) HN_g0_g0.out
      clear u17 r17_w0 o17_w0 r17_g0 o17_g0 q17_w0 q17_g0 uu
      have hk0 : 0 ≤ 1 + mkF_Ln y := by omega
      have hne : ((1 + mkF_Ln y) != (1 + mkF_Ln y)) = false := by simp
      have z_g0_0 := q18_g0.cell 0 _ rfl
      have z_g0_1 := q18_g0.cell 1 _ rfl
      have z_g0_2 := q18_g0.cell 2 _ rfl
      have S2 := held_Ln [ei (y).pars, .slice p1_g0 (y).start.length q1_g0, .slice p2_g0 (y).sms.length q2_g0] y 1 w18 fp_g0 (by omega) hMk r18_g0
      go_wp2_with fail
      refine S2.mono ?_
      clear S2 z_g0_0 z_g0_1 z_g0_2
      rintro e w19 ⟨rfl, uu⟩
      have u19 : Upd [] wA w19 := u18.trans (uu)
      have r19_w0 := R_Lnk.upd r18_w0 (uu) (by simp)
      have o19_w0 := o18_w0.upd (uu) (by simp)
      have r19_g0 := R_Lnk.upd r18_g0 (uu) (by simp)
      have o19_g0 := o18_g0.upd (uu) (by simp)
      have q19_w0 := q18_w0.upd (uu) (by simp)
      have q19_g0 := q18_g0.upd (uu) (by simp)
      clear u18 r18_w0 o18_w0 r18_g0 o18_g0 q18_w0 q18_g0 uu
      have z_A_0 := (HQA.out _ u19).cell 0 _ rfl
      have z_A_1 := (HQA.out _ u19).cell 1 _ rfl
      have z_A_2 := (HQA.out _ u19).cell 2 _ rfl
      have S2 := to_Ln _ x w19 _ HSZ.out (HRX.out _ (UA.out.trans u19))
      go_wp2_with fail
      refine S2.mono ?_
      clear S2 z_A_0 z_A_1 z_A_2
      rintro e w20 ⟨⟨us, rfl, -, -, hn⟩, uu⟩
      obtain ⟨p1_c_x, q1_c_x, p2_c_x, q2_c_x, rfl⟩ := ln_form hn
      obtain ⟨fp_c_x, rr, oo, ge_c_x⟩ := hn
      have lt_w0 := R_Lnk.lt r19_w0
      have lt_g0 := R_Lnk.lt r19_g0
      have bl_w0 := q19_w0.lt
      have bl_g0 := q19_g0.lt
      have u20 : Upd [] wA w20 := u19.trans (uu)
      have r20_w0 := R_Lnk.upd r19_w0 (uu) (by simp)
      have o20_w0 := o19_w0.upd (uu) (by simp)
      have r20_g0 := R_Lnk.upd r19_g0 (uu) (by simp)
      have o20_g0 := o19_g0.upd (uu) (by simp)
      have q20_w0 := q19_w0.upd (uu) (by simp)
      have q20_g0 := q19_g0.upd (uu) (by simp)
      have HL_c_x := Lib.hid (show ∀ b ∈ fp_c_x, wA.heap.size ≤ b from fun b hb => by have := ge_c_x b hb; have := u19.size; omega)
      have HD_w0_c_x := Lib.hid (show ∀ b ∈ fp_w0, b ∉ fp_c_x from fun b hb hm => by have := lt_w0 b hb; have := ge_c_x b hm; omega)
      have HD_g0_c_x := Lib.hid (show ∀ b ∈ fp_g0, b ∉ fp_c_x from fun b hb hm => by have := lt_g0 b hb; have := ge_c_x b hm; omega)
      have HN_w0_c_x := Lib.hid (show B_w0 ∉ fp_c_x from fun hm => by have := ge_c_x _ hm; omega)
      have HN_g0_c_x := Lib.hid (show B_g0 ∉ fp_c_x from fun hm => by have := ge_c_x _ hm; omega)
      have r20_c_x := rr
      have o20_c_x := oo
      clear u19 r19_w0 o19_w0 r19_g0 o19_g0 q19_w0 q19_g0 uu ge_c_x rr oo lt_w0 lt_g0 bl_w0 bl_g0
      have S2 := to_S1 (.slice a_a a.length c_a) a w20 _ hz_a (HR_a.out _ (UA.out.trans u20))
      go_wp2_with fail
      refine S2.mono ?_
      clear S2
      rintro e w21 ⟨⟨vv, rfl, hn⟩, uu⟩
      obtain ⟨p1_c_a, q1_c_a, rfl⟩ := hn.form
      obtain ⟨fp_c_a, rr, oo, ge_c_a⟩ := hn
      have lt_w0 := R_Lnk.lt r20_w0
      have lt_g0 := R_Lnk.lt r20_g0
      have lt_c_x := R_Lnk.lt r20_c_x
      have bl_w0 := q20_w0.lt
      have bl_g0 := q20_g0.lt
      have u21 : Upd [] wA w21 := u20.trans (uu)
      have r21_w0 := R_Lnk.upd r20_w0 (uu) (by simp)
      have o21_w0 := o20_w0.upd (uu) (by simp)
      have r21_g0 := R_Lnk.upd r20_g0 (uu) (by simp)
      have o21_g0 := o20_g0.upd (uu) (by simp)
      have r21_c_x := R_Lnk.upd r20_c_x (uu) (by simp)
      have o21_c_x := o20_c_x.upd (uu) (by simp)
      have q21_w0 := q20_w0.upd (uu) (by simp)
      have q21_g0 := q20_g0.upd (uu) (by simp)
      have HL_c_a := Lib.hid (show ∀ b ∈ fp_c_a, wA.heap.size ≤ b from fun b hb => by have := ge_c_a b hb; have := u20.size; omega)
      have HD_w0_c_a := Lib.hid (show ∀ b ∈ fp_w0, b ∉ fp_c_a from fun b hb hm => by have := lt_w0 b hb; have := ge_c_a b hm; omega)
      have HD_g0_c_a := Lib.hid (show ∀ b ∈ fp_g0, b ∉ fp_c_a from fun b hb hm => by have := lt_g0 b hb; have := ge_c_a b hm; omega)
      have HD_c_x_c_a := Lib.hid (show ∀ b ∈ fp_c_x, b ∉ fp_c_a from fun b hb hm => by have := lt_c_x b hb; have := ge_c_a b hm; omega)
      have HN_w0_c_a := Lib.hid (show B_w0 ∉ fp_c_a from fun hm => by have := ge_c_a _ hm; omega)
      have HN_g0_c_a := Lib.hid (show B_g0 ∉ fp_c_a from fun hm => by have := ge_c_a _ hm; omega)
      have r21_c_a := rr
      have o21_c_a := oo
      clear u20 r20_w0 o20_w0 r20_g0 o20_g0 r20_c_x o20_c_x q20_w0 q20_g0 uu ge_c_a rr oo lt_w0 lt_g0 lt_c_x bl_w0 bl_g0
      have S2 := hidFI [ei (x).pars, .slice p1_c_x (x).start.length q1_c_x, .slice p2_c_x (x).sms.length q2_c_x] x (.slice p1_c_a a.length q1_c_a) a w21 fp_c_x fp_c_a r21_c_x r21_c_a hF hla hsa
      rw [HG.out] at S2
      go_wp2_with fail
      refine S2.mono ?_
      clear S2
      rintro e w22 ⟨⟨us, rfl, -, -, hn⟩, uu⟩
      obtain ⟨p1_h0, q1_h0, p2_h0, q2_h0, rfl⟩ := ln_form hn
      obtain ⟨fp_h0, rr, oo, ge_h0⟩ := hn
      have lt_w0 := R_Lnk.lt r21_w0
      have lt_g0 := R_Lnk.lt r21_g0
      have lt_c_x := R_Lnk.lt r21_c_x
      have lt_c_a := R_S1k.lt r21_c_a
      have bl_w0 := q21_w0.lt
      have bl_g0 := q21_g0.lt
      have u22 : Upd [] wA w22 := u21.trans (uu)
      have r22_w0 := R_Lnk.upd r21_w0 (uu) (by simp)
      have o22_w0 := o21_w0.upd (uu) (by simp)
      have r22_g0 := R_Lnk.upd r21_g0 (uu) (by simp)
      have o22_g0 := o21_g0.upd (uu) (by simp)
      have q22_w0 := q21_w0.upd (uu) (by simp)
      have q22_g0 := q21_g0.upd (uu) (by simp)
      have HL_h0 := Lib.hid (show ∀ b ∈ fp_h0, wA.heap.size ≤ b from fun b hb => by have := ge_h0 b hb; have := u21.size; omega)
      have HD_w0_h0 := Lib.hid (show ∀ b ∈ fp_w0, b ∉ fp_h0 from fun b hb hm => by have := lt_w0 b hb; have := ge_h0 b hm; omega)
      have HD_g0_h0 := Lib.hid (show ∀ b ∈ fp_g0, b ∉ fp_h0 from fun b hb hm => by have := lt_g0 b hb; have := ge_h0 b hm; omega)
      have HN_w0_h0 := Lib.hid (show B_w0 ∉ fp_h0 from fun hm => by have := ge_h0 _ hm; omega)
      have HN_g0_h0 := Lib.hid (show B_g0 ∉ fp_h0 from fun hm => by have := ge_h0 _ hm; omega)
      have r22_h0 := rr
      have o22_h0 := oo
      clear u21 r21_w0 o21_w0 r21_g0 o21_g0 r21_c_x o21_c_x r21_c_a o21_c_a q21_w0 q21_g0 uu ge_h0 rr oo lt_w0 lt_g0 lt_c_x lt_c_a bl_w0 bl_g0
      obtain ⟨w23, hwB⟩ : ∃ wB, wB = w22.alloc (.cells #[ei (y).pars, .slice p1_h0 (y).start.length q1_h0, .slice p2_h0 (y).sms.length q2_h0] 29) := ⟨_, rfl⟩
      have uB : Upd [] w22 w23 := by rw [hwB]; exact (Upd.refl _ _).alloc _
      obtain ⟨B_h0, hB⟩ : ∃ B, B = w22.heap.size := ⟨_, rfl⟩
      have qq : RowAt w23 B_h0 29 [ei (y).pars, .slice p1_h0 (y).start.length q1_h0, .slice p2_h0 (y).sms.length q2_h0] := by rw [hwB, hB]; exact RowAt.new _ _ _
      have lt_w0 := R_Lnk.lt r22_w0
      have lt_g0 := R_Lnk.lt r22_g0
      have lt_h0 := R_Lnk.lt r22_h0
      have bl_w0 := q22_w0.lt
      have bl_g0 := q22_g0.lt
      have HN_h0_w0 := Lib.hid (show B_h0 ∉ fp_w0 from fun hm => by have := lt_w0 _ hm; omega)
      have HN_h0_g0 := Lib.hid (show B_h0 ∉ fp_g0 from fun hm => by have := lt_g0 _ hm; omega)
      have HN_h0_h0 := Lib.hid (show B_h0 ∉ fp_h0 from fun hm => by have := lt_h0 _ hm; omega)
      have u23 : Upd [] wA w23 := u22.trans (uB)
      have r23_w0 := R_Lnk.upd r22_w0 (uB) (by simp)
      have o23_w0 := o22_w0.upd (uB) (by simp)
      have r23_g0 := R_Lnk.upd r22_g0 (uB) (by simp)
      have o23_g0 := o22_g0.upd (uB) (by simp)
      have r23_h0 := R_Lnk.upd r22_h0 (uB) (by simp)
      have o23_h0 := o22_h0.upd (uB) (by simp)
      have q23_w0 := q22_w0.upd (uB) (by simp)
      have q23_g0 := q22_g0.upd (uB) (by simp)
      have q23_h0 := qq
      clear u22 r22_w0 o22_w0 r22_g0 o22_g0 r22_h0 o22_h0 q22_w0 q22_g0 lt_w0 lt_g0 lt_h0 bl_w0 bl_g0 uB qq
      go_upto_region 32 with (fail)
      rw [← hwB, ← hB]
      clear hwB hB
      have z_h0_0 := q23_h0.cell 0 _ rfl
      have z_h0_1 := q23_h0.cell 1 _ rfl
      have z_h0_2 := q23_h0.cell 2 _ rfl
      have z_w0_0 := q23_w0.cell 0 _ rfl
      have z_w0_1 := q23_w0.cell 1 _ rfl
      have z_w0_2 := q23_w0.cell 2 _ rfl
      have S2 := eq_Ln [ei (y).pars, .slice p1_h0 (y).start.length q1_h0, .slice p2_h0 (y).sms.length q2_h0] [ei (y).pars, .slice p1_w0 (y).start.length q1_w0, .slice p2_w0 (y).sms.length q2_w0] _ w23 _ _ r23_h0 r23_w0
      go_wp2_with fail
      refine S2.mono ?_
      clear S2 z_h0_0 z_h0_1 z_h0_2 z_w0_0 z_w0_1 z_w0_2
      rintro e w24 ⟨rfl, uu⟩
      have u24 : Upd [] wA w24 := u23.trans (uu)
      have r24_w0 := R_Lnk.upd r23_w0 (uu) (by simp)
      have o24_w0 := o23_w0.upd (uu) (by simp)
      have r24_g0 := R_Lnk.upd r23_g0 (uu) (by simp)
      have o24_g0 := o23_g0.upd (uu) (by simp)
      have r24_h0 := R_Lnk.upd r23_h0 (uu) (by simp)
      have o24_h0 := o23_h0.upd (uu) (by simp)
      have q24_w0 := q23_w0.upd (uu) (by simp)
      have q24_g0 := q23_g0.upd (uu) (by simp)
      have q24_h0 := q23_h0.upd (uu) (by simp)
      clear u23 r23_w0 o23_w0 r23_g0 o23_g0 r23_h0 o23_h0 q23_w0 q23_g0 q23_h0 uu
      have z_g0_0 := q24_g0.cell 0 _ rfl
      have z_g0_1 := q24_g0.cell 1 _ rfl
      have z_g0_2 := q24_g0.cell 2 _ rfl
      have S2 := held_Ln [ei (y).pars, .slice p1_g0 (y).start.length q1_g0, .slice p2_g0 (y).sms.length q2_g0] y 1 w24 fp_g0 (by omega) hMk r24_g0
      go_wp2_with fail
      refine S2.mono ?_
      clear S2 z_g0_0 z_g0_1 z_g0_2
      rintro e w25 ⟨rfl, uu⟩
      have u25 : Upd [] wA w25 := u24.trans (uu)
      have r25_w0 := R_Lnk.upd r24_w0 (uu) (by simp)
      have o25_w0 := o24_w0.upd (uu) (by simp)
      have r25_g0 := R_Lnk.upd r24_g0 (uu) (by simp)
      have o25_g0 := o24_g0.upd (uu) (by simp)
      have r25_h0 := R_Lnk.upd r24_h0 (uu) (by simp)
      have o25_h0 := o24_h0.upd (uu) (by simp)
      have q25_w0 := q24_w0.upd (uu) (by simp)
      have q25_g0 := q24_g0.upd (uu) (by simp)
      have q25_h0 := q24_h0.upd (uu) (by simp)
      clear u24 r24_w0 o24_w0 r24_g0 o24_g0 r24_h0 o24_h0 q24_w0 q24_g0 q24_h0 uu
      have HU := Lib.hid (UA.out.trans u25)
      go_wp2_with fail
      go_ret
      exact ⟨rfl, HU.out⟩

end Go.Proofs.Ytnfghgaadnobbaa
