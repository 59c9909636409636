/-
  The law FnExactRenameLinear: the call returns true for every input, and writes nothing that was there.
-/
import Derived.Test.YtnfghgaadnobbaaLinRn
namespace Go.Proofs.Ytnfghgaadnobbaa
open Go.RowKit

set_option maxRecDepth 20000 in
set_option maxHeartbeats 4000000 in
theorem lawRename (cs : List Value) (x : Ln) (a : List UInt8) (b : List UInt8) (w : World) (fp : List Nat) (hR : R_Ln fp w cs x) (hS : LnOk x) (bs_a : a.length ≤ 9223372036854775807) (bs_b : b.length ≤ 9223372036854775807) :
    Calls Try.prog 5 #[.agg cs.toArray, es a, es b] w fun e w' => e = .returned (.bool true) ∧ Upd [] w w' := by
  have hR' := hR
  obtain ⟨v1, v2, f1, f2, rfl, -, -, rfl⟩ := hR
  have HRX := Lib.hid (fun W (hu : Upd [] w W) => R_Lnk.upd hR' hu (by simp))
  obtain ⟨BA, hBA⟩ : ∃ B, B = w.heap.size := ⟨_, rfl⟩
  obtain ⟨wA, hwA⟩ : ∃ wA, wA = w.alloc (.cells #[ei x.pars, v1, v2] 25) := ⟨_, rfl⟩
  have uA : Upd [] w wA := by rw [hwA]; exact (Upd.refl _ _).alloc _
  have UA := Lib.hid uA
  have qA : RowAt wA BA 25 [ei x.pars, v1, v2] := by rw [hwA, hBA]; exact RowAt.new _ _ _
  have HQA := Lib.hid (fun W (hu : Upd [] wA W) => qA.upd hu (by simp))
  have S1 := Lib.hid (sz_Ln _ x 1048576 wA _ (by omega) (by omega) (HRX.out wA uA) hS)
  clear hR' hS uA qA
  by_cases lb_a : 1048576 < (a.length : Int)
  · go_enter Try.func5, Try.ntmps5
    go_wp2_with fail
    go_ret
    exact ⟨rfl, (Upd.refl _ _).alloc _⟩
  · have lx_a : a.length ≤ 1048576 := by omega
    by_cases lb_b : 1048576 < (b.length : Int)
    · go_enter Try.func5, Try.ntmps5
      go_wp2_with fail
      go_ret
      exact ⟨rfl, (Upd.refl _ _).alloc _⟩
    · have lx_b : b.length ≤ 1048576 := by omega
      go_enter Try.func5, Try.ntmps5
      go_upto_region 1 with (fail)
      rw [← hwA, ← hBA]
      have HBA := Lib.hid hBA
      clear hwA hBA
      have u0 : Upd [] wA wA := Upd.refl _ _
      have z_A_0 := (HQA.out _ u0).cell 0 _ rfl
      have z_A_1 := (HQA.out _ u0).cell 1 _ rfl
      have z_A_2 := (HQA.out _ u0).cell 2 _ rfl
      go_wp2_with fail
      refine S1.out.mono ?_
      rintro e w1 ⟨⟨r, rfl, hr⟩, uu⟩
      clear S1 z_A_0 z_A_1 z_A_2
      have u1 := u0.trans uu
      clear u0 uu
      rcases hr with rfl | ⟨hr0_x, hr1_x⟩
      · have HU := Lib.hid (UA.out.trans u1)
        go_wp2_with fail
        go_ret
        exact ⟨rfl, HU.out⟩
      · have hsz : szF_Ln x ≤ 1048576 := by omega
        have HSZ := Lib.hid hsz
        have hF := ln_fit hsz
        have tn_x := mkF_Ln_nonneg x
        have hm_x := mkF_Ln_le x
        have hM0 : 1 + mkF_Ln x ≤ 100000000 := by omega
        have hla : a.length ≤ 2000000 := by omega
        have hlb : b.length ≤ 2000000 := by omega
        have hMy : 1 + mkF_Ln (renF x a b).1 ≤ 4611686018427387904 := by have := ren_b x a b hM0; omega
        have tn_y := mkF_Ln_nonneg (renF x a b).1
        obtain ⟨⟨y, cc⟩, hG⟩ : ∃ G, renF x a b = G := ⟨_, rfl⟩
        rw [hG] at hMy tn_y
        simp only at hMy tn_y
        have hMk := hMy
        have HG := Lib.hid hG
        clear hG
        have hcc : ((cc : Int) != (cc : Int)) = false := by simp
        clear hsz hm_x hr1_x
        have z_A_0 := (HQA.out _ u1).cell 0 _ rfl
        have z_A_1 := (HQA.out _ u1).cell 1 _ rfl
        have z_A_2 := (HQA.out _ u1).cell 2 _ rfl
        have S2 := to_Ln _ x w1 _ HSZ.out (HRX.out _ (UA.out.trans u1))
        go_wp2_with fail
        refine S2.mono ?_
        clear S2 z_A_0 z_A_1 z_A_2
        rintro e w2 ⟨⟨us, rfl, -, -, hn⟩, uu⟩
        obtain ⟨p1_a_x, q1_a_x, p2_a_x, q2_a_x, rfl⟩ := ln_form hn
        obtain ⟨fp_a_x, rr, oo, ge_a_x⟩ := hn
        have u2 : Upd [] wA w2 := u1.trans (uu)
        have HL_a_x := Lib.hid (show ∀ b ∈ fp_a_x, wA.heap.size ≤ b from fun b hb => by have := ge_a_x b hb; have := u1.size; omega)
        have r2_a_x := rr
        have o2_a_x := oo
        clear u1 uu ge_a_x rr oo
        have S2 := renS [ei (x).pars, .slice p1_a_x (x).start.length q1_a_x, .slice p2_a_x (x).sms.length q2_a_x] x a b w2 fp_a_x r2_a_x hF hla hlb
        rw [HG.out] at S2
        go_wp2_with fail
        refine S2.mono ?_
        clear S2
        rintro e w3 ⟨⟨us, rfl, -, -, hn⟩, uu⟩
        obtain ⟨p1_w0, q1_w0, p2_w0, q2_w0, rfl⟩ := ln_form hn
        obtain ⟨fp_w0, rr, oo, ge_w0⟩ := hn
        have lt_a_x := R_Lnk.lt r2_a_x
        have u3 : Upd [] wA w3 := u2.trans (uu)
        have HL_w0 := Lib.hid (show ∀ b ∈ fp_w0, wA.heap.size ≤ b from fun b hb => by have := ge_w0 b hb; have := u2.size; omega)
        have r3_w0 := rr
        have o3_w0 := oo
        clear u2 r2_a_x o2_a_x uu ge_w0 rr oo lt_a_x
        obtain ⟨w4, hwB⟩ : ∃ wB, wB = w3.alloc (.cells #[ei (y).pars, .slice p1_w0 (y).start.length q1_w0, .slice p2_w0 (y).sms.length q2_w0] 29) := ⟨_, rfl⟩
        have uB : Upd [] w3 w4 := by rw [hwB]; exact (Upd.refl _ _).alloc _
        obtain ⟨B_w0, hB⟩ : ∃ B, B = w3.heap.size := ⟨_, rfl⟩
        have qq : RowAt w4 B_w0 29 [ei (y).pars, .slice p1_w0 (y).start.length q1_w0, .slice p2_w0 (y).sms.length q2_w0] := by rw [hwB, hB]; exact RowAt.new _ _ _
        have lt_w0 := R_Lnk.lt r3_w0
        have HN_w0_w0 := Lib.hid (show B_w0 ∉ fp_w0 from fun hm => by have := lt_w0 _ hm; omega)
        have u4 : Upd [] wA w4 := u3.trans (uB)
        have r4_w0 := R_Lnk.upd r3_w0 (uB) (by simp)
        have o4_w0 := o3_w0.upd (uB) (by simp)
        have q4_w0 := qq
        clear u3 r3_w0 o3_w0 lt_w0 uB qq
        go_upto_region 10 with (fail)
        rw [← hwB, ← hB]
        clear hwB hB
        have z_A_0 := (HQA.out _ u4).cell 0 _ rfl
        have z_A_1 := (HQA.out _ u4).cell 1 _ rfl
        have z_A_2 := (HQA.out _ u4).cell 2 _ rfl
        have S2 := to_Ln _ x w4 _ HSZ.out (HRX.out _ (UA.out.trans u4))
        go_wp2_with fail
        refine S2.mono ?_
        clear S2 z_A_0 z_A_1 z_A_2
        rintro e w5 ⟨⟨us, rfl, -, -, hn⟩, uu⟩
        obtain ⟨p1_x_x, q1_x_x, p2_x_x, q2_x_x, rfl⟩ := ln_form hn
        obtain ⟨fp_x_x, rr, oo, ge_x_x⟩ := hn
        have lt_w0 := R_Lnk.lt r4_w0
        have bl_w0 := q4_w0.lt
        have u5 : Upd [] wA w5 := u4.trans (uu)
        have r5_w0 := R_Lnk.upd r4_w0 (uu) (by simp)
        have o5_w0 := o4_w0.upd (uu) (by simp)
        have q5_w0 := q4_w0.upd (uu) (by simp)
        have HL_x_x := Lib.hid (show ∀ b ∈ fp_x_x, wA.heap.size ≤ b from fun b hb => by have := ge_x_x b hb; have := u4.size; omega)
        have HD_w0_x_x := Lib.hid (show ∀ b ∈ fp_w0, b ∉ fp_x_x from fun b hb hm => by have := lt_w0 b hb; have := ge_x_x b hm; omega)
        have HN_w0_x_x := Lib.hid (show B_w0 ∉ fp_x_x from fun hm => by have := ge_x_x _ hm; omega)
        have r5_x_x := rr
        have o5_x_x := oo
        clear u4 r4_w0 o4_w0 q4_w0 uu ge_x_x rr oo lt_w0 bl_w0
        obtain ⟨w6, hwB⟩ : ∃ wB, wB = w5.alloc (.cells #[ei (x).pars, .slice p1_x_x (x).start.length q1_x_x, .slice p2_x_x (x).sms.length q2_x_x] 29) := ⟨_, rfl⟩
        have uB : Upd [] w5 w6 := by rw [hwB]; exact (Upd.refl _ _).alloc _
        obtain ⟨B_x_x, hB⟩ : ∃ B, B = w5.heap.size := ⟨_, rfl⟩
        have qq : RowAt w6 B_x_x 29 [ei (x).pars, .slice p1_x_x (x).start.length q1_x_x, .slice p2_x_x (x).sms.length q2_x_x] := by rw [hwB, hB]; exact RowAt.new _ _ _
        have lt_w0 := R_Lnk.lt r5_w0
        have lt_x_x := R_Lnk.lt r5_x_x
        have bl_w0 := q5_w0.lt
        have HN_x_x_w0 := Lib.hid (show B_x_x ∉ fp_w0 from fun hm => by have := lt_w0 _ hm; omega)
        have HN_x_x_x_x := Lib.hid (show B_x_x ∉ fp_x_x from fun hm => by have := lt_x_x _ hm; omega)
        have u6 : Upd [] wA w6 := u5.trans (uB)
        have r6_w0 := R_Lnk.upd r5_w0 (uB) (by simp)
        have o6_w0 := o5_w0.upd (uB) (by simp)
        have r6_x_x := R_Lnk.upd r5_x_x (uB) (by simp)
        have o6_x_x := o5_x_x.upd (uB) (by simp)
        have q6_w0 := q5_w0.upd (uB) (by simp)
        have q6_x_x := qq
        clear u5 r5_w0 o5_w0 r5_x_x o5_x_x q5_w0 lt_w0 lt_x_x bl_w0 uB qq
        go_upto_region 11 with (fail)
        rw [← hwB, ← hB]
        clear hwB hB
        have z_x_x_0 := q6_x_x.cell 0 _ rfl
        have z_x_x_1 := q6_x_x.cell 1 _ rfl
        have z_x_x_2 := q6_x_x.cell 2 _ rfl
        have S2 := renI [ei (x).pars, .slice p1_x_x (x).start.length q1_x_x, .slice p2_x_x (x).sms.length q2_x_x] x a b w6 fp_x_x r6_x_x hF hla hlb
        rw [HG.out] at S2
        go_wp2_with fail
        refine S2.mono ?_
        clear S2 z_x_x_0 z_x_x_1 z_x_x_2
        rintro e w7 ⟨⟨us, rfl, -, -, hn⟩, uu⟩
        obtain ⟨p1_g0, q1_g0, p2_g0, q2_g0, rfl⟩ := ln_form hn
        obtain ⟨fp_g0, rr, oo, ge_g0⟩ := hn
        have lt_w0 := R_Lnk.lt r6_w0
        have lt_x_x := R_Lnk.lt r6_x_x
        have bl_w0 := q6_w0.lt
        have bl_x_x := q6_x_x.lt
        have u7 : Upd [] wA w7 := u6.trans (uu)
        have r7_w0 := R_Lnk.upd r6_w0 (uu) (by simp)
        have o7_w0 := o6_w0.upd (uu) (by simp)
        have r7_x_x := R_Lnk.upd r6_x_x (uu) (by simp)
        have o7_x_x := o6_x_x.upd (uu) (by simp)
        have q7_w0 := q6_w0.upd (uu) (by simp)
        have q7_x_x := q6_x_x.upd (uu) (by simp)
        have HL_g0 := Lib.hid (show ∀ b ∈ fp_g0, wA.heap.size ≤ b from fun b hb => by have := ge_g0 b hb; have := u6.size; omega)
        have HD_w0_g0 := Lib.hid (show ∀ b ∈ fp_w0, b ∉ fp_g0 from fun b hb hm => by have := lt_w0 b hb; have := ge_g0 b hm; omega)
        have HD_x_x_g0 := Lib.hid (show ∀ b ∈ fp_x_x, b ∉ fp_g0 from fun b hb hm => by have := lt_x_x b hb; have := ge_g0 b hm; omega)
        have HN_w0_g0 := Lib.hid (show B_w0 ∉ fp_g0 from fun hm => by have := ge_g0 _ hm; omega)
        have HN_x_x_g0 := Lib.hid (show B_x_x ∉ fp_g0 from fun hm => by have := ge_g0 _ hm; omega)
        have r7_g0 := rr
        have o7_g0 := oo
        clear u6 r6_w0 o6_w0 r6_x_x o6_x_x q6_w0 q6_x_x uu ge_g0 rr oo lt_w0 lt_x_x bl_w0 bl_x_x
        obtain ⟨w8, hwB⟩ : ∃ wB, wB = w7.alloc (.cells #[ei (y).pars, .slice p1_g0 (y).start.length q1_g0, .slice p2_g0 (y).sms.length q2_g0] 29) := ⟨_, rfl⟩
        have uB : Upd [] w7 w8 := by rw [hwB]; exact (Upd.refl _ _).alloc _
        obtain ⟨B_g0, hB⟩ : ∃ B, B = w7.heap.size := ⟨_, rfl⟩
        have qq : RowAt w8 B_g0 29 [ei (y).pars, .slice p1_g0 (y).start.length q1_g0, .slice p2_g0 (y).sms.length q2_g0] := by rw [hwB, hB]; exact RowAt.new _ _ _
        have lt_w0 := R_Lnk.lt r7_w0
        have lt_x_x := R_Lnk.lt r7_x_x
        have lt_g0 := R_Lnk.lt r7_g0
        have bl_w0 := q7_w0.lt
        have bl_x_x := q7_x_x.lt
        have HN_g0_w0 := Lib.hid (show B_g0 ∉ fp_w0 from fun hm => by have := lt_w0 _ hm; omega)
        have HN_g0_x_x := Lib.hid (show B_g0 ∉ fp_x_x from fun hm => by have := lt_x_x _ hm; omega)
        have HN_g0_g0 := Lib.hid (show B_g0 ∉ fp_g0 from fun hm => by have := lt_g0 _ hm; omega)
        have u8 : Upd [] wA w8 := u7.trans (uB)
        have r8_w0 := R_Lnk.upd r7_w0 (uB) (by simp)
        have o8_w0 := o7_w0.upd (uB) (by simp)
        have r8_x_x := R_Lnk.upd r7_x_x (uB) (by simp)
        have o8_x_x := o7_x_x.upd (uB) (by simp)
        have r8_g0 := R_Lnk.upd r7_g0 (uB) (by simp)
        have o8_g0 := o7_g0.upd (uB) (by simp)
        have q8_w0 := q7_w0.upd (uB) (by simp)
        have q8_x_x := q7_x_x.upd (uB) (by simp)
        have q8_g0 := qq
        clear u7 r7_w0 o7_w0 r7_x_x o7_x_x r7_g0 o7_g0 q7_w0 q7_x_x lt_w0 lt_x_x lt_g0 bl_w0 bl_x_x uB qq
        go_upto_region 12 with (fail)
        rw [← hwB, ← hB]
        clear hwB hB
        have z_g0_0 := q8_g0.cell 0 _ rfl
        have z_g0_1 := q8_g0.cell 1 _ rfl
        have z_g0_2 := q8_g0.cell 2 _ rfl
        have z_w0_0 := q8_w0.cell 0 _ rfl
        have z_w0_1 := q8_w0.cell 1 _ rfl
        have z_w0_2 := q8_w0.cell 2 _ rfl
        have S2 := eq_Ln [ei (y).pars, .slice p1_g0 (y).start.length q1_g0, .slice p2_g0 (y).sms.length q2_g0] [ei (y).pars, .slice p1_w0 (y).start.length q1_w0, .slice p2_w0 (y).sms.length q2_w0] _ w8 _ _ r8_g0 r8_w0
        go_wp2_with fail
        refine S2.mono ?_
        clear S2 z_g0_0 z_g0_1 z_g0_2 z_w0_0 z_w0_1 z_w0_2
        rintro e w9 ⟨rfl, uu⟩
        have u9 : Upd [] wA w9 := u8.trans (uu)
        have r9_w0 := R_Lnk.upd r8_w0 (uu) (by simp)
        have o9_w0 := o8_w0.upd (uu) (by simp)
        have r9_x_x := R_Lnk.upd r8_x_x (uu) (by simp)
        have o9_x_x := o8_x_x.upd (uu) (by simp)
        have r9_g0 := R_Lnk.upd r8_g0 (uu) (by simp)
        have o9_g0 := o8_g0.upd (uu) (by simp)
        have q9_w0 := q8_w0.upd (uu) (by simp)
        have q9_x_x := q8_x_x.upd (uu) (by simp)
        have q9_g0 := q8_g0.upd (uu) (by simp)
        clear u8 r8_w0 o8_w0 r8_x_x o8_x_x r8_g0 o8_g0 q8_w0 q8_x_x q8_g0 uu
        have z_x_x_0 := q9_x_x.cell 0 _ rfl
        have z_x_x_1 := q9_x_x.cell 1 _ rfl
        have z_x_x_2 := q9_x_x.cell 2 _ rfl
        have z_A_0 := (HQA.out _ u9).cell 0 _ rfl
        have z_A_1 := (HQA.out _ u9).cell 1 _ rfl
        have z_A_2 := (HQA.out _ u9).cell 2 _ rfl
        have S6 := to_Ln _ x w9.drew _ HSZ.out (HRX.out _ (UA.out.trans u9).drew)
        have S7 := Lib.hid (fun W us f (hu : Upd [] w9.drew W) (h : R_Ln f W us x) => eq_Ln [ei (x).pars, .slice p1_x_x (x).start.length q1_x_x, .slice p2_x_x (x).sms.length q2_x_x] us x W _ f (R_Lnk.upd r9_x_x ((Upd.refl [] _).drew.trans hu) (by simp)) h)
        go_wp2_with fail
        go_region_held3 (fun w' => w'.cell? ⟨B_x_x, 0, none⟩ = some (ei (x).pars) ∧ w'.cell? ⟨B_x_x, 1, none⟩ = some (.slice p1_x_x (x).start.length q1_x_x) ∧ w'.cell? ⟨B_x_x, 2, none⟩ = some (.slice p2_x_x (x).sms.length q2_x_x) ∧ w'.cell? ⟨BA, 0, none⟩ = some (ei x.pars) ∧ w'.cell? ⟨BA, 1, none⟩ = some (v1) ∧ w'.cell? ⟨BA, 2, none⟩ = some (v2)) (go_keep)
          (first
            | ((go_at_call 11); (refine S6.mono ?_); rintro e w6' ⟨⟨us, rfl, -, -, hn⟩, hu6⟩; obtain ⟨p1_t, q1_t, p2_t, q2_t, rfl⟩ := ln_form hn; obtain ⟨fp_t, rr6, -, -⟩ := hn; have y_0 := hu6.keep z_x_x_0; have y_1 := hu6.keep z_x_x_1; have y_2 := hu6.keep z_x_x_2; have y_3 := hu6.keep z_A_0; have y_4 := hu6.keep z_A_1; have y_5 := hu6.keep z_A_2)
            | ((go_at_call 13); (refine (S7.out w6' _ fp_t hu6 rr6).mono ?_); rintro e w10 ⟨rfl, hu7⟩; have t_0 := hu7.keep y_0; have t_1 := hu7.keep y_1; have t_2 := hu7.keep y_2; have t_3 := hu7.keep y_3; have t_4 := hu7.keep y_4; have t_5 := hu7.keep y_5))
        have uu : Upd [] w9 w10 := ((Upd.refl [] w9).drew.trans hu6).trans hu7
        have u10 : Upd [] wA w10 := u9.trans (uu)
        have r10_w0 := R_Lnk.upd r9_w0 (uu) (by simp)
        have o10_w0 := o9_w0.upd (uu) (by simp)
        have r10_x_x := R_Lnk.upd r9_x_x (uu) (by simp)
        have o10_x_x := o9_x_x.upd (uu) (by simp)
        have r10_g0 := R_Lnk.upd r9_g0 (uu) (by simp)
        have o10_g0 := o9_g0.upd (uu) (by simp)
        have q10_w0 := q9_w0.upd (uu) (by simp)
        have q10_x_x := q9_x_x.upd (uu) (by simp)
        have q10_g0 := q9_g0.upd (uu) (by simp)
        clear u9 r9_w0 o9_w0 r9_x_x o9_x_x r9_g0 o9_g0 q9_w0 q9_x_x q9_g0 uu S6 S7 hu6 hu7 rr6 z_x_x_0 z_x_x_1 z_x_x_2 z_A_0 z_A_1 z_A_2 y_0 y_1 y_2 y_3 y_4 y_5 t_0 t_1 t_2 t_3 t_4 t_5
        have z_x_x_0 := q10_x_x.cell 0 _ rfl
        have z_x_x_1 := q10_x_x.cell 1 _ rfl
        have z_x_x_2 := q10_x_x.cell 2 _ rfl
        go_wp2_with fail
        refine (mark_Ln [ei (x).pars, .slice p1_x_x (x).start.length q1_x_x, .slice p2_x_x (x).sms.length q2_x_x] x _ _ fp_x_x (by omega) (by omega) r10_x_x o10_x_x).mono ?_
        clear z_x_x_0 z_x_x_1 z_x_x_2
        rintro e w11 ⟨rfl, r11_x_x, o11_x_x, uu⟩
        have u11 : Upd [] wA w11 := u10.fresh (uu) (fun b hb => Or.inl (HL_x_x.out b hb))
        have r11_w0 := R_Lnk.upd r10_w0 (uu) HD_w0_x_x.out
        have o11_w0 := o10_w0.upd (uu) HD_w0_x_x.out
        have r11_g0 := R_Lnk.upd r10_g0 (uu) (fun b hb hm => HD_x_x_g0.out b hm hb)
        have o11_g0 := o10_g0.upd (uu) (fun b hb hm => HD_x_x_g0.out b hm hb)
        have q11_w0 := q10_w0.upd (uu) HN_w0_x_x.out
        have q11_x_x := q10_x_x.upd (uu) HN_x_x_x_x.out
        have q11_g0 := q10_g0.upd (uu) HN_g0_x_x.out
        clear u10 r10_w0 o10_w0 r10_x_x o10_x_x r10_g0 o10_g0 q10_w0 q10_x_x q10_g0 r11_x_x o11_x_x q11_x_x uu
        have hk : 0 ≤ 1 + mkF_Ln x := by omega
        have z_g0_0 := q11_g0.cell 0 _ rfl
        have z_g0_1 := q11_g0.cell 1 _ rfl
        have z_g0_2 := q11_g0.cell 2 _ rfl
        have z_w0_0 := q11_w0.cell 0 _ rfl
        have z_w0_1 := q11_w0.cell 1 _ rfl
        have z_w0_2 := q11_w0.cell 2 _ rfl
        have S2 := eq_Ln [ei (y).pars, .slice p1_g0 (y).start.length q1_g0, .slice p2_g0 (y).sms.length q2_g0] [ei (y).pars, .slice p1_w0 (y).start.length q1_w0, .slice p2_w0 (y).sms.length q2_w0] _ w11 _ _ r11_g0 r11_w0
        go_wp2_with fail
        refine S2.mono ?_
        clear S2 z_g0_0 z_g0_1 z_g0_2 z_w0_0 z_w0_1 z_w0_2
        rintro e w12 ⟨rfl, uu⟩
        have u12 : Upd [] wA w12 := u11.trans (uu)
        have r12_w0 := R_Lnk.upd r11_w0 (uu) (by simp)
        have o12_w0 := o11_w0.upd (uu) (by simp)
        have r12_g0 := R_Lnk.upd r11_g0 (uu) (by simp)
        have o12_g0 := o11_g0.upd (uu) (by simp)
        have q12_w0 := q11_w0.upd (uu) (by simp)
        have q12_g0 := q11_g0.upd (uu) (by simp)
        clear u11 r11_w0 o11_w0 r11_g0 o11_g0 q11_w0 q11_g0 uu
        have z_g0_0 := q12_g0.cell 0 _ rfl
        have z_g0_1 := q12_g0.cell 1 _ rfl
        have z_g0_2 := q12_g0.cell 2 _ rfl
        go_wp2_with fail
        refine (mark_Ln [ei (y).pars, .slice p1_g0 (y).start.length q1_g0, .slice p2_g0 (y).sms.length q2_g0] y _ _ fp_g0 (by omega) (by omega) r12_g0 o12_g0).mono ?_
        clear z_g0_0 z_g0_1 z_g0_2
        rintro e w13 ⟨rfl, r13_g0, o13_g0, uu⟩
        have u13 : Upd [] wA w13 := u12.fresh (uu) (fun b hb => Or.inl (HL_g0.out b hb))
        have r13_w0 := R_Lnk.upd r12_w0 (uu) HD_w0_g0.out
        have o13_w0 := o12_w0.upd (uu) HD_w0_g0.out
        have q13_w0 := q12_w0.upd (uu) HN_w0_g0.out
        have q13_g0 := q12_g0.upd (uu) HN_g0_g0.out
        clear u12 r12_w0 o12_w0 r12_g0 o12_g0 q12_w0 q12_g0 uu
        have hk0 : 0 ≤ 1 + mkF_Ln y := by omega
        have hne : ((1 + mkF_Ln y) != (1 + mkF_Ln y)) = false := by simp
        have z_g0_0 := q13_g0.cell 0 _ rfl
        have z_g0_1 := q13_g0.cell 1 _ rfl
        have z_g0_2 := q13_g0.cell 2 _ rfl
        have S2 := held_Ln [ei (y).pars, .slice p1_g0 (y).start.length q1_g0, .slice p2_g0 (y).sms.length q2_g0] y 1 w13 fp_g0 (by omega) hMk r13_g0
        go_wp2_with fail
        refine S2.mono ?_
        clear S2 z_g0_0 z_g0_1 z_g0_2
        rintro e w14 ⟨rfl, uu⟩
        have u14 : Upd [] wA w14 := u13.trans (uu)
        have r14_w0 := R_Lnk.upd r13_w0 (uu) (by simp)
        have o14_w0 := o13_w0.upd (uu) (by simp)
        have r14_g0 := R_Lnk.upd r13_g0 (uu) (by simp)
        have o14_g0 := o13_g0.upd (uu) (by simp)
        have q14_w0 := q13_w0.upd (uu) (by simp)
        have q14_g0 := q13_g0.upd (uu) (by simp)
        clear u13 r13_w0 o13_w0 r13_g0 o13_g0 q13_w0 q13_g0 uu
        have z_A_0 := (HQA.out _ u14).cell 0 _ rfl
        have z_A_1 := (HQA.out _ u14).cell 1 _ rfl
        have z_A_2 := (HQA.out _ u14).cell 2 _ rfl
        have S2 := to_Ln _ x w14 _ HSZ.out (HRX.out _ (UA.out.trans u14))
        go_wp2_with fail
        refine S2.mono ?_
        clear S2 z_A_0 z_A_1 z_A_2
        rintro e w15 ⟨⟨us, rfl, -, -, hn⟩, uu⟩
        obtain ⟨p1_c_x, q1_c_x, p2_c_x, q2_c_x, rfl⟩ := ln_form hn
        obtain ⟨fp_c_x, rr, oo, ge_c_x⟩ := hn
        have lt_w0 := R_Lnk.lt r14_w0
        have lt_g0 := R_Lnk.lt r14_g0
        have bl_w0 := q14_w0.lt
        have bl_g0 := q14_g0.lt
        have u15 : Upd [] wA w15 := u14.trans (uu)
        have r15_w0 := R_Lnk.upd r14_w0 (uu) (by simp)
        have o15_w0 := o14_w0.upd (uu) (by simp)
        have r15_g0 := R_Lnk.upd r14_g0 (uu) (by simp)
        have o15_g0 := o14_g0.upd (uu) (by simp)
        have q15_w0 := q14_w0.upd (uu) (by simp)
        have q15_g0 := q14_g0.upd (uu) (by simp)
        have HL_c_x := Lib.hid (show ∀ b ∈ fp_c_x, wA.heap.size ≤ b from fun b hb => by have := ge_c_x b hb; have := u14.size; omega)
        have HD_w0_c_x := Lib.hid (show ∀ b ∈ fp_w0, b ∉ fp_c_x from fun b hb hm => by have := lt_w0 b hb; have := ge_c_x b hm; omega)
        have HD_g0_c_x := Lib.hid (show ∀ b ∈ fp_g0, b ∉ fp_c_x from fun b hb hm => by have := lt_g0 b hb; have := ge_c_x b hm; omega)
        have HN_w0_c_x := Lib.hid (show B_w0 ∉ fp_c_x from fun hm => by have := ge_c_x _ hm; omega)
        have HN_g0_c_x := Lib.hid (show B_g0 ∉ fp_c_x from fun hm => by have := ge_c_x _ hm; omega)
        have r15_c_x := rr
        have o15_c_x := oo
        clear u14 r14_w0 o14_w0 r14_g0 o14_g0 q14_w0 q14_g0 uu ge_c_x rr oo lt_w0 lt_g0 bl_w0 bl_g0
        have S2 := renI [ei (x).pars, .slice p1_c_x (x).start.length q1_c_x, .slice p2_c_x (x).sms.length q2_c_x] x a b w15 fp_c_x r15_c_x hF hla hlb
        rw [HG.out] at S2
        go_wp2_with fail
        refine S2.mono ?_
        clear S2
        rintro e w16 ⟨⟨us, rfl, -, -, hn⟩, uu⟩
        obtain ⟨p1_h0, q1_h0, p2_h0, q2_h0, rfl⟩ := ln_form hn
        obtain ⟨fp_h0, rr, oo, ge_h0⟩ := hn
        have lt_w0 := R_Lnk.lt r15_w0
        have lt_g0 := R_Lnk.lt r15_g0
        have lt_c_x := R_Lnk.lt r15_c_x
        have bl_w0 := q15_w0.lt
        have bl_g0 := q15_g0.lt
        have u16 : Upd [] wA w16 := u15.trans (uu)
        have r16_w0 := R_Lnk.upd r15_w0 (uu) (by simp)
        have o16_w0 := o15_w0.upd (uu) (by simp)
        have r16_g0 := R_Lnk.upd r15_g0 (uu) (by simp)
        have o16_g0 := o15_g0.upd (uu) (by simp)
        have q16_w0 := q15_w0.upd (uu) (by simp)
        have q16_g0 := q15_g0.upd (uu) (by simp)
        have HL_h0 := Lib.hid (show ∀ b ∈ fp_h0, wA.heap.size ≤ b from fun b hb => by have := ge_h0 b hb; have := u15.size; omega)
        have HD_w0_h0 := Lib.hid (show ∀ b ∈ fp_w0, b ∉ fp_h0 from fun b hb hm => by have := lt_w0 b hb; have := ge_h0 b hm; omega)
        have HD_g0_h0 := Lib.hid (show ∀ b ∈ fp_g0, b ∉ fp_h0 from fun b hb hm => by have := lt_g0 b hb; have := ge_h0 b hm; omega)
        have HN_w0_h0 := Lib.hid (show B_w0 ∉ fp_h0 from fun hm => by have := ge_h0 _ hm; omega)
        have HN_g0_h0 := Lib.hid (show B_g0 ∉ fp_h0 from fun hm => by have := ge_h0 _ hm; omega)
        have r16_h0 := rr
        have o16_h0 := oo
        clear u15 r15_w0 o15_w0 r15_g0 o15_g0 r15_c_x o15_c_x q15_w0 q15_g0 uu ge_h0 rr oo lt_w0 lt_g0 lt_c_x bl_w0 bl_g0
        obtain ⟨w17, hwB⟩ : ∃ wB, wB = w16.alloc (.cells #[ei (y).pars, .slice p1_h0 (y).start.length q1_h0, .slice p2_h0 (y).sms.length q2_h0] 29) := ⟨_, rfl⟩
        have uB : Upd [] w16 w17 := by rw [hwB]; exact (Upd.refl _ _).alloc _
        obtain ⟨B_h0, hB⟩ : ∃ B, B = w16.heap.size := ⟨_, rfl⟩
        have qq : RowAt w17 B_h0 29 [ei (y).pars, .slice p1_h0 (y).start.length q1_h0, .slice p2_h0 (y).sms.length q2_h0] := by rw [hwB, hB]; exact RowAt.new _ _ _
        have lt_w0 := R_Lnk.lt r16_w0
        have lt_g0 := R_Lnk.lt r16_g0
        have lt_h0 := R_Lnk.lt r16_h0
        have bl_w0 := q16_w0.lt
        have bl_g0 := q16_g0.lt
        have HN_h0_w0 := Lib.hid (show B_h0 ∉ fp_w0 from fun hm => by have := lt_w0 _ hm; omega)
        have HN_h0_g0 := Lib.hid (show B_h0 ∉ fp_g0 from fun hm => by have := lt_g0 _ hm; omega)
        have HN_h0_h0 := Lib.hid (show B_h0 ∉ fp_h0 from fun hm => by have := lt_h0 _ hm; omega)
        have u17 : Upd [] wA w17 := u16.trans (uB)
        have r17_w0 := R_Lnk.upd r16_w0 (uB) (by simp)
        have o17_w0 := o16_w0.upd (uB) (by simp)
        have r17_g0 := R_Lnk.upd r16_g0 (uB) (by simp)
        have o17_g0 := o16_g0.upd (uB) (by simp)
        have r17_h0 := R_Lnk.upd r16_h0 (uB) (by simp)
        have o17_h0 := o16_h0.upd (uB) (by simp)
        have q17_w0 := q16_w0.upd (uB) (by simp)
        have q17_g0 := q16_g0.upd (uB) (by simp)
        have q17_h0 := qq
        clear u16 r16_w0 o16_w0 r16_g0 o16_g0 r16_h0 o16_h0 q16_w0 q16_g0 lt_w0 lt_g0 lt_h0 bl_w0 bl_g0 uB qq
        go_upto_region 29 with (fail)
        rw [← hwB, ← hB]
        clear hwB hB
        have z_h0_0 := q17_h0.cell 0 _ rfl
        have z_h0_1 := q17_h0.cell 1 _ rfl
        have z_h0_2 := q17_h0.cell 2 _ rfl
        have z_w0_0 := q17_w0.cell 0 _ rfl
        have z_w0_1 := q17_w0.cell 1 _ rfl
        have z_w0_2 := q17_w0.cell 2 _ rfl
        have S2 := eq_Ln [ei (y).pars, .slice p1_h0 (y).start.length q1_h0, .slice p2_h0 (y).sms.length q2_h0] [ei (y).pars, .slice p1_w0 (y).start.length q1_w0, .slice p2_w0 (y).sms.length q2_w0] _ w17 _ _ r17_h0 r17_w0
        go_wp2_with fail
        refine S2.mono ?_
        clear S2 z_h0_0 z_h0_1 z_h0_2 z_w0_0 z_w0_1 z_w0_2
        rintro e w18 ⟨rfl, uu⟩
        have u18 : Upd [] wA w18 := u17.trans (uu)
        have r18_w0 := R_Lnk.upd r17_w0 (uu) (by simp)
        have o18_w0 := o17_w0.upd (uu) (by simp)
        have r18_g0 := R_Lnk.upd r17_g0 (uu) (by simp)
        have o18_g0 := o17_g0.upd (uu) (by simp)
        have r18_h0 := R_Lnk.upd r17_h0 (uu) (by simp)
        have o18_h0 := o17_h0.upd (uu) (by simp)
        have q18_w0 := q17_w0.upd (uu) (by simp)
        have q18_g0 := q17_g0.upd (uu) (by simp)
        have q18_h0 := q17_h0.upd (uu) (by simp)
        clear u17 r17_w0 o17_w0 r17_g0 o17_g0 r17_h0 o17_h0 q17_w0 q17_g0 q17_h0 uu
        have z_g0_0 := q18_g0.cell 0 _ rfl
        have z_g0_1 := q18_g0.cell 1 _ rfl
        have z_g0_2 := q18_g0.cell 2 _ rfl
        have S2 := held_Ln [ei (y).pars, .slice p1_g0 (y).start.length q1_g0, .slice p2_g0 (y).sms.length q2_g0] y 1 w18 fp_g0 (by omega) hMk r18_g0
        go_wp2_with fail
        refine S2.mono ?_
        clear S2 z_g0_0 z_g0_1 z_g0_2
        rintro e w19 ⟨rfl, uu⟩
        have u19 : Upd [] wA w19 := u18.trans (uu)
        have r19_w0 := R_Lnk.upd r18_w0 (uu) (by simp)
        have o19_w0 := o18_w0.upd (uu) (by simp)
        have r19_g0 := R_Lnk.upd r18_g0 (uu) (by simp)
        have o19_g0 := o18_g0.upd (uu) (by simp)
        have r19_h0 := R_Lnk.upd r18_h0 (uu) (by simp)
        have o19_h0 := o18_h0.upd (uu) (by simp)
        have q19_w0 := q18_w0.upd (uu) (by simp)
        have q19_g0 := q18_g0.upd (uu) (by simp)
        have q19_h0 := q18_h0.upd (uu) (by simp)
        clear u18 r18_w0 o18_w0 r18_g0 o18_g0 r18_h0 o18_h0 q18_w0 q18_g0 q18_h0 uu
        have HU := Lib.hid (UA.out.trans u19)
        go_wp2_with fail
        go_ret
        exact ⟨rfl, HU.out⟩

end Go.Proofs.Ytnfghgaadnobbaa
