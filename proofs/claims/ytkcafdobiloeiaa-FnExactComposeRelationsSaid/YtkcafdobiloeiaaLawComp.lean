/-
  The law FnExactComposeRelations: the call returns true for every input, and writes nothing that was there.
-/
import Derived.Test.YtkcafdobiloeiaaComp
namespace Go.Proofs.Ytkcafdobiloeiaa
open Go.RowKit

set_option maxHeartbeats 2000000 in
theorem lawComp (n : Int) (r : List (List Int)) (q : List (List Int)) (v_r : Value) (f_r : List Nat) (v_q : Value) (f_q : List Nat) (w : World) (b_n : -9223372036854775808 ≤ n ∧ n ≤ 9223372036854775807) (hR_r : R_N2 f_r w [v_r] r)  (hR_q : R_N2 f_q w [v_q] q) :
    Calls Try.prog 5 #[.int .i64 n, v_r, v_q] w fun e w' => e = .returned (.bool true) ∧ Upd [] w w' := by
  have hT := comp_b n r q
  have tn_r := mkF_N2_nonneg r
  have tn_q := mkF_N2_nonneg q
  go_enter Try.func5, Try.ntmps5
  go_wp2_with fail
  refine (sz_N2 v_r r _ _ f_r (by omega) (by omega) hR_r).mono ?_
  rintro e w' ⟨⟨r_r, rfl, hr_r⟩, rfl⟩
  rcases hr_r with rfl | ⟨hp_r, hq_r⟩
  · go_wp2_with fail
    go_ret
    exact ⟨rfl, Upd.refl _ _⟩
  · have hz_r : szF_N2 r ≤ 1048576 := by have := szF_N2_nonneg r; omega
    have hx_r : r_r ≤ 1048576 := by have := szF_N2_nonneg r; omega
    have hm_r := mkF_N2_le r
    clear hq_r
    go_wp2_with fail
    refine (sz_N2 v_q q _ _ f_q (by omega) (by omega) hR_q).mono ?_
    rintro e w' ⟨⟨r_q, rfl, hr_q⟩, rfl⟩
    rcases hr_q with rfl | ⟨hp_q, hq_q⟩
    · go_wp2_with fail
      go_ret
      exact ⟨rfl, Upd.refl _ _⟩
    · have hz_q : szF_N2 q ≤ 1048576 := by have := szF_N2_nonneg q; omega
      have hx_q : r_q ≤ 1048576 := by have := szF_N2_nonneg q; omega
      have hm_q := mkF_N2_le q
      clear hq_q
      generalize hG : compRes n r q = G at *
      have HG := Lib.hid hG
      clear hG
      have u0 : Upd [] w w := Upd.refl _ _
      have hc1 : (G.2 != G.2) = false := by simp
      go_wp2_with fail
      refine (to_N2 v_r r _ f_r hz_r (R_N2k.upd hR_r u0 (by simp))).mono ?_
      rintro e w1 ⟨⟨v_a_r, rfl, fp_a_r, r1_a_r, o1_a_r, ge_a_r⟩, uu1⟩
      have u1 : Upd [] w w1 := u0.trans (uu1)
      have HL_a_r := Lib.hid (show ∀ b ∈ fp_a_r, w.heap.size ≤ b from fun b hb => by have := ge_a_r b hb; have := u0.size; omega)
      clear u0 uu1 ge_a_r
      go_wp2_with fail
      refine (to_N2 v_q q _ f_q hz_q (R_N2k.upd hR_q u1 (by simp))).mono ?_
      rintro e w2 ⟨⟨v_a_q, rfl, fp_a_q, r2_a_q, o2_a_q, ge_a_q⟩, uu2⟩
      have lt_a_r := R_N2k.lt r1_a_r
      have u2 : Upd [] w w2 := u1.trans (uu2)
      have r2_a_r := R_N2k.upd r1_a_r (uu2) (by simp)
      have o2_a_r := o1_a_r.upd (uu2) (by simp)
      have HL_a_q := Lib.hid (show ∀ b ∈ fp_a_q, w.heap.size ≤ b from fun b hb => by have := ge_a_q b hb; have := u1.size; omega)
      have HD_a_r_a_q := Lib.hid (show ∀ b ∈ fp_a_r, b ∉ fp_a_q from fun b hb hm => by have := lt_a_r b hb; have := ge_a_q b hm; omega)
      clear u1 r1_a_r o1_a_r uu2 ge_a_q lt_a_r
      have S2 := comp_s n r v_a_r q v_a_q w2 b_n fp_a_r r2_a_r fp_a_q r2_a_q 
      rw [HG.out] at S2
      go_wp2_with fail
      refine S2.mono ?_
      clear S2
      rintro e w3 ⟨⟨v_w0, rfl, ⟨fp_w0, r3_w0, o3_w0, ge_w0⟩⟩, uu3⟩
      have lt_a_r := R_N2k.lt r2_a_r
      have lt_a_q := R_N2k.lt r2_a_q
      have u3 : Upd [] w w3 := u2.trans (uu3)
      have r3_a_r := R_N2k.upd r2_a_r (uu3) (by simp)
      have o3_a_r := o2_a_r.upd (uu3) (by simp)
      have r3_a_q := R_N2k.upd r2_a_q (uu3) (by simp)
      have o3_a_q := o2_a_q.upd (uu3) (by simp)
      have HL_w0 := Lib.hid (show ∀ b ∈ fp_w0, w.heap.size ≤ b from fun b hb => by have := ge_w0 b hb; have := u2.size; omega)
      have HD_a_r_w0 := Lib.hid (show ∀ b ∈ fp_a_r, b ∉ fp_w0 from fun b hb hm => by have := lt_a_r b hb; have := ge_w0 b hm; omega)
      have HD_a_q_w0 := Lib.hid (show ∀ b ∈ fp_a_q, b ∉ fp_w0 from fun b hb hm => by have := lt_a_q b hb; have := ge_w0 b hm; omega)
      have lt_w0 := R_N2k.lt r3_w0
      clear u2 r2_a_r o2_a_r r2_a_q o2_a_q ge_w0 uu3 lt_a_r lt_a_q lt_w0
      clear r3_a_r o3_a_r
      clear r3_a_q o3_a_q
      go_wp2_with fail
      refine (to_N2 v_r r _ f_r hz_r (R_N2k.upd hR_r u3 (by simp))).mono ?_
      rintro e w4 ⟨⟨v_x_r, rfl, fp_x_r, r4_x_r, o4_x_r, ge_x_r⟩, uu4⟩
      have lt_w0 := R_N2k.lt r3_w0
      have u4 : Upd [] w w4 := u3.trans (uu4)
      have r4_w0 := R_N2k.upd r3_w0 (uu4) (by simp)
      have o4_w0 := o3_w0.upd (uu4) (by simp)
      have HL_x_r := Lib.hid (show ∀ b ∈ fp_x_r, w.heap.size ≤ b from fun b hb => by have := ge_x_r b hb; have := u3.size; omega)
      have HD_w0_x_r := Lib.hid (show ∀ b ∈ fp_w0, b ∉ fp_x_r from fun b hb hm => by have := lt_w0 b hb; have := ge_x_r b hm; omega)
      clear u3 r3_w0 o3_w0 uu4 ge_x_r lt_w0
      go_wp2_with fail
      refine (to_N2 v_q q _ f_q hz_q (R_N2k.upd hR_q u4 (by simp))).mono ?_
      rintro e w5 ⟨⟨v_x_q, rfl, fp_x_q, r5_x_q, o5_x_q, ge_x_q⟩, uu5⟩
      have lt_w0 := R_N2k.lt r4_w0
      have lt_x_r := R_N2k.lt r4_x_r
      have u5 : Upd [] w w5 := u4.trans (uu5)
      have r5_w0 := R_N2k.upd r4_w0 (uu5) (by simp)
      have o5_w0 := o4_w0.upd (uu5) (by simp)
      have r5_x_r := R_N2k.upd r4_x_r (uu5) (by simp)
      have o5_x_r := o4_x_r.upd (uu5) (by simp)
      have HL_x_q := Lib.hid (show ∀ b ∈ fp_x_q, w.heap.size ≤ b from fun b hb => by have := ge_x_q b hb; have := u4.size; omega)
      have HD_w0_x_q := Lib.hid (show ∀ b ∈ fp_w0, b ∉ fp_x_q from fun b hb hm => by have := lt_w0 b hb; have := ge_x_q b hm; omega)
      have HD_x_r_x_q := Lib.hid (show ∀ b ∈ fp_x_r, b ∉ fp_x_q from fun b hb hm => by have := lt_x_r b hb; have := ge_x_q b hm; omega)
      clear u4 r4_w0 o4_w0 r4_x_r o4_x_r uu5 ge_x_q lt_w0 lt_x_r
      have S2 := comp_i n r v_x_r q v_x_q w5 b_n fp_x_r r5_x_r fp_x_q r5_x_q 
      rw [HG.out] at S2
      go_wp2_with fail
      refine S2.mono ?_
      clear S2
      rintro e w6 ⟨⟨v_g0, rfl, ⟨fp_g0, r6_g0, o6_g0, ge_g0⟩⟩, uu6⟩
      have lt_w0 := R_N2k.lt r5_w0
      have lt_x_r := R_N2k.lt r5_x_r
      have lt_x_q := R_N2k.lt r5_x_q
      have u6 : Upd [] w w6 := u5.trans (uu6)
      have r6_w0 := R_N2k.upd r5_w0 (uu6) (by simp)
      have o6_w0 := o5_w0.upd (uu6) (by simp)
      have r6_x_r := R_N2k.upd r5_x_r (uu6) (by simp)
      have o6_x_r := o5_x_r.upd (uu6) (by simp)
      have r6_x_q := R_N2k.upd r5_x_q (uu6) (by simp)
      have o6_x_q := o5_x_q.upd (uu6) (by simp)
      have HL_g0 := Lib.hid (show ∀ b ∈ fp_g0, w.heap.size ≤ b from fun b hb => by have := ge_g0 b hb; have := u5.size; omega)
      have HD_w0_g0 := Lib.hid (show ∀ b ∈ fp_w0, b ∉ fp_g0 from fun b hb hm => by have := lt_w0 b hb; have := ge_g0 b hm; omega)
      have HD_x_r_g0 := Lib.hid (show ∀ b ∈ fp_x_r, b ∉ fp_g0 from fun b hb hm => by have := lt_x_r b hb; have := ge_g0 b hm; omega)
      have HD_x_q_g0 := Lib.hid (show ∀ b ∈ fp_x_q, b ∉ fp_g0 from fun b hb hm => by have := lt_x_q b hb; have := ge_g0 b hm; omega)
      have lt_g0 := R_N2k.lt r6_g0
      clear u5 r5_w0 o5_w0 r5_x_r o5_x_r r5_x_q o5_x_q ge_g0 uu6 lt_w0 lt_x_r lt_x_q lt_g0
      go_wp2_with fail
      refine (eq_N2 v_g0 v_w0 _ _ _ fp_g0 fp_w0 r6_g0 r6_w0).mono ?_
      rintro e w7 ⟨rfl, d7, e7⟩
      have uu7 : Upd [] w6 w7 := by rw [e7]; exact (Upd.refl _ _).drewN _
      clear e7
      rw [beq_refl_true]
      have u7 : Upd [] w w7 := u6.trans (uu7)
      have r7_w0 := R_N2k.upd r6_w0 (uu7) (by simp)
      have o7_w0 := o6_w0.upd (uu7) (by simp)
      have r7_x_r := R_N2k.upd r6_x_r (uu7) (by simp)
      have o7_x_r := o6_x_r.upd (uu7) (by simp)
      have r7_x_q := R_N2k.upd r6_x_q (uu7) (by simp)
      have o7_x_q := o6_x_q.upd (uu7) (by simp)
      have r7_g0 := R_N2k.upd r6_g0 (uu7) (by simp)
      have o7_g0 := o6_g0.upd (uu7) (by simp)
      clear u6 r6_w0 o6_w0 r6_x_r o6_x_r r6_x_q o6_x_q r6_g0 o6_g0 uu7
      go_wp2_with fail
      refine (to_N2 v_r r _ f_r hz_r (R_N2k.upd hR_r u7 (by simp))).mono ?_
      rintro e w8 ⟨⟨v_b_r, rfl, fp_b_r, r8_b_r, o8_b_r, ge_b_r⟩, uu8⟩
      have lt_w0 := R_N2k.lt r7_w0
      have lt_x_r := R_N2k.lt r7_x_r
      have lt_x_q := R_N2k.lt r7_x_q
      have lt_g0 := R_N2k.lt r7_g0
      have u8 : Upd [] w w8 := u7.trans (uu8)
      have r8_w0 := R_N2k.upd r7_w0 (uu8) (by simp)
      have o8_w0 := o7_w0.upd (uu8) (by simp)
      have r8_x_r := R_N2k.upd r7_x_r (uu8) (by simp)
      have o8_x_r := o7_x_r.upd (uu8) (by simp)
      have r8_x_q := R_N2k.upd r7_x_q (uu8) (by simp)
      have o8_x_q := o7_x_q.upd (uu8) (by simp)
      have r8_g0 := R_N2k.upd r7_g0 (uu8) (by simp)
      have o8_g0 := o7_g0.upd (uu8) (by simp)
      have HL_b_r := Lib.hid (show ∀ b ∈ fp_b_r, w.heap.size ≤ b from fun b hb => by have := ge_b_r b hb; have := u7.size; omega)
      have HD_w0_b_r := Lib.hid (show ∀ b ∈ fp_w0, b ∉ fp_b_r from fun b hb hm => by have := lt_w0 b hb; have := ge_b_r b hm; omega)
      have HD_x_r_b_r := Lib.hid (show ∀ b ∈ fp_x_r, b ∉ fp_b_r from fun b hb hm => by have := lt_x_r b hb; have := ge_b_r b hm; omega)
      have HD_x_q_b_r := Lib.hid (show ∀ b ∈ fp_x_q, b ∉ fp_b_r from fun b hb hm => by have := lt_x_q b hb; have := ge_b_r b hm; omega)
      have HD_g0_b_r := Lib.hid (show ∀ b ∈ fp_g0, b ∉ fp_b_r from fun b hb hm => by have := lt_g0 b hb; have := ge_b_r b hm; omega)
      clear u7 r7_w0 o7_w0 r7_x_r o7_x_r r7_x_q o7_x_q r7_g0 o7_g0 uu8 ge_b_r lt_w0 lt_x_r lt_x_q lt_g0
      go_wp2_with fail
      refine (eq_N2 v_x_r v_b_r _ _ _ fp_x_r fp_b_r r8_x_r r8_b_r).mono ?_
      rintro e w9 ⟨rfl, d9, e9⟩
      have uu9 : Upd [] w8 w9 := by rw [e9]; exact (Upd.refl _ _).drewN _
      clear e9
      rw [beq_refl_true]
      have u9 : Upd [] w w9 := u8.trans (uu9)
      have r9_w0 := R_N2k.upd r8_w0 (uu9) (by simp)
      have o9_w0 := o8_w0.upd (uu9) (by simp)
      have r9_x_r := R_N2k.upd r8_x_r (uu9) (by simp)
      have o9_x_r := o8_x_r.upd (uu9) (by simp)
      have r9_x_q := R_N2k.upd r8_x_q (uu9) (by simp)
      have o9_x_q := o8_x_q.upd (uu9) (by simp)
      have r9_g0 := R_N2k.upd r8_g0 (uu9) (by simp)
      have o9_g0 := o8_g0.upd (uu9) (by simp)
      clear u8 r8_w0 o8_w0 r8_x_r o8_x_r r8_x_q o8_x_q r8_g0 o8_g0 r8_b_r o8_b_r uu9
      go_wp2_with fail
      refine (to_N2 v_q q _ f_q hz_q (R_N2k.upd hR_q u9 (by simp))).mono ?_
      rintro e w10 ⟨⟨v_b_q, rfl, fp_b_q, r10_b_q, o10_b_q, ge_b_q⟩, uu10⟩
      have lt_w0 := R_N2k.lt r9_w0
      have lt_x_r := R_N2k.lt r9_x_r
      have lt_x_q := R_N2k.lt r9_x_q
      have lt_g0 := R_N2k.lt r9_g0
      have u10 : Upd [] w w10 := u9.trans (uu10)
      have r10_w0 := R_N2k.upd r9_w0 (uu10) (by simp)
      have o10_w0 := o9_w0.upd (uu10) (by simp)
      have r10_x_r := R_N2k.upd r9_x_r (uu10) (by simp)
      have o10_x_r := o9_x_r.upd (uu10) (by simp)
      have r10_x_q := R_N2k.upd r9_x_q (uu10) (by simp)
      have o10_x_q := o9_x_q.upd (uu10) (by simp)
      have r10_g0 := R_N2k.upd r9_g0 (uu10) (by simp)
      have o10_g0 := o9_g0.upd (uu10) (by simp)
      have HL_b_q := Lib.hid (show ∀ b ∈ fp_b_q, w.heap.size ≤ b from fun b hb => by have := ge_b_q b hb; have := u9.size; omega)
      have HD_w0_b_q := Lib.hid (show ∀ b ∈ fp_w0, b ∉ fp_b_q from fun b hb hm => by have := lt_w0 b hb; have := ge_b_q b hm; omega)
      have HD_x_r_b_q := Lib.hid (show ∀ b ∈ fp_x_r, b ∉ fp_b_q from fun b hb hm => by have := lt_x_r b hb; have := ge_b_q b hm; omega)
      have HD_x_q_b_q := Lib.hid (show ∀ b ∈ fp_x_q, b ∉ fp_b_q from fun b hb hm => by have := lt_x_q b hb; have := ge_b_q b hm; omega)
      have HD_g0_b_q := Lib.hid (show ∀ b ∈ fp_g0, b ∉ fp_b_q from fun b hb hm => by have := lt_g0 b hb; have := ge_b_q b hm; omega)
      clear u9 r9_w0 o9_w0 r9_x_r o9_x_r r9_x_q o9_x_q r9_g0 o9_g0 uu10 ge_b_q lt_w0 lt_x_r lt_x_q lt_g0
      go_wp2_with fail
      refine (eq_N2 v_x_q v_b_q _ _ _ fp_x_q fp_b_q r10_x_q r10_b_q).mono ?_
      rintro e w11 ⟨rfl, d11, e11⟩
      have uu11 : Upd [] w10 w11 := by rw [e11]; exact (Upd.refl _ _).drewN _
      clear e11
      rw [beq_refl_true]
      have u11 : Upd [] w w11 := u10.trans (uu11)
      have r11_w0 := R_N2k.upd r10_w0 (uu11) (by simp)
      have o11_w0 := o10_w0.upd (uu11) (by simp)
      have r11_x_r := R_N2k.upd r10_x_r (uu11) (by simp)
      have o11_x_r := o10_x_r.upd (uu11) (by simp)
      have r11_x_q := R_N2k.upd r10_x_q (uu11) (by simp)
      have o11_x_q := o10_x_q.upd (uu11) (by simp)
      have r11_g0 := R_N2k.upd r10_g0 (uu11) (by simp)
      have o11_g0 := o10_g0.upd (uu11) (by simp)
      clear u10 r10_w0 o10_w0 r10_x_r o10_x_r r10_x_q o10_x_q r10_g0 o10_g0 r10_b_q o10_b_q uu11
      go_wp2_with fail
      refine (mark_N2 v_x_r r _ _ fp_x_r (by omega) (by omega) r11_x_r o11_x_r).mono ?_
      rintro e w12 ⟨rfl, r12_x_r, o12_x_r, uu12⟩
      have u12 : Upd [] w w12 := u11.fresh (uu12) (fun b hb => Or.inl (HL_x_r.out b hb))
      have r12_w0 := R_N2k.upd r11_w0 (uu12) HD_w0_x_r.out
      have o12_w0 := o11_w0.upd (uu12) HD_w0_x_r.out
      have r12_x_q := R_N2k.upd r11_x_q (uu12) (fun b hb hm => HD_x_r_x_q.out b hm hb)
      have o12_x_q := o11_x_q.upd (uu12) (fun b hb hm => HD_x_r_x_q.out b hm hb)
      have r12_g0 := R_N2k.upd r11_g0 (uu12) (fun b hb hm => HD_x_r_g0.out b hm hb)
      have o12_g0 := o11_g0.upd (uu12) (fun b hb hm => HD_x_r_g0.out b hm hb)
      clear u11 r11_w0 o11_w0 r11_x_r o11_x_r r11_x_q o11_x_q r11_g0 o11_g0 r12_x_r o12_x_r uu12
      go_wp2_with fail
      refine (mark_N2 v_x_q q _ _ fp_x_q (by omega) (by omega) r12_x_q o12_x_q).mono ?_
      rintro e w13 ⟨rfl, r13_x_q, o13_x_q, uu13⟩
      have u13 : Upd [] w w13 := u12.fresh (uu13) (fun b hb => Or.inl (HL_x_q.out b hb))
      have r13_w0 := R_N2k.upd r12_w0 (uu13) HD_w0_x_q.out
      have o13_w0 := o12_w0.upd (uu13) HD_w0_x_q.out
      have r13_g0 := R_N2k.upd r12_g0 (uu13) (fun b hb hm => HD_x_q_g0.out b hm hb)
      have o13_g0 := o12_g0.upd (uu13) (fun b hb hm => HD_x_q_g0.out b hm hb)
      clear u12 r12_w0 o12_w0 r12_x_q o12_x_q r12_g0 o12_g0 r13_x_q o13_x_q uu13
      have hk : 0 ≤ 1 + mkF_N2 r + mkF_N2 q := by omega
      go_wp2_with fail
      refine (eq_N2 v_g0 v_w0 _ _ _ fp_g0 fp_w0 r13_g0 r13_w0).mono ?_
      rintro e w14 ⟨rfl, d14, e14⟩
      have uu14 : Upd [] w13 w14 := by rw [e14]; exact (Upd.refl _ _).drewN _
      clear e14
      rw [beq_refl_true]
      have u14 : Upd [] w w14 := u13.trans (uu14)
      have r14_w0 := R_N2k.upd r13_w0 (uu14) (by simp)
      have o14_w0 := o13_w0.upd (uu14) (by simp)
      have r14_g0 := R_N2k.upd r13_g0 (uu14) (by simp)
      have o14_g0 := o13_g0.upd (uu14) (by simp)
      clear u13 r13_w0 o13_w0 r13_g0 o13_g0 uu14
      have tg0 := mkF_N2_nonneg G.1
      go_wp2_with fail
      refine (mark_N2 v_g0 G.1 _ _ fp_g0 (by omega) (by omega) r14_g0 o14_g0).mono ?_
      rintro e w15 ⟨rfl, r15_g0, o15_g0, uu15⟩
      have u15 : Upd [] w w15 := u14.fresh (uu15) (fun b hb => Or.inl (HL_g0.out b hb))
      have r15_w0 := R_N2k.upd r14_w0 (uu15) HD_w0_g0.out
      have o15_w0 := o14_w0.upd (uu15) HD_w0_g0.out
      clear u14 r14_w0 o14_w0 r14_g0 o14_g0 uu15
      have hk0 : 0 ≤ 1 + mkF_N2 G.1 := by omega
      have hne : ((1 + mkF_N2 G.1) != (1 + mkF_N2 G.1)) = false := by simp
      go_wp2_with fail
      refine (held_N2 v_g0 G.1 _ _ fp_g0 (by omega) (by omega) r15_g0).mono ?_
      rintro e w' ⟨rfl, rfl⟩
      go_wp2_with fail
      refine (to_N2 v_r r _ f_r hz_r (R_N2k.upd hR_r u15 (by simp))).mono ?_
      rintro e w16 ⟨⟨v_c_r, rfl, fp_c_r, r16_c_r, o16_c_r, ge_c_r⟩, uu16⟩
      have lt_w0 := R_N2k.lt r15_w0
      have lt_g0 := R_N2k.lt r15_g0
      have u16 : Upd [] w w16 := u15.trans (uu16)
      have r16_w0 := R_N2k.upd r15_w0 (uu16) (by simp)
      have o16_w0 := o15_w0.upd (uu16) (by simp)
      have r16_g0 := R_N2k.upd r15_g0 (uu16) (by simp)
      have o16_g0 := o15_g0.upd (uu16) (by simp)
      have HL_c_r := Lib.hid (show ∀ b ∈ fp_c_r, w.heap.size ≤ b from fun b hb => by have := ge_c_r b hb; have := u15.size; omega)
      have HD_w0_c_r := Lib.hid (show ∀ b ∈ fp_w0, b ∉ fp_c_r from fun b hb hm => by have := lt_w0 b hb; have := ge_c_r b hm; omega)
      have HD_g0_c_r := Lib.hid (show ∀ b ∈ fp_g0, b ∉ fp_c_r from fun b hb hm => by have := lt_g0 b hb; have := ge_c_r b hm; omega)
      clear u15 r15_w0 o15_w0 r15_g0 o15_g0 uu16 ge_c_r lt_w0 lt_g0
      go_wp2_with fail
      refine (to_N2 v_q q _ f_q hz_q (R_N2k.upd hR_q u16 (by simp))).mono ?_
      rintro e w17 ⟨⟨v_c_q, rfl, fp_c_q, r17_c_q, o17_c_q, ge_c_q⟩, uu17⟩
      have lt_w0 := R_N2k.lt r16_w0
      have lt_g0 := R_N2k.lt r16_g0
      have lt_c_r := R_N2k.lt r16_c_r
      have u17 : Upd [] w w17 := u16.trans (uu17)
      have r17_w0 := R_N2k.upd r16_w0 (uu17) (by simp)
      have o17_w0 := o16_w0.upd (uu17) (by simp)
      have r17_g0 := R_N2k.upd r16_g0 (uu17) (by simp)
      have o17_g0 := o16_g0.upd (uu17) (by simp)
      have r17_c_r := R_N2k.upd r16_c_r (uu17) (by simp)
      have o17_c_r := o16_c_r.upd (uu17) (by simp)
      have HL_c_q := Lib.hid (show ∀ b ∈ fp_c_q, w.heap.size ≤ b from fun b hb => by have := ge_c_q b hb; have := u16.size; omega)
      have HD_w0_c_q := Lib.hid (show ∀ b ∈ fp_w0, b ∉ fp_c_q from fun b hb hm => by have := lt_w0 b hb; have := ge_c_q b hm; omega)
      have HD_g0_c_q := Lib.hid (show ∀ b ∈ fp_g0, b ∉ fp_c_q from fun b hb hm => by have := lt_g0 b hb; have := ge_c_q b hm; omega)
      have HD_c_r_c_q := Lib.hid (show ∀ b ∈ fp_c_r, b ∉ fp_c_q from fun b hb hm => by have := lt_c_r b hb; have := ge_c_q b hm; omega)
      clear u16 r16_w0 o16_w0 r16_g0 o16_g0 r16_c_r o16_c_r uu17 ge_c_q lt_w0 lt_g0 lt_c_r
      have S2 := comp_i n r v_c_r q v_c_q w17 b_n fp_c_r r17_c_r fp_c_q r17_c_q 
      rw [HG.out] at S2
      go_wp2_with fail
      refine S2.mono ?_
      clear S2
      rintro e w18 ⟨⟨v_h0, rfl, ⟨fp_h0, r18_h0, o18_h0, ge_h0⟩⟩, uu18⟩
      have lt_w0 := R_N2k.lt r17_w0
      have lt_g0 := R_N2k.lt r17_g0
      have lt_c_r := R_N2k.lt r17_c_r
      have lt_c_q := R_N2k.lt r17_c_q
      have u18 : Upd [] w w18 := u17.trans (uu18)
      have r18_w0 := R_N2k.upd r17_w0 (uu18) (by simp)
      have o18_w0 := o17_w0.upd (uu18) (by simp)
      have r18_g0 := R_N2k.upd r17_g0 (uu18) (by simp)
      have o18_g0 := o17_g0.upd (uu18) (by simp)
      have r18_c_r := R_N2k.upd r17_c_r (uu18) (by simp)
      have o18_c_r := o17_c_r.upd (uu18) (by simp)
      have r18_c_q := R_N2k.upd r17_c_q (uu18) (by simp)
      have o18_c_q := o17_c_q.upd (uu18) (by simp)
      have HL_h0 := Lib.hid (show ∀ b ∈ fp_h0, w.heap.size ≤ b from fun b hb => by have := ge_h0 b hb; have := u17.size; omega)
      have HD_w0_h0 := Lib.hid (show ∀ b ∈ fp_w0, b ∉ fp_h0 from fun b hb hm => by have := lt_w0 b hb; have := ge_h0 b hm; omega)
      have HD_g0_h0 := Lib.hid (show ∀ b ∈ fp_g0, b ∉ fp_h0 from fun b hb hm => by have := lt_g0 b hb; have := ge_h0 b hm; omega)
      have HD_c_r_h0 := Lib.hid (show ∀ b ∈ fp_c_r, b ∉ fp_h0 from fun b hb hm => by have := lt_c_r b hb; have := ge_h0 b hm; omega)
      have HD_c_q_h0 := Lib.hid (show ∀ b ∈ fp_c_q, b ∉ fp_h0 from fun b hb hm => by have := lt_c_q b hb; have := ge_h0 b hm; omega)
      have lt_h0 := R_N2k.lt r18_h0
      clear u17 r17_w0 o17_w0 r17_g0 o17_g0 r17_c_r o17_c_r r17_c_q o17_c_q ge_h0 uu18 lt_w0 lt_g0 lt_c_r lt_c_q lt_h0
      clear r18_c_r o18_c_r
      clear r18_c_q o18_c_q
      go_wp2_with fail
      refine (eq_N2 v_h0 v_w0 _ _ _ fp_h0 fp_w0 r18_h0 r18_w0).mono ?_
      rintro e w19 ⟨rfl, d19, e19⟩
      have uu19 : Upd [] w18 w19 := by rw [e19]; exact (Upd.refl _ _).drewN _
      clear e19
      rw [beq_refl_true]
      have u19 : Upd [] w w19 := u18.trans (uu19)
      have r19_w0 := R_N2k.upd r18_w0 (uu19) (by simp)
      have o19_w0 := o18_w0.upd (uu19) (by simp)
      have r19_g0 := R_N2k.upd r18_g0 (uu19) (by simp)
      have o19_g0 := o18_g0.upd (uu19) (by simp)
      have r19_h0 := R_N2k.upd r18_h0 (uu19) (by simp)
      have o19_h0 := o18_h0.upd (uu19) (by simp)
      clear u18 r18_w0 o18_w0 r18_g0 o18_g0 r18_h0 o18_h0 uu19
      go_wp2_with fail
      refine (held_N2 v_g0 G.1 _ _ fp_g0 (by omega) (by omega) r19_g0).mono ?_
      rintro e w' ⟨rfl, rfl⟩
      go_wp2_with fail
      go_ret
      exact ⟨rfl, u19⟩

end Go.Proofs.Ytkcafdobiloeiaa
