/-
  The law FnExactClosureOf: the call returns true for every input, and writes nothing that was there.
-/
import Derived.Test.YtkcafdobiloeiaaClose
namespace Go.Proofs.Ytkcafdobiloeiaa
open Go.RowKit

set_option maxHeartbeats 2000000 in
theorem lawClos (n : Int) (r : List (List Int)) (v_r : Value) (f_r : List Nat) (w : World) (b_n : -9223372036854775808 ≤ n ∧ n ≤ 9223372036854775807) (hR_r : R_N2 f_r w [v_r] r) :
    Calls Try.prog 8 #[.int .i64 n, v_r] w fun e w' => e = .returned (.bool true) ∧ Upd [] w w' := by
  have hT := clos_b n r
  have tn_r := mkF_N2_nonneg r
  go_enter Try.func8, Try.ntmps8
  go_wp2_with fail
  refine (sz_N2 v_r r _ _ f_r (by omega) (by omega) hR_r).mono ?_
  rintro e w' ⟨⟨r_r, rfl, hr_r⟩, rfl⟩
  rcases hr_r with rfl | ⟨hp_r, hq_r⟩
  · go_wp2_with fail
    go_ret
    exact ⟨rfl, Upd.refl _ _⟩
  · have hz_r : szF_N2 r ≤ 1048576 := by have := szF_N2_nonneg r; omega
    have hx_r : r_r ≤ 1048576 := by have := szF_N2_nonneg r; omega
    have hm_r := mkF_N2_le r
    clear hq_r
    generalize hG : closRes n r = G at *
    have HG := Lib.hid hG
    clear hG
    have u0 : Upd [] w w := Upd.refl _ _
    have hc1 : (G.2 != G.2) = false := by simp
    go_wp2_with fail
    refine (to_N2 v_r r _ f_r hz_r (R_N2k.upd hR_r u0 (by simp))).mono ?_
    rintro e w1 ⟨⟨v_a_r, rfl, fp_a_r, r1_a_r, o1_a_r, ge_a_r⟩, uu1⟩
    have u1 : Upd [] w w1 := u0.trans (uu1)
    have HL_a_r := Lib.hid (show ∀ b ∈ fp_a_r, w.heap.size ≤ b from fun b hb => by have := ge_a_r b hb; have := u0.size; omega)
    clear u0 uu1 ge_a_r
    have S2 := clos_s n r v_a_r w1 b_n fp_a_r r1_a_r 
    rw [HG.out] at S2
    go_wp2_with fail
    refine S2.mono ?_
    clear S2
    rintro e w2 ⟨⟨v_w0, rfl, ⟨fp_w0, r2_w0, o2_w0, ge_w0⟩⟩, uu2⟩
    have lt_a_r := R_N2k.lt r1_a_r
    have u2 : Upd [] w w2 := u1.trans (uu2)
    have r2_a_r := R_N2k.upd r1_a_r (uu2) (by simp)
    have o2_a_r := o1_a_r.upd (uu2) (by simp)
    have HL_w0 := Lib.hid (show ∀ b ∈ fp_w0, w.heap.size ≤ b from fun b hb => by have := ge_w0 b hb; have := u1.size; omega)
    have HD_a_r_w0 := Lib.hid (show ∀ b ∈ fp_a_r, b ∉ fp_w0 from fun b hb hm => by have := lt_a_r b hb; have := ge_w0 b hm; omega)
    have lt_w0 := R_N2k.lt r2_w0
    clear u1 r1_a_r o1_a_r ge_w0 uu2 lt_a_r lt_w0
    clear r2_a_r o2_a_r
    go_wp2_with fail
    refine (to_N2 v_r r _ f_r hz_r (R_N2k.upd hR_r u2 (by simp))).mono ?_
    rintro e w3 ⟨⟨v_x_r, rfl, fp_x_r, r3_x_r, o3_x_r, ge_x_r⟩, uu3⟩
    have lt_w0 := R_N2k.lt r2_w0
    have u3 : Upd [] w w3 := u2.trans (uu3)
    have r3_w0 := R_N2k.upd r2_w0 (uu3) (by simp)
    have o3_w0 := o2_w0.upd (uu3) (by simp)
    have HL_x_r := Lib.hid (show ∀ b ∈ fp_x_r, w.heap.size ≤ b from fun b hb => by have := ge_x_r b hb; have := u2.size; omega)
    have HD_w0_x_r := Lib.hid (show ∀ b ∈ fp_w0, b ∉ fp_x_r from fun b hb hm => by have := lt_w0 b hb; have := ge_x_r b hm; omega)
    clear u2 r2_w0 o2_w0 uu3 ge_x_r lt_w0
    have S2 := clos_i n r v_x_r w3 b_n fp_x_r r3_x_r 
    rw [HG.out] at S2
    go_wp2_with fail
    refine S2.mono ?_
    clear S2
    rintro e w4 ⟨⟨v_g0, rfl, ⟨fp_g0, r4_g0, o4_g0, ge_g0⟩⟩, uu4⟩
    have lt_w0 := R_N2k.lt r3_w0
    have lt_x_r := R_N2k.lt r3_x_r
    have u4 : Upd [] w w4 := u3.trans (uu4)
    have r4_w0 := R_N2k.upd r3_w0 (uu4) (by simp)
    have o4_w0 := o3_w0.upd (uu4) (by simp)
    have r4_x_r := R_N2k.upd r3_x_r (uu4) (by simp)
    have o4_x_r := o3_x_r.upd (uu4) (by simp)
    have HL_g0 := Lib.hid (show ∀ b ∈ fp_g0, w.heap.size ≤ b from fun b hb => by have := ge_g0 b hb; have := u3.size; omega)
    have HD_w0_g0 := Lib.hid (show ∀ b ∈ fp_w0, b ∉ fp_g0 from fun b hb hm => by have := lt_w0 b hb; have := ge_g0 b hm; omega)
    have HD_x_r_g0 := Lib.hid (show ∀ b ∈ fp_x_r, b ∉ fp_g0 from fun b hb hm => by have := lt_x_r b hb; have := ge_g0 b hm; omega)
    have lt_g0 := R_N2k.lt r4_g0
    clear u3 r3_w0 o3_w0 r3_x_r o3_x_r ge_g0 uu4 lt_w0 lt_x_r lt_g0
    go_wp2_with fail
    refine (eq_N2 v_g0 v_w0 _ _ _ fp_g0 fp_w0 r4_g0 r4_w0).mono ?_
    rintro e w5 ⟨rfl, d5, e5⟩
    have uu5 : Upd [] w4 w5 := by rw [e5]; exact (Upd.refl _ _).drewN _
    clear e5
    rw [beq_refl_true]
    have u5 : Upd [] w w5 := u4.trans (uu5)
    have r5_w0 := R_N2k.upd r4_w0 (uu5) (by simp)
    have o5_w0 := o4_w0.upd (uu5) (by simp)
    have r5_x_r := R_N2k.upd r4_x_r (uu5) (by simp)
    have o5_x_r := o4_x_r.upd (uu5) (by simp)
    have r5_g0 := R_N2k.upd r4_g0 (uu5) (by simp)
    have o5_g0 := o4_g0.upd (uu5) (by simp)
    clear u4 r4_w0 o4_w0 r4_x_r o4_x_r r4_g0 o4_g0 uu5
    go_wp2_with fail
    refine (to_N2 v_r r _ f_r hz_r (R_N2k.upd hR_r u5 (by simp))).mono ?_
    rintro e w6 ⟨⟨v_b_r, rfl, fp_b_r, r6_b_r, o6_b_r, ge_b_r⟩, uu6⟩
    have lt_w0 := R_N2k.lt r5_w0
    have lt_x_r := R_N2k.lt r5_x_r
    have lt_g0 := R_N2k.lt r5_g0
    have u6 : Upd [] w w6 := u5.trans (uu6)
    have r6_w0 := R_N2k.upd r5_w0 (uu6) (by simp)
    have o6_w0 := o5_w0.upd (uu6) (by simp)
    have r6_x_r := R_N2k.upd r5_x_r (uu6) (by simp)
    have o6_x_r := o5_x_r.upd (uu6) (by simp)
    have r6_g0 := R_N2k.upd r5_g0 (uu6) (by simp)
    have o6_g0 := o5_g0.upd (uu6) (by simp)
    have HL_b_r := Lib.hid (show ∀ b ∈ fp_b_r, w.heap.size ≤ b from fun b hb => by have := ge_b_r b hb; have := u5.size; omega)
    have HD_w0_b_r := Lib.hid (show ∀ b ∈ fp_w0, b ∉ fp_b_r from fun b hb hm => by have := lt_w0 b hb; have := ge_b_r b hm; omega)
    have HD_x_r_b_r := Lib.hid (show ∀ b ∈ fp_x_r, b ∉ fp_b_r from fun b hb hm => by have := lt_x_r b hb; have := ge_b_r b hm; omega)
    have HD_g0_b_r := Lib.hid (show ∀ b ∈ fp_g0, b ∉ fp_b_r from fun b hb hm => by have := lt_g0 b hb; have := ge_b_r b hm; omega)
    clear u5 r5_w0 o5_w0 r5_x_r o5_x_r r5_g0 o5_g0 uu6 ge_b_r lt_w0 lt_x_r lt_g0
    go_wp2_with fail
    refine (eq_N2 v_x_r v_b_r _ _ _ fp_x_r fp_b_r r6_x_r r6_b_r).mono ?_
    rintro e w7 ⟨rfl, d7, e7⟩
    have uu7 : Upd [] w6 w7 := by rw [e7]; exact (Upd.refl _ _).drewN _
    clear e7
    rw [beq_refl_true]
    have u7 : Upd [] w w7 := u6.trans (uu7)
    have r7_w0 := R_N2k.upd r6_w0 (uu7) (by simp)
    have o7_w0 := o6_w0.upd (uu7) (by simp)
    have r7_x_r := R_N2k.upd r6_x_r (uu7) (by simp)
    have o7_x_r := o6_x_r.upd (uu7) (by simp)
    have r7_g0 := R_N2k.upd r6_g0 (uu7) (by simp)
    have o7_g0 := o6_g0.upd (uu7) (by simp)
    clear u6 r6_w0 o6_w0 r6_x_r o6_x_r r6_g0 o6_g0 r6_b_r o6_b_r uu7
    go_wp2_with fail
    refine (mark_N2 v_x_r r _ _ fp_x_r (by omega) (by omega) r7_x_r o7_x_r).mono ?_
    rintro e w8 ⟨rfl, r8_x_r, o8_x_r, uu8⟩
    have u8 : Upd [] w w8 := u7.fresh (uu8) (fun b hb => Or.inl (HL_x_r.out b hb))
    have r8_w0 := R_N2k.upd r7_w0 (uu8) HD_w0_x_r.out
    have o8_w0 := o7_w0.upd (uu8) HD_w0_x_r.out
    have r8_g0 := R_N2k.upd r7_g0 (uu8) (fun b hb hm => HD_x_r_g0.out b hm hb)
    have o8_g0 := o7_g0.upd (uu8) (fun b hb hm => HD_x_r_g0.out b hm hb)
    clear u7 r7_w0 o7_w0 r7_x_r o7_x_r r7_g0 o7_g0 r8_x_r o8_x_r uu8
    have hk : 0 ≤ 1 + mkF_N2 r := by omega
    go_wp2_with fail
    refine (eq_N2 v_g0 v_w0 _ _ _ fp_g0 fp_w0 r8_g0 r8_w0).mono ?_
    rintro e w9 ⟨rfl, d9, e9⟩
    have uu9 : Upd [] w8 w9 := by rw [e9]; exact (Upd.refl _ _).drewN _
    clear e9
    rw [beq_refl_true]
    have u9 : Upd [] w w9 := u8.trans (uu9)
    have r9_w0 := R_N2k.upd r8_w0 (uu9) (by simp)
    have o9_w0 := o8_w0.upd (uu9) (by simp)
    have r9_g0 := R_N2k.upd r8_g0 (uu9) (by simp)
    have o9_g0 := o8_g0.upd (uu9) (by simp)
    clear u8 r8_w0 o8_w0 r8_g0 o8_g0 uu9
    have tg0 := mkF_N2_nonneg G.1
    go_wp2_with fail
    refine (mark_N2 v_g0 G.1 _ _ fp_g0 (by omega) (by omega) r9_g0 o9_g0).mono ?_
    rintro e w10 ⟨rfl, r10_g0, o10_g0, uu10⟩
    have u10 : Upd [] w w10 := u9.fresh (uu10) (fun b hb => Or.inl (HL_g0.out b hb))
    have r10_w0 := R_N2k.upd r9_w0 (uu10) HD_w0_g0.out
    have o10_w0 := o9_w0.upd (uu10) HD_w0_g0.out
    clear u9 r9_w0 o9_w0 r9_g0 o9_g0 uu10
    have hk0 : 0 ≤ 1 + mkF_N2 G.1 := by omega
    have hne : ((1 + mkF_N2 G.1) != (1 + mkF_N2 G.1)) = false := by simp
    go_wp2_with fail
    refine (held_N2 v_g0 G.1 _ _ fp_g0 (by omega) (by omega) r10_g0).mono ?_
    rintro e w' ⟨rfl, rfl⟩
    go_wp2_with fail
    refine (to_N2 v_r r _ f_r hz_r (R_N2k.upd hR_r u10 (by simp))).mono ?_
    rintro e w11 ⟨⟨v_c_r, rfl, fp_c_r, r11_c_r, o11_c_r, ge_c_r⟩, uu11⟩
    have lt_w0 := R_N2k.lt r10_w0
    have lt_g0 := R_N2k.lt r10_g0
    have u11 : Upd [] w w11 := u10.trans (uu11)
    have r11_w0 := R_N2k.upd r10_w0 (uu11) (by simp)
    have o11_w0 := o10_w0.upd (uu11) (by simp)
    have r11_g0 := R_N2k.upd r10_g0 (uu11) (by simp)
    have o11_g0 := o10_g0.upd (uu11) (by simp)
    have HL_c_r := Lib.hid (show ∀ b ∈ fp_c_r, w.heap.size ≤ b from fun b hb => by have := ge_c_r b hb; have := u10.size; omega)
    have HD_w0_c_r := Lib.hid (show ∀ b ∈ fp_w0, b ∉ fp_c_r from fun b hb hm => by have := lt_w0 b hb; have := ge_c_r b hm; omega)
    have HD_g0_c_r := Lib.hid (show ∀ b ∈ fp_g0, b ∉ fp_c_r from fun b hb hm => by have := lt_g0 b hb; have := ge_c_r b hm; omega)
    clear u10 r10_w0 o10_w0 r10_g0 o10_g0 uu11 ge_c_r lt_w0 lt_g0
    have S2 := clos_i n r v_c_r w11 b_n fp_c_r r11_c_r 
    rw [HG.out] at S2
    go_wp2_with fail
    refine S2.mono ?_
    clear S2
    rintro e w12 ⟨⟨v_h0, rfl, ⟨fp_h0, r12_h0, o12_h0, ge_h0⟩⟩, uu12⟩
    have lt_w0 := R_N2k.lt r11_w0
    have lt_g0 := R_N2k.lt r11_g0
    have lt_c_r := R_N2k.lt r11_c_r
    have u12 : Upd [] w w12 := u11.trans (uu12)
    have r12_w0 := R_N2k.upd r11_w0 (uu12) (by simp)
    have o12_w0 := o11_w0.upd (uu12) (by simp)
    have r12_g0 := R_N2k.upd r11_g0 (uu12) (by simp)
    have o12_g0 := o11_g0.upd (uu12) (by simp)
    have r12_c_r := R_N2k.upd r11_c_r (uu12) (by simp)
    have o12_c_r := o11_c_r.upd (uu12) (by simp)
    have HL_h0 := Lib.hid (show ∀ b ∈ fp_h0, w.heap.size ≤ b from fun b hb => by have := ge_h0 b hb; have := u11.size; omega)
    have HD_w0_h0 := Lib.hid (show ∀ b ∈ fp_w0, b ∉ fp_h0 from fun b hb hm => by have := lt_w0 b hb; have := ge_h0 b hm; omega)
    have HD_g0_h0 := Lib.hid (show ∀ b ∈ fp_g0, b ∉ fp_h0 from fun b hb hm => by have := lt_g0 b hb; have := ge_h0 b hm; omega)
    have HD_c_r_h0 := Lib.hid (show ∀ b ∈ fp_c_r, b ∉ fp_h0 from fun b hb hm => by have := lt_c_r b hb; have := ge_h0 b hm; omega)
    have lt_h0 := R_N2k.lt r12_h0
    clear u11 r11_w0 o11_w0 r11_g0 o11_g0 r11_c_r o11_c_r ge_h0 uu12 lt_w0 lt_g0 lt_c_r lt_h0
    clear r12_c_r o12_c_r
    go_wp2_with fail
    refine (eq_N2 v_h0 v_w0 _ _ _ fp_h0 fp_w0 r12_h0 r12_w0).mono ?_
    rintro e w13 ⟨rfl, d13, e13⟩
    have uu13 : Upd [] w12 w13 := by rw [e13]; exact (Upd.refl _ _).drewN _
    clear e13
    rw [beq_refl_true]
    have u13 : Upd [] w w13 := u12.trans (uu13)
    have r13_w0 := R_N2k.upd r12_w0 (uu13) (by simp)
    have o13_w0 := o12_w0.upd (uu13) (by simp)
    have r13_g0 := R_N2k.upd r12_g0 (uu13) (by simp)
    have o13_g0 := o12_g0.upd (uu13) (by simp)
    have r13_h0 := R_N2k.upd r12_h0 (uu13) (by simp)
    have o13_h0 := o12_h0.upd (uu13) (by simp)
    clear u12 r12_w0 o12_w0 r12_g0 o12_g0 r12_h0 o12_h0 uu13
    go_wp2_with fail
    refine (held_N2 v_g0 G.1 _ _ fp_g0 (by omega) (by omega) r13_g0).mono ?_
    rintro e w' ⟨rfl, rfl⟩
    go_wp2_with fail
    go_ret
    exact ⟨rfl, u13⟩

end Go.Proofs.Ytkcafdobiloeiaa
