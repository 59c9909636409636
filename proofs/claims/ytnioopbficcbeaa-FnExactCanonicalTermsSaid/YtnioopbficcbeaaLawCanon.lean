/-
  The law FnExactCanonicalTerms: the call returns true for every input, and writes nothing that was there.
-/
import Derived.Test.YtnioopbficcbeaaCanonS
namespace Go.Proofs.Ytnioopbficcbeaa
open Go.RowKit

set_option maxHeartbeats 2000000 in
theorem lawCanon (e : List Tm) (v_e : Value) (f_e : List Nat) (w : World)  (hR_e : R_T1 f_e w [v_e] e) :
    Calls Try.prog 4 #[v_e] w fun e w' => e = .returned (.bool true) ∧ Upd [] w w' := by
  have hT := canon_b e
  have tn_e := mkF_T1_nonneg e
  go_enter Try.func4, Try.ntmps4
  go_wp2_with fail
  refine (sz_T1 v_e e _ _ f_e (by omega) (by omega) hR_e).mono ?_
  rintro e w' ⟨⟨r_e, rfl, hr_e⟩, rfl⟩
  rcases hr_e with rfl | ⟨hp_e, hq_e⟩
  · go_wp2_with fail
    go_ret
    exact ⟨rfl, Upd.refl _ _⟩
  · have hz_e : szF_T1 e ≤ 1048576 := by have := szF_T1_nonneg e; omega
    have hx_e : r_e ≤ 1048576 := by have := szF_T1_nonneg e; omega
    have hm_e := mkF_T1_le e
    clear hq_e
    generalize hG : canonRes e = G at *
    have HG := Lib.hid hG
    clear hG
    have u0 : Upd [] w w := Upd.refl _ _
    have hc1 : (G.2 != G.2) = false := by simp
    go_wp2_with fail
    refine (to_T1 v_e e _ f_e hz_e (R_T1k.upd hR_e u0 (by simp))).mono ?_
    rintro e w1 ⟨⟨v_a_e, rfl, fp_a_e, r1_a_e, o1_a_e, ge_a_e⟩, uu1⟩
    have u1 : Upd [] w w1 := u0.trans (uu1)
    have HL_a_e := Lib.hid (show ∀ b ∈ fp_a_e, w.heap.size ≤ b from fun b hb => by have := ge_a_e b hb; have := u0.size; omega)
    clear u0 uu1 ge_a_e
    have S2 := canon_s e v_a_e w1 fp_a_e r1_a_e 
    rw [HG.out] at S2
    go_wp2_with fail
    refine S2.mono ?_
    clear S2
    rintro e w2 ⟨⟨v_w0, rfl, ⟨fp_w0, r2_w0, o2_w0, ge_w0⟩⟩, uu2⟩
    have lt_a_e := R_T1k.lt r1_a_e
    have u2 : Upd [] w w2 := u1.trans (uu2)
    have r2_a_e := R_T1k.upd r1_a_e (uu2) (by simp)
    have o2_a_e := o1_a_e.upd (uu2) (by simp)
    have HL_w0 := Lib.hid (show ∀ b ∈ fp_w0, w.heap.size ≤ b from fun b hb => by have := ge_w0 b hb; have := u1.size; omega)
    have HD_a_e_w0 := Lib.hid (show ∀ b ∈ fp_a_e, b ∉ fp_w0 from fun b hb hm => by have := lt_a_e b hb; have := ge_w0 b hm; omega)
    have lt_w0 := R_T1k.lt r2_w0
    clear u1 r1_a_e o1_a_e ge_w0 uu2 lt_a_e lt_w0
    clear r2_a_e o2_a_e
    go_wp2_with fail
    refine (to_T1 v_e e _ f_e hz_e (R_T1k.upd hR_e u2 (by simp))).mono ?_
    rintro e w3 ⟨⟨v_x_e, rfl, fp_x_e, r3_x_e, o3_x_e, ge_x_e⟩, uu3⟩
    have lt_w0 := R_T1k.lt r2_w0
    have u3 : Upd [] w w3 := u2.trans (uu3)
    have r3_w0 := R_T1k.upd r2_w0 (uu3) (by simp)
    have o3_w0 := o2_w0.upd (uu3) (by simp)
    have HL_x_e := Lib.hid (show ∀ b ∈ fp_x_e, w.heap.size ≤ b from fun b hb => by have := ge_x_e b hb; have := u2.size; omega)
    have HD_w0_x_e := Lib.hid (show ∀ b ∈ fp_w0, b ∉ fp_x_e from fun b hb hm => by have := lt_w0 b hb; have := ge_x_e b hm; omega)
    clear u2 r2_w0 o2_w0 uu3 ge_x_e lt_w0
    have S2 := canon_i e v_x_e w3 fp_x_e r3_x_e 
    rw [HG.out] at S2
    go_wp2_with fail
    refine S2.mono ?_
    clear S2
    rintro e w4 ⟨⟨v_g0, rfl, ⟨fp_g0, r4_g0, o4_g0, ge_g0⟩⟩, uu4⟩
    have lt_w0 := R_T1k.lt r3_w0
    have lt_x_e := R_T1k.lt r3_x_e
    have u4 : Upd [] w w4 := u3.trans (uu4)
    have r4_w0 := R_T1k.upd r3_w0 (uu4) (by simp)
    have o4_w0 := o3_w0.upd (uu4) (by simp)
    have r4_x_e := R_T1k.upd r3_x_e (uu4) (by simp)
    have o4_x_e := o3_x_e.upd (uu4) (by simp)
    have HL_g0 := Lib.hid (show ∀ b ∈ fp_g0, w.heap.size ≤ b from fun b hb => by have := ge_g0 b hb; have := u3.size; omega)
    have HD_w0_g0 := Lib.hid (show ∀ b ∈ fp_w0, b ∉ fp_g0 from fun b hb hm => by have := lt_w0 b hb; have := ge_g0 b hm; omega)
    have HD_x_e_g0 := Lib.hid (show ∀ b ∈ fp_x_e, b ∉ fp_g0 from fun b hb hm => by have := lt_x_e b hb; have := ge_g0 b hm; omega)
    have lt_g0 := R_T1k.lt r4_g0
    clear u3 r3_w0 o3_w0 r3_x_e o3_x_e ge_g0 uu4 lt_w0 lt_x_e lt_g0
    go_wp2_with fail
    refine (eq_T1 v_g0 v_w0 _ _ _ fp_g0 fp_w0 r4_g0 r4_w0).mono ?_
    rintro e w5 ⟨rfl, uu5⟩
    rw [beq_refl_true]
    have u5 : Upd [] w w5 := u4.trans (uu5)
    have r5_w0 := R_T1k.upd r4_w0 (uu5) (by simp)
    have o5_w0 := o4_w0.upd (uu5) (by simp)
    have r5_x_e := R_T1k.upd r4_x_e (uu5) (by simp)
    have o5_x_e := o4_x_e.upd (uu5) (by simp)
    have r5_g0 := R_T1k.upd r4_g0 (uu5) (by simp)
    have o5_g0 := o4_g0.upd (uu5) (by simp)
    clear u4 r4_w0 o4_w0 r4_x_e o4_x_e r4_g0 o4_g0 uu5
    go_wp2_with fail
    refine (to_T1 v_e e _ f_e hz_e (R_T1k.upd hR_e u5 (by simp))).mono ?_
    rintro e w6 ⟨⟨v_b_e, rfl, fp_b_e, r6_b_e, o6_b_e, ge_b_e⟩, uu6⟩
    have lt_w0 := R_T1k.lt r5_w0
    have lt_x_e := R_T1k.lt r5_x_e
    have lt_g0 := R_T1k.lt r5_g0
    have u6 : Upd [] w w6 := u5.trans (uu6)
    have r6_w0 := R_T1k.upd r5_w0 (uu6) (by simp)
    have o6_w0 := o5_w0.upd (uu6) (by simp)
    have r6_x_e := R_T1k.upd r5_x_e (uu6) (by simp)
    have o6_x_e := o5_x_e.upd (uu6) (by simp)
    have r6_g0 := R_T1k.upd r5_g0 (uu6) (by simp)
    have o6_g0 := o5_g0.upd (uu6) (by simp)
    have HL_b_e := Lib.hid (show ∀ b ∈ fp_b_e, w.heap.size ≤ b from fun b hb => by have := ge_b_e b hb; have := u5.size; omega)
    have HD_w0_b_e := Lib.hid (show ∀ b ∈ fp_w0, b ∉ fp_b_e from fun b hb hm => by have := lt_w0 b hb; have := ge_b_e b hm; omega)
    have HD_x_e_b_e := Lib.hid (show ∀ b ∈ fp_x_e, b ∉ fp_b_e from fun b hb hm => by have := lt_x_e b hb; have := ge_b_e b hm; omega)
    have HD_g0_b_e := Lib.hid (show ∀ b ∈ fp_g0, b ∉ fp_b_e from fun b hb hm => by have := lt_g0 b hb; have := ge_b_e b hm; omega)
    clear u5 r5_w0 o5_w0 r5_x_e o5_x_e r5_g0 o5_g0 uu6 ge_b_e lt_w0 lt_x_e lt_g0
    go_wp2_with fail
    refine (eq_T1 v_x_e v_b_e _ _ _ fp_x_e fp_b_e r6_x_e r6_b_e).mono ?_
    rintro e w7 ⟨rfl, uu7⟩
    rw [beq_refl_true]
    have u7 : Upd [] w w7 := u6.trans (uu7)
    have r7_w0 := R_T1k.upd r6_w0 (uu7) (by simp)
    have o7_w0 := o6_w0.upd (uu7) (by simp)
    have r7_x_e := R_T1k.upd r6_x_e (uu7) (by simp)
    have o7_x_e := o6_x_e.upd (uu7) (by simp)
    have r7_g0 := R_T1k.upd r6_g0 (uu7) (by simp)
    have o7_g0 := o6_g0.upd (uu7) (by simp)
    clear u6 r6_w0 o6_w0 r6_x_e o6_x_e r6_g0 o6_g0 r6_b_e o6_b_e uu7
    go_wp2_with fail
    refine (mark_T1 v_x_e e _ _ fp_x_e (by omega) (by omega) r7_x_e o7_x_e).mono ?_
    rintro e w8 ⟨rfl, r8_x_e, o8_x_e, uu8⟩
    have u8 : Upd [] w w8 := u7.fresh (uu8) (fun b hb => Or.inl (HL_x_e.out b hb))
    have r8_w0 := R_T1k.upd r7_w0 (uu8) HD_w0_x_e.out
    have o8_w0 := o7_w0.upd (uu8) HD_w0_x_e.out
    have r8_g0 := R_T1k.upd r7_g0 (uu8) (fun b hb hm => HD_x_e_g0.out b hm hb)
    have o8_g0 := o7_g0.upd (uu8) (fun b hb hm => HD_x_e_g0.out b hm hb)
    clear u7 r7_w0 o7_w0 r7_x_e o7_x_e r7_g0 o7_g0 r8_x_e o8_x_e uu8
    have hk : 0 ≤ 1 + mkF_T1 e := by omega
    go_wp2_with fail
    refine (eq_T1 v_g0 v_w0 _ _ _ fp_g0 fp_w0 r8_g0 r8_w0).mono ?_
    rintro e w9 ⟨rfl, uu9⟩
    rw [beq_refl_true]
    have u9 : Upd [] w w9 := u8.trans (uu9)
    have r9_w0 := R_T1k.upd r8_w0 (uu9) (by simp)
    have o9_w0 := o8_w0.upd (uu9) (by simp)
    have r9_g0 := R_T1k.upd r8_g0 (uu9) (by simp)
    have o9_g0 := o8_g0.upd (uu9) (by simp)
    clear u8 r8_w0 o8_w0 r8_g0 o8_g0 uu9
    have tg0 := mkF_T1_nonneg G.1
    go_wp2_with fail
    refine (mark_T1 v_g0 G.1 _ _ fp_g0 (by omega) (by omega) r9_g0 o9_g0).mono ?_
    rintro e w10 ⟨rfl, r10_g0, o10_g0, uu10⟩
    have u10 : Upd [] w w10 := u9.fresh (uu10) (fun b hb => Or.inl (HL_g0.out b hb))
    have r10_w0 := R_T1k.upd r9_w0 (uu10) HD_w0_g0.out
    have o10_w0 := o9_w0.upd (uu10) HD_w0_g0.out
    clear u9 r9_w0 o9_w0 r9_g0 o9_g0 uu10
    have hk0 : 0 ≤ 1 + mkF_T1 G.1 := by omega
    have hne : ((1 + mkF_T1 G.1) != (1 + mkF_T1 G.1)) = false := by simp
    go_wp2_with fail
    refine (held_T1 v_g0 G.1 _ _ fp_g0 (by omega) (by omega) r10_g0).mono ?_
    rintro e w' ⟨rfl, rfl⟩
    go_wp2_with fail
    refine (to_T1 v_e e _ f_e hz_e (R_T1k.upd hR_e u10 (by simp))).mono ?_
    rintro e w11 ⟨⟨v_c_e, rfl, fp_c_e, r11_c_e, o11_c_e, ge_c_e⟩, uu11⟩
    have lt_w0 := R_T1k.lt r10_w0
    have lt_g0 := R_T1k.lt r10_g0
    have u11 : Upd [] w w11 := u10.trans (uu11)
    have r11_w0 := R_T1k.upd r10_w0 (uu11) (by simp)
    have o11_w0 := o10_w0.upd (uu11) (by simp)
    have r11_g0 := R_T1k.upd r10_g0 (uu11) (by simp)
    have o11_g0 := o10_g0.upd (uu11) (by simp)
    have HL_c_e := Lib.hid (show ∀ b ∈ fp_c_e, w.heap.size ≤ b from fun b hb => by have := ge_c_e b hb; have := u10.size; omega)
    have HD_w0_c_e := Lib.hid (show ∀ b ∈ fp_w0, b ∉ fp_c_e from fun b hb hm => by have := lt_w0 b hb; have := ge_c_e b hm; omega)
    have HD_g0_c_e := Lib.hid (show ∀ b ∈ fp_g0, b ∉ fp_c_e from fun b hb hm => by have := lt_g0 b hb; have := ge_c_e b hm; omega)
    clear u10 r10_w0 o10_w0 r10_g0 o10_g0 uu11 ge_c_e lt_w0 lt_g0
    have S2 := canon_i e v_c_e w11 fp_c_e r11_c_e 
    rw [HG.out] at S2
    go_wp2_with fail
    refine S2.mono ?_
    clear S2
    rintro e w12 ⟨⟨v_h0, rfl, ⟨fp_h0, r12_h0, o12_h0, ge_h0⟩⟩, uu12⟩
    have lt_w0 := R_T1k.lt r11_w0
    have lt_g0 := R_T1k.lt r11_g0
    have lt_c_e := R_T1k.lt r11_c_e
    have u12 : Upd [] w w12 := u11.trans (uu12)
    have r12_w0 := R_T1k.upd r11_w0 (uu12) (by simp)
    have o12_w0 := o11_w0.upd (uu12) (by simp)
    have r12_g0 := R_T1k.upd r11_g0 (uu12) (by simp)
    have o12_g0 := o11_g0.upd (uu12) (by simp)
    have r12_c_e := R_T1k.upd r11_c_e (uu12) (by simp)
    have o12_c_e := o11_c_e.upd (uu12) (by simp)
    have HL_h0 := Lib.hid (show ∀ b ∈ fp_h0, w.heap.size ≤ b from fun b hb => by have := ge_h0 b hb; have := u11.size; omega)
    have HD_w0_h0 := Lib.hid (show ∀ b ∈ fp_w0, b ∉ fp_h0 from fun b hb hm => by have := lt_w0 b hb; have := ge_h0 b hm; omega)
    have HD_g0_h0 := Lib.hid (show ∀ b ∈ fp_g0, b ∉ fp_h0 from fun b hb hm => by have := lt_g0 b hb; have := ge_h0 b hm; omega)
    have HD_c_e_h0 := Lib.hid (show ∀ b ∈ fp_c_e, b ∉ fp_h0 from fun b hb hm => by have := lt_c_e b hb; have := ge_h0 b hm; omega)
    have lt_h0 := R_T1k.lt r12_h0
    clear u11 r11_w0 o11_w0 r11_g0 o11_g0 r11_c_e o11_c_e ge_h0 uu12 lt_w0 lt_g0 lt_c_e lt_h0
    clear r12_c_e o12_c_e
    go_wp2_with fail
    refine (eq_T1 v_h0 v_w0 _ _ _ fp_h0 fp_w0 r12_h0 r12_w0).mono ?_
    rintro e w13 ⟨rfl, uu13⟩
    rw [beq_refl_true]
    have u13 : Upd [] w w13 := u12.trans (uu13)
    have r13_w0 := R_T1k.upd r12_w0 (uu13) (by simp)
    have o13_w0 := o12_w0.upd (uu13) (by simp)
    have r13_g0 := R_T1k.upd r12_g0 (uu13) (by simp)
    have o13_g0 := o12_g0.upd (uu13) (by simp)
    have r13_h0 := R_T1k.upd r12_h0 (uu13) (by simp)
    have o13_h0 := o12_h0.upd (uu13) (by simp)
    clear u12 r12_w0 o12_w0 r12_g0 o12_g0 r12_h0 o12_h0 uu13
    go_wp2_with fail
    refine (held_T1 v_g0 G.1 _ _ fp_g0 (by omega) (by omega) r13_g0).mono ?_
    rintro e w' ⟨rfl, rfl⟩
    go_wp2_with fail
    go_ret
    exact ⟨rfl, u13⟩

end Go.Proofs.Ytnioopbficcbeaa
