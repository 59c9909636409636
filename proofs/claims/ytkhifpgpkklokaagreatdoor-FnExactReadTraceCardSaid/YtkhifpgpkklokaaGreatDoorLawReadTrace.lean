/-
  The law FnExactReadTrace: the call returns true for every input, and writes nothing that was there.
-/
import Derived.Test.YtkhifpgpkklokaaGreatDoorTrJ
namespace Go.Proofs.YtkhifpgpkklokaaGreatDoor
open Go.RowKit

set_option maxHeartbeats 2000000 in
theorem lawReadTrace (s : List UInt8)  (w : World)  (bs_s : s.length ≤ 9223372036854775807) (hE : Env w) :
    Calls Tryz.prog 5 #[es s] w fun e w' => e = .returned (.bool true) ∧ Upd [] w w' := by
  have HE := Lib.hid hE
  by_cases lb_s : 1048576 < (s.length : Int)
  · go_enter Tryz.func5, Tryz.ntmps5
    go_wp2_with fail
    go_ret
    exact ⟨rfl, Upd.refl _ _⟩
  · have lx_s : s.length ≤ 1048576 := by omega
    have hT := rd_b s lx_s
    go_enter Tryz.func5, Tryz.ntmps5
    generalize hG : rdPair s = G at *
    have HG := Lib.hid hG
    clear hG
    have u0 : Upd [] w w := Upd.refl _ _
    have hc1 : (G.2 != G.2) = false := by simp
    have S2 := rdt_s s w lx_s 
    rw [HG.out] at S2
    go_wp2_with fail
    refine S2.mono ?_
    clear S2
    rintro e w1 ⟨⟨v_w0, rfl, ⟨fp_w0, r1_w0, o1_w0, ge_w0⟩⟩, uu1⟩
    have u1 : Upd [] w w1 := u0.trans (uu1)
    have HL_w0 := Lib.hid (show ∀ b ∈ fp_w0, w.heap.size ≤ b from fun b hb => by have := ge_w0 b hb; have := u0.size; omega)
    have lt_w0 := R_S1k.lt r1_w0
    clear u0 ge_w0 uu1 lt_w0
    have S2 := rdt_i s w1 lx_s (HE.out.upd u1) 
    rw [HG.out] at S2
    go_wp2_with fail
    refine S2.mono ?_
    clear S2
    rintro e w2 ⟨⟨v_g0, rfl, ⟨fp_g0, r2_g0, o2_g0, ge_g0⟩⟩, uu2⟩
    have lt_w0 := R_S1k.lt r1_w0
    have u2 : Upd [] w w2 := u1.trans (uu2)
    have r2_w0 := R_S1k.upd r1_w0 (uu2) (by simp)
    have o2_w0 := o1_w0.upd (uu2) (by simp)
    have HL_g0 := Lib.hid (show ∀ b ∈ fp_g0, w.heap.size ≤ b from fun b hb => by have := ge_g0 b hb; have := u1.size; omega)
    have HD_w0_g0 := Lib.hid (show ∀ b ∈ fp_w0, b ∉ fp_g0 from fun b hb hm => by have := lt_w0 b hb; have := ge_g0 b hm; omega)
    have lt_g0 := R_S1k.lt r2_g0
    clear u1 r1_w0 o1_w0 ge_g0 uu2 lt_w0 lt_g0
    go_wp2_with fail
    refine (eq_S1 v_g0 v_w0 _ _ _ fp_g0 fp_w0 r2_g0 r2_w0).mono ?_
    rintro e w3 ⟨rfl, uu3⟩
    rw [beq_refl_true]
    have u3 : Upd [] w w3 := u2.trans (uu3)
    have r3_w0 := R_S1k.upd r2_w0 (uu3) (by simp)
    have o3_w0 := o2_w0.upd (uu3) (by simp)
    have r3_g0 := R_S1k.upd r2_g0 (uu3) (by simp)
    have o3_g0 := o2_g0.upd (uu3) (by simp)
    clear u2 r2_w0 o2_w0 r2_g0 o2_g0 uu3
    have tg0 := mkF_S1_nonneg G.1
    go_wp2_with fail
    refine (mark_S1 v_g0 G.1 _ _ fp_g0 (by omega) (by omega) r3_g0 o3_g0).mono ?_
    rintro e w4 ⟨rfl, r4_g0, o4_g0, uu4⟩
    have u4 : Upd [] w w4 := u3.fresh (uu4) (fun b hb => Or.inl (HL_g0.out b hb))
    have r4_w0 := R_S1k.upd r3_w0 (uu4) HD_w0_g0.out
    have o4_w0 := o3_w0.upd (uu4) HD_w0_g0.out
    clear u3 r3_w0 o3_w0 r3_g0 o3_g0 uu4
    have hk0 : 0 ≤ 1 + mkF_S1 G.1 := by omega
    have hne : ((1 + mkF_S1 G.1) != (1 + mkF_S1 G.1)) = false := by simp
    go_wp2_with fail
    refine (held_S1 v_g0 G.1 _ _ fp_g0 (by omega) (by omega) r4_g0).mono ?_
    rintro e w5 ⟨rfl, uu5⟩
    have u5 : Upd [] w w5 := u4.trans (uu5)
    have r5_w0 := R_S1k.upd r4_w0 (uu5) (by simp)
    have o5_w0 := o4_w0.upd (uu5) (by simp)
    have r5_g0 := R_S1k.upd r4_g0 (uu5) (by simp)
    have o5_g0 := o4_g0.upd (uu5) (by simp)
    clear u4 r4_w0 o4_w0 r4_g0 o4_g0 uu5
    have S2 := rdt_i s w5 lx_s (HE.out.upd u5) 
    rw [HG.out] at S2
    go_wp2_with fail
    refine S2.mono ?_
    clear S2
    rintro e w6 ⟨⟨v_h0, rfl, ⟨fp_h0, r6_h0, o6_h0, ge_h0⟩⟩, uu6⟩
    have lt_w0 := R_S1k.lt r5_w0
    have lt_g0 := R_S1k.lt r5_g0
    have u6 : Upd [] w w6 := u5.trans (uu6)
    have r6_w0 := R_S1k.upd r5_w0 (uu6) (by simp)
    have o6_w0 := o5_w0.upd (uu6) (by simp)
    have r6_g0 := R_S1k.upd r5_g0 (uu6) (by simp)
    have o6_g0 := o5_g0.upd (uu6) (by simp)
    have HL_h0 := Lib.hid (show ∀ b ∈ fp_h0, w.heap.size ≤ b from fun b hb => by have := ge_h0 b hb; have := u5.size; omega)
    have HD_w0_h0 := Lib.hid (show ∀ b ∈ fp_w0, b ∉ fp_h0 from fun b hb hm => by have := lt_w0 b hb; have := ge_h0 b hm; omega)
    have HD_g0_h0 := Lib.hid (show ∀ b ∈ fp_g0, b ∉ fp_h0 from fun b hb hm => by have := lt_g0 b hb; have := ge_h0 b hm; omega)
    have lt_h0 := R_S1k.lt r6_h0
    clear u5 r5_w0 o5_w0 r5_g0 o5_g0 ge_h0 uu6 lt_w0 lt_g0 lt_h0
    go_wp2_with fail
    refine (eq_S1 v_h0 v_w0 _ _ _ fp_h0 fp_w0 r6_h0 r6_w0).mono ?_
    rintro e w7 ⟨rfl, uu7⟩
    rw [beq_refl_true]
    have u7 : Upd [] w w7 := u6.trans (uu7)
    have r7_w0 := R_S1k.upd r6_w0 (uu7) (by simp)
    have o7_w0 := o6_w0.upd (uu7) (by simp)
    have r7_g0 := R_S1k.upd r6_g0 (uu7) (by simp)
    have o7_g0 := o6_g0.upd (uu7) (by simp)
    have r7_h0 := R_S1k.upd r6_h0 (uu7) (by simp)
    have o7_h0 := o6_h0.upd (uu7) (by simp)
    clear u6 r6_w0 o6_w0 r6_g0 o6_g0 r6_h0 o6_h0 uu7
    go_wp2_with fail
    refine (held_S1 v_g0 G.1 _ _ fp_g0 (by omega) (by omega) r7_g0).mono ?_
    rintro e w8 ⟨rfl, uu8⟩
    have u8 : Upd [] w w8 := u7.trans (uu8)
    have r8_w0 := R_S1k.upd r7_w0 (uu8) (by simp)
    have o8_w0 := o7_w0.upd (uu8) (by simp)
    have r8_g0 := R_S1k.upd r7_g0 (uu8) (by simp)
    have o8_g0 := o7_g0.upd (uu8) (by simp)
    have r8_h0 := R_S1k.upd r7_h0 (uu8) (by simp)
    have o8_h0 := o7_h0.upd (uu8) (by simp)
    clear u7 r7_w0 o7_w0 r7_g0 o7_g0 r7_h0 o7_h0 uu8
    go_wp2_with fail
    go_ret
    exact ⟨rfl, u8⟩

end Go.Proofs.YtkhifpgpkklokaaGreatDoor
