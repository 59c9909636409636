/-
  Texts joined in one file: LawCanLeave, LabZ.
-/
import Derived.Test.YtlondofadjcooaaGreatDoorZL3
import Derived.Test.YtlondofadjcooaaGreatDoorZL5
import Derived.Lib.LaidTab
import Derived.Stop.LaidErr
import Derived.HandedShaped
import Derived.Handed
import Derived.Shelf.Vars
/-
  The law FnExactCanLeave: the call returns true for every input, and writes nothing that was there.
-/
namespace Go.Proofs.YtlondofadjcooaaGreatDoor
open Go.RowKit

set_option maxRecDepth 20000 in
set_option maxHeartbeats 8000000 in
theorem lawCanLeave (v1 v2 : Value) (A B : Sys) (w : World) (fa fb : List Nat) (hA : R_L1 fa w [v1] A) (hB : R_L1 fb w [v2] B) (hSA : strsOk A.labs) (hSB : strsOk B.labs) (hE : Env w) :
    Calls Tryz.prog 4 #[v1, v2] w fun e w' => e = .returned (.bool true) ∧ Upd [] w w' := by
  obtain ⟨a1, a2, f1, f2, hv, r1, r2, rfl⟩ := hA
  cases hv
  obtain ⟨b1, b2, f3, f4, hv, r3, r4, rfl⟩ := hB
  cases hv
  have HRA := Lib.hid (fun W (hu : Upd [] w W) => show R_L1 (f1 ++ f2) W [.agg #[ei A.st, ei A.ini, a1, a2]] A from ⟨a1, a2, f1, f2, rfl, RSk.upd r1 hu (by simp), R_E1k.upd r2 hu (by simp), rfl⟩)
  have HRB := Lib.hid (fun W (hu : Upd [] w W) => show R_L1 (f3 ++ f4) W [.agg #[ei B.st, ei B.ini, b1, b2]] B from ⟨b1, b2, f3, f4, rfl, RSk.upd r3 hu (by simp), R_E1k.upd r4 hu (by simp), rfl⟩)
  have HE := Lib.hid hE
  obtain ⟨BA, hBA⟩ : ∃ B, B = w.heap.size := ⟨_, rfl⟩
  obtain ⟨wA, hwA⟩ : ∃ wA, wA = (w.alloc (.cells #[ei A.st, ei A.ini, a1, a2] 25)).alloc (.cells #[ei B.st, ei B.ini, b1, b2] 25) := ⟨_, rfl⟩
  have uA : Upd [] w wA := by rw [hwA]; exact ((Upd.refl _ _).alloc _).alloc _
  have UA := Lib.hid uA
  have qA : RowAt wA BA 25 [ei A.st, ei A.ini, a1, a2] := by rw [hwA, hBA]; exact (RowAt.new _ _ _).upd ((Upd.refl [] _).alloc _) (by simp)
  have qC : RowAt wA (BA + 1) 25 [ei B.st, ei B.ini, b1, b2] := by
    have h := RowAt.new (w.alloc (.cells #[ei A.st, ei A.ini, a1, a2] 25)) 25 [ei B.st, ei B.ini, b1, b2]
    rw [hwA, hBA]; simpa using h
  have HQA := Lib.hid (fun W (hu : Upd [] wA W) => qA.upd hu (by simp))
  have HQB := Lib.hid (fun W (hu : Upd [] wA W) => qC.upd hu (by simp))
  have S1 := Lib.hid (sz_L1 _ A 1048576 wA _ (by omega) (by omega) (HRA.out wA uA) hSA)
  have HSB := Lib.hid hSB
  clear hSA hSB uA qA qC r1 r2 r3 r4 hE
  go_enter Tryz.func4, Tryz.ntmps4
  go_upto_region 1 with (fail)
  rw [← hwA, ← hBA]
  have HBA := Lib.hid hBA
  clear hwA hBA
  have ud0 : Upd [] wA wA := Upd.refl _ _
  have z_A_0 := (HQA.out _ ud0).cell 0 _ rfl
  have z_A_1 := (HQA.out _ ud0).cell 1 _ rfl
  have z_A_2 := (HQA.out _ ud0).cell 2 _ rfl
  have z_A_3 := (HQA.out _ ud0).cell 3 _ rfl
  go_wp2_with fail
  refine S1.out.mono ?_
  rintro e w1 ⟨⟨r, rfl, hr⟩, uu⟩
  clear S1 z_A_0 z_A_1 z_A_2 z_A_3
  have ud1 := ud0.trans uu
  clear ud0 uu
  rcases hr with rfl | ⟨hr0, hr1⟩
  · have HU := Lib.hid (UA.out.trans ud1)
    go_wp2_with fail
    go_ret
    exact ⟨rfl, HU.out⟩
  · have hnA := szF_L1_nonneg A
    have z_B_0 := (HQB.out _ ud1).cell 0 _ rfl
    have z_B_1 := (HQB.out _ ud1).cell 1 _ rfl
    have z_B_2 := (HQB.out _ ud1).cell 2 _ rfl
    have z_B_3 := (HQB.out _ ud1).cell 3 _ rfl
    have S2 := sz_L1 _ B r w1 _ (by omega) (by omega) (HRB.out w1 (UA.out.trans ud1)) HSB.out
    go_wp2_with fail
    refine S2.mono ?_
    clear S2 z_B_0 z_B_1 z_B_2 z_B_3
    rintro e w2 ⟨⟨rB, rfl, hs⟩, uu⟩
    have ud2 := ud1.trans uu
    clear ud1 uu
    rcases hs with rfl | ⟨hs0, hs1⟩
    · have HU := Lib.hid (UA.out.trans ud2)
      go_wp2_with fail
      go_ret
      exact ⟨rfl, HU.out⟩
    · have hnB := szF_L1_nonneg B
      have hszA : szF_L1 A ≤ 1048576 := by omega
      have hszB : szF_L1 B ≤ 1048576 := by omega
      have HBA2 := Lib.hid (show ∀ p ∈ A.labs, p.length ≤ 2000000 by
        intro p hp
        have h1 := totS_mem A.labs p hp
        have h2 := szF_E1_nonneg A.eds
        unfold szF_L1 szF_S1 at hszA
        omega)
      have HBB2 := Lib.hid (show ∀ p ∈ B.labs, p.length ≤ 2000000 by
        intro p hp
        have h1 := totS_mem B.labs p hp
        have h2 := szF_E1_nonneg B.eds
        unfold szF_L1 szF_S1 at hszB
        omega)
      have tnA := mkF_L1_nonneg A
      have tnB := mkF_L1_nonneg B
      have hmA := mkF_L1_le A
      have hmB := mkF_L1_le B
      have HSZA := Lib.hid hszA
      have HSZB := Lib.hid hszB
      have hMk : 1 + mkF_N2 (leaveF A B).1 ≤ 100000000 := leave_b A B
      have tn_y := mkF_N2_nonneg (leaveF A B).1
      obtain ⟨⟨y, cc⟩, hG⟩ : ∃ G, leaveF A B = G := ⟨_, rfl⟩
      rw [hG] at hMk tn_y
      simp only at hMk tn_y
      have hMk : 1 + mkF_N2 y ≤ 4611686018427387904 := by omega
      have HG := Lib.hid hG
      clear hG
      have hcc : ((cc : Int) != (cc : Int)) = false := by simp
      clear hr0 hr1 hs1 hnA hnB HSB
      have z_A_0 := (HQA.out _ ud2).cell 0 _ rfl
      have z_A_1 := (HQA.out _ ud2).cell 1 _ rfl
      have z_A_2 := (HQA.out _ ud2).cell 2 _ rfl
      have z_A_3 := (HQA.out _ ud2).cell 3 _ rfl
      have z_B_0 := (HQB.out _ ud2).cell 0 _ rfl
      have z_B_1 := (HQB.out _ ud2).cell 1 _ rfl
      have z_B_2 := (HQB.out _ ud2).cell 2 _ rfl
      have z_B_3 := (HQB.out _ ud2).cell 3 _ rfl
      have TA := Lib.hid (fun W (hu : Upd [] w2 W) => to_Lts _ A W _ HSZA.out (HRA.out W (UA.out.trans (ud2.trans hu))))
      have TB := Lib.hid (fun W (hu : Upd [] w2 W) => to_Lts _ B W _ HSZB.out (HRB.out W (UA.out.trans (ud2.trans hu))))
      have CS := Lib.hid (fun (p1 p2 q1 q2 : Value) W (g1 g2 g3 g4 : List Nat) h1 h2 h3 h4 (hu : Upd [] w2 W) => show Calls Tryz.prog 15 #[.agg #[ei A.st, ei A.ini, p1, p2], .agg #[ei B.st, ei B.ini, q1, q2]] W (GaveN2 W (y, cc)) from HG.out ▸ canLeaveS A B p1 p2 q1 q2 W g1 g2 g3 g4 h1 h2 h3 h4 HBA2.out HBB2.out (HE.out.upd (UA.out.trans (ud2.trans hu))))
      have HKEEP := Lib.hid ud2
      clear ud2
      go_wp2_with fail
      go_region_held3 (fun w' => w'.cell? ⟨BA, 0, none⟩ = some (ei A.st) ∧ w'.cell? ⟨BA, 1, none⟩ = some (ei A.ini) ∧ w'.cell? ⟨BA, 2, none⟩ = some (a1) ∧ w'.cell? ⟨BA, 3, none⟩ = some (a2) ∧ w'.cell? ⟨(BA + 1), 0, none⟩ = some (ei B.st) ∧ w'.cell? ⟨(BA + 1), 1, none⟩ = some (ei B.ini) ∧ w'.cell? ⟨(BA + 1), 2, none⟩ = some (b1) ∧ w'.cell? ⟨(BA + 1), 3, none⟩ = some (b2)) (go_keep)
        (first
          | ((go_at_call 7); (with_reducible refine (TA.out _ ((Upd.refl [] _).drew)).mono ?_); rintro e w4' ⟨⟨v4, rfl, gp4, ⟨p1, p2, g1, g2, hv4, s1, s2, rfl⟩, og4, gg4⟩, hu4⟩; cases hv4; have z_A_0' := hu4.keep z_A_0; have z_A_1' := hu4.keep z_A_1; have z_A_2' := hu4.keep z_A_2; have z_A_3' := hu4.keep z_A_3; have z_B_0' := hu4.keep z_B_0; have z_B_1' := hu4.keep z_B_1; have z_B_2' := hu4.keep z_B_2; have z_B_3' := hu4.keep z_B_3; clear og4 gg4)
          | ((go_at_call 7); (with_reducible refine (TB.out _ (((Upd.refl [] _).drew).trans hu4)).mono ?_); rintro e w5' ⟨⟨v5, rfl, gp5, ⟨q1, q2, g3, g4, hv5, s3, s4, rfl⟩, og5, gg5⟩, hu5⟩; cases hv5; have z_A_0'' := hu5.keep z_A_0'; have z_A_1'' := hu5.keep z_A_1'; have z_A_2'' := hu5.keep z_A_2'; have z_A_3'' := hu5.keep z_A_3'; have z_B_0'' := hu5.keep z_B_0'; have z_B_1'' := hu5.keep z_B_1'; have z_B_2'' := hu5.keep z_B_2'; have z_B_3'' := hu5.keep z_B_3'; clear og5 gg5)
          | ((go_at_call 15); (with_reducible refine (CS.out _ _ _ _ _ g1 g2 g3 g4 (RSk.upd s1 hu5 (by simp)) (R_E1k.upd s2 hu5 (by simp)) s3 s4 ((((Upd.refl [] _).drew).trans hu4).trans hu5)).mono ?_); rintro e w3 ⟨⟨v_t, rfl, hn⟩, hu7⟩; have kz_A_0 := hu7.keep z_A_0''; have kz_A_1 := hu7.keep z_A_1''; have kz_A_2 := hu7.keep z_A_2''; have kz_A_3 := hu7.keep z_A_3''; have kz_B_0 := hu7.keep z_B_0''; have kz_B_1 := hu7.keep z_B_1''; have kz_B_2 := hu7.keep z_B_2''; have kz_B_3 := hu7.keep z_B_3''))
      have uu : Upd [] w2 w3 := ((((Upd.refl [] w2).drew).trans hu4).trans hu5).trans hu7
      have hsz5 : w2.heap.size ≤ w5'.heap.size := ((((Upd.refl [] w2).drew).trans hu4).trans hu5).size
      clear TA TB CS hu4 hu5 hu7 s1 s2 s3 s4 z_A_0 z_A_1 z_A_2 z_A_3 z_B_0 z_B_1 z_B_2 z_B_3 z_A_0' z_A_1' z_A_2' z_A_3' z_B_0' z_B_1' z_B_2' z_B_3' z_A_0'' z_A_1'' z_A_2'' z_A_3'' z_B_0'' z_B_1'' z_B_2'' z_B_3'' kz_A_0 kz_A_1 kz_A_2 kz_A_3 kz_B_0 kz_B_1 kz_B_2 kz_B_3
      have ud2 := HKEEP.out
      clear HKEEP
      obtain ⟨p1_w0, q1_w0, rfl⟩ := hn.formP
      obtain ⟨fp_w0, rr, oo, ge0_w0⟩ := hn
      have ge_w0 : ∀ b ∈ fp_w0, w2.heap.size ≤ b := fun b hb => by have := ge0_w0 b hb; omega
      have ud3 : Upd [] wA w3 := ud2.trans (uu)
      have HL_w0 := Lib.hid (show ∀ b ∈ fp_w0, wA.heap.size ≤ b from fun b hb => by have := ge_w0 b hb; have := ud2.size; omega)
      have r3_w0 := rr
      have o3_w0 := oo
      clear ud2 uu ge_w0 ge0_w0 hsz5 rr oo
      have z_A_0 := (HQA.out _ ud3).cell 0 _ rfl
      have z_A_1 := (HQA.out _ ud3).cell 1 _ rfl
      have z_A_2 := (HQA.out _ ud3).cell 2 _ rfl
      have z_A_3 := (HQA.out _ ud3).cell 3 _ rfl
      have S2 := to_Lts _ A w3 _ HSZA.out (HRA.out _ (UA.out.trans ud3))
      go_wp2_with fail
      refine S2.mono ?_
      clear S2 z_A_0 z_A_1 z_A_2 z_A_3
      rintro e w4 ⟨⟨v_t, rfl, hn⟩, uu⟩
      obtain ⟨p2_x_A, q2_x_A, p3_x_A, q3_x_A, rfl⟩ := lt_form hn
      obtain ⟨fp_x_A, rr, oo, ge_x_A⟩ := hn
      have lt_w0 := R_N2k.lt r3_w0
      have ud4 : Upd [] wA w4 := ud3.trans (uu)
      have r4_w0 := R_N2k.upd r3_w0 (uu) (by simp)
      have o4_w0 := o3_w0.upd (uu) (by simp)
      have HL_x_A := Lib.hid (show ∀ b ∈ fp_x_A, wA.heap.size ≤ b from fun b hb => by have := ge_x_A b hb; have := ud3.size; omega)
      have HD_w0_x_A := Lib.hid (show ∀ b ∈ fp_w0, b ∉ fp_x_A from fun b hb hm => by have := lt_w0 b hb; have := ge_x_A b hm; omega)
      have r4_x_A := rr
      have o4_x_A := oo
      clear ud3 r3_w0 o3_w0 uu ge_x_A rr oo lt_w0
      obtain ⟨w5, hwB⟩ : ∃ wB, wB = w4.alloc (.cells #[ei A.st, ei A.ini, .slice p2_x_A A.labs.length q2_x_A, .slice p3_x_A A.eds.length q3_x_A] 30) := ⟨_, rfl⟩
      have uB : Upd [] w4 w5 := by rw [hwB]; exact (Upd.refl _ _).alloc _
      obtain ⟨B_x_A, hB⟩ : ∃ B, B = w4.heap.size := ⟨_, rfl⟩
      have qq : RowAt w5 B_x_A 30 [ei A.st, ei A.ini, .slice p2_x_A A.labs.length q2_x_A, .slice p3_x_A A.eds.length q3_x_A] := by rw [hwB, hB]; exact RowAt.new _ _ _
      have lt_w0 := R_N2k.lt r4_w0
      have lt_x_A := R_L1k.lt r4_x_A
      have HN_x_A_w0 := Lib.hid (show B_x_A ∉ fp_w0 from fun hm => by have := lt_w0 _ hm; omega)
      have HN_x_A_x_A := Lib.hid (show B_x_A ∉ fp_x_A from fun hm => by have := lt_x_A _ hm; omega)
      have ud5 : Upd [] wA w5 := ud4.trans (uB)
      have r5_w0 := R_N2k.upd r4_w0 (uB) (by simp)
      have o5_w0 := o4_w0.upd (uB) (by simp)
      have r5_x_A := R_L1k.upd r4_x_A (uB) (by simp)
      have o5_x_A := o4_x_A.upd (uB) (by simp)
      have q5_x_A := qq
      clear ud4 r4_w0 o4_w0 r4_x_A o4_x_A lt_w0 lt_x_A uB qq
      go_upto_region 10 with (fail)
      rw [← hwB, ← hB]
      clear hwB hB
      have z_B_0 := (HQB.out _ ud5).cell 0 _ rfl
      have z_B_1 := (HQB.out _ ud5).cell 1 _ rfl
      have z_B_2 := (HQB.out _ ud5).cell 2 _ rfl
      have z_B_3 := (HQB.out _ ud5).cell 3 _ rfl
      have S2 := to_Lts _ B w5 _ HSZB.out (HRB.out _ (UA.out.trans ud5))
      go_wp2_with fail
      refine S2.mono ?_
      clear S2 z_B_0 z_B_1 z_B_2 z_B_3
      rintro e w6 ⟨⟨v_t, rfl, hn⟩, uu⟩
      obtain ⟨p2_x_B, q2_x_B, p3_x_B, q3_x_B, rfl⟩ := lt_form hn
      obtain ⟨fp_x_B, rr, oo, ge_x_B⟩ := hn
      have lt_w0 := R_N2k.lt r5_w0
      have lt_x_A := R_L1k.lt r5_x_A
      have bl_x_A := q5_x_A.lt
      have ud6 : Upd [] wA w6 := ud5.trans (uu)
      have r6_w0 := R_N2k.upd r5_w0 (uu) (by simp)
      have o6_w0 := o5_w0.upd (uu) (by simp)
      have r6_x_A := R_L1k.upd r5_x_A (uu) (by simp)
      have o6_x_A := o5_x_A.upd (uu) (by simp)
      have q6_x_A := q5_x_A.upd (uu) (by simp)
      have HL_x_B := Lib.hid (show ∀ b ∈ fp_x_B, wA.heap.size ≤ b from fun b hb => by have := ge_x_B b hb; have := ud5.size; omega)
      have HD_w0_x_B := Lib.hid (show ∀ b ∈ fp_w0, b ∉ fp_x_B from fun b hb hm => by have := lt_w0 b hb; have := ge_x_B b hm; omega)
      have HD_x_A_x_B := Lib.hid (show ∀ b ∈ fp_x_A, b ∉ fp_x_B from fun b hb hm => by have := lt_x_A b hb; have := ge_x_B b hm; omega)
      have HN_x_A_x_B := Lib.hid (show B_x_A ∉ fp_x_B from fun hm => by have := ge_x_B _ hm; omega)
      have r6_x_B := rr
      have o6_x_B := oo
      clear ud5 r5_w0 o5_w0 r5_x_A o5_x_A q5_x_A uu ge_x_B rr oo lt_w0 lt_x_A bl_x_A
      obtain ⟨w7, hwB⟩ : ∃ wB, wB = w6.alloc (.cells #[ei B.st, ei B.ini, .slice p2_x_B B.labs.length q2_x_B, .slice p3_x_B B.eds.length q3_x_B] 30) := ⟨_, rfl⟩
      have uB : Upd [] w6 w7 := by rw [hwB]; exact (Upd.refl _ _).alloc _
      obtain ⟨B_x_B, hB⟩ : ∃ B, B = w6.heap.size := ⟨_, rfl⟩
      have qq : RowAt w7 B_x_B 30 [ei B.st, ei B.ini, .slice p2_x_B B.labs.length q2_x_B, .slice p3_x_B B.eds.length q3_x_B] := by rw [hwB, hB]; exact RowAt.new _ _ _
      have lt_w0 := R_N2k.lt r6_w0
      have lt_x_A := R_L1k.lt r6_x_A
      have lt_x_B := R_L1k.lt r6_x_B
      have bl_x_A := q6_x_A.lt
      have HN_x_B_w0 := Lib.hid (show B_x_B ∉ fp_w0 from fun hm => by have := lt_w0 _ hm; omega)
      have HN_x_B_x_A := Lib.hid (show B_x_B ∉ fp_x_A from fun hm => by have := lt_x_A _ hm; omega)
      have HN_x_B_x_B := Lib.hid (show B_x_B ∉ fp_x_B from fun hm => by have := lt_x_B _ hm; omega)
      have ud7 : Upd [] wA w7 := ud6.trans (uB)
      have r7_w0 := R_N2k.upd r6_w0 (uB) (by simp)
      have o7_w0 := o6_w0.upd (uB) (by simp)
      have r7_x_A := R_L1k.upd r6_x_A (uB) (by simp)
      have o7_x_A := o6_x_A.upd (uB) (by simp)
      have r7_x_B := R_L1k.upd r6_x_B (uB) (by simp)
      have o7_x_B := o6_x_B.upd (uB) (by simp)
      have q7_x_A := q6_x_A.upd (uB) (by simp)
      have q7_x_B := qq
      clear ud6 r6_w0 o6_w0 r6_x_A o6_x_A r6_x_B o6_x_B q6_x_A lt_w0 lt_x_A lt_x_B bl_x_A uB qq
      go_upto_region 11 with (fail)
      rw [← hwB, ← hB]
      clear hwB hB
      have z_x_A_0 := q7_x_A.cell 0 _ rfl
      have z_x_A_1 := q7_x_A.cell 1 _ rfl
      have z_x_A_2 := q7_x_A.cell 2 _ rfl
      have z_x_A_3 := q7_x_A.cell 3 _ rfl
      have z_x_B_0 := q7_x_B.cell 0 _ rfl
      have z_x_B_1 := q7_x_B.cell 1 _ rfl
      have z_x_B_2 := q7_x_B.cell 2 _ rfl
      have z_x_B_3 := q7_x_B.cell 3 _ rfl
      obtain ⟨_, _, g1_A, g2_A, hv, s1_A, s2_A, -⟩ := (id r7_x_A)
      cases hv
      obtain ⟨_, _, g1_B, g2_B, hv, s1_B, s2_B, -⟩ := (id r7_x_B)
      cases hv
      have S2 : Calls Tryz.prog 16 _ w7 (GaveN2 w7 (y, cc)) := HG.out ▸ canLeaveI A B _ _ _ _ w7 _ _ _ _ s1_A s2_A s1_B s2_B HBA2.out HBB2.out (HE.out.upd (UA.out.trans ud7))
      clear s1_A s2_A s1_B s2_B
      go_wp2_with fail
      refine S2.mono ?_
      clear S2 z_x_A_0 z_x_A_1 z_x_A_2 z_x_A_3 z_x_B_0 z_x_B_1 z_x_B_2 z_x_B_3
      rintro e w8 ⟨⟨v_t, rfl, hn⟩, uu⟩
      obtain ⟨p1_g0, q1_g0, rfl⟩ := hn.formP
      obtain ⟨fp_g0, rr, oo, ge_g0⟩ := hn
      have lt_w0 := R_N2k.lt r7_w0
      have lt_x_A := R_L1k.lt r7_x_A
      have lt_x_B := R_L1k.lt r7_x_B
      have bl_x_A := q7_x_A.lt
      have bl_x_B := q7_x_B.lt
      have ud8 : Upd [] wA w8 := ud7.trans (uu)
      have r8_w0 := R_N2k.upd r7_w0 (uu) (by simp)
      have o8_w0 := o7_w0.upd (uu) (by simp)
      have r8_x_A := R_L1k.upd r7_x_A (uu) (by simp)
      have o8_x_A := o7_x_A.upd (uu) (by simp)
      have r8_x_B := R_L1k.upd r7_x_B (uu) (by simp)
      have o8_x_B := o7_x_B.upd (uu) (by simp)
      have q8_x_A := q7_x_A.upd (uu) (by simp)
      have q8_x_B := q7_x_B.upd (uu) (by simp)
      have HL_g0 := Lib.hid (show ∀ b ∈ fp_g0, wA.heap.size ≤ b from fun b hb => by have := ge_g0 b hb; have := ud7.size; omega)
      have HD_w0_g0 := Lib.hid (show ∀ b ∈ fp_w0, b ∉ fp_g0 from fun b hb hm => by have := lt_w0 b hb; have := ge_g0 b hm; omega)
      have HD_x_A_g0 := Lib.hid (show ∀ b ∈ fp_x_A, b ∉ fp_g0 from fun b hb hm => by have := lt_x_A b hb; have := ge_g0 b hm; omega)
      have HD_x_B_g0 := Lib.hid (show ∀ b ∈ fp_x_B, b ∉ fp_g0 from fun b hb hm => by have := lt_x_B b hb; have := ge_g0 b hm; omega)
      have HN_x_A_g0 := Lib.hid (show B_x_A ∉ fp_g0 from fun hm => by have := ge_g0 _ hm; omega)
      have HN_x_B_g0 := Lib.hid (show B_x_B ∉ fp_g0 from fun hm => by have := ge_g0 _ hm; omega)
      have r8_g0 := rr
      have o8_g0 := oo
      clear ud7 r7_w0 o7_w0 r7_x_A o7_x_A r7_x_B o7_x_B q7_x_A q7_x_B uu ge_g0 rr oo lt_w0 lt_x_A lt_x_B bl_x_A bl_x_B
      have S2 := eq_N2 (.slice p1_g0 y.length q1_g0) (.slice p1_w0 y.length q1_w0) _ _ w8 _ _ r8_g0 r8_w0
      go_wp2_with fail
      refine S2.mono ?_
      clear S2
      rintro e w9 ⟨rfl, uu⟩
      rw [beq_refl_true]
      have ud9 : Upd [] wA w9 := ud8.trans (uu)
      have r9_w0 := R_N2k.upd r8_w0 (uu) (by simp)
      have o9_w0 := o8_w0.upd (uu) (by simp)
      have r9_x_A := R_L1k.upd r8_x_A (uu) (by simp)
      have o9_x_A := o8_x_A.upd (uu) (by simp)
      have r9_x_B := R_L1k.upd r8_x_B (uu) (by simp)
      have o9_x_B := o8_x_B.upd (uu) (by simp)
      have r9_g0 := R_N2k.upd r8_g0 (uu) (by simp)
      have o9_g0 := o8_g0.upd (uu) (by simp)
      have q9_x_A := q8_x_A.upd (uu) (by simp)
      have q9_x_B := q8_x_B.upd (uu) (by simp)
      clear ud8 r8_w0 o8_w0 r8_x_A o8_x_A r8_x_B o8_x_B r8_g0 o8_g0 q8_x_A q8_x_B uu
      have z_x_A_0 := q9_x_A.cell 0 _ rfl
      have z_x_A_1 := q9_x_A.cell 1 _ rfl
      have z_x_A_2 := q9_x_A.cell 2 _ rfl
      have z_x_A_3 := q9_x_A.cell 3 _ rfl
      have z_A_0 := (HQA.out _ ud9).cell 0 _ rfl
      have z_A_1 := (HQA.out _ ud9).cell 1 _ rfl
      have z_A_2 := (HQA.out _ ud9).cell 2 _ rfl
      have z_A_3 := (HQA.out _ ud9).cell 3 _ rfl
      have S6 := to_Lts _ A w9.drew _ HSZA.out (HRA.out _ (UA.out.trans ud9).drew)
      have S7 := Lib.hid (fun W v f (hu : Upd [] w9.drew W) (h : R_L1 f W [v] A) => eq_Lts (.agg #[ei A.st, ei A.ini, .slice p2_x_A A.labs.length q2_x_A, .slice p3_x_A A.eds.length q3_x_A]) v A W _ f (R_L1k.upd r9_x_A ((Upd.refl [] _).drew.trans hu) (by simp)) h)
      go_wp2_with fail
      go_region_held3 (fun w' => w'.cell? ⟨B_x_A, 0, none⟩ = some (ei A.st) ∧ w'.cell? ⟨B_x_A, 1, none⟩ = some (ei A.ini) ∧ w'.cell? ⟨B_x_A, 2, none⟩ = some (.slice p2_x_A A.labs.length q2_x_A) ∧ w'.cell? ⟨B_x_A, 3, none⟩ = some (.slice p3_x_A A.eds.length q3_x_A) ∧ w'.cell? ⟨BA, 0, none⟩ = some (ei A.st) ∧ w'.cell? ⟨BA, 1, none⟩ = some (ei A.ini) ∧ w'.cell? ⟨BA, 2, none⟩ = some (a1) ∧ w'.cell? ⟨BA, 3, none⟩ = some (a2)) (go_keep)
        (first
          | ((go_at_call 7); (refine S6.mono ?_); rintro e w6' ⟨⟨v_t, rfl, fp_t, rr6, -, -⟩, hu6⟩; have y_0 := hu6.keep z_x_A_0; have y_1 := hu6.keep z_x_A_1; have y_2 := hu6.keep z_x_A_2; have y_3 := hu6.keep z_x_A_3; have y_4 := hu6.keep z_A_0; have y_5 := hu6.keep z_A_1; have y_6 := hu6.keep z_A_2; have y_7 := hu6.keep z_A_3)
          | ((go_at_call 10); (refine (S7.out w6' _ fp_t hu6 rr6).mono ?_); rintro e w10 ⟨rfl, hu7⟩; have t_0 := hu7.keep y_0; have t_1 := hu7.keep y_1; have t_2 := hu7.keep y_2; have t_3 := hu7.keep y_3; have t_4 := hu7.keep y_4; have t_5 := hu7.keep y_5; have t_6 := hu7.keep y_6; have t_7 := hu7.keep y_7))
      have uu : Upd [] w9 w10 := ((Upd.refl [] w9).drew.trans hu6).trans hu7
      have ud10 : Upd [] wA w10 := ud9.trans (uu)
      have r10_w0 := R_N2k.upd r9_w0 (uu) (by simp)
      have o10_w0 := o9_w0.upd (uu) (by simp)
      have r10_x_A := R_L1k.upd r9_x_A (uu) (by simp)
      have o10_x_A := o9_x_A.upd (uu) (by simp)
      have r10_x_B := R_L1k.upd r9_x_B (uu) (by simp)
      have o10_x_B := o9_x_B.upd (uu) (by simp)
      have r10_g0 := R_N2k.upd r9_g0 (uu) (by simp)
      have o10_g0 := o9_g0.upd (uu) (by simp)
      have q10_x_A := q9_x_A.upd (uu) (by simp)
      have q10_x_B := q9_x_B.upd (uu) (by simp)
      clear ud9 r9_w0 o9_w0 r9_x_A o9_x_A r9_x_B o9_x_B r9_g0 o9_g0 q9_x_A q9_x_B uu S6 S7 hu6 hu7 rr6 z_x_A_0 z_x_A_1 z_x_A_2 z_x_A_3 z_A_0 z_A_1 z_A_2 z_A_3 y_0 y_1 y_2 y_3 y_4 y_5 y_6 y_7 t_0 t_1 t_2 t_3 t_4 t_5 t_6 t_7
      have z_x_B_0 := q10_x_B.cell 0 _ rfl
      have z_x_B_1 := q10_x_B.cell 1 _ rfl
      have z_x_B_2 := q10_x_B.cell 2 _ rfl
      have z_x_B_3 := q10_x_B.cell 3 _ rfl
      have z_B_0 := (HQB.out _ ud10).cell 0 _ rfl
      have z_B_1 := (HQB.out _ ud10).cell 1 _ rfl
      have z_B_2 := (HQB.out _ ud10).cell 2 _ rfl
      have z_B_3 := (HQB.out _ ud10).cell 3 _ rfl
      have S6 := to_Lts _ B w10.drew _ HSZB.out (HRB.out _ (UA.out.trans ud10).drew)
      have S7 := Lib.hid (fun W v f (hu : Upd [] w10.drew W) (h : R_L1 f W [v] B) => eq_Lts (.agg #[ei B.st, ei B.ini, .slice p2_x_B B.labs.length q2_x_B, .slice p3_x_B B.eds.length q3_x_B]) v B W _ f (R_L1k.upd r10_x_B ((Upd.refl [] _).drew.trans hu) (by simp)) h)
      go_wp2_with fail
      go_region_held3 (fun w' => w'.cell? ⟨B_x_B, 0, none⟩ = some (ei B.st) ∧ w'.cell? ⟨B_x_B, 1, none⟩ = some (ei B.ini) ∧ w'.cell? ⟨B_x_B, 2, none⟩ = some (.slice p2_x_B B.labs.length q2_x_B) ∧ w'.cell? ⟨B_x_B, 3, none⟩ = some (.slice p3_x_B B.eds.length q3_x_B) ∧ w'.cell? ⟨(BA + 1), 0, none⟩ = some (ei B.st) ∧ w'.cell? ⟨(BA + 1), 1, none⟩ = some (ei B.ini) ∧ w'.cell? ⟨(BA + 1), 2, none⟩ = some (b1) ∧ w'.cell? ⟨(BA + 1), 3, none⟩ = some (b2)) (go_keep)
        (first
          | ((go_at_call 7); (refine S6.mono ?_); rintro e w6' ⟨⟨v_t, rfl, fp_t, rr6, -, -⟩, hu6⟩; have y_0 := hu6.keep z_x_B_0; have y_1 := hu6.keep z_x_B_1; have y_2 := hu6.keep z_x_B_2; have y_3 := hu6.keep z_x_B_3; have y_4 := hu6.keep z_B_0; have y_5 := hu6.keep z_B_1; have y_6 := hu6.keep z_B_2; have y_7 := hu6.keep z_B_3)
          | ((go_at_call 10); (refine (S7.out w6' _ fp_t hu6 rr6).mono ?_); rintro e w11 ⟨rfl, hu7⟩; have t_0 := hu7.keep y_0; have t_1 := hu7.keep y_1; have t_2 := hu7.keep y_2; have t_3 := hu7.keep y_3; have t_4 := hu7.keep y_4; have t_5 := hu7.keep y_5; have t_6 := hu7.keep y_6; have t_7 := hu7.keep y_7))
      have uu : Upd [] w10 w11 := ((Upd.refl [] w10).drew.trans hu6).trans hu7
      have ud11 : Upd [] wA w11 := ud10.trans (uu)
      have r11_w0 := R_N2k.upd r10_w0 (uu) (by simp)
      have o11_w0 := o10_w0.upd (uu) (by simp)
      have r11_x_A := R_L1k.upd r10_x_A (uu) (by simp)
      have o11_x_A := o10_x_A.upd (uu) (by simp)
      have r11_x_B := R_L1k.upd r10_x_B (uu) (by simp)
      have o11_x_B := o10_x_B.upd (uu) (by simp)
      have r11_g0 := R_N2k.upd r10_g0 (uu) (by simp)
      have o11_g0 := o10_g0.upd (uu) (by simp)
      have q11_x_A := q10_x_A.upd (uu) (by simp)
      have q11_x_B := q10_x_B.upd (uu) (by simp)
      clear ud10 r10_w0 o10_w0 r10_x_A o10_x_A r10_x_B o10_x_B r10_g0 o10_g0 q10_x_A q10_x_B uu S6 S7 hu6 hu7 rr6 z_x_B_0 z_x_B_1 z_x_B_2 z_x_B_3 z_B_0 z_B_1 z_B_2 z_B_3 y_0 y_1 y_2 y_3 y_4 y_5 y_6 y_7 t_0 t_1 t_2 t_3 t_4 t_5 t_6 t_7
      have z_x_A_0 := q11_x_A.cell 0 _ rfl
      have z_x_A_1 := q11_x_A.cell 1 _ rfl
      have z_x_A_2 := q11_x_A.cell 2 _ rfl
      have z_x_A_3 := q11_x_A.cell 3 _ rfl
      go_wp2_with fail
      refine (mark_Lts (.agg #[ei A.st, ei A.ini, .slice p2_x_A A.labs.length q2_x_A, .slice p3_x_A A.eds.length q3_x_A]) A _ _ fp_x_A (by omega) (by omega) r11_x_A o11_x_A).mono ?_
      clear z_x_A_0 z_x_A_1 z_x_A_2 z_x_A_3
      rintro e w12 ⟨rfl, r12_x_A, o12_x_A, uu⟩
      have ud12 : Upd [] wA w12 := ud11.fresh (uu) (fun b hb => Or.inl (HL_x_A.out b hb))
      have r12_w0 := R_N2k.upd r11_w0 (uu) HD_w0_x_A.out
      have o12_w0 := o11_w0.upd (uu) HD_w0_x_A.out
      have r12_x_B := R_L1k.upd r11_x_B (uu) (fun b hb hm => HD_x_A_x_B.out b hm hb)
      have o12_x_B := o11_x_B.upd (uu) (fun b hb hm => HD_x_A_x_B.out b hm hb)
      have r12_g0 := R_N2k.upd r11_g0 (uu) (fun b hb hm => HD_x_A_g0.out b hm hb)
      have o12_g0 := o11_g0.upd (uu) (fun b hb hm => HD_x_A_g0.out b hm hb)
      have q12_x_A := q11_x_A.upd (uu) HN_x_A_x_A.out
      have q12_x_B := q11_x_B.upd (uu) HN_x_B_x_A.out
      clear ud11 r11_w0 o11_w0 r11_x_A o11_x_A r11_x_B o11_x_B r11_g0 o11_g0 q11_x_A q11_x_B r12_x_A o12_x_A q12_x_A uu
      have z_x_B_0 := q12_x_B.cell 0 _ rfl
      have z_x_B_1 := q12_x_B.cell 1 _ rfl
      have z_x_B_2 := q12_x_B.cell 2 _ rfl
      have z_x_B_3 := q12_x_B.cell 3 _ rfl
      go_wp2_with fail
      refine (mark_Lts (.agg #[ei B.st, ei B.ini, .slice p2_x_B B.labs.length q2_x_B, .slice p3_x_B B.eds.length q3_x_B]) B _ _ fp_x_B (by omega) (by omega) r12_x_B o12_x_B).mono ?_
      clear z_x_B_0 z_x_B_1 z_x_B_2 z_x_B_3
      rintro e w13 ⟨rfl, r13_x_B, o13_x_B, uu⟩
      have ud13 : Upd [] wA w13 := ud12.fresh (uu) (fun b hb => Or.inl (HL_x_B.out b hb))
      have r13_w0 := R_N2k.upd r12_w0 (uu) HD_w0_x_B.out
      have o13_w0 := o12_w0.upd (uu) HD_w0_x_B.out
      have r13_g0 := R_N2k.upd r12_g0 (uu) (fun b hb hm => HD_x_B_g0.out b hm hb)
      have o13_g0 := o12_g0.upd (uu) (fun b hb hm => HD_x_B_g0.out b hm hb)
      have q13_x_B := q12_x_B.upd (uu) HN_x_B_x_B.out
      clear ud12 r12_w0 o12_w0 r12_x_B o12_x_B r12_g0 o12_g0 q12_x_B r13_x_B o13_x_B q13_x_B uu
      have hk : 0 ≤ 1 + mkF_L1 A + mkF_L1 B := by omega
      have S2 := eq_N2 (.slice p1_g0 y.length q1_g0) (.slice p1_w0 y.length q1_w0) _ _ w13 _ _ r13_g0 r13_w0
      go_wp2_with fail
      refine S2.mono ?_
      clear S2
      rintro e w14 ⟨rfl, uu⟩
      rw [beq_refl_true]
      have ud14 : Upd [] wA w14 := ud13.trans (uu)
      have r14_w0 := R_N2k.upd r13_w0 (uu) (by simp)
      have o14_w0 := o13_w0.upd (uu) (by simp)
      have r14_g0 := R_N2k.upd r13_g0 (uu) (by simp)
      have o14_g0 := o13_g0.upd (uu) (by simp)
      clear ud13 r13_w0 o13_w0 r13_g0 o13_g0 uu
      go_wp2_with fail
      refine (mark_N2 (.slice p1_g0 y.length q1_g0) y _ _ fp_g0 (by omega) (by omega) r14_g0 o14_g0).mono ?_
      rintro e w15 ⟨rfl, r15_g0, o15_g0, uu⟩
      have ud15 : Upd [] wA w15 := ud14.fresh (uu) (fun b hb => Or.inl (HL_g0.out b hb))
      have r15_w0 := R_N2k.upd r14_w0 (uu) HD_w0_g0.out
      have o15_w0 := o14_w0.upd (uu) HD_w0_g0.out
      clear ud14 r14_w0 o14_w0 r14_g0 o14_g0 uu
      have hk0 : 0 ≤ 1 + mkF_N2 y := by omega
      have hne : ((1 + mkF_N2 y) != (1 + mkF_N2 y)) = false := by simp
      have S2 := held_N2 (.slice p1_g0 y.length q1_g0) y 1 w15 fp_g0 (by omega) hMk r15_g0
      go_wp2_with fail
      refine S2.mono ?_
      clear S2
      rintro e w16 ⟨rfl, e5⟩
      have uu : Upd [] w15 w16 := by rw [e5]; exact Upd.refl _ _
      clear e5
      have ud16 : Upd [] wA w16 := ud15.trans (uu)
      have r16_w0 := R_N2k.upd r15_w0 (uu) (by simp)
      have o16_w0 := o15_w0.upd (uu) (by simp)
      have r16_g0 := R_N2k.upd r15_g0 (uu) (by simp)
      have o16_g0 := o15_g0.upd (uu) (by simp)
      clear ud15 r15_w0 o15_w0 r15_g0 o15_g0 uu
      have z_A_0 := (HQA.out _ ud16).cell 0 _ rfl
      have z_A_1 := (HQA.out _ ud16).cell 1 _ rfl
      have z_A_2 := (HQA.out _ ud16).cell 2 _ rfl
      have z_A_3 := (HQA.out _ ud16).cell 3 _ rfl
      have z_B_0 := (HQB.out _ ud16).cell 0 _ rfl
      have z_B_1 := (HQB.out _ ud16).cell 1 _ rfl
      have z_B_2 := (HQB.out _ ud16).cell 2 _ rfl
      have z_B_3 := (HQB.out _ ud16).cell 3 _ rfl
      have TA := Lib.hid (fun W (hu : Upd [] w16 W) => to_Lts _ A W _ HSZA.out (HRA.out W (UA.out.trans (ud16.trans hu))))
      have TB := Lib.hid (fun W (hu : Upd [] w16 W) => to_Lts _ B W _ HSZB.out (HRB.out W (UA.out.trans (ud16.trans hu))))
      have CS := Lib.hid (fun (p1 p2 q1 q2 : Value) W (g1 g2 g3 g4 : List Nat) h1 h2 h3 h4 (hu : Upd [] w16 W) => show Calls Tryz.prog 16 #[.agg #[ei A.st, ei A.ini, p1, p2], .agg #[ei B.st, ei B.ini, q1, q2]] W (GaveN2 W (y, cc)) from HG.out ▸ canLeaveI A B p1 p2 q1 q2 W g1 g2 g3 g4 h1 h2 h3 h4 HBA2.out HBB2.out (HE.out.upd (UA.out.trans (ud16.trans hu))))
      have HKEEP := Lib.hid (And.intro ud16 (And.intro r16_w0 ( And.intro o16_w0 ( And.intro r16_g0 (o16_g0)))))
      clear r16_w0 o16_w0 r16_g0 o16_g0
      clear ud16
      go_wp2_with fail
      go_region_held3 (fun w' => w'.cell? ⟨BA, 0, none⟩ = some (ei A.st) ∧ w'.cell? ⟨BA, 1, none⟩ = some (ei A.ini) ∧ w'.cell? ⟨BA, 2, none⟩ = some (a1) ∧ w'.cell? ⟨BA, 3, none⟩ = some (a2) ∧ w'.cell? ⟨(BA + 1), 0, none⟩ = some (ei B.st) ∧ w'.cell? ⟨(BA + 1), 1, none⟩ = some (ei B.ini) ∧ w'.cell? ⟨(BA + 1), 2, none⟩ = some (b1) ∧ w'.cell? ⟨(BA + 1), 3, none⟩ = some (b2)) (go_keep)
        (first
          | ((go_at_call 7); (with_reducible refine (TA.out _ ((Upd.refl [] _).drew)).mono ?_); rintro e w4' ⟨⟨v4, rfl, gp4, ⟨p1, p2, g1, g2, hv4, s1, s2, rfl⟩, og4, gg4⟩, hu4⟩; cases hv4; have z_A_0' := hu4.keep z_A_0; have z_A_1' := hu4.keep z_A_1; have z_A_2' := hu4.keep z_A_2; have z_A_3' := hu4.keep z_A_3; have z_B_0' := hu4.keep z_B_0; have z_B_1' := hu4.keep z_B_1; have z_B_2' := hu4.keep z_B_2; have z_B_3' := hu4.keep z_B_3; clear og4 gg4)
          | ((go_at_call 7); (with_reducible refine (TB.out _ (((Upd.refl [] _).drew).trans hu4)).mono ?_); rintro e w5' ⟨⟨v5, rfl, gp5, ⟨q1, q2, g3, g4, hv5, s3, s4, rfl⟩, og5, gg5⟩, hu5⟩; cases hv5; have z_A_0'' := hu5.keep z_A_0'; have z_A_1'' := hu5.keep z_A_1'; have z_A_2'' := hu5.keep z_A_2'; have z_A_3'' := hu5.keep z_A_3'; have z_B_0'' := hu5.keep z_B_0'; have z_B_1'' := hu5.keep z_B_1'; have z_B_2'' := hu5.keep z_B_2'; have z_B_3'' := hu5.keep z_B_3'; clear og5 gg5)
          | ((go_at_call 16); (with_reducible refine (CS.out _ _ _ _ _ g1 g2 g3 g4 (RSk.upd s1 hu5 (by simp)) (R_E1k.upd s2 hu5 (by simp)) s3 s4 ((((Upd.refl [] _).drew).trans hu4).trans hu5)).mono ?_); rintro e w17 ⟨⟨v_t, rfl, hn⟩, hu7⟩; have kz_A_0 := hu7.keep z_A_0''; have kz_A_1 := hu7.keep z_A_1''; have kz_A_2 := hu7.keep z_A_2''; have kz_A_3 := hu7.keep z_A_3''; have kz_B_0 := hu7.keep z_B_0''; have kz_B_1 := hu7.keep z_B_1''; have kz_B_2 := hu7.keep z_B_2''; have kz_B_3 := hu7.keep z_B_3''))
      have uu : Upd [] w16 w17 := ((((Upd.refl [] w16).drew).trans hu4).trans hu5).trans hu7
      have hsz5 : w16.heap.size ≤ w5'.heap.size := ((((Upd.refl [] w16).drew).trans hu4).trans hu5).size
      clear TA TB CS hu4 hu5 hu7 s1 s2 s3 s4 z_A_0 z_A_1 z_A_2 z_A_3 z_B_0 z_B_1 z_B_2 z_B_3 z_A_0' z_A_1' z_A_2' z_A_3' z_B_0' z_B_1' z_B_2' z_B_3' z_A_0'' z_A_1'' z_A_2'' z_A_3'' z_B_0'' z_B_1'' z_B_2'' z_B_3'' kz_A_0 kz_A_1 kz_A_2 kz_A_3 kz_B_0 kz_B_1 kz_B_2 kz_B_3
      obtain ⟨ud16, r16_w0, o16_w0, r16_g0, o16_g0⟩ := HKEEP.out
      clear HKEEP
      obtain ⟨p1_h0, q1_h0, rfl⟩ := hn.formP
      obtain ⟨fp_h0, rr, oo, ge0_h0⟩ := hn
      have ge_h0 : ∀ b ∈ fp_h0, w16.heap.size ≤ b := fun b hb => by have := ge0_h0 b hb; omega
      have lt_w0 := R_N2k.lt r16_w0
      have lt_g0 := R_N2k.lt r16_g0
      have ud17 : Upd [] wA w17 := ud16.trans (uu)
      have r17_w0 := R_N2k.upd r16_w0 (uu) (by simp)
      have o17_w0 := o16_w0.upd (uu) (by simp)
      have r17_g0 := R_N2k.upd r16_g0 (uu) (by simp)
      have o17_g0 := o16_g0.upd (uu) (by simp)
      have HL_h0 := Lib.hid (show ∀ b ∈ fp_h0, wA.heap.size ≤ b from fun b hb => by have := ge_h0 b hb; have := ud16.size; omega)
      have HD_w0_h0 := Lib.hid (show ∀ b ∈ fp_w0, b ∉ fp_h0 from fun b hb hm => by have := lt_w0 b hb; have := ge_h0 b hm; omega)
      have HD_g0_h0 := Lib.hid (show ∀ b ∈ fp_g0, b ∉ fp_h0 from fun b hb hm => by have := lt_g0 b hb; have := ge_h0 b hm; omega)
      have r17_h0 := rr
      have o17_h0 := oo
      clear ud16 r16_w0 o16_w0 r16_g0 o16_g0 uu ge_h0 ge0_h0 hsz5 rr oo lt_w0 lt_g0
      have S2 := eq_N2 (.slice p1_h0 y.length q1_h0) (.slice p1_w0 y.length q1_w0) _ _ w17 _ _ r17_h0 r17_w0
      go_wp2_with fail
      refine S2.mono ?_
      clear S2
      rintro e w18 ⟨rfl, uu⟩
      rw [beq_refl_true]
      have ud18 : Upd [] wA w18 := ud17.trans (uu)
      have r18_w0 := R_N2k.upd r17_w0 (uu) (by simp)
      have o18_w0 := o17_w0.upd (uu) (by simp)
      have r18_g0 := R_N2k.upd r17_g0 (uu) (by simp)
      have o18_g0 := o17_g0.upd (uu) (by simp)
      have r18_h0 := R_N2k.upd r17_h0 (uu) (by simp)
      have o18_h0 := o17_h0.upd (uu) (by simp)
      clear ud17 r17_w0 o17_w0 r17_g0 o17_g0 r17_h0 o17_h0 uu
      have S2 := held_N2 (.slice p1_g0 y.length q1_g0) y 1 w18 fp_g0 (by omega) hMk r18_g0
      go_wp2_with fail
      refine S2.mono ?_
      clear S2
      rintro e w19 ⟨rfl, e5⟩
      have uu : Upd [] w18 w19 := by rw [e5]; exact Upd.refl _ _
      clear e5
      have ud19 : Upd [] wA w19 := ud18.trans (uu)
      have r19_w0 := R_N2k.upd r18_w0 (uu) (by simp)
      have o19_w0 := o18_w0.upd (uu) (by simp)
      have r19_g0 := R_N2k.upd r18_g0 (uu) (by simp)
      have o19_g0 := o18_g0.upd (uu) (by simp)
      have r19_h0 := R_N2k.upd r18_h0 (uu) (by simp)
      have o19_h0 := o18_h0.upd (uu) (by simp)
      clear ud18 r18_w0 o18_w0 r18_g0 o18_g0 r18_h0 o18_h0 uu
      have HU := Lib.hid (UA.out.trans ud19)
      go_wp2_with fail
      go_ret
      exact ⟨rfl, HU.out⟩

end Go.Proofs.YtlondofadjcooaaGreatDoor

/-
  What the listed variables and the world's shape give the walks of labels.
-/
namespace Go.Proofs.YtlondofadjcooaaGreatDoor
open Go.RowKit Go.ChangeShapes

theorem errStar : "*" ++ "errors.errorString" = "*errors.errorString" := by decide
theorem errRow (u : TypeId) (h : Tryz.prog.typeName? 3 u = some "*errors.errorString") : u = 227 :=
  typeName_ptr_named (nm := "errors.errorString") (by rw [errStar]; kernel_rfl) (by kernel_rfl) (by decide) u (by rw [errStar]; exact h)

theorem env_of {W : World} {r1 r2 r3 : List (String × DataW Unit)} {d : DataW Unit} {x1 x2 : List UInt8} (hd : d = Lib.tabData .u64 Lib.pow10Tab)
    (h1 : laidMet Tryz.prog (("internal/strconv.uint64pow10", d) :: r1) W)
    (h2 : laidMet Tryz.prog (("strconv.ErrRange", .iface "*errors.errorString" (.ptr (.agg [.lit (.string x1)]))) :: r2) W)
    (h3 : laidMet Tryz.prog (("strconv.ErrSyntax", .iface "*errors.errorString" (.ptr (.agg [.lit (.string x2)]))) :: r3) W)
    (hs : W.ShapedOpen Tryz.prog) : Env W := by
  subst hd
  refine ⟨?_, ?_, ?_, ?_⟩
  · exact cell_of_shapedOpen_int (g := 0) (zero := #[.int .i64 0]) (t := 3) hs (of_decide_eq_true (by kernel_rfl)) (by kernel_rfl) rfl (by kernel_rfl) (by kernel_rfl) Tryz.underlying3
  · exact Lib.tabIs_of_head (g := 5) (t := 231) (e := 137) (n := 20) (by kernel_rfl) (by kernel_rfl) Tryz.underlying231 Tryz.underlying137 (by kernel_rfl) (by kernel_rfl) h1
  · obtain ⟨a, s, hv, -⟩ := laid_sentinel (g := 1) (ti := 162) (tp := 227) (te := 229) (ts := 9) h3 (by kernel_rfl) (by kernel_rfl) Tryz.underlying162 errRow Tryz.underlying227 Tryz.underlying229 rfl rfl Tryz.underlying9 (by kernel_rfl) (by kernel_rfl)
    exact ⟨_, _, hv⟩
  · obtain ⟨a, s, hv, -⟩ := laid_sentinel (g := 2) (ti := 162) (tp := 227) (te := 229) (ts := 9) h2 (by kernel_rfl) (by kernel_rfl) Tryz.underlying162 errRow Tryz.underlying227 Tryz.underlying229 rfl rfl Tryz.underlying9 (by kernel_rfl) (by kernel_rfl)
    exact ⟨_, _, hv⟩

/-- the wrap with a condition on the world, the world's shape kept. -/
theorem handed_and_shaped {H : Type} {enc : TypeId × Value → H} {a : Assume} {C : Checked} {os : Os} {f : FuncId} {fn : Func} {s : ChangeSpec} {conds : List PathCond} {apart fresh handsOn twice : Bool} {X : World → Array Value → Prop}
    (hX : ∀ (w w' : World) (args : Array Value), w.heap = w'.heap → X w args → X w' args)
    (own : ownKnob C.prog.godebug = none) (started : os.Started) (noInit : C.prog.inits.idxOf? f = none) (hfn : C.prog.funcs[f]? = some fn)
    (witness : ∃ (w : World) (tape : Tape) (i : Input), w.os = os ∧ (w.forCall tape i).Shaped C.prog ∧ i.vars = [] ∧ Input.okWide C.prog (w.forCall tape i) .any w.heap.size f i ∧
      ((s.pre enc C.prog fn conds apart (w.forCall tape i).memory i.args ∧ X (w.forCall tape i).memory i.args) ∧ sizedMet enc C.prog fn (OpenSpec.ofChange s) apart (w.forCall tape i).memory i.args) ∧ a.holds C.prog (lone (Frame.enter C.prog f i.args CallKind.normal) [] (w.forCall tape i)))
    (contract : ∀ (W : World) (base : Nat) (args : Array Value) (ds gs : List (DataW H)) (before : List MemPlace),
      (∀ (j : Nat) t v, fn.params[j]? = some t → args[j]? = some v → Value.okWide C.prog W .any base t v) →
      DataW.Whole enc C.prog fn.params.toList s.vars apart W args.toList ds gs before →
      conds.all (PathCond.test C.prog ⟨fn.params.toList, ds, s.plain.varTypes C.prog, gs⟩) = true → X W args →
      W.ShapedOpen C.prog →
      Calls C.prog f args W fun e W' => ∃ v, e = .returned v ∧ s.post enc C.prog fn apart fresh handsOn twice W args v W') :
    ReturnsInHanded a C os f .any (fun w args => (s.pre enc C.prog fn conds apart w args ∧ X w args) ∧ sizedMet enc C.prog fn (OpenSpec.ofChange s) apart w args) (s.post enc C.prog fn apart fresh handsOn twice) := by
  refine returnsInHanded_of_calls own started noInit witness ?_
  intro w tape i _ hsh _ hok hpre _
  obtain ⟨_, _, _, fn', hfn', _, _, _, _, hval⟩ := hok
  have e : fn' = fn := Option.some.inj (hfn'.symm.trans hfn)
  subst e
  obtain ⟨⟨⟨ds, gs, before, hw, hc⟩, hx⟩, hz⟩ := hpre
  have hw' := DataW.Whole.of_heap (w' := w.forCall tape i) (by rfl) hw
  refine (contract (w.forCall tape i) w.heap.size i.args ds gs before hval hw' hc (hX _ _ _ (by rfl) hx) hsh).mono fun e W' ⟨v, he, hp⟩ => ?_
  subst he
  exact ChangeSpec.post_blind hp

end Go.Proofs.YtlondofadjcooaaGreatDoor
