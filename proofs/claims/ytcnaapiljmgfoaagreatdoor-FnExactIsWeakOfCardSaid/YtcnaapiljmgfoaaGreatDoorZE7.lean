/-
  Texts joined in one file: LawWeak, LabZ.
-/
import Derived.Test.YtcnaapiljmgfoaaGreatDoorZE1
import Derived.Test.YtcnaapiljmgfoaaGreatDoorZE3
import Derived.Test.YtcnaapiljmgfoaaGreatDoorZE5
import Derived.Test.YtcnaapiljmgfoaaGreatDoorZE6
import Derived.Lib.LaidTab
import Derived.Stop.LaidErr
import Derived.HandedShaped
import Derived.Handed
import Derived.Shelf.Vars
/-
  The law FnExactIsWeakOf: the call returns true for every input, and writes nothing that was there.
-/
namespace Go.Proofs.YtcnaapiljmgfoaaGreatDoor
open Go.RowKit Go.ChangeShapes

set_option maxRecDepth 20000 in
set_option maxHeartbeats 8000000 in
theorem lawWeak (v1 v2 v3 : Value) (A B : Sys) (R : List (List Int)) (w : World) (fa fb fr : List Nat) (hA : R_L1 fa w [v1] A) (hB : R_L1 fb w [v2] B) (hR : R_N2 fr w [v3] R) (hSA : strsOk A.labs) (hSB : strsOk B.labs) (hE : Env w) :
    Calls Tryz.prog 6 #[v1, v2, v3] w fun e w' => e = .returned (.bool true) ∧ Upd [] w w' := by
  obtain ⟨a1, a2, f1, f2, hv, r1, r2, rfl⟩ := hA
  cases hv
  obtain ⟨b1, b2, f3, f4, hv, r3, r4, rfl⟩ := hB
  cases hv
  obtain ⟨av, cap, rfl, -, -, -⟩ := slP_open hR
  have HRA := Lib.hid (fun W (hu : Upd [] w W) => show R_L1 (f1 ++ f2) W [.agg #[ei A.st, ei A.ini, a1, a2]] A from ⟨a1, a2, f1, f2, rfl, RSk.upd r1 hu (by simp), R_E1k.upd r2 hu (by simp), rfl⟩)
  have HRB := Lib.hid (fun W (hu : Upd [] w W) => show R_L1 (f3 ++ f4) W [.agg #[ei B.st, ei B.ini, b1, b2]] B from ⟨b1, b2, f3, f4, rfl, RSk.upd r3 hu (by simp), R_E1k.upd r4 hu (by simp), rfl⟩)
  have HRR := Lib.hid (fun W (hu : Upd [] w W) => R_N2k.upd hR hu (by simp))
  have HE := Lib.hid hE
  obtain ⟨wA, hwA⟩ : ∃ wA, wA = (w.alloc (.cells #[ei A.st, ei A.ini, a1, a2] 25)).alloc (.cells #[ei B.st, ei B.ini, b1, b2] 25) := ⟨_, rfl⟩
  have uA : Upd [] w wA := by rw [hwA]; exact ((Upd.refl _ _).alloc _).alloc _
  have HC := Lib.hid (fun W (hu : Upd [] wA W) => show (W.cell? ⟨w.heap.size, 0, none⟩ = some (ei A.st) ∧ W.cell? ⟨w.heap.size, 1, none⟩ = some (ei A.ini) ∧ W.cell? ⟨w.heap.size, 2, none⟩ = some a1 ∧ W.cell? ⟨w.heap.size, 3, none⟩ = some a2) ∧
      (W.cell? ⟨w.heap.size + 1, 0, none⟩ = some (ei B.st) ∧ W.cell? ⟨w.heap.size + 1, 1, none⟩ = some (ei B.ini) ∧ W.cell? ⟨w.heap.size + 1, 2, none⟩ = some b1 ∧ W.cell? ⟨w.heap.size + 1, 3, none⟩ = some b2) from by
    rw [hwA] at hu
    have u2 := ((Upd.refl [] (w.alloc (.cells #[ei A.st, ei A.ini, a1, a2] 25))).alloc (.cells #[ei B.st, ei B.ini, b1, b2] 25)).trans hu
    have hs : (w.alloc (.cells #[ei A.st, ei A.ini, a1, a2] 25)).heap.size = w.heap.size + 1 := by simp
    exact ⟨⟨u2.keep (cell_new w _ _ _ rfl 0 _ rfl), u2.keep (cell_new w _ _ _ rfl 1 _ rfl), u2.keep (cell_new w _ _ _ rfl 2 _ rfl), u2.keep (cell_new w _ _ _ rfl 3 _ rfl)⟩,
      ⟨hu.keep (cell_new _ _ _ _ hs 0 _ rfl), hu.keep (cell_new _ _ _ _ hs 1 _ rfl), hu.keep (cell_new _ _ _ _ hs 2 _ rfl), hu.keep (cell_new _ _ _ _ hs 3 _ rfl)⟩⟩)
  have S1 := Lib.hid (sz_L1 _ A 1048576 wA _ (by omega) (by omega) (HRA.out wA uA) hSA)
  have HSB := Lib.hid hSB
  have UA := Lib.hid uA
  clear r1 r2 r3 r4 hR hSA hSB hE uA
  obtain ⟨AA, hAA⟩ : ∃ AA, AA = w.heap.size := ⟨_, rfl⟩
  rw [← hAA] at HC
  go_enter Tryz.func6, Tryz.ntmps6
  go_wp2_with fail
  rw [← hwA, ← hAA]
  clear hwA hAA
  refine S1.out.mono ?_
  rintro e w1 ⟨⟨r, rfl, hr⟩, hu1⟩
  have HU1 := Lib.hid hu1
  rcases hr with rfl | ⟨hr0, hr1⟩
  · have HU := Lib.hid (UA.out.trans hu1)
    clear S1 hu1
    go_wp2_with fail
    go_ret
    exact ⟨rfl, HU.out⟩
  · have hn1 := szF_L1_nonneg A
    have S2 := Lib.hid (sz_L1 _ B r w1 _ (by omega) (by omega) (HRB.out w1 (UA.out.trans hu1)) HSB.out)
    obtain ⟨⟨x0, x1, x2, x3⟩, ⟨y0, y1, y2, y3⟩⟩ := HC.out w1 hu1
    clear S1 hu1
    go_wp2_with fail
    refine S2.out.mono ?_
    rintro e w2 ⟨⟨r', rfl, hr'⟩, hu2⟩
    have HU2 := Lib.hid (HU1.out.trans hu2)
    clear x0 x1 x2 x3 y0 y1 y2 y3 HU1
    rcases hr' with rfl | ⟨hr2, hr3⟩
    · have HU := Lib.hid (UA.out.trans HU2.out)
      clear S2 hu2
      go_wp2_with fail
      go_ret
      exact ⟨rfl, HU.out⟩
    · have hn2 := szF_L1_nonneg B
      have S3 := Lib.hid (sz_N2 _ R r' w2 _ (by omega) (by omega) (HRR.out w2 (UA.out.trans HU2.out)))
      clear S2 hu2
      go_wp2_with fail
      refine S3.out.mono ?_
      rintro e w3 ⟨⟨r'', rfl, hr''⟩, rfl⟩
      rcases hr'' with rfl | ⟨hr4, hr5⟩
      · clear S3
        go_wp2_with fail
        go_ret
        exact ⟨rfl, UA.out.trans HU2.out⟩
      · have hn3 := szF_N2_nonneg R
        have hszA : szF_L1 A ≤ 1048576 := by omega
        have hszB : szF_L1 B ≤ 1048576 := by omega
        have hszR : szF_N2 R ≤ 1048576 := by omega
        have hbA : ∀ p ∈ A.labs, p.length ≤ 2000000 := by
          intro p hp
          have h1 := totS_mem A.labs p hp
          have h2 := szF_E1_nonneg A.eds
          unfold szF_L1 szF_S1 at hszA
          omega
        have hbB : ∀ p ∈ B.labs, p.length ≤ 2000000 := by
          intro p hp
          have h1 := totS_mem B.labs p hp
          have h2 := szF_E1_nonneg B.eds
          unfold szF_L1 szF_S1 at hszB
          omega
        have hR9 : R.length ≤ 2000000 := by
          have h1 := tot_nonneg R
          unfold szF_N2 at hszR
          omega
        have TA := Lib.hid (fun W (hu : Upd [] wA W) => to_Lts _ A W _ hszA (HRA.out W (UA.out.trans hu)))
        have TB := Lib.hid (fun W (hu : Upd [] wA W) => to_Lts _ B W _ hszB (HRB.out W (UA.out.trans hu)))
        have TR := Lib.hid (fun W (hu : Upd [] wA W) => to_N2 _ R W _ hszR (HRR.out W (UA.out.trans hu)))
        have CS := Lib.hid (fun (p1 p2 q1 q2 v : Value) W (g1 g2 g3 g4 gr : List Nat) h1 h2 h3 h4 h5 => weS A B p1 p2 q1 q2 v R W g1 g2 g3 g4 gr h1 h2 h3 h4 h5 hbA hbB)
        have CI := Lib.hid (fun (p1 p2 q1 q2 v : Value) W (g1 g2 g3 g4 gr : List Nat) h1 h2 h3 h4 h5 (hu : Upd [] wA W) => weI2 A B p1 p2 q1 q2 v R W g1 g2 g3 g4 gr h1 h2 h3 h4 h5 hR9 hbA hbB (HE.out.upd (UA.out.trans hu)))
        obtain ⟨⟨x0, x1, x2, x3⟩, ⟨y0, y1, y2, y3⟩⟩ := HC.out w2 HU2.out
        clear S3 hr5 hr2 hr3 hr0 hr1 hn1 hn2 hn3 hszA hszB hszR hbA hbB hR9 HSB
        generalize weF A B R = Z at *
        have hzz : (Z != Z) = false := by simp
        go_wp2_with fail
        go_region_held3 (fun w' => w'.cell? ⟨AA, 0, none⟩ = some (ei A.st) ∧ w'.cell? ⟨AA, 1, none⟩ = some (ei A.ini) ∧ w'.cell? ⟨AA, 2, none⟩ = some a1 ∧ w'.cell? ⟨AA, 3, none⟩ = some a2 ∧ w'.cell? ⟨AA + 1, 0, none⟩ = some (ei B.st) ∧ w'.cell? ⟨AA + 1, 1, none⟩ = some (ei B.ini) ∧ w'.cell? ⟨AA + 1, 2, none⟩ = some b1 ∧ w'.cell? ⟨AA + 1, 3, none⟩ = some b2) (go_keep)
          (first
            | ((go_at_call 10); (with_reducible refine (TA.out _ (HU2.out.drew)).mono ?_); rintro e w4 ⟨⟨v4, rfl, gp4, ⟨p1, p2, g1, g2, hv4, s1, s2, rfl⟩, og4, gg4⟩, hu4⟩; cases hv4; have x0' := hu4.keep x0; have x1' := hu4.keep x1; have x2' := hu4.keep x2; have x3' := hu4.keep x3; have y0' := hu4.keep y0; have y1' := hu4.keep y1; have y2' := hu4.keep y2; have y3' := hu4.keep y3; clear og4 gg4)
            | ((go_at_call 10); (with_reducible refine (TB.out _ ((HU2.out.drew).trans hu4)).mono ?_); rintro e w5 ⟨⟨v5, rfl, gp5, ⟨q1, q2, g3, g4, hv5, s3, s4, rfl⟩, og5, gg5⟩, hu5⟩; cases hv5; have x0'' := hu5.keep x0'; have x1'' := hu5.keep x1'; have x2'' := hu5.keep x2'; have x3'' := hu5.keep x3'; have y0'' := hu5.keep y0'; have y1'' := hu5.keep y1'; have y2'' := hu5.keep y2'; have y3'' := hu5.keep y3'; clear og5 gg5)
            | ((go_at_call 11); (with_reducible refine (TR.out _ (((HU2.out.drew).trans hu4).trans hu5)).mono ?_); rintro e w6 ⟨⟨v6, rfl, gp6, s5, og6, gg6⟩, hu6⟩; have m0 := hu6.keep x0''; have m1 := hu6.keep x1''; have m2 := hu6.keep x2''; have m3 := hu6.keep x3''; have n0 := hu6.keep y0''; have n1 := hu6.keep y1''; have n2 := hu6.keep y2''; have n3 := hu6.keep y3''; clear og6 gg6)
            | ((go_at_call 22); (with_reducible refine (CS.out _ _ _ _ _ _ g1 g2 g3 g4 gp6 (RSk.upd s1 (hu5.trans hu6) (by simp)) (R_E1k.upd s2 (hu5.trans hu6) (by simp)) (RSk.upd s3 hu6 (by simp)) (R_E1k.upd s4 hu6 (by simp)) s5).mono ?_); rintro e w7 ⟨rfl, hu7⟩; have m0' := hu7.keep m0; have m1' := hu7.keep m1; have m2' := hu7.keep m2; have m3' := hu7.keep m3; have n0' := hu7.keep n0; have n1' := hu7.keep n1; have n2' := hu7.keep n2; have n3' := hu7.keep n3))
        have HU7 := Lib.hid ((((HU2.out.drew).trans hu4).trans hu5).trans (hu6.trans hu7))
        clear CS hu4 hu5 hu6 hu7 s1 s2 s3 s4 s5
        obtain ⟨⟨x0, x1, x2, x3⟩, ⟨y0, y1, y2, y3⟩⟩ := HC.out w7 HU7.out
        clear hr4
        generalize w7 = wz at *
        have T1 := Lib.hid (TA.out wz HU7.out)
        go_wp2_with fail
        refine T1.out.mono ?_
        rintro e w8 ⟨⟨v8, rfl, gp8, ⟨p1, p2, k1, k2, hv8, s1, s2, rfl⟩, og8, gg8⟩, hu8⟩
        cases hv8
        obtain ⟨p1a, p1c, rfl, -, -, -⟩ := slF1_open s1
        obtain ⟨p2a, p2c, rfl, -, -, -⟩ := slF3_open s2
        obtain ⟨wB, hwB⟩ : ∃ wB, wB = w8.alloc (.cells #[ei A.st, ei A.ini, (.slice p1a A.labs.length p1c), (.slice p2a A.eds.length p2c)] 32) := ⟨_, rfl⟩
        have uB : Upd [] w8 wB := by rw [hwB]; exact (Upd.refl _ _).alloc _
        have HUB := Lib.hid ((HU7.out.trans hu8).trans uB)
        have HCB := Lib.hid (fun W (hu : Upd [] wB W) => show W.cell? ⟨w8.heap.size, 0, none⟩ = some (ei A.st) ∧ W.cell? ⟨w8.heap.size, 1, none⟩ = some (ei A.ini) ∧ W.cell? ⟨w8.heap.size, 2, none⟩ = some (.slice p1a A.labs.length p1c) ∧ W.cell? ⟨w8.heap.size, 3, none⟩ = some (.slice p2a A.eds.length p2c) from by
          rw [hwB] at hu
          exact ⟨hu.keep (cell_new w8 _ _ _ rfl 0 _ rfl), hu.keep (cell_new w8 _ _ _ rfl 1 _ rfl), hu.keep (cell_new w8 _ _ _ rfl 2 _ rfl), hu.keep (cell_new w8 _ _ _ rfl 3 _ rfl)⟩)
        have HS1 := Lib.hid (fun W (hu : Upd [] wB W) => RSk.upd s1 (uB.trans hu) (by simp))
        have HS2 := Lib.hid (fun W (hu : Upd [] wB W) => R_E1k.upd s2 (uB.trans hu) (by simp))
        obtain ⟨⟨x0, x1, x2, x3⟩, ⟨y0, y1, y2, y3⟩⟩ := HC.out wB HUB.out
        have T2 := Lib.hid (TB.out wB HUB.out)
        obtain ⟨BX, hBX⟩ : ∃ BX, BX = w8.heap.size := ⟨_, rfl⟩
        rw [← hBX] at HCB
        clear T1 hu8 uB s1 s2 og8 gg8
        go_upto_region 13 with (fail)
        rw [← hwB, ← hBX]
        clear hwB hBX
        go_wp2_with fail
        refine T2.out.mono ?_
        rintro e w9 ⟨⟨v9, rfl, gp9, ⟨q1, q2, k3, k4, hv9, s3, s4, rfl⟩, og9, gg9⟩, hu9⟩
        cases hv9
        obtain ⟨q1a, q1c, rfl, -, -, -⟩ := slF1_open s3
        obtain ⟨q2a, q2c, rfl, -, -, -⟩ := slF3_open s4
        obtain ⟨wD, hwD⟩ : ∃ wD, wD = w9.alloc (.cells #[ei B.st, ei B.ini, (.slice q1a B.labs.length q1c), (.slice q2a B.eds.length q2c)] 32) := ⟨_, rfl⟩
        have uD : Upd [] w9 wD := by rw [hwD]; exact (Upd.refl _ _).alloc _
        have HBD := Lib.hid (hu9.trans uD)
        have HUD := Lib.hid (HUB.out.trans HBD.out)
        have HCD := Lib.hid (fun W (hu : Upd [] wD W) => show W.cell? ⟨w9.heap.size, 0, none⟩ = some (ei B.st) ∧ W.cell? ⟨w9.heap.size, 1, none⟩ = some (ei B.ini) ∧ W.cell? ⟨w9.heap.size, 2, none⟩ = some (.slice q1a B.labs.length q1c) ∧ W.cell? ⟨w9.heap.size, 3, none⟩ = some (.slice q2a B.eds.length q2c) from by
          rw [hwD] at hu
          exact ⟨hu.keep (cell_new w9 _ _ _ rfl 0 _ rfl), hu.keep (cell_new w9 _ _ _ rfl 1 _ rfl), hu.keep (cell_new w9 _ _ _ rfl 2 _ rfl), hu.keep (cell_new w9 _ _ _ rfl 3 _ rfl)⟩)
        have HS3 := Lib.hid (fun W (hu : Upd [] wD W) => RSk.upd s3 (uD.trans hu) (by simp))
        have HS4 := Lib.hid (fun W (hu : Upd [] wD W) => R_E1k.upd s4 (uD.trans hu) (by simp))
        have T3 := Lib.hid (TR.out wD HUD.out)
        obtain ⟨BY, hBY⟩ : ∃ BY, BY = w9.heap.size := ⟨_, rfl⟩
        rw [← hBY] at HCD
        clear T2 hu9 uD s3 s4 og9 gg9 x0 x1 x2 x3 y0 y1 y2 y3
        go_upto_region 14 with (fail)
        rw [← hwD, ← hBY]
        clear hwD hBY
        go_wp2_with fail
        refine T3.out.mono ?_
        rintro e w10 ⟨⟨v10, rfl, gp10, s5, og10, gg10⟩, hu10⟩
        have HDU := Lib.hid hu10
        have HU10 := Lib.hid (HUD.out.trans hu10)
        have HS5 := Lib.hid (fun W (hu : Upd [] w10 W) => R_N2k.upd s5 hu (by simp))
        obtain ⟨x0, x1, x2, x3⟩ := HCB.out w10 (HBD.out.trans hu10)
        obtain ⟨y0, y1, y2, y3⟩ := HCD.out w10 hu10
        have T4 := Lib.hid (CI.out _ _ _ _ v10 w10 k1 k2 k3 k4 gp10 (HS1.out w10 (HBD.out.trans hu10)) (HS2.out w10 (HBD.out.trans hu10)) (HS3.out w10 hu10) (HS4.out w10 hu10) s5 HU10.out)
        clear T3 hu10 s5 og10 gg10 CI
        go_wp2_with fail
        refine T4.out.mono ?_
        rintro e w11 ⟨rfl, hu11⟩
        have HDU11 := Lib.hid (HDU.out.trans hu11)
        have HU11 := Lib.hid (HU10.out.trans hu11)
        have HR11 := Lib.hid hu11
        obtain ⟨x0, x1, x2, x3⟩ := HCB.out w11 (HBD.out.trans HDU11.out)
        obtain ⟨⟨y0, y1, y2, y3⟩, -⟩ := HC.out w11 HU11.out
        have EA := Lib.hid (fun W (hu : Upd [] wB W) (a : Value) (f : List Nat) (h : R_L1 f W [a] A) => eq_Lts _ a A W _ f (show R_L1 (k1 ++ k2) W [.agg #[ei A.st, ei A.ini, (.slice p1a A.labs.length p1c), (.slice p2a A.eds.length p2c)]] A from ⟨_, _, k1, k2, rfl, HS1.out W hu, HS2.out W hu, rfl⟩) h)
        have EB := Lib.hid (fun W (hu : Upd [] wD W) (a : Value) (f : List Nat) (h : R_L1 f W [a] B) => eq_Lts _ a B W _ f (show R_L1 (k3 ++ k4) W [.agg #[ei B.st, ei B.ini, (.slice q1a B.labs.length q1c), (.slice q2a B.eds.length q2c)]] B from ⟨_, _, k3, k4, rfl, HS3.out W hu, HS4.out W hu, rfl⟩) h)
        clear T4 hu11 HU10 HDU
        go_wp2_with fail
        go_region_held3 (fun w' => w'.cell? ⟨BX, 0, none⟩ = some (ei A.st) ∧ w'.cell? ⟨BX, 1, none⟩ = some (ei A.ini) ∧ w'.cell? ⟨BX, 2, none⟩ = some (.slice p1a A.labs.length p1c) ∧ w'.cell? ⟨BX, 3, none⟩ = some (.slice p2a A.eds.length p2c) ∧ w'.cell? ⟨AA, 0, none⟩ = some (ei A.st) ∧ w'.cell? ⟨AA, 1, none⟩ = some (ei A.ini) ∧ w'.cell? ⟨AA, 2, none⟩ = some a1 ∧ w'.cell? ⟨AA, 3, none⟩ = some a2) (go_keep)
          (first
            | ((go_at_call 10); (with_reducible refine (TA.out _ (HU11.out.drew)).mono ?_); rintro e w12 ⟨⟨v12, rfl, gp12, hr12, og12, gg12⟩, hu12⟩; have x0' := hu12.keep x0; have x1' := hu12.keep x1; have x2' := hu12.keep x2; have x3' := hu12.keep x3; have y0' := hu12.keep y0; have y1' := hu12.keep y1; have y2' := hu12.keep y2; have y3' := hu12.keep y3)
            | ((go_at_call 13); (with_reducible refine (EA.out _ (((HBD.out.trans HDU11.out).drew).trans hu12) _ _ hr12).mono ?_); rintro e w13 ⟨rfl, hu13⟩; have z0' := hu13.keep x0'; have z1' := hu13.keep x1'; have z2' := hu13.keep x2'; have z3' := hu13.keep x3'; have m0' := hu13.keep y0'; have m1' := hu13.keep y1'; have m2' := hu13.keep y2'; have m3' := hu13.keep y3'))
        have HDU13 := Lib.hid (((HDU11.out.drew).trans hu12).trans hu13)
        have HU13 := Lib.hid (((HU11.out.drew).trans hu12).trans hu13)
        have HR13 := Lib.hid (((HR11.out.drew).trans hu12).trans hu13)
        clear EA hu12 hu13 hr12 og12 gg12 HU11 HDU11 HR11
        obtain ⟨x0, x1, x2, x3⟩ := HCD.out w13 HDU13.out
        obtain ⟨-, ⟨y0, y1, y2, y3⟩⟩ := HC.out w13 HU13.out
        generalize w13 = wy at *
        go_wp2_with fail
        go_region_held3 (fun w' => w'.cell? ⟨BY, 0, none⟩ = some (ei B.st) ∧ w'.cell? ⟨BY, 1, none⟩ = some (ei B.ini) ∧ w'.cell? ⟨BY, 2, none⟩ = some (.slice q1a B.labs.length q1c) ∧ w'.cell? ⟨BY, 3, none⟩ = some (.slice q2a B.eds.length q2c) ∧ w'.cell? ⟨AA + 1, 0, none⟩ = some (ei B.st) ∧ w'.cell? ⟨AA + 1, 1, none⟩ = some (ei B.ini) ∧ w'.cell? ⟨AA + 1, 2, none⟩ = some b1 ∧ w'.cell? ⟨AA + 1, 3, none⟩ = some b2) (go_keep)
          (first
            | ((go_at_call 10); (with_reducible refine (TB.out _ (HU13.out.drew)).mono ?_); rintro e w14 ⟨⟨v14, rfl, gp14, hr14, og14, gg14⟩, hu14⟩; have x0' := hu14.keep x0; have x1' := hu14.keep x1; have x2' := hu14.keep x2; have x3' := hu14.keep x3; have y0' := hu14.keep y0; have y1' := hu14.keep y1; have y2' := hu14.keep y2; have y3' := hu14.keep y3)
            | ((go_at_call 13); (with_reducible refine (EB.out _ ((HDU13.out.drew).trans hu14) _ _ hr14).mono ?_); rintro e w15 ⟨rfl, hu15⟩; have z0' := hu15.keep x0'; have z1' := hu15.keep x1'; have z2' := hu15.keep x2'; have z3' := hu15.keep x3'; have m0' := hu15.keep y0'; have m1' := hu15.keep y1'; have m2' := hu15.keep y2'; have m3' := hu15.keep y3'))
        have HU15 := Lib.hid (((HU13.out.drew).trans hu14).trans hu15)
        have HR15 := Lib.hid (((HR13.out.drew).trans hu14).trans hu15)
        clear EB hu14 hu15 hr14 og14 gg14 HU13 HR13 HDU13
        have T5 := Lib.hid (TR.out w15 HU15.out)
        generalize w15 = wx at *
        go_wp2_with fail
        refine T5.out.mono ?_
        rintro e w16 ⟨⟨v16, rfl, gp16, s6, og16, gg16⟩, hu16⟩
        have T6 := Lib.hid (eq_N2 v10 v16 R R w16 gp10 gp16 (HS5.out w16 (HR15.out.trans hu16)) s6)
        rw [beq_refl_true] at T6
        have HU16 := Lib.hid (HU15.out.trans hu16)
        clear T5 hu16 s6 og16 gg16
        go_wp2_with fail
        refine T6.out.mono ?_
        rintro e w17 ⟨rfl, hu17⟩
        have HU17 := Lib.hid (UA.out.trans (HU16.out.trans hu17))
        clear T6 hu17
        go_wp2_with fail
        go_ret
        exact ⟨rfl, HU17.out⟩

end Go.Proofs.YtcnaapiljmgfoaaGreatDoor

/-
  What the listed variables and the world's shape give the walks of labels.
-/
namespace Go.Proofs.YtcnaapiljmgfoaaGreatDoor
open Go.RowKit Go.ChangeShapes

theorem errStar : "*" ++ "errors.errorString" = "*errors.errorString" := by decide
theorem errRow (u : TypeId) (h : Tryz.prog.typeName? 3 u = some "*errors.errorString") : u = 227 :=
  typeName_ptr_named (nm := "errors.errorString") (by rw [errStar]; kernel_rfl) (by kernel_rfl) (by decide) u (by rw [errStar]; exact h)

theorem env_of {W : World} {r1 r2 r3 : List (String × DataW Unit)} {d : DataW Unit} {x1 x2 : List UInt8} (hd : d = Lib.tabData .u64 Lib.pow10Tab)
    (h1 : laidMet Tryz.prog (("internal/strconv.uint64pow10", d) :: r1) W)
    (h2 : laidMet Tryz.prog (("strconv.ErrRange", .iface "*errors.errorString" (.ptr (.agg [.lit (.string x1)]))) :: r2) W)
    (h3 : laidMet Tryz.prog (("strconv.ErrSyntax", .iface "*errors.errorString" (.ptr (.agg [.lit (.string x2)]))) :: r3) W)
    (hs : W.ShapedOpen Tryz.prog) : Env W := by
  subst hd
  refine ⟨?_, ?_, ?_, ?_⟩
  · exact cell_of_shapedOpen_int (g := 0) (zero := #[.int .i64 0]) (t := 3) hs (of_decide_eq_true (by kernel_rfl)) (by kernel_rfl) rfl (by kernel_rfl) (by kernel_rfl) Tryz.underlying3
  · exact Lib.tabIs_of_head (g := 5) (t := 231) (e := 164) (n := 20) (by kernel_rfl) (by kernel_rfl) Tryz.underlying231 Tryz.underlying164 (by kernel_rfl) (by kernel_rfl) h1
  · obtain ⟨a, s, hv, -⟩ := laid_sentinel (g := 1) (ti := 180) (tp := 227) (te := 229) (ts := 9) h3 (by kernel_rfl) (by kernel_rfl) Tryz.underlying180 errRow Tryz.underlying227 Tryz.underlying229 rfl rfl Tryz.underlying9 (by kernel_rfl) (by kernel_rfl)
    exact ⟨_, _, hv⟩
  · obtain ⟨a, s, hv, -⟩ := laid_sentinel (g := 2) (ti := 180) (tp := 227) (te := 229) (ts := 9) h2 (by kernel_rfl) (by kernel_rfl) Tryz.underlying180 errRow Tryz.underlying227 Tryz.underlying229 rfl rfl Tryz.underlying9 (by kernel_rfl) (by kernel_rfl)
    exact ⟨_, _, hv⟩

/-- the wrap with a condition on the world, the world's shape kept. -/
theorem handed_and_shaped {H : Type} {enc : TypeId × Value → H} {a : Assume} {C : Checked} {os : Os} {f : FuncId} {fn : Func} {s : ChangeSpec} {conds : List PathCond} {apart fresh handsOn twice : Bool} {X : World → Array Value → Prop}
    (hX : ∀ (w w' : World) (args : Array Value), w.heap = w'.heap → X w args → X w' args)
    (own : ownKnob C.prog.godebug = none) (started : os.Started) (noInit : C.prog.inits.idxOf? f = none) (hfn : C.prog.funcs[f]? = some fn)
    (witness : ∃ (w : World) (tape : Tape) (i : Input), w.os = os ∧ (w.forCall tape i).Shaped C.prog ∧ i.vars = [] ∧ Input.okWide C.prog (w.forCall tape i) .any w.heap.size f i ∧
      ((s.pre enc C.prog fn conds apart (w.forCall tape i).memory i.args ∧ X (w.forCall tape i).memory i.args) ∧ sizedMet enc C.prog fn (OpenSpec.ofChange s) apart (w.forCall tape i).memory i.args) ∧ a.holds C.prog (lone (Frame.enter C.prog f i.args CallKind.normal) [] (w.forCall tape i)))
    (contract : ∀ (W : World) (base : Nat) (args : Array Value) (ds gs : List (DataW H)) (before : List MemPlace),
      (∀ (j : Nat) t v, fn.params[j]? = some t → args[j]? = some v → Value.okWide C.prog W .any base t v) →
      DataW.Whole enc C.prog fn.params.toList s.vars apart W args.toList ds gs before →
      conds.all (PathCond.test C.prog ⟨fn.params.toList, ds, s.plain.varTypes C.prog, gs⟩) = true → X W args →
      W.ShapedOpen C.prog →
      Calls C.prog f args W fun e W' => ∃ v, e = .returned v ∧ s.post enc C.prog fn apart fresh handsOn twice W args v W') :
    ReturnsInHanded a C os f .any (fun w args => (s.pre enc C.prog fn conds apart w args ∧ X w args) ∧ sizedMet enc C.prog fn (OpenSpec.ofChange s) apart w args) (s.post enc C.prog fn apart fresh handsOn twice) := by
  refine returnsInHanded_of_calls own started noInit witness ?_
  intro w tape i _ hsh _ hok hpre _
  obtain ⟨_, _, _, fn', hfn', _, _, _, _, hval⟩ := hok
  have e : fn' = fn := Option.some.inj (hfn'.symm.trans hfn)
  subst e
  obtain ⟨⟨⟨ds, gs, before, hw, hc⟩, hx⟩, hz⟩ := hpre
  have hw' := DataW.Whole.of_heap (w' := w.forCall tape i) (by rfl) hw
  refine (contract (w.forCall tape i) w.heap.size i.args ds gs before hval hw' hc (hX _ _ _ (by rfl) hx) hsh).mono fun e W' ⟨v, he, hp⟩ => ?_
  subst he
  exact ChangeSpec.post_blind hp

end Go.Proofs.YtcnaapiljmgfoaaGreatDoor
