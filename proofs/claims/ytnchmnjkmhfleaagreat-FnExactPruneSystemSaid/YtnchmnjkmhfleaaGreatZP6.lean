/-
  Texts joined in one file: UsV, UsW0, UsW, FitSy, LawPrune, OpenDe, OpenSy.
-/
import Derived.Test.YtnchmnjkmhfleaaGreatZP2
import Derived.Test.YtnchmnjkmhfleaaGreatZP3
import Derived.Test.YtnchmnjkmhfleaaGreatZP4
import Derived.Test.YtnchmnjkmhfleaaGreatZP5
import Derived.Deep.RegionLaw
import Derived.Lib.SmallJoins
import Derived.Deep.Strs
/-
  PruneSystem: what the program's call gives.
-/
namespace Go.Proofs.YtnchmnjkmhfleaaGreat
open Go.RowKit

set_option maxRecDepth 20000 in
set_option maxHeartbeats 40000000 in
theorem pruneI (cs : List Value) (s : Sy) (w : World) (fp : List Nat) (hR : R_Sy fp w cs s) (hF : SyFit s) :
    Calls Tryz.prog 29 #[.agg cs.toArray] w (GaveSy w (pruneF s)) := by
  obtain ⟨i0, hi9, hz0, hz1, hz2⟩ := info_parts Tryz.infoDe
  have hR' := hR
  obtain ⟨v0, v1, v2, v3, v4, f0, f1, f2, f3, f4, rfl, -, -, -, -, -, rfl⟩ := hR
  obtain ⟨B, hB⟩ : ∃ B, B = w.heap.size := ⟨_, rfl⟩
  obtain ⟨wA, hwA⟩ : ∃ wA, wA = (w.alloc (.cells #[v0, v1, v2, v3, v4] 29)).alloc (.cells #[.slice none 0 0, .slice none 0 0, .slice none 0 0, .slice none 0 0, .slice none 0 0] 29) := ⟨_, rfl⟩
  have s1 : (w.alloc (.cells #[v0, v1, v2, v3, v4] 29)).heap.size = B + 1 := by rw [hB]; simp
  have uA : Upd [] w wA := by rw [hwA]; exact ((Upd.refl _ _).alloc _).alloc _
  have HA := Lib.hid (show RowAt wA (B + 1) 29 zerosSy from by rw [hwA, ← s1]; exact RowAt.new _ _ _)
  have hL : RowAt wA B 29 [v0, v1, v2, v3, v4] := by rw [hwA, hB]; exact (RowAt.new _ _ _).upd ((Upd.refl [] _).alloc _) (by simp)
  have HL := Lib.hid (fun W (hu : Upd [] wA W) => hL.upd hu (by simp))
  have S1 := Lib.hid (validSysI _ s wA _ (R_Syk.upd hR' uA (by simp)) hF)
  have S2 := Lib.hid (fun W (hu : Upd [] wA W) (hk : sysOk s = true) => usedI _ s W _ (R_Syk.upd hR' (uA.trans hu) (by simp)) hk)
  have HRY := Lib.hid (fun W (hu : Upd [] wA W) => R_Syk.upd hR' (uA.trans hu) (by simp))
  have HCF := Lib.hid (fun (hk : sysOk s = true) => CpFit.of hk hF)
  have UA := Lib.hid uA
  have hszA : B + 2 ≤ wA.heap.size := by rw [hwA, hB]; simp
  have HK := Lib.hid (fun (h : sysOk s = true) => SyGd.of h)
  have HM := Lib.hid (show pruneF s = (if sysOk s = true then (pruneL (usedF s) s, 0) else (zeroSy, 1)) from rfl)
  have HUL := Lib.hid (used_len s)
  have HUM := Lib.hid (fun i (hi : i < (usedF s).length) => ((usedF_mem s (usedF s)[i]).1 (List.getElem_mem hi)).1)
  clear hR' uA s1 hL
  generalize pruneF s = Z at *
  generalize hok : sysOk s = ok at *
  generalize usedF s = us at *
  go_enter Tryz.func29, Tryz.ntmps29
  go_upto_region 1 with (fail)
  rw [← hwA, ← hB]
  have HBB := Lib.hid hB
  clear hwA hB
  have z0 := (HL.out _ (Upd.refl _ _)).cell 0 _ rfl
  have z1 := (HL.out _ (Upd.refl _ _)).cell 1 _ rfl
  have z2 := (HL.out _ (Upd.refl _ _)).cell 2 _ rfl
  have z3 := (HL.out _ (Upd.refl _ _)).cell 3 _ rfl
  have z4 := (HL.out _ (Upd.refl _ _)).cell 4 _ rfl
  go_wp2_with fail
  refine S1.out.mono ?_
  rintro e w1 ⟨rfl, hu1⟩
  have UA1 := Lib.hid hu1
  have HU1 := Lib.hid (UA.out.trans hu1)
  have HA1 := Lib.hid (HA.out.upd hu1 (by simp))
  clear S1 hu1 z0 z1 z2 z3 z4 HA
  cases ok with
  | false =>
    have HZ := Lib.hid (show Z = (zeroSy, 1) by rw [HM.out]; rfl)
    clear S2 HRY HCF HM HL HK HUL HUM
    have hAx := HA1.out
    unfold RowAt at hAx
    go_wp2_with (first
      | (refine wpList_store_row rfl 29 _ _ rfl (B + 1) #[.slice none 0 0, .slice none 0 0, .slice none 0 0, .slice none 0 0, .slice none 0 0] rfl rfl 29 _ hAx Sy_size rfl (by simp [Value.oneCell']) ?_)
      | fail)
    have hr : RowAt (w1.setRow (B + 1) #[.slice none 0 0, .slice none 0 0, .slice none 0 0, .slice none 0 0, .slice none 0 0]) (B + 1) 29 [.slice none 0 0, .slice none 0 0, .slice none 0 0, .slice none 0 0, .slice none 0 0] := HA1.out.row zerosSy
    have n0 := hr.cell 0 _ rfl
    have n1 := hr.cell 1 _ rfl
    have n2 := hr.cell 2 _ rfl
    have n3 := hr.cell 3 _ rfl
    have n4 := hr.cell 4 _ rfl
    refine bodyPost_ret (v := .tuple #[.agg #[.slice none 0 0, .slice none 0 0, .slice none 0 0, .slice none 0 0, .slice none 0 0], .int .i64 1]) (by simp [results, Tryz.results29, go_sem, n0, n1, n2, n3, n4]) rfl ?_
    rw [HZ.out]
    exact gaveSy_zero _ _ _ (HU1.out.row (Or.inl (by have := HBB.out; omega)) _)
  | true =>
    have HZ := Lib.hid (show Z = (pruneL us s, 0) by rw [HM.out]; rfl)
    have hK := HK.out rfl
    have hcl := hK.cl
    have hdl := hK.dl
    have hul : us.length ≤ 4 := by have := HUL.out; omega
    have HBD := Lib.hid (fun i (hi : i < s.defs.length) => show s.defs[i].body.length ≤ 20 from ((defs_fine hK.defs).2.2.2.2 _ (List.getElem_mem hi)).2.1)
    have T2 := Lib.hid (S2.out w1 UA1.out (by trivial))
    have S3 := Lib.hid (fun W (hu : Upd [] wA W) => cloneSyI _ s W _ (HRY.out W hu) (HCF.out (by first | rfl | trivial | assumption)))
    clear S2 HM HK HUL hok hK HRY HCF
    have z0 := (HL.out _ UA1.out).cell 0 _ rfl
    have z1 := (HL.out _ UA1.out).cell 1 _ rfl
    have z2 := (HL.out _ UA1.out).cell 2 _ rfl
    have z3 := (HL.out _ UA1.out).cell 3 _ rfl
    have z4 := (HL.out _ UA1.out).cell 4 _ rfl
    go_wp2_with fail
    refine T2.out.mono ?_
    rintro e w2 ⟨⟨vu, rfl, hnu⟩, hu2⟩
    obtain ⟨ua, uc, rfl⟩ := hnu.form
    obtain ⟨fu, ru, -, -⟩ := hnu
    have UA2 := Lib.hid (UA1.out.trans hu2)
    have HU2 := Lib.hid (HU1.out.trans hu2)
    have HA2 := Lib.hid (HA1.out.upd hu2 (by simp))
    have hfu := R_I1k.lt ru
    have RU := Lib.hid (fun W f (hu : Upd f w2 W) (hf : ∀ c ∈ f, w2.heap.size ≤ c) => R_I1k.upd ru hu (fun b hb hm => by have h1 := hfu b hb; have h2 := hf b hm; omega))
    have T3 := Lib.hid (S3.out w2 UA2.out)
    clear T2 hu2 z0 z1 z2 z3 z4 HA1 hfu ru
    have z0 := (HL.out _ UA2.out).cell 0 _ rfl
    have z1 := (HL.out _ UA2.out).cell 1 _ rfl
    have z2 := (HL.out _ UA2.out).cell 2 _ rfl
    have z3 := (HL.out _ UA2.out).cell 3 _ rfl
    have z4 := (HL.out _ UA2.out).cell 4 _ rfl
    go_wp2_with fail
    refine T3.out.mono ?_
    rintro e w3 ⟨⟨us3, rfl, hl3, hc3, hn3⟩, hu3⟩
    obtain ⟨p0, y0, p1, y1, p2, y2, p3, y3, p4, y4, rfl⟩ := sy_form hn3
    obtain ⟨fp3, ⟨d0, d1, d2, d3, d4, g0, g1, g2, g3, g4, heq, r0, r1, r2, r3, r4, rfl⟩, ho3, hg3⟩ := hn3
    simp only [List.cons.injEq, and_true] at heq
    obtain ⟨rfl, rfl, rfl, rfl, rfl⟩ := heq
    obtain ⟨-, ho, -⟩ := own_split ho3
    obtain ⟨C, hC⟩ : ∃ C, C = w3.heap.size := ⟨_, rfl⟩
    obtain ⟨wB, hwB⟩ : ∃ q, q = w3.alloc (.cells #[.slice none 0 0, .slice p1 s.comps.length y1, .slice p2 s.meets.length y2, .slice p3 s.allow.length y3, .slice p4 s.hide.length y4] 29) := ⟨_, rfl⟩
    have uB : Upd [] w3 wB := by rw [hwB]; exact (Upd.refl _ _).alloc _
    have hrC : RowAt wB C 29 [.slice none 0 0, .slice p1 s.comps.length y1, .slice p2 s.meets.length y2, .slice p3 s.allow.length y3, .slice p4 s.hide.length y4] := by rw [hwB, hC]; exact RowAt.new _ _ _
    have hlt1 := R_Co1k.lt r1
    have HG1 := Lib.hid (fun b (hb : b ∈ g1) => show w2.heap.size ≤ b ∧ b < C from ⟨hg3 b (by simp [hb]), by rw [hC]; exact hlt1 b hb⟩)
    have HGE := Lib.hid (fun b (hb : b ∈ g1 ++ (g2 ++ (g3 ++ g4))) => show w2.heap.size ≤ b ∧ b < C from ⟨hg3 b (List.mem_append_right _ hb), by rw [hC]; exact ho.lt b hb⟩)
    have HRR := Lib.hid (And.intro (R_Co1k.upd r1 uB (by simp)) (And.intro (R_Me1k.upd r2 uB (by simp)) (And.intro (R_S1k.upd r3 uB (by simp)) (And.intro (R_S1k.upd r4 uB (by simp)) (ho.upd uB (by simp))))))
    have HRC := Lib.hid hrC
    have HU3 := Lib.hid (hu3.trans uB)
    have hCW : w2.heap.size ≤ C := by rw [hC]; exact hu3.size
    have hCB : C < wB.heap.size := hrC.lt
    have hAB := HA2.out.lt
    have HAB := Lib.hid ((HA2.out.upd hu3 (by simp)).upd uB (by simp))
    go_upto_region 6 with (fail)
    rw [← hwB, ← hC]
    clear hwB hC uB hrC hlt1 r0 r1 r2 r3 r4 ho ho3 hg3 hu3 hl3 hc3 T3 z0 z1 z2 z3 z4 HA2
    go_wp2_with fail
    go_loopw [24] (fun iv wr => ∃ (i : Nat) (dv : Value), i ≤ us.length ∧ iv = .int .i64 i ∧ Hid (Upd [C] wB wr) ∧ Hid (RowAt wr C 29 [dv, .slice p1 s.comps.length y1, .slice p2 s.meets.length y2, .slice p3 s.allow.length y3, .slice p4 s.hide.length y4]) ∧ Hid (AccZ 3 R_De wB.heap.size 90 [C] wr dv ((us.take i).map (fun j => renDe us (defAt s j))))) (fun iv _ => us.length - (intOf iv).toNat)
    case atStart => exact ⟨0, _, Nat.zero_le _, rfl, Lib.hid (Upd.refl _ _), HRC, Lib.hid (AccZ.nil _ _ _ _ _ (by intro b hb; simp at hb; omega))⟩
    case round =>
      obtain ⟨wo, rfl⟩ : ∃ wo : World, wo = wr := ⟨_, rfl⟩
      obtain ⟨i, dv, hi, rfl, HU, HRW, HAC⟩ := hrel
      have huw : Upd [] w2 wo := HU3.out.fresh HU.out (fun c hc => Or.inl (by simp at hc; omega))
      have HUW := Lib.hid huw
      have HUAW := Lib.hid (UA2.out.trans huw)
      have hszo := HU.out.size
      by_cases hlt : i < us.length
      · have hil : (i : Int) < (us.length : Int) := by omega
        obtain ⟨bu, ou, rfl, -, hbul, q1⟩ : ∃ b off, ua = some ⟨b, off, none⟩ ∧ True ∧ b < wo.heap.size ∧ wo.cell? ⟨b, off + i, none⟩ = some (ei us[i]) := by
          obtain ⟨ra, rc, hrv, -, -, hrc⟩ := slF1_open (RU.out wo [] huw (by simp))
          cases hrv
          obtain ⟨b, off, e, -, hb, h⟩ := hrc i hlt
          exact ⟨b, off, e, trivial, hb, h⟩
        have hj := HUM.out i hlt
        have HTK := Lib.hid (show (us.take (i + 1)).map (fun j => renDe us (defAt s j)) = (us.take i).map (fun j => renDe us (defAt s j)) ++ [renDe us (defAt s us[i])] by rw [List.take_succ_eq_append_getElem hlt, List.map_append]; rfl)
        generalize us[i] = j at *
        obtain ⟨j0, rfl⟩ : ∃ n : Nat, j = n := ⟨j.toNat, by omega⟩
        have hj0 : j0 < s.defs.length := by omega
        have hjl : (j0 : Int) < (s.defs.length : Int) := by omega
        have T4 := Lib.hid (S3.out wo HUAW.out)
        clear hj huw
        have z0 := (HL.out _ HUAW.out).cell 0 _ rfl
        have z1 := (HL.out _ HUAW.out).cell 1 _ rfl
        have z2 := (HL.out _ HUAW.out).cell 2 _ rfl
        have z3 := (HL.out _ HUAW.out).cell 3 _ rfl
        have z4 := (HL.out _ HUAW.out).cell 4 _ rfl
        go_wp2_with fail
        refine T4.out.mono ?_
        rintro e w4 ⟨⟨us4, rfl, hl4, hc4, hn4⟩, hu4⟩
        obtain ⟨k0, m0, k1, m1, k2, m2, k3, m3, k4, m4, rfl⟩ := sy_form hn4
        obtain ⟨fp4, ⟨d0, d1, d2, d3, d4, h0, h1, h2, h3, h4, heq, t0, -, -, -, -, rfl⟩, ho4, hg4⟩ := hn4
        simp only [List.cons.injEq, and_true] at heq
        obtain ⟨rfl, -, -, -, -⟩ := heq
        obtain ⟨ho4a, -, -⟩ := own_split ho4
        obtain ⟨ad, capd, bd, od, ud, fd, hvd, hle1, hle2, rfl, hbdf, hbdl, hudl, hcelld, hfdd, hbdn, hrd, hofd, hobd, -⟩ := slQ_set R_Dek t0 ho4a j0 hj0
        cases hvd
        obtain ⟨vb, fb, rfl, hb, rfl⟩ := hrd
        have hofb : Own fb w4 := by simpa using hofd
        have hgeb : ∀ c ∈ fb, wo.heap.size ≤ c := fun c hc => hg4 c (List.mem_append_left _ (hfdd c (by simp [hc])))
        have c0 := hcelld 0 _ rfl
        have c1 := hcelld 1 _ rfl
        have c2 := hcelld 2 _ rfl
        simp only [Nat.add_zero] at c0
        have hltb := hofb.lt
        have hDA := defAt_eq s j0 hj0
        have hbl := HBD.out j0 hj0
        have HDA := Lib.hid (show renDe us (defAt s (j0 : Int)) = renDe us s.defs[j0] by rw [hDA])
        generalize s.defs[j0] = d at *
        obtain ⟨dname, dpars, body⟩ := d
        simp only at *
        obtain ⟨ab, cb, rfl, -, -, -⟩ := slQ_open hb
        obtain ⟨D, hD⟩ : ∃ D, D = w4.heap.size := ⟨_, rfl⟩
        obtain ⟨wD, hwD⟩ : ∃ q, q = w4.alloc (.cells #[es dname, ei dpars, .slice ab body.length cb] 90) := ⟨_, rfl⟩
        have uD : Upd [] w4 wD := by rw [hwD]; exact (Upd.refl _ _).alloc _
        have hrD : RowAt wD D 90 [es dname, ei dpars, .slice ab body.length cb] := by rw [hwD, hD]; exact RowAt.new _ _ _
        have HRD := Lib.hid hrD
        have HB0 := Lib.hid (show R_Pa1 fb wD [.slice ab body.length cb] (parG (renPa us) body 0) ∧ Own fb wD from by rw [parG_zero]; exact ⟨R_Pa1k.upd hb uD (by simp), hofb.upd uD (by simp)⟩)
        have HUD := Lib.hid (hu4.trans uD)
        have HGB := Lib.hid hgeb
        have HDB := Lib.hid (fun c (hc : c ∈ fb) => show c < D by rw [hD]; exact hltb c hc)
        have hDW : wo.heap.size ≤ D := by rw [hD]; exact hu4.size
        clear ho4 hg4 t0 ho4a hobd hbdn hfdd hofd hofb hgeb hb hltb uD hrD hu4 hl4 hc4 hcelld T4 hle1 hle2 hbdf hudl hDA
        have hfd : ∀ W : World, (Instr.field 29 (.agg #[.slice (some ⟨bd, od, none⟩) s.defs.length m0, .slice k1 s.comps.length m1, .slice k2 s.meets.length m2, .slice k3 s.allow.length m3, .slice k4 s.hide.length m4]) 0).run Tryz.prog W = .ok (.slice (some ⟨bd, od, none⟩) s.defs.length m0) W := fun _ => by kernel_rfl
        go_upto_region 10 with (fail)
        rw [← hwD, ← hD]
        have hDs : D < wD.heap.size := HRD.out.lt
        clear hwD hD z0 z1 z2 z3 z4 c0 c1 c2 q1 hfd
        have D2 := HRD.out.cell 2 _ rfl
        go_wp2_with fail
        go_loopw [37] (fun xv wr => ∃ k : Nat, k ≤ body.length ∧ xv = .int .i64 k ∧ Hid (Upd fb wD wr) ∧ Hid (R_Pa1 fb wr [.slice ab body.length cb] (parG (renPa us) body k) ∧ Own fb wr)) (fun xv _ => body.length - (intOf xv).toNat)
        case atStart => exact ⟨0, Nat.zero_le _, rfl, Lib.hid (Upd.refl _ _), HB0⟩
        case round =>
          clear HB0 D2
          obtain ⟨wp, rfl⟩ : ∃ wp : World, wp = wr := ⟨_, rfl⟩
          obtain ⟨k, hk, rfl, HX, HP⟩ := hrel
          have hDf : D ∉ fb := fun hm => by have := HDB.out D hm; omega
          have hrDp := HRD.out.upd HX.out hDf
          by_cases hkl : k < body.length
          · have hkl2 : (k : Int) < (body.length : Int) := by omega
            have hpl := parG_len (renPa us) body k
            obtain ⟨b, off, cap, pa, pc, hve, hbf, hbl2, s0, s1, s2, s3, hput⟩ := part_at HP.out.1 HP.out.2 k (by omega)
            simp only [Value.slice.injEq] at hve
            obtain ⟨rfl, -, rfl⟩ := hve
            have hget := parG_get (renPa us) body k hkl (by omega)
            rw [hget] at s0 s1 s2 s3 hput
            have HST := Lib.hid (parG_set (renPa us) body k hkl)
            have HSM := Lib.hid (fun he => parG_same (renPa us) body k hkl he)
            have HPT := Lib.hid hput
            generalize body[k] = p at *
            obtain ⟨kind, num, pname, pargs⟩ := p
            simp only at *
            obtain ⟨T, hT⟩ : ∃ T, T = wp.heap.size := ⟨_, rfl⟩
            obtain ⟨wT, hwT⟩ : ∃ q, q = wp.alloc (.cells #[ei kind, ei num, es pname, .slice pa pargs.length pc] 109) := ⟨_, rfl⟩
            have uT : Upd [] wp wT := by rw [hwT]; exact (Upd.refl _ _).alloc _
            have hrT : RowAt wT T 109 [ei kind, ei num, es pname, .slice pa pargs.length pc] := by rw [hwT, hT]; exact RowAt.new _ _ _
            have UT := Lib.hid uT
            have D2 := (hrDp.upd uT (by simp)).cell 2 _ rfl
            have t0 := hrT.cell 0 _ rfl
            have t1 := hrT.cell 1 _ rfl
            have g1 := uT.keep s1
            have hbT : b < T := by rw [hT]; exact hbl2
            have HBT := Lib.hid hbT
            have hbD : b < D := HDB.out b hbf
            have HXT := Lib.hid (HX.out.fresh uT (by simp))
            clear hput hget hpl uT hrT HX hrDp hDf
            go_upto_region 13 with (fail)
            rw [← hwT, ← hT]
            clear hwT hT s0 s1 s2 s3
            obtain ⟨q, hq⟩ : ∃ q, (kind == 5) = q := ⟨_, rfl⟩
            cases q with
            | false =>
              have HP2 := Lib.hid (show R_Pa1 fb wT [.slice (some ⟨b, off, none⟩) body.length cb] (parG (renPa us) body (k + 1)) ∧ Own fb wT from by
                rw [HSM.out (renPa_no hq)]
                exact ⟨R_Pa1k.upd HP.out.1 UT.out (by simp), HP.out.2.upd UT.out (by simp)⟩)
              clear HP HPT HST HSM
              go_wp2_with fail
              go_roundw
              case rel => exact ⟨k + 1, by omega, by go_num, HXT, HP2⟩
              case measure => simp [intOf]; omega
            | true =>
              obtain ⟨e1', hp1, hp2⟩ := HPT.out wT (plcF us num) UT.out
              have e1 : wT.drew.frozen? ⟨b, off + k * 4 + 1, none⟩ = false := e1'
              have HP2 := Lib.hid (show R_Pa1 fb (wT.setCell ⟨b, off + k * 4 + 1, none⟩ (ei (plcF us num))).drew [.slice (some ⟨b, off, none⟩) body.length cb] (parG (renPa us) body (k + 1)) ∧ Own fb (wT.setCell ⟨b, off + k * 4 + 1, none⟩ (ei (plcF us num))).drew from by
                rw [← HST.out, renPa_yes hq]; exact ⟨R_Pa1k.upd hp1 (Upd.refl [] _).drew (by simp), hp2.upd (Upd.refl [] _).drew (by simp)⟩)
              have HX2 := Lib.hid (show Upd fb wD (wT.setCell ⟨b, off + k * 4 + 1, none⟩ (ei (plcF us num))).drew from ((HXT.out).setCell (Or.inr hbf) _).drew)
              have SI := Lib.hid (indexZ _ us num wT.drew fu (RU.out wT.drew (C :: fb) (by
                have h1 : Upd (C :: fb) w2 wo := (HUW.out.mono (by simp))
                exact ((h1.fresh HUD.out (by simp)).fresh HXT.out (fun c hc => Or.inr (by simp [hc]))).drew) (fun c hc => by
                rcases List.mem_cons.1 hc with rfl | hc
                · exact hCW
                · have h1 := HGB.out c hc; have h2 := HUW.out.size; omega)))
              have d2 : wT.drew.cell? ⟨D, 2, none⟩ = some (.slice (some ⟨b, off, none⟩) body.length cb) := D2
              have d1 : wT.drew.cell? ⟨T, 1, none⟩ = some (ei num) := t1
              have d3 : wT.drew.cell? ⟨b, off + k * 4 + 1, none⟩ = some (ei num) := g1
              obtain ⟨wQ, hwQ⟩ : ∃ q, q = (wT.setCell ⟨b, off + k * 4 + 1, none⟩ (ei (plcF us num))).drew := ⟨_, rfl⟩
              rw [← hwQ] at HP2 HX2
              have HWQ := Lib.hid hwQ
              clear HP HPT HST HSM hp1 hp2 HXT hwQ
              generalize plcF us num = m at *
              have k1 := far_cell (o := off + k * 4 + 1) (v := .int .i64 m) D2 hbD
              have k2 := far_cell (o := off + k * 4 + 1) (v := .int .i64 m) t1 hbT
              go_wp2_with fail
              go_region_held3 (fun w' => w'.cell? ⟨D, 2, none⟩ = some (.slice (some ⟨b, off, none⟩) body.length cb) ∧ w'.cell? ⟨T, 1, none⟩ = some (ei num)) (first | exact ⟨k1, k2⟩ | go_keep | (go_split_ands; exact ⟨k1, k2⟩) | simp [*])
                (first
                  | ((go_at_call 81); (refine SI.out.mono ?_); rintro e w9 ⟨rfl, rfl⟩))
              try rw [← HWQ.out]
              clear SI d1 d2 d3 e1 e1' k1 k2 D2 t0 t1 g1 HWQ
              go_wp2_with fail
              go_roundw
              case rel => exact ⟨k + 1, by omega, by go_num, HX2, HP2⟩
              case measure => simp [intOf]; omega
          · obtain rfl : k = body.length := by omega
            have hDf : D ∉ fb := fun hm => by have := HDB.out D hm; omega
            have hrDp := HRD.out.upd HX.out hDf
            have D0 := hrDp.cell 0 _ rfl
            have D1 := hrDp.cell 1 _ rfl
            have D2 := hrDp.cell 2 _ rfl
            have hxw : Upd [] wo wp := HUD.out.fresh HX.out (fun c hc => Or.inl (HGB.out c hc))
            have hrC := HRW.out.upd hxw (by simp)
            have C0 := hrC.cell 0 _ rfl
            have E0 := hrC.fz 0
            have hnew : NewQ R_De wo wp [es dname, ei dpars, .slice ab body.length cb] ⟨dname, dpars, body.map (renPa us)⟩ := by
              have h := HP.out
              rw [parG_all] at h
              exact ⟨fb ++ [], ⟨_, fb, rfl, h.1, rfl⟩, by simpa using h.2, fun c hc => HGB.out c (by simpa using hc)⟩
            have HNW := Lib.hid hnew
            have HXW := Lib.hid hxw
            obtain ⟨uss, hown, hrows, hvZ, hexl⟩ := HAC.out
            have HOW := Lib.hid hown
            have HRO := Lib.hid hrows
            have HVZ := Lib.hid hvZ
            have HEX := Lib.hid hexl
            obtain ⟨oa, oc, hov⟩ := ownsRow_form hown
            subst hov
            have hLL : ((us.take i).map (fun j => renDe us (defAt s j))).length = i := by rw [List.length_map, List.length_take]; omega
            rw [hLL] at C0 hrC
            have hown1 := ownsRow_upd HOW.out hxw
            rw [hLL] at hown1
            have HLL := Lib.hid hLL
            have hszp := hxw.size
            have HRCp := Lib.hid hrC
            clear HP hnew hxw hown hrows hvZ hexl HX hDf hrDp HAC hLL HRW hrC
            go_wp2_with (first
              | (at_builtin; refine wpList_append_tight _ rfl _ _ 24 rfl wB.heap.size 90 i0 (.agg #[.string ⟨#[]⟩, .int .i64 0, .slice none 0 0]) 3 48 Tryz.underlying24 hi9 hz0 hz1 hz2 rfl (by decide) _ _ _ rfl (hown1.alloc _) ⟨wp.heap.size, 0, none⟩ 1 1 [es dname, ei dpars, .slice ab body.length cb] rfl rfl (fun j u hj => by rw [addr_add, Nat.zero_add]; exact cell_new wp #[es dname, ei dpars, .slice ab body.length cb] _ _ rfl j u (by simpa using hj)) (by simp [Value.oneCell']) (by unfold maxLen; omega) (by omega) (by simp; omega) ?_)
              | fail)
            intro v2 w5 hown5 hg5 ht5
            obtain ⟨a9, c9, hv9⟩ := ownsRow_form hown5
            subst hv9
            have hacc := AccZ.push (w := wo) (ex := [C]) R_Dek HOW.out HRO.out HVZ.out HEX.out hszo HXW.out HNW.out rfl (.cells #[es dname, ei dpars, .slice ab body.length cb] 90) (by rw [HLL.out]; exact hown5) (by rw [HLL.out]; exact ⟨hg5.os, hg5.tape, hg5.output, hg5.size, hg5.block⟩) (fun b hb => by
              rcases ht5 b hb with h | h
              · exact Or.inl (by rw [HLL.out]; exact h)
              · exact Or.inr (by simpa using h))
            have hg9 : (wp.alloc (.cells #[es dname, ei dpars, .slice ab body.length cb] 90)).grownBy w5 (Value.slice oa i oc).ownBlock := hg5
            have hv5 : Upd (Value.slice oa i oc).ownBlock.toList (wp.alloc (.cells #[es dname, ei dpars, .slice ab body.length cb] 90)) w5 := (Upd.refl _ _).grown hg9 (fun k hk => Or.inr (by simp [hk]))
            have hnC : C ∉ (Value.slice oa i oc).ownBlock.toList := fun hm => HVZ.out C (by rw [HLL.out]; simpa using hm) (by simp)
            have hC5 := (HRCp.out.upd ((Upd.refl [] wp).alloc (.cells #[es dname, ei dpars, .slice ab body.length cb] 90)) (by simp)).upd hv5 hnC
            have C5 := hC5.cell 0 _ rfl
            have E5 := hC5.fz 0
            obtain ⟨wE, hwE⟩ : ∃ q, q = w5.setCell ⟨C, 0, none⟩ (.slice a9 (i + 1) c9) := ⟨_, rfl⟩
            have uZ : Upd [C] w5 wE := by rw [hwE]; exact (Upd.refl _ _).setCell (Or.inr (by simp)) _
            have HAC2 := Lib.hid (show AccZ 3 R_De wB.heap.size 90 [C] wE (.slice a9 (i + 1) c9) ((us.take (i + 1)).map (fun j => renDe us (defAt s j))) from by
              rw [HTK.out, HDA.out]
              exact hacc.put R_Dek uZ (by simp))
            have HRW2 := Lib.hid (show RowAt wE C 29 [.slice a9 (i + 1) c9, .slice p1 s.comps.length y1, .slice p2 s.meets.length y2, .slice p3 s.allow.length y3, .slice p4 s.hide.length y4] from by rw [hwE]; exact hC5.store 0 _)
            have HU9 := Lib.hid (show Upd [C] wB wE from by
              rw [hwE]
              refine ((((HU.out.fresh HXW.out (by simp)).alloc (.cells #[es dname, ei dpars, .slice ab body.length cb] 90)).grown hg9 (fun c hc => Or.inl ?_))).setCell (Or.inr (by simp)) _
              exact (HOW.out.lt c (by rw [HLL.out]; exact hc)).1)
            clear hacc hown5 hg5 ht5 hg9 hv5 hnC uZ hown1 D0 D1 D2 C0 E0 HOW HRO HVZ HEX HNW
            go_upto_region 17 with (fail)
            try rw [← hwE]
            clear hwE hC5 C5 E5
            go_wp2_with fail
            go_roundw
            case rel => exact ⟨i + 1, .slice a9 (i + 1) c9, by omega, by go_num, HU9, HRW2, HAC2⟩
            case measure => simp [intOf]; omega
      · obtain rfl : i = us.length := by omega
        have hcc : ∀ c ∈ g1, c ∉ [C] := fun c hc hm => by have := (HG1.out c hc).2; simp at hm; omega
        have HC0 := Lib.hid (show R_Co1 g1 wo [.slice p1 s.comps.length y1] (parG (renCo us) s.comps 0) ∧ Own g1 wo from by
          rw [parG_zero]
          exact ⟨R_Co1k.upd HRR.out.1 HU.out hcc, (own_split HRR.out.2.2.2.2).1.upd HU.out hcc⟩)
        have hall : (#[dv, .slice p1 s.comps.length y1, .slice p2 s.meets.length y2, .slice p3 s.allow.length y3, .slice p4 s.hide.length y4] : Array Value).all (·.oneCell') = true := by obtain ⟨a9, c9, rfl⟩ := HAC.out.form; simp [Value.oneCell']
        have HALL := Lib.hid hall
        clear hall
        have HAC := Lib.hid (show AccZ 3 R_De wB.heap.size 90 [C] wo dv (us.map (fun j => renDe us (defAt s j))) from by have h := HAC.out; rwa [List.take_length] at h)
        have C1 := HRW.out.cell 1 _ rfl
        clear S3 HL HBD hcc
        go_wp2_with fail
        go_loopw [65] (fun xv wr => ∃ k : Nat, k ≤ s.comps.length ∧ xv = .int .i64 k ∧ Hid (Upd g1 wo wr) ∧ Hid (R_Co1 g1 wr [.slice p1 s.comps.length y1] (parG (renCo us) s.comps k) ∧ Own g1 wr)) (fun xv _ => s.comps.length - (intOf xv).toNat)
        case atStart => exact ⟨0, Nat.zero_le _, rfl, Lib.hid (Upd.refl _ _), HC0⟩
        case round =>
          clear HC0 C1
          obtain ⟨wp, rfl⟩ : ∃ wp : World, wp = wr := ⟨_, rfl⟩
          obtain ⟨k, hk, rfl, HX, HP⟩ := hrel
          have hCg : C ∉ g1 := fun hm => by have := (HG1.out C hm).2; omega
          have hrCp := HRW.out.upd HX.out hCg
          by_cases hkl : k < s.comps.length
          · have hkl2 : (k : Int) < (s.comps.length : Int) := by omega
            have hpl := parG_len (renCo us) s.comps k
            obtain ⟨b, off, cap, pa, pc, hve, hbf, hbl2, s0, s1, hput⟩ := comp_at HP.out.1 HP.out.2 k (by omega)
            simp only [Value.slice.injEq] at hve
            obtain ⟨rfl, -, rfl⟩ := hve
            have hget := parG_get (renCo us) s.comps k hkl (by omega)
            rw [hget] at s0 s1 hput
            have HST := Lib.hid (parG_set (renCo us) s.comps k hkl)
            have HPT := Lib.hid hput
            generalize s.comps[k] = c at *
            obtain ⟨dfn, vals⟩ := c
            simp only at *
            obtain ⟨T, hT⟩ : ∃ T, T = wp.heap.size := ⟨_, rfl⟩
            obtain ⟨wT, hwT⟩ : ∃ q, q = wp.alloc (.cells #[ei dfn, .slice pa vals.length pc] 38) := ⟨_, rfl⟩
            have uT : Upd [] wp wT := by rw [hwT]; exact (Upd.refl _ _).alloc _
            have hrT : RowAt wT T 38 [ei dfn, .slice pa vals.length pc] := by rw [hwT, hT]; exact RowAt.new _ _ _
            have UT := Lib.hid uT
            have D2 := (hrCp.upd uT (by simp)).cell 1 _ rfl
            have t0 := hrT.cell 0 _ rfl
            have g9 := uT.keep s0
            have hbT : b < T := by rw [hT]; exact hbl2
            have hbC : b < C := (HG1.out b hbf).2
            have HXT := Lib.hid (HX.out.fresh uT (by simp))
            clear hput hget hpl uT hrT HX hrCp hCg
            go_upto_region 21 with (fail)
            rw [← hwT, ← hT]
            clear hwT hT s0 s1
            obtain ⟨e1', hp1, hp2⟩ := HPT.out wT (plcF us dfn) UT.out
            have e1 : wT.drew.frozen? ⟨b, off + k * 2, none⟩ = false := e1'
            have HP2 := Lib.hid (show R_Co1 g1 (wT.setCell ⟨b, off + k * 2, none⟩ (ei (plcF us dfn))).drew [.slice (some ⟨b, off, none⟩) s.comps.length y1] (parG (renCo us) s.comps (k + 1)) ∧ Own g1 (wT.setCell ⟨b, off + k * 2, none⟩ (ei (plcF us dfn))).drew from by
              rw [← HST.out]; exact ⟨R_Co1k.upd hp1 (Upd.refl [] _).drew (by simp), hp2.upd (Upd.refl [] _).drew (by simp)⟩)
            have HX2 := Lib.hid (show Upd g1 wo (wT.setCell ⟨b, off + k * 2, none⟩ (ei (plcF us dfn))).drew from ((HXT.out).setCell (Or.inr hbf) _).drew)
            have SI := Lib.hid (indexZ _ us dfn wT.drew fu (RU.out wT.drew g1 (by
              have h1 : Upd g1 w2 wo := (HUW.out.mono (by simp))
              exact (h1.fresh HXT.out (fun c hc => Or.inr hc)).drew) (fun c hc => (HG1.out c hc).1)))
            have d1 : wT.drew.cell? ⟨T, 0, none⟩ = some (ei dfn) := t0
            have d2 : wT.drew.cell? ⟨C, 1, none⟩ = some (.slice (some ⟨b, off, none⟩) s.comps.length y1) := D2
            have d3 : wT.drew.cell? ⟨b, off + k * 2, none⟩ = some (ei dfn) := g9
            obtain ⟨wQ, hwQ⟩ : ∃ q, q = (wT.setCell ⟨b, off + k * 2, none⟩ (ei (plcF us dfn))).drew := ⟨_, rfl⟩
            rw [← hwQ] at HP2 HX2
            have HWQ := Lib.hid hwQ
            clear HP HPT HST hp1 hp2 HXT hwQ
            generalize plcF us dfn = m at *
            have k1 := far_cell (o := off + k * 2) (v := .int .i64 m) D2 hbC
            have k2 := far_cell (o := off + k * 2) (v := .int .i64 m) t0 hbT
            go_wp2_with fail
            go_region_held3 (fun w' => w'.cell? ⟨C, 1, none⟩ = some (.slice (some ⟨b, off, none⟩) s.comps.length y1) ∧ w'.cell? ⟨T, 0, none⟩ = some (ei dfn)) (first | exact ⟨k1, k2⟩ | go_keep | (go_split_ands; exact ⟨k1, k2⟩) | simp [*])
              (first
                | ((go_at_call 81); (refine SI.out.mono ?_); rintro e w9 ⟨rfl, rfl⟩))
            try rw [← HWQ.out]
            clear SI d1 d2 d3 e1 e1' k1 k2 D2 t0 g9 HWQ
            go_wp2_with fail
            go_roundw
            case rel => exact ⟨k + 1, by omega, by go_num, HX2, HP2⟩
            case measure => simp [intOf]; omega
          · obtain rfl : k = s.comps.length := by omega
            have hrCp := HRW.out.upd HX.out (fun hm => by have := (HG1.out C hm).2; omega)
            have hAp := (HAB.out.upd HU.out (by intro hm; simp at hm; omega)).upd HX.out (fun hm => by have := (HG1.out _ hm).1; omega)
            have hP := HP.out
            rw [parG_all] at hP
            obtain ⟨fd, rd, od, gd⟩ := (HAC.out.reex R_Dek HX.out (fun b hb => Or.inr (by have := (HG1.out b hb).2; omega)) (Nat.le_refl _) (ex' := []) (by simp) (by simp)).new (w0 := wB) rfl
            obtain ⟨q1, q2, q3, q4, qo⟩ := HRR.out
            obtain ⟨qo1, qo2, hdis⟩ := own_split qo
            have hcc : ∀ c ∈ g2 ++ (g3 ++ g4), c ∉ [C] := fun c hc hm => by have := (HGE.out c (List.mem_append_right _ hc)).2; simp at hm; omega
            have hdg : ∀ c ∈ g2 ++ (g3 ++ g4), c ∉ g1 := fun c hc hm => hdis c hm hc
            have HNE := Lib.hid (show NewQ R_Sy w2 wp [dv, .slice p1 s.comps.length y1, .slice p2 s.meets.length y2, .slice p3 s.allow.length y3, .slice p4 s.hide.length y4] (pruneL us s) from by
              refine ⟨fd ++ (g1 ++ (g2 ++ (g3 ++ g4))), ⟨_, _, _, _, _, fd, g1, g2, g3, g4, rfl, rd, ?_, R_Me1k.upd (R_Me1k.upd q2 HU.out (fun c hc => hcc c (by simp [hc]))) HX.out (fun c hc => hdg c (by simp [hc])), R_S1k.upd (R_S1k.upd q3 HU.out (fun c hc => hcc c (by simp [hc]))) HX.out (fun c hc => hdg c (by simp [hc])), R_S1k.upd (R_S1k.upd q4 HU.out (fun c hc => hcc c (by simp [hc]))) HX.out (fun c hc => hdg c (by simp [hc])), rfl⟩, own_join od (own_join hP.2 ((qo2.upd HU.out hcc).upd HX.out hdg) hdis) (fun c hc hm => ?_), fun c hc => ?_⟩
              · have h := hP.1
                show R_Co1 g1 wp [.slice p1 s.comps.length y1] (s.comps.map (renCo us))
                exact h
              · have h1 := (gd c hc).1
                have h2 := (HGE.out c hm).2
                omega
              · rcases List.mem_append.1 hc with h | h
                · have h1 := (gd c h).1; omega
                · exact (HGE.out c h).1)
            have HUE := Lib.hid (show Upd [] w wp from by
              refine ((HU2.out.trans HU3.out).fresh HU.out (fun c hc => Or.inl ?_)).fresh HX.out (fun c hc => Or.inl ?_)
              · simp at hc; subst hc; have := HU2.out.size; omega
              · have h1 := (HG1.out c hc).1; have := HU2.out.size; omega)
            have HR5 := Lib.hid hrCp
            have HA5 := Lib.hid hAp
            clear hrCp hAp hP rd od gd q1 q2 q3 q4 qo qo1 qo2 hdis hcc hdg HP HRR HAC HX
            have hr5 := HR5.out
            have hA5 := HA5.out
            unfold RowAt at hr5 hA5
            go_upto_region 23 with (fail)
            go_wp2_with (first
              | (refine wpList_load_row rfl 29 _ rfl C rfl 29 #[dv, .slice p1 s.comps.length y1, .slice p2 s.meets.length y2, .slice p3 s.allow.length y3, .slice p4 s.hide.length y4] (0, 0) _ hr5 Tryz.underlying29 rfl Sy_size ?_)
              | (refine wpList_store_row rfl 29 _ _ rfl (B + 1) #[dv, .slice p1 s.comps.length y1, .slice p2 s.meets.length y2, .slice p3 s.allow.length y3, .slice p4 s.hide.length y4] rfl rfl 29 _ hA5 Sy_size rfl HALL.out ?_)
              | fail)
            have hr : RowAt (wp.setRow (B + 1) #[dv, .slice p1 s.comps.length y1, .slice p2 s.meets.length y2, .slice p3 s.allow.length y3, .slice p4 s.hide.length y4]) (B + 1) 29 [dv, .slice p1 s.comps.length y1, .slice p2 s.meets.length y2, .slice p3 s.allow.length y3, .slice p4 s.hide.length y4] := HA5.out.row _
            have n0 := hr.cell 0 _ rfl
            have n1 := hr.cell 1 _ rfl
            have n2 := hr.cell 2 _ rfl
            have n3 := hr.cell 3 _ rfl
            have n4 := hr.cell 4 _ rfl
            refine bodyPost_ret (v := .tuple #[.agg #[dv, .slice p1 s.comps.length y1, .slice p2 s.meets.length y2, .slice p3 s.allow.length y3, .slice p4 s.hide.length y4], .int .i64 0]) (by simp [results, Tryz.results29, go_sem, n0, n1, n2, n3, n4]) rfl ?_
            rw [HZ.out]
            exact gaveSy (us := [dv, .slice p1 s.comps.length y1, .slice p2 s.meets.length y2, .slice p3 s.allow.length y3, .slice p4 s.hide.length y4]) (W := w2) HNE.out rfl HALL.out HUE.out (by have := HBB.out; omega) hAB HU2.out.size

end Go.Proofs.YtnchmnjkmhfleaaGreat

/-
  Definitions of a system that a call has made, some of them collected in their order while their bodies are changed.
-/
namespace Go.Proofs.YtnchmnjkmhfleaaGreat
open Go.RowKit

theorem sub_pick {β : Type} (d : β) : ∀ (l : List β) (J : List Nat) (k : Nat), J.Pairwise (· < ·) → (∀ j ∈ J, k ≤ j ∧ j < k + l.length) → (J.map (fun j => l.getD (j - k) d)).Sublist l
  | [], J, k, _, h => by
    cases J with
    | nil => simp
    | cons j r => have := h j (by simp); simp at this; omega
  | x :: r, [], k, _, _ => by simp
  | x :: r, j :: J, k, hp, h => by
    have hj := h j (by simp)
    have hlt : ∀ i ∈ J, j < i := fun i hi => List.rel_of_pairwise_cons hp hi
    by_cases e : j = k
    · subst e
      have hrest : ∀ i ∈ J, j + 1 ≤ i ∧ i < (j + 1) + r.length := fun i hi => by
        have h1 := hlt i hi
        have h2 := (h i (by simp [hi])).2
        simp at h2
        omega
      have ih := sub_pick d r J (j + 1) hp.of_cons hrest
      have e2 : J.map (fun i => (x :: r).getD (i - j) d) = J.map (fun i => r.getD (i - (j + 1)) d) := List.map_congr_left (fun i hi => by
        have := hrest i hi
        rw [show i - j = (i - (j + 1)) + 1 by omega, List.getD_cons_succ])
      rw [List.map_cons, Nat.sub_self, e2, List.getD_cons_zero]
      exact ih.cons_cons x
    · have hall : ∀ i ∈ j :: J, k + 1 ≤ i ∧ i < (k + 1) + r.length := fun i hi => by
        have h2 := h i hi
        simp at h2
        rcases List.mem_cons.1 hi with rfl | hi
        · omega
        · have := hlt i hi; omega
      have ih := sub_pick d r (j :: J) (k + 1) hp hall
      have e2 : (j :: J).map (fun i => (x :: r).getD (i - k) d) = (j :: J).map (fun i => r.getD (i - (k + 1)) d) := List.map_congr_left (fun i hi => by
        have := hall i hi
        rw [show i - k = (i - (k + 1)) + 1 by omega, List.getD_cons_succ])
      rw [e2]
      exact ih.cons x
theorem flat_sub {β : Type} {a b : List (List β)} (h : a.Sublist b) : a.flatten.Sublist b.flatten := by
  induction h with
  | slnil => simp
  | cons x _ ih => rw [List.flatten_cons]; exact ih.trans (List.sublist_append_right _ _)
  | cons_cons x _ ih => rw [List.flatten_cons, List.flatten_cons]; exact (List.Sublist.refl x).append ih

theorem ownsRow_far {w w1 : World} {base : Nat} {e : TypeId} {size n : Nat} {v : Value} {xs : List Value} (h : w.ownsRow base e size v n xs) {f : List Nat} (hu : Upd f w w1) (hf : ∀ b, v.ownBlock = some b → b ∉ f) : w1.ownsRow base e size v n xs := by
  rcases h with ⟨q0, q1 | ⟨g, cap, cur, rfl, hg, hh, r1, r2, r3, r4⟩⟩
  · exact ⟨q0, Or.inl q1⟩
  · exact ⟨q0, Or.inr ⟨g, cap, cur, rfl, hg, by rw [hu.block g (Array.getElem?_eq_some_iff.1 hh).1 (hf g rfl)]; exact hh, r1, r2, r3, r4⟩⟩
theorem not_taken {us : List Int} (hp : us.Pairwise (· < ·)) (i : Nat) (h : i < us.length) : (us.take i).contains us[i] = false := by
  rw [Bool.eq_false_iff]
  intro hc
  have hm : us[i] ∈ us.take i := by simpa using hc
  obtain ⟨k, hk, he⟩ := List.mem_iff_getElem.1 hm
  rw [List.length_take] at hk
  have h2 := List.pairwise_iff_getElem.1 hp k i (by omega) h (by omega)
  rw [List.getElem_take] at he
  omega

/-- definitions in memory, the cells of each and its own blocks told. -/
structure DefsAt (w : World) (uss : List (List Value)) (fps : List (List Nat)) (xs : List De) : Prop where
  fl : fps.length = xs.length
  ul : uss.length = xs.length
  u3 : ∀ u ∈ uss, u.length = 3
  own : Own fps.flatten w
  each : ∀ i (h : i < xs.length) u f, uss[i]? = some u → fps[i]? = some f → R_De f w u xs[i]
namespace DefsAt
variable {w w' : World} {uss : List (List Value)} {fps : List (List Nat)} {xs : List De}
theorem upd (h : DefsAt w uss fps xs) {f : List Nat} (hu : Upd f w w') (hf : ∀ b ∈ f, b ∉ fps.flatten) : DefsAt w' uss fps xs :=
  ⟨h.fl, h.ul, h.u3, h.own.upd hu (fun b hb hm => hf b hm hb), fun i hi u g h1 h2 => R_Dek.upd (h.each i hi u g h1 h2) hu (fun b hb hm => hf b hm (List.mem_flatten.2 ⟨g, List.mem_of_getElem? h2, hb⟩))⟩
theorem at' (h : DefsAt w uss fps xs) (j : Nat) (hj : j < xs.length) : ∃ u f, uss[j]? = some u ∧ fps[j]? = some f ∧ u.length = 3 ∧ (∀ c ∈ f, c ∈ fps.flatten) ∧ R_De f w u xs[j] ∧ Own f w ∧
    ∀ w' y, Upd f w w' → R_De f w' u y → Own f w' → DefsAt w' uss fps (xs.set j y) := by
  have h1 := h.fl
  have h2 := h.ul
  have hu : uss[j]? = some (uss[j]'(by omega)) := List.getElem?_eq_getElem _
  have hf : fps[j]? = some (fps[j]'(by omega)) := List.getElem?_eq_getElem _
  have hsub : ∀ c ∈ fps[j]'(by omega), c ∈ fps.flatten := fun c hc => List.mem_flatten.2 ⟨_, List.getElem_mem _, hc⟩
  have hnf := h.own.1
  rw [nodup_flatten'] at hnf
  have hother : ∀ i g, fps[i]? = some g → i ≠ j → ∀ c ∈ g, c ∉ fps[j]'(by omega) := by
    intro i g hg hij c hcg hci
    have hp := List.pairwise_iff_getElem.1 hnf.2
    obtain ⟨hil, rfl⟩ := List.getElem?_eq_some_iff.1 hg
    rcases Nat.lt_or_gt_of_ne hij with h | h
    · exact hp i j hil (by omega) h _ hcg _ hci rfl
    · exact hp j i (by omega) hil h _ hci _ hcg rfl
  refine ⟨_, _, hu, hf, h.u3 _ (List.getElem_mem _), hsub, h.each j hj _ _ hu hf, ⟨hnf.1 _ (List.getElem_mem _), fun b hb => h.own.2 b (hsub b hb)⟩, fun w' y hU hR hO => ⟨by simpa using h1, by simpa using h2, h.u3, ⟨h.own.1, fun b hb => ?_⟩, fun i hi u g hu' hg' => ?_⟩⟩
  · by_cases hbj : b ∈ fps[j]'(by omega)
    · exact hO.2 b hbj
    · obtain ⟨c, t, hh⟩ := h.own.2 b hb
      exact ⟨c, t, by rw [hU.block b (Array.getElem?_eq_some_iff.1 hh).1 hbj]; exact hh⟩
  · by_cases hij : i = j
    · subst hij
      rw [hu] at hu'; rw [hf] at hg'
      cases hu'; cases hg'
      simpa using hR
    · rw [List.getElem_set_ne (by omega)]
      exact R_Dek.upd (h.each i (by simpa using hi) u g hu' hg') hU (fun c hc hm => hother i g hg' hij c hc hm)
theorem fin (h : DefsAt w uss fps xs) {base : Nat} {e : TypeId} {v : Value} {J : List Nat} (hp : J.Pairwise (· < ·)) (hr : ∀ j ∈ J, j < xs.length)
    (ho : w.ownsRow base e 3 v J.length (J.map (fun j => uss.getD j [])).flatten) (hb : ∀ b ∈ fps.flatten, b < base) (d : De) :
    ∃ fp, slQ 3 R_De fp w [v] (J.map (fun j => xs.getD j d)) ∧ Own fp w ∧ ∀ b ∈ fp, base ≤ b ∨ b ∈ fps.flatten := by
  have h1 := h.fl
  have h2 := h.ul
  obtain ⟨fb, ⟨a, cap, rfl, r1, r2, -, r4⟩, g2, g3, g4⟩ := Flat.ofOwns ho
  have hs0 := sub_pick ([] : List Nat) fps J 0 hp (fun j hj => ⟨Nat.zero_le _, by have := hr j hj; omega⟩)
  simp only [Nat.sub_zero] at hs0
  have hs := flat_sub hs0
  have hu3 : ∀ u ∈ J.map (fun j => uss.getD j []), u.length = 3 := fun u hu => by
    obtain ⟨j, hj, rfl⟩ := List.mem_map.1 hu
    have hjl : j < uss.length := by have := hr j hj; omega
    rw [List.getD_eq_getElem?_getD, List.getElem?_eq_getElem hjl]
    exact h.u3 _ (List.getElem_mem _)
  refine ⟨fb ++ (J.map (fun j => fps.getD j [])).flatten, ⟨a, cap, J.map (fun j => uss.getD j []), fb, J.map (fun j => fps.getD j []), by simp, by simpa using r1, r2, by simp, hu3, by simp, rfl, ?_, fun i hi u f hu hf => ?_⟩, own_join g2 ⟨h.own.1.sublist hs, fun b hb => h.own.2 b (hs.subset hb)⟩ (fun b hb1 hb2 => ?_), fun b hb1 => ?_⟩
  · rcases r4 with r4 | ⟨b, off, rfl, rfl, hbl, hc⟩
    · exact Or.inl (by simpa using r4)
    · refine Or.inr ⟨b, off, rfl, rfl, hbl, fun i j u c hu hj => ?_⟩
      rw [Nat.add_assoc]
      exact hc _ _ (flat_at hu3 hu hj)
  · rw [List.getElem?_map] at hu hf
    have hi' : i < J.length := by simpa using hi
    rw [List.getElem?_eq_getElem hi'] at hu hf
    simp only [Option.map_some, Option.some.injEq] at hu hf
    have hj := hr _ (List.getElem_mem hi')
    rw [List.getElem_map, List.getD_eq_getElem?_getD, List.getElem?_eq_getElem hj]
    refine h.each J[i] hj u f ?_ ?_
    · rw [← hu, List.getD_eq_getElem?_getD, List.getElem?_eq_getElem (by omega)]; rfl
    · rw [← hf, List.getD_eq_getElem?_getD, List.getElem?_eq_getElem (by omega)]; rfl
  · have h3 := g3 b hb1
    have h4 := hb b (hs.subset hb2)
    omega
  · rcases List.mem_append.1 hb1 with h5 | h5
    · exact Or.inl (g3 b h5)
    · exact Or.inr (hs.subset h5)
end DefsAt

/-- what a made list of definitions is, told row by row. -/
theorem defs_at {fp : List Nat} {w : World} {v : Value} {xs : List De} (h : R_De1 fp w [v] xs) (hO : Own fp w) (h0 : 0 < xs.length) :
    ∃ b off cap uss fps, v = .slice (some ⟨b, off, none⟩) xs.length cap ∧ xs.length ≤ cap ∧ cap ≤ maxLen ∧ b ∈ fp ∧ b < w.heap.size ∧ (∀ c ∈ fps.flatten, c ∈ fp ∧ c ≠ b) ∧ DefsAt w uss fps xs ∧ ∀ (i j : Nat) (u : List Value) (c : Value), uss[i]? = some u → u[j]? = some c → w.cell? ⟨b, off + i * 3 + j, none⟩ = some c := by
  obtain ⟨a, cap, us, fb, fps, hv, h1, h2, hu, hn, hl, rfl, hb, hr⟩ := h
  cases hv
  rcases hb with ⟨hx, -⟩ | ⟨b, off, rfl, rfl, hbl, hc⟩
  · omega
  · obtain ⟨-, ho, hd⟩ := own_split hO
    exact ⟨b, off, cap, us, fps, rfl, h1, h2, by simp, hbl, fun c hc' => ⟨List.mem_append_right _ hc', fun e => hd b (by simp) (e ▸ hc')⟩, ⟨hl, hu, hn, ho, hr⟩, hc⟩

/-- the definitions of a system, those of T with other numbers. -/
def xsT (us : List Int) (s : Sy) (T : List Int) : List De := (List.range s.defs.length).map (fun n : Nat => if T.contains (n : Int) = true then renDe us (defAt s (n : Int)) else defAt s (n : Int))
theorem xsT_len (us : List Int) (s : Sy) (T : List Int) : (xsT us s T).length = s.defs.length := by unfold xsT; simp
theorem xsT_get (us : List Int) (s : Sy) (T : List Int) (j : Nat) (h : j < (xsT us s T).length) : (xsT us s T)[j] = if T.contains (j : Int) = true then renDe us (defAt s (j : Int)) else defAt s (j : Int) := by
  have hj : j < s.defs.length := by rw [xsT_len] at h; exact h
  have hq : (xsT us s T)[j]? = some (if T.contains (j : Int) = true then renDe us (defAt s (j : Int)) else defAt s (j : Int)) := by
    unfold xsT; rw [List.getElem?_map, List.getElem?_range hj]; rfl
  exact Option.some.inj ((List.getElem?_eq_getElem h).symm.trans hq)
theorem xsT_nil (us : List Int) (s : Sy) : xsT us s [] = s.defs := by
  apply List.ext_getElem (xsT_len us s [])
  intro i h1 h2
  rw [xsT_get, if_neg (by simp)]; exact defAt_eq s i h2
theorem xsT_set (us : List Int) (s : Sy) (T : List Int) (j : Nat) : (xsT us s T).set j (renDe us (defAt s (j : Int))) = xsT us s (T ++ [(j : Int)]) := by
  apply List.ext_getElem (by rw [List.length_set, xsT_len, xsT_len])
  intro i h1 h2
  rw [List.getElem_set]
  by_cases e : j = i
  · subst e
    rw [if_pos rfl, xsT_get, if_pos (by simp)]
  · rw [if_neg e, xsT_get, xsT_get]
    have : (T ++ [(j : Int)]).contains (i : Int) = T.contains (i : Int) := by
      rw [Bool.eq_iff_iff]
      simp only [List.contains_iff_mem, List.mem_append, List.mem_singleton]
      constructor
      · rintro (h | h)
        · exact h
        · omega
      · exact Or.inl
    rw [this]
theorem xsT_all (us : List Int) (s : Sy) (d : De) (hr : ∀ x ∈ us, 0 ≤ x ∧ x < s.defs.length) : (us.map Int.toNat).map (fun j => (xsT us s us).getD j d) = us.map (fun j => renDe us (defAt s j)) := by
  rw [List.map_map]
  refine List.map_congr_left (fun x hx => ?_)
  have h := hr x hx
  obtain ⟨n, rfl⟩ : ∃ n : Nat, x = n := ⟨x.toNat, by omega⟩
  have hn : n < (xsT us s us).length := by rw [xsT_len]; omega
  show (xsT us s us).getD (n : Int).toNat d = _
  rw [Int.toNat_natCast, List.getD_eq_getElem?_getD, List.getElem?_eq_getElem hn, Option.getD_some, xsT_get, if_pos (by simpa using hx)]
theorem pickJ {us : List Int} (hp : us.Pairwise (· < ·)) (hr : ∀ x ∈ us, 0 ≤ x) : (us.map Int.toNat).Pairwise (· < ·) := by
  rw [List.pairwise_map]
  refine hp.imp_of_mem (fun {a b} ha hb h => ?_)
  have h1 := hr a ha
  have h2 := hr b hb
  omega

end Go.Proofs.YtnchmnjkmhfleaaGreat

/-
  PruneSystem: what the reference's call gives.
-/
namespace Go.Proofs.YtnchmnjkmhfleaaGreat
open Go.RowKit

set_option maxRecDepth 20000 in
set_option maxHeartbeats 40000000 in
theorem pruneS (cs : List Value) (s : Sy) (w : World) (fp : List Nat) (hR : R_Sy fp w cs s) (hF : SyFit s) :
    Calls Tryz.prog 28 #[.agg cs.toArray] w (GaveSy w (pruneF s)) := by
  obtain ⟨i0, hi9, hz0, hz1, hz2⟩ := info_parts Tryz.infoDe
  have hR' := hR
  obtain ⟨v0, v1, v2, v3, v4, f0, f1, f2, f3, f4, rfl, -, -, -, -, -, rfl⟩ := hR
  obtain ⟨B, hB⟩ : ∃ B, B = w.heap.size := ⟨_, rfl⟩
  obtain ⟨wA, hwA⟩ : ∃ wA, wA = (w.alloc (.cells #[v0, v1, v2, v3, v4] 29)).alloc (.cells #[.slice none 0 0, .slice none 0 0, .slice none 0 0, .slice none 0 0, .slice none 0 0] 29) := ⟨_, rfl⟩
  have s1 : (w.alloc (.cells #[v0, v1, v2, v3, v4] 29)).heap.size = B + 1 := by rw [hB]; simp
  have uA : Upd [] w wA := by rw [hwA]; exact ((Upd.refl _ _).alloc _).alloc _
  have HA := Lib.hid (show RowAt wA (B + 1) 29 zerosSy from by rw [hwA, ← s1]; exact RowAt.new _ _ _)
  have hL : RowAt wA B 29 [v0, v1, v2, v3, v4] := by rw [hwA, hB]; exact (RowAt.new _ _ _).upd ((Upd.refl [] _).alloc _) (by simp)
  have hAt : ∀ W, Upd [] wA W → SyAt B [v0, v1, v2, v3, v4] (f0 ++ (f1 ++ (f2 ++ (f3 ++ f4)))) W s := fun W hu => ⟨R_Syk.upd hR' (uA.trans hu) (by simp), fun j v hj => (hL.upd hu (by simp)).cell j v hj⟩
  have S1 := Lib.hid (sysIsS B _ _ s wA (hAt wA (Upd.refl _ _)) hF)
  have S2 := Lib.hid (fun W (hu : Upd [] wA W) (hk : sysOk s = true) => usedS B _ s W _ (hAt W hu) hk)
  have HAT := Lib.hid hAt
  have HCF := Lib.hid (fun (hk : sysOk s = true) => CpFit.of hk hF)
  have UA := Lib.hid uA
  have hszA : B + 2 ≤ wA.heap.size := by rw [hwA, hB]; simp
  have HK := Lib.hid (fun (h : sysOk s = true) => SyGd.of h)
  have HM := Lib.hid (show pruneF s = (if sysOk s = true then (pruneL (usedF s) s, 0) else (zeroSy, 1)) from rfl)
  have HUL := Lib.hid (used_len s)
  have HUM := Lib.hid (fun x (hx : x ∈ usedF s) => ((usedF_mem s x).1 hx).1)
  have HUP := Lib.hid (usedF_pair s)
  clear hR' uA s1 hL hAt
  generalize pruneF s = Z at *
  generalize hok : sysOk s = ok at *
  generalize usedF s = us at *
  go_enter Tryz.func28, Tryz.ntmps28
  go_upto_region 1 with (fail)
  rw [← hwA, ← hB]
  have HBB := Lib.hid hB
  clear hwA hB
  go_wp2_with fail
  refine S1.out.mono ?_
  rintro e w1 ⟨rfl, hu1⟩
  have UA1 := Lib.hid hu1
  have HU1 := Lib.hid (UA.out.trans hu1)
  have HA1 := Lib.hid (HA.out.upd hu1 (by simp))
  clear S1 hu1 HA
  cases ok with
  | false =>
    have HZ := Lib.hid (show Z = (zeroSy, 1) by rw [HM.out]; rfl)
    clear S2 HAT HCF HM HK HUL HUM HUP
    have hAx := HA1.out
    unfold RowAt at hAx
    go_wp2_with (first
      | (refine wpList_store_row rfl 29 _ _ rfl (B + 1) #[.slice none 0 0, .slice none 0 0, .slice none 0 0, .slice none 0 0, .slice none 0 0] rfl rfl 29 _ hAx Sy_size rfl (by simp [Value.oneCell']) ?_)
      | fail)
    have hr : RowAt (w1.setRow (B + 1) #[.slice none 0 0, .slice none 0 0, .slice none 0 0, .slice none 0 0, .slice none 0 0]) (B + 1) 29 [.slice none 0 0, .slice none 0 0, .slice none 0 0, .slice none 0 0, .slice none 0 0] := HA1.out.row zerosSy
    have n0 := hr.cell 0 _ rfl
    have n1 := hr.cell 1 _ rfl
    have n2 := hr.cell 2 _ rfl
    have n3 := hr.cell 3 _ rfl
    have n4 := hr.cell 4 _ rfl
    refine bodyPost_ret (v := .tuple #[.agg #[.slice none 0 0, .slice none 0 0, .slice none 0 0, .slice none 0 0, .slice none 0 0], .int .i64 1]) (by simp [results, Tryz.results28, go_sem, n0, n1, n2, n3, n4]) rfl ?_
    rw [HZ.out]
    exact gaveSy_zero _ _ _ (HU1.out.row (Or.inl (by have := HBB.out; omega)) _)
  | true =>
    have HZ := Lib.hid (show Z = (pruneL us s, 0) by rw [HM.out]; rfl)
    have hK := HK.out rfl
    have hcl := hK.cl
    have hdl := hK.dl
    have hd1 : 1 ≤ s.defs.length := (defs_fine hK.defs).2.1
    have hul : us.length ≤ 4 := by have := HUL.out; omega
    have HBD := Lib.hid (fun i (hi : i < s.defs.length) => show s.defs[i].body.length ≤ 20 from ((defs_fine hK.defs).2.2.2.2 _ (List.getElem_mem hi)).2.1)
    have T2 := Lib.hid (S2.out w1 UA1.out (by trivial))
    have S3 := Lib.hid (fun W (hu : Upd [] wA W) => ownSyS B _ _ s W (HAT.out W hu) (HCF.out (by first | rfl | trivial | assumption)))
    clear S2 HM HK HUL hok hK HAT HCF
    go_wp2_with fail
    refine T2.out.mono ?_
    rintro e w2 ⟨⟨vu, rfl, hnu⟩, hu2⟩
    obtain ⟨ua, uc, rfl⟩ := hnu.form
    obtain ⟨fu, ru, -, -⟩ := hnu
    have UA2 := Lib.hid (UA1.out.trans hu2)
    have HU2 := Lib.hid (HU1.out.trans hu2)
    have HA2 := Lib.hid (HA1.out.upd hu2 (by simp))
    have hfu := R_I1k.lt ru
    have RU := Lib.hid (fun W f (hu : Upd f w2 W) (hf : ∀ c ∈ f, w2.heap.size ≤ c) => R_I1k.upd ru hu (fun b hb hm => by have h1 := hfu b hb; have h2 := hf b hm; omega))
    have T3 := Lib.hid (S3.out w2 UA2.out)
    clear T2 hu2 HA1 hfu ru
    go_wp2_with fail
    refine T3.out.mono ?_
    rintro e w3 ⟨⟨us3, rfl, hl3, hc3, hn3⟩, hu3⟩
    obtain ⟨a0, b0, a1, b1, a2, b2, a3, b3, a4, b4, rfl⟩ := sy_form hn3
    obtain ⟨fp3, ⟨d0, d1, d2, d3, d4, g0, g1, g2, g3, g4, heq, r0, -, -, -, -, rfl⟩, ho3, hg3⟩ := hn3
    simp only [List.cons.injEq, and_true] at heq
    obtain ⟨rfl, -, -, -, -⟩ := heq
    obtain ⟨ho3a, -, -⟩ := own_split ho3
    obtain ⟨bd, od, capd, uss, fps, hvd, hle1, hle2, hbd0, hbdl, hfd, hda, hcell⟩ := defs_at r0 ho3a (by omega)
    simp only [Value.slice.injEq] at hvd
    obtain ⟨rfl, -, rfl⟩ := hvd
    obtain ⟨F, hF9⟩ : ∃ F, F = fps.flatten := ⟨_, rfl⟩
    obtain ⟨A, hA9⟩ : ∃ A, A = w3.heap.size := ⟨_, rfl⟩
    obtain ⟨wR, hwR⟩ : ∃ q, q = w3.alloc (.cells #[.slice (some ⟨bd, od, none⟩) s.defs.length b0, .slice a1 s.comps.length b1, .slice a2 s.meets.length b2, .slice a3 s.allow.length b3, .slice a4 s.hide.length b4] 29) := ⟨_, rfl⟩
    have uR : Upd [] w3 wR := by rw [hwR]; exact (Upd.refl _ _).alloc _
    have hrA : RowAt wR A 29 [.slice (some ⟨bd, od, none⟩) s.defs.length b0, .slice a1 s.comps.length b1, .slice a2 s.meets.length b2, .slice a3 s.allow.length b3, .slice a4 s.hide.length b4] := by rw [hwR, hA9]; exact RowAt.new _ _ _
    have hltF := hda.own.lt
    have HFG := Lib.hid (fun c (hc : c ∈ F) => show (w2.heap.size ≤ c ∧ c < A) ∧ c ≠ bd from by
      rw [hF9] at hc
      exact ⟨⟨hg3 c (List.mem_append_left _ (hfd c hc).1), by rw [hA9]; exact hltF c hc⟩, (hfd c hc).2⟩)
    have HBD9 := Lib.hid (show w2.heap.size ≤ bd ∧ bd < A from ⟨hg3 bd (List.mem_append_left _ hbd0), by rw [hA9]; exact hbdl⟩)
    have HDA := Lib.hid hda
    have HCL := Lib.hid hcell
    have HFE := Lib.hid hF9
    have HRA := Lib.hid hrA
    have HU3 := Lib.hid (hu3.trans uR)
    have HUR := Lib.hid uR
    have hA2 : w2.heap.size ≤ A := by rw [hA9]; exact hu3.size
    have UA3 := Lib.hid (UA2.out.trans (hu3.trans uR))
    have T4 := Lib.hid (S3.out wR UA3.out)
    have hAR : A < wR.heap.size := hrA.lt
    go_upto_region 5 with (fail)
    rw [← hwR, ← hA9]
    clear hwR hA9 uR hrA hltF ho3 ho3a hg3 hfd hda hcell r0 hu3 hl3 hc3 T3 hbd0 hbdl hle1 hle2 hF9 g0 g1 g2 g3 g4 d1 d2 d3 d4
    go_wp2_with fail
    refine T4.out.mono ?_
    rintro e w4 ⟨⟨us4, rfl, hl4, hc4, hn4⟩, hu4⟩
    obtain ⟨p0, y0, p1, y1, p2, y2, p3, y3, p4, y4, rfl⟩ := sy_form hn4
    obtain ⟨fp4, ⟨d0, d1, d2, d3, d4, g0, g1, g2, g3, g4, heq, -, r1, r2, r3, r4, rfl⟩, ho4, hg4⟩ := hn4
    simp only [List.cons.injEq, and_true] at heq
    obtain ⟨rfl, rfl, rfl, rfl, rfl⟩ := heq
    obtain ⟨-, ho, -⟩ := own_split ho4
    obtain ⟨C, hC⟩ : ∃ C, C = w4.heap.size := ⟨_, rfl⟩
    obtain ⟨wC, hwC⟩ : ∃ q, q = w4.alloc (.cells #[.slice p0 s.defs.length y0, .slice p1 s.comps.length y1, .slice p2 s.meets.length y2, .slice p3 s.allow.length y3, .slice p4 s.hide.length y4] 29) := ⟨_, rfl⟩
    have uC : Upd [] w4 wC := by rw [hwC]; exact (Upd.refl _ _).alloc _
    have hrC0 : RowAt wC C 29 [.slice p0 s.defs.length y0, .slice p1 s.comps.length y1, .slice p2 s.meets.length y2, .slice p3 s.allow.length y3, .slice p4 s.hide.length y4] := by rw [hwC, hC]; exact RowAt.new _ _ _
    have hlt1 := R_Co1k.lt r1
    have hRw4 := hu4.size
    have HG1 := Lib.hid (fun b (hb : b ∈ g1) => show A < b ∧ b < C from ⟨by have := hg4 b (by simp [hb]); omega, by rw [hC]; exact hlt1 b hb⟩)
    have HGE := Lib.hid (fun b (hb : b ∈ g1 ++ (g2 ++ (g3 ++ g4))) => show A < b ∧ b < C from ⟨by have := hg4 b (List.mem_append_right _ hb); omega, by rw [hC]; exact ho.lt b hb⟩)
    have hCA : A < C := by rw [hC]; omega
    have hCw : C < wC.heap.size := hrC0.lt
    obtain ⟨T0, hT0⟩ : ∃ T, T = wC.heap.size := ⟨_, rfl⟩
    obtain ⟨wT, hwT⟩ : ∃ q, q = wC.setCell ⟨C, 0, none⟩ (.slice (some ⟨T0, 0, none⟩) 0 0) := ⟨_, rfl⟩
    obtain ⟨wB, hwB⟩ : ∃ q, q = (wC.setCell ⟨C, 0, none⟩ (.slice (some ⟨T0, 0, none⟩) 0 0)).alloc (.cells #[] 90) := ⟨_, rfl⟩
    have hsT : wT.heap.size = T0 := by rw [hwT, hT0]; simp
    have hwB2 : wB = wT.alloc (.cells #[] 90) := by rw [hwB, hwT]
    have hrow : wB.ownsRow T0 90 3 (.slice (some ⟨T0, 0, none⟩) 0 0) 0 [] := by
      rw [hwB2, ← hsT]
      simpa using World.ownsRow_lit (base := wT.heap.size) (e := 90) (size := 3) wT #[] 0 (Nat.le_refl _) (by simp [maxLen]) (by simp)
    have hrCT : RowAt wT C 29 [.slice (some ⟨T0, 0, none⟩) 0 0, .slice p1 s.comps.length y1, .slice p2 s.meets.length y2, .slice p3 s.allow.length y3, .slice p4 s.hide.length y4] := by rw [hwT]; exact hrC0.store 0 _
    have uB : Upd [] w4 wB := by rw [hwB]; exact (uC.setCell (Or.inl (by rw [hC]; exact Nat.le_refl _)) _).alloc _
    have hrC : RowAt wB C 29 [.slice (some ⟨T0, 0, none⟩) 0 0, .slice p1 s.comps.length y1, .slice p2 s.meets.length y2, .slice p3 s.allow.length y3, .slice p4 s.hide.length y4] := by rw [hwB2]; exact hrCT.upd ((Upd.refl [] _).alloc _) (by simp)
    have hCT : C < T0 := by omega
    have hTB1 : wB.heap.size ≤ T0 + 1 := by rw [hwB2]; simp; omega
    have HROW := Lib.hid hrow
    have HRR := Lib.hid (And.intro (R_Co1k.upd r1 uB (by simp)) (And.intro (R_Me1k.upd r2 uB (by simp)) (And.intro (R_S1k.upd r3 uB (by simp)) (And.intro (R_S1k.upd r4 uB (by simp)) (ho.upd uB (by simp))))))
    have HRC := Lib.hid hrC
    have u3B : Upd [] wR wB := hu4.trans uB
    have HU4 := Lib.hid (HU3.out.trans u3B)
    have HRB := Lib.hid (HRA.out.upd u3B (by simp))
    have HDB := Lib.hid (show DefsAt wB uss fps (xsT us s []) from by rw [xsT_nil]; exact HDA.out.upd (HUR.out.trans u3B) (by simp))
    have HCB := Lib.hid (fun i j u c h1 h2 => (HUR.out.trans u3B).keep (HCL.out i j u c h1 h2))
    have HAB := Lib.hid ((HA2.out.upd HU3.out (by simp)).upd u3B (by simp))
    have hAB := HA2.out.lt
    have hTB : T0 < wB.heap.size := (HROW.out.lt T0 rfl).2
    have uCA : Upd [] wC (wC.alloc (.cells #[] 90)) := (Upd.refl _ _).alloc _
    have E0 := (hrC0.upd uCA (by simp)).fz 0
    have X0 := (hrC0.upd uCA (by simp)).cell 0 _ rfl
    go_upto_region 6 with (fail)
    rw [← hwC, ← hC]
    clear hwC hC
    have HWT := Lib.hid (And.intro hT0 hwB)
    clear hT0 hwB hwB2 hwT hsT
    go_upto_region 7 with (fail)
    rw [← HWT.out.1, ← HWT.out.2]
    clear HWT E0 X0 uCA hrow hrCT hrC hrC0 uC uB u3B r1 r2 r3 r4 ho ho4 hg4 hlt1 hl4 hc4 hu4 T4 S3 HA2 HUR HDA HCL HRA
    go_wp2_with fail
    go_loopw [7] (fun iv wr => ∃ (i : Nat) (dv : Value), i ≤ us.length ∧ iv = .int .i64 i ∧ Hid (Upd (C :: T0 :: F) wB wr) ∧ Hid (RowAt wr C 29 [dv, .slice p1 s.comps.length y1, .slice p2 s.meets.length y2, .slice p3 s.allow.length y3, .slice p4 s.hide.length y4]) ∧ Hid (wr.ownsRow T0 90 3 dv i (((us.take i).map Int.toNat).map (fun n => uss.getD n [])).flatten) ∧ Hid (DefsAt wr uss fps (xsT us s (us.take i)))) (fun iv _ => us.length - (intOf iv).toNat)
    case atStart => exact ⟨0, _, Nat.zero_le _, rfl, Lib.hid (Upd.refl _ _), HRC, HROW, HDB⟩
    case round =>
      clear HRC HROW HDB
      obtain ⟨wo, rfl⟩ : ∃ wo : World, wo = wr := ⟨_, rfl⟩
      obtain ⟨i, dv, hi, rfl, HU, HRW, HRO, HDS⟩ := hrel
      have hszo := HU.out.size
      by_cases hlt : i < us.length
      · have hil : (i : Int) < (us.length : Int) := by omega
        have huw : Upd (C :: T0 :: F) w2 wo := (HU4.out.mono (by simp)).trans HU.out
        have hwC : ∀ c ∈ C :: T0 :: F, w2.heap.size ≤ c := fun c hc => by
          rcases List.mem_cons.1 hc with rfl | hc
          · omega
          · rcases List.mem_cons.1 hc with rfl | hc
            · omega
            · exact (HFG.out c hc).1.1
        obtain ⟨bu, ou, rfl, hbul, q1⟩ : ∃ b off, ua = some ⟨b, off, none⟩ ∧ b < wo.heap.size ∧ wo.cell? ⟨b, off + i, none⟩ = some (ei us[i]) := by
          obtain ⟨ra, rc, hrv, -, -, hrc⟩ := slF1_open (RU.out wo _ huw hwC)
          cases hrv
          obtain ⟨b, off, e, -, hb, h⟩ := hrc i hlt
          exact ⟨b, off, e, hb, h⟩
        have hj := HUM.out _ (List.getElem_mem hlt)
        have HNT := Lib.hid (not_taken HUP.out i hlt)
        have HTK := Lib.hid (show us.take (i + 1) = us.take i ++ [us[i]] from List.take_succ_eq_append_getElem hlt)
        generalize us[i] = j at *
        obtain ⟨j0, rfl⟩ : ∃ n : Nat, j = n := ⟨j.toNat, by omega⟩
        have hj0 : j0 < s.defs.length := by omega
        have hjl : (j0 : Int) < (s.defs.length : Int) := by omega
        have hxl := xsT_len us s (us.take i)
        obtain ⟨ud, fd, hud, hfd, hul3, hfs, hrd, hofd, hset⟩ := HDS.out.at' j0 (by omega)
        have hgx := xsT_get us s (us.take i) j0 (by omega)
        rw [HNT.out, if_neg (by simp), defAt_eq s j0 hj0] at hgx
        rw [hgx] at hrd
        have hAF : A ∉ C :: T0 :: F := fun hm => by
          rcases List.mem_cons.1 hm with h | h
          · omega
          · rcases List.mem_cons.1 h with h | h
            · omega
            · have := (HFG.out A h).1.2; omega
        have hbF : bd ∉ C :: T0 :: F := fun hm => by
          rcases List.mem_cons.1 hm with h | h
          · have := HBD9.out.2; omega
          · rcases List.mem_cons.1 h with h | h
            · have := HBD9.out.2; omega
            · exact (HFG.out bd h).2 rfl
        have hA := HRB.out.upd HU.out hAF
        have z0 := hA.cell 0 _ rfl
        have hbB : bd < wB.heap.size := by have := HBD9.out.2; omega
        have HCW := Lib.hid (fun t c (h : ud[t]? = some c) => show wo.cell? ⟨bd, od + j0 * 3 + t, none⟩ = some c from by
          rw [HU.out.cellF hbF hbB]; exact HCB.out j0 t ud c hud h)
        obtain ⟨vb, fb, rfl, hb, rfl⟩ := hrd
        have c0 := HCW.out 0 _ rfl
        have c1 := HCW.out 1 _ rfl
        have c2 := HCW.out 2 _ rfl
        simp only [Nat.add_zero] at c0
        have hofb : Own fb wo := by simpa using hofd
        have HFB := Lib.hid (fun c (hc : c ∈ fb) => show (w2.heap.size ≤ c ∧ c < A) ∧ c ≠ bd ∧ c ∈ F from by
          have h1 : c ∈ F := by rw [HFE.out]; exact hfs c (by simp [hc])
          exact ⟨(HFG.out c h1).1, (HFG.out c h1).2, h1⟩)
        have HSE := Lib.hid hset
        have HUD := Lib.hid hud
        have hbl := HBD.out j0 hj0
        have HDA := Lib.hid (show renDe us (defAt s (j0 : Int)) = renDe us s.defs[j0] by rw [defAt_eq s j0 hj0])
        generalize s.defs[j0] = d at *
        obtain ⟨dname, dpars, body⟩ := d
        simp only at *
        obtain ⟨ab, cb, rfl, -, -, -⟩ := slQ_open hb
        have HRU := Lib.hid (fun W (f : List Nat) (hu : Upd f wo W) (hf : ∀ c ∈ f, w2.heap.size ≤ c) => RU.out W ((C :: T0 :: F) ++ f) ((huw.mono (fun b hb => List.mem_append_left _ hb)).trans (hu.mono (fun b hb => List.mem_append_right _ hb))) (fun c hc => by
          rcases List.mem_append.1 hc with h | h
          · exact hwC c h
          · exact hf c h))
        have HB0 := Lib.hid (And.intro hb hofb)
        clear hset hud hfd hul3 hfs hofd hgx hxl hAF hbF hA hofb hb huw hwC hj
        go_wp2_with fail
        go_region_held3 (fun w' => w'.cell? ⟨A, 0, none⟩ = some (.slice (some ⟨bd, od, none⟩) s.defs.length b0) ∧ w'.cell? ⟨bu, ou + i, none⟩ = some (ei (j0 : Int)) ∧ w'.cell? ⟨bd, od + j0 * 3, none⟩ = some (es dname) ∧ w'.cell? ⟨bd, od + j0 * 3 + 1, none⟩ = some (ei dpars) ∧ w'.cell? ⟨bd, od + j0 * 3 + 2, none⟩ = some (.slice ab body.length cb)) (first | go_keep | (go_split_ands; refine ⟨?_, ?_, ?_, ?_, ?_⟩ <;> exact ((Upd.refl [] _).alloc _).keep (by assumption)) | simp [*]) (fail)
        obtain ⟨D, hD⟩ : ∃ D, D = wo.heap.size := ⟨_, rfl⟩
        obtain ⟨wD, hwD⟩ : ∃ q, q = (wo.alloc (.cells #[.string ⟨dname.toArray⟩, .int .i64 dpars, .slice ab body.length cb] 90)).drew := ⟨_, rfl⟩
        have uD : Upd [] wo wD := by rw [hwD]; exact ((Upd.refl _ _).alloc _).drew
        have hrD : RowAt wD D 90 [es dname, ei dpars, .slice ab body.length cb] := by rw [hwD, hD]; exact (RowAt.new wo 90 [es dname, ei dpars, .slice ab body.length cb]).upd ((Upd.refl [] _).drew) (by simp)
        rw [← hD, ← hwD]
        have HRD := Lib.hid hrD
        have HUD2 := Lib.hid uD
        have HB1 := Lib.hid (show R_Pa1 fb wD [.slice ab body.length cb] (parG (renPa us) body 0) ∧ Own fb wD from by rw [parG_zero]; exact ⟨R_Pa1k.upd HB0.out.1 uD (by simp), HB0.out.2.upd uD (by simp)⟩)
        have hDs : D < wD.heap.size := hrD.lt
        have hDB : wB.heap.size ≤ D := by rw [hD]; exact hszo
        clear hD hwD uD hrD HB0 z0 q1 c0 c1 c2 HCW
        have D2 := HRD.out.cell 2 _ rfl
        go_wp2_with fail
        go_loopw [9] (fun xv wr => ∃ k : Nat, k ≤ body.length ∧ xv = .int .i64 k ∧ Hid (Upd fb wD wr) ∧ Hid (R_Pa1 fb wr [.slice ab body.length cb] (parG (renPa us) body k) ∧ Own fb wr)) (fun xv _ => body.length - (intOf xv).toNat)
        case atStart => exact ⟨0, Nat.zero_le _, rfl, Lib.hid (Upd.refl _ _), HB1⟩
        case round =>
          clear HB1 D2
          obtain ⟨wp, rfl⟩ : ∃ wp : World, wp = wr := ⟨_, rfl⟩
          obtain ⟨k, hk, rfl, HX, HP⟩ := hrel
          have hDf : D ∉ fb := fun hm => by have := (HFB.out D hm).1.2; omega
          have hrDp := HRD.out.upd HX.out hDf
          have D2 := hrDp.cell 2 _ rfl
          by_cases hkl : k < body.length
          · have hkl2 : (k : Int) < (body.length : Int) := by omega
            have hpl := parG_len (renPa us) body k
            obtain ⟨b, off, cap, pa, pc, hve, hbf, hbl2, s0, s1, -, -, hput⟩ := part_at HP.out.1 HP.out.2 k (by omega)
            simp only [Value.slice.injEq] at hve
            obtain ⟨rfl, -, rfl⟩ := hve
            have hget := parG_get (renPa us) body k hkl (by omega)
            rw [hget] at s0 s1 hput
            have HST := Lib.hid (parG_set (renPa us) body k hkl)
            have HSM := Lib.hid (fun he => parG_same (renPa us) body k hkl he)
            have HPT := Lib.hid hput
            generalize body[k] = p at *
            obtain ⟨kind, num, pname, pargs⟩ := p
            simp only at *
            clear hput hget hpl hrDp hDf
            obtain ⟨q, hq⟩ : ∃ q, (kind == 5) = q := ⟨_, rfl⟩
            cases q with
            | false =>
              have HP2 := Lib.hid (show R_Pa1 fb wp [.slice (some ⟨b, off, none⟩) body.length cb] (parG (renPa us) body (k + 1)) ∧ Own fb wp from by
                rw [HSM.out (renPa_no hq)]; exact HP.out)
              clear HP HPT HST HSM
              go_wp2_with fail
              go_roundw
              case rel => exact ⟨k + 1, by omega, by go_num, HX, HP2⟩
              case measure => simp [intOf]; omega
            | true =>
              obtain ⟨e1', hp1, hp2⟩ := HPT.out wp (plcF us num) (Upd.refl _ _)
              have e1 : wp.drew.frozen? ⟨b, off + k * 4 + 1, none⟩ = false := e1'
              have HP2 := Lib.hid (show R_Pa1 fb (wp.setCell ⟨b, off + k * 4 + 1, none⟩ (ei (plcF us num))).drew [.slice (some ⟨b, off, none⟩) body.length cb] (parG (renPa us) body (k + 1)) ∧ Own fb (wp.setCell ⟨b, off + k * 4 + 1, none⟩ (ei (plcF us num))).drew from by
                rw [← HST.out, renPa_yes hq]; exact ⟨R_Pa1k.upd hp1 (Upd.refl [] _).drew (by simp), hp2.upd (Upd.refl [] _).drew (by simp)⟩)
              have HX2 := Lib.hid (show Upd fb wD (wp.setCell ⟨b, off + k * 4 + 1, none⟩ (ei (plcF us num))).drew from (HX.out.setCell (Or.inr hbf) _).drew)
              have SI := Lib.hid (placeZ _ us num wp.drew _ (HRU.out wp.drew fb ((HUD2.out.mono (by simp)).trans HX.out.drew) (fun c hc => (HFB.out c hc).1.1)))
              have d2 : wp.drew.cell? ⟨D, 2, none⟩ = some (.slice (some ⟨b, off, none⟩) body.length cb) := D2
              have d3 : wp.drew.cell? ⟨b, off + k * 4 + 1, none⟩ = some (ei num) := s1
              obtain ⟨wQ, hwQ⟩ : ∃ q, q = (wp.setCell ⟨b, off + k * 4 + 1, none⟩ (ei (plcF us num))).drew := ⟨_, rfl⟩
              rw [← hwQ] at HP2 HX2
              have HWQ := Lib.hid hwQ
              clear HP HPT HST HSM hp1 hp2 HX hwQ
              generalize plcF us num = m at *
              go_wp2_with fail
              go_region_law ((refine step_call (by rfl) 79 #[.slice (some ⟨bu, ou, none⟩) us.length uc, .int .i64 num] (by go_simp) ?_; refine SI.out.mono ?_; rintro e w9 ⟨rfl, rfl⟩; refine ⟨_, rfl, ?_⟩))
              all_goals
                try rw [← HWQ.out]
                clear SI d2 d3 e1 e1' D2 s0 s1 HWQ
                go_wp2_with fail
                go_roundw
                case rel => exact ⟨k + 1, by omega, by go_num, HX2, HP2⟩
                case measure => simp [intOf]; omega
          · obtain rfl : k = body.length := by omega
            have hDf : D ∉ fb := fun hm => by have := (HFB.out D hm).1.2; omega
            have D0 := hrDp.cell 0 _ rfl
            have D1 := hrDp.cell 1 _ rfl
            have hxw : Upd fb wo wp := (HUD2.out.mono (by simp)).trans HX.out
            have hCf : C ∉ fb := fun hm => by have := (HFB.out C hm).1.2; omega
            have hrC := HRW.out.upd hxw hCf
            have C0 := hrC.cell 0 _ rfl
            have E0 := hrC.fz 0
            obtain ⟨PK, hPK⟩ : ∃ q, q = (((us.take i).map Int.toNat).map (fun n => uss.getD n [])).flatten := ⟨_, rfl⟩
            have hr9 := HRO.out
            rw [← hPK] at hr9
            have HPK := Lib.hid hPK
            have hown1 := ownsRow_far hr9 hxw (fun b hb hm => by have h1 := (HRO.out.lt b hb).1; have h2 := (HFB.out b hm).1.2; omega)
            have hds := HSE.out wp ⟨dname, dpars, body.map (renPa us)⟩ (by simpa using hxw) (by
              have h := HP.out
              rw [parG_all] at h
              exact ⟨_, fb, rfl, h.1, rfl⟩) (by simpa using HP.out.2)
            have HDS2 := Lib.hid (show DefsAt wp uss fps (xsT us s (us.take (i + 1))) from by
              rw [HTK.out, ← xsT_set, HDA.out]; exact hds)
            have HXW := Lib.hid hxw
            have HOW := Lib.hid hown1
            obtain ⟨oa, oc, hov⟩ := ownsRow_form hown1
            subst hov
            have hszp := hxw.size
            have HRCp := Lib.hid hrC
            have hT0p : T0 ≤ wp.heap.size := by omega
            clear hr9 hPK HP hds hxw HX hDf hCf hrDp HRW HSE HRO HDS hrC
            go_wp2_with (first
              | (at_builtin; refine wpList_append_tight _ rfl _ _ 24 rfl T0 90 i0 (.agg #[.string ⟨#[]⟩, .int .i64 0, .slice none 0 0]) 3 48 Tryz.underlying24 hi9 hz0 hz1 hz2 rfl (by decide) _ _ _ rfl (hown1.alloc _) ⟨wp.heap.size, 0, none⟩ 1 1 [es dname, ei dpars, .slice ab body.length cb] rfl rfl (fun j u hj => by rw [addr_add, Nat.zero_add]; exact cell_new wp #[es dname, ei dpars, .slice ab body.length cb] _ _ rfl j u (by simpa using hj)) (by simp [Value.oneCell']) (by unfold maxLen; omega) (by omega) (by simp; omega) ?_)
              | fail)
            intro v2 w5 hown5 hg5 ht5
            obtain ⟨a9, c9, hv9⟩ := ownsRow_form hown5
            subst hv9
            have hv5 : Upd (Value.slice oa i oc).ownBlock.toList (wp.alloc (.cells #[es dname, ei dpars, .slice ab body.length cb] 90)) w5 := (Upd.refl _ _).grown hg5 (fun k hk => Or.inr (by simp [hk]))
            have hob : ∀ b, (Value.slice oa i oc).ownBlock = some b → T0 ≤ b := fun b hb => (HOW.out.lt b hb).1
            have hnC : C ∉ (Value.slice oa i oc).ownBlock.toList := fun hm => by have := hob C (by simpa using hm); omega
            have hC5 := (HRCp.out.upd ((Upd.refl [] wp).alloc (.cells #[es dname, ei dpars, .slice ab body.length cb] 90)) (by simp)).upd hv5 hnC
            have C5 := hC5.cell 0 _ rfl
            have E5 := hC5.fz 0
            obtain ⟨wE, hwE⟩ : ∃ q, q = w5.setCell ⟨C, 0, none⟩ (.slice a9 (i + 1) c9) := ⟨_, rfl⟩
            have uZ : Upd [C] w5 wE := by rw [hwE]; exact (Upd.refl _ _).setCell (Or.inr (by simp)) _
            have HRO2 := Lib.hid (show wE.ownsRow T0 90 3 (.slice a9 (i + 1) c9) (i + 1) (((us.take (i + 1)).map Int.toNat).map (fun n => uss.getD n [])).flatten from by
              refine ownsRow_far ?_ uZ (fun b hb hm => ?_)
              · rw [HTK.out, List.map_append, List.map_append, List.flatten_append]
                have e9 : (([(j0 : Int)].map Int.toNat).map (fun n => uss.getD n [])).flatten = [es dname, ei dpars, .slice ab body.length cb] := by
                  simp only [List.map_cons, List.map_nil, Int.toNat_natCast, List.getD_eq_getElem?_getD, HUD.out, Option.getD_some, List.flatten_cons, List.flatten_nil, List.append_nil]
                rw [e9, ← HPK.out]; exact hown5
              · have := (hown5.lt b hb).1; simp at hm; omega)
            have HDS3 := Lib.hid (show DefsAt wE uss fps (xsT us s (us.take (i + 1))) from
              ((HDS2.out.upd ((Upd.refl [] wp).alloc (.cells #[es dname, ei dpars, .slice ab body.length cb] 90)) (by simp)).upd hv5 (fun b hb hm => by
                have h1 := hob b (by simpa using hb)
                rw [← HFE.out] at hm
                have h2 := (HFG.out b hm).1.2; omega)).upd uZ (fun b hb hm => by
                simp at hb; subst hb
                rw [← HFE.out] at hm
                have h2 := (HFG.out _ hm).1.2; omega))
            have HRW2 := Lib.hid (show RowAt wE C 29 [.slice a9 (i + 1) c9, .slice p1 s.comps.length y1, .slice p2 s.meets.length y2, .slice p3 s.allow.length y3, .slice p4 s.hide.length y4] from by rw [hwE]; exact hC5.store 0 _)
            have HU9 := Lib.hid (show Upd (C :: T0 :: F) wB wE from by
              rw [hwE]
              refine ((((HU.out.trans (HXW.out.mono (fun b hb => by simp [(HFB.out b hb).2.2]))).alloc (.cells #[es dname, ei dpars, .slice ab body.length cb] 90)).grown hg5 (fun c hc => ?_))).setCell (Or.inr (by simp)) _
              have h1 := hob c hc
              by_cases e : c = T0
              · exact Or.inr (by simp [e])
              · exact Or.inl (by omega))
            clear hown5 hg5 ht5 hv5 hnC hob uZ hown1 D0 D1 D2 C0 E0 HOW HXW HDS2
            go_upto_region 9 with (fail)
            try rw [← hwE]
            clear hwE hC5 C5 E5
            go_wp2_with fail
            go_roundw
            case rel => exact ⟨i + 1, .slice a9 (i + 1) c9, by omega, by go_num, HU9, HRW2, HRO2, HDS3⟩
            case measure => simp [intOf]; omega
      · obtain rfl : i = us.length := by omega
        have hcc : ∀ c ∈ g1, c ∉ C :: T0 :: F := fun c hc hm => by
          have h1 := HG1.out c hc
          rcases List.mem_cons.1 hm with h | h
          · omega
          · rcases List.mem_cons.1 h with h | h
            · omega
            · have := (HFG.out c h).1.2; omega
        have HC0 := Lib.hid (show R_Co1 g1 wo [.slice p1 s.comps.length y1] (parG (renCo us) s.comps 0) ∧ Own g1 wo from by
          rw [parG_zero]
          exact ⟨R_Co1k.upd HRR.out.1 HU.out hcc, (own_split HRR.out.2.2.2.2).1.upd HU.out hcc⟩)
        have hall : (#[dv, .slice p1 s.comps.length y1, .slice p2 s.meets.length y2, .slice p3 s.allow.length y3, .slice p4 s.hide.length y4] : Array Value).all (·.oneCell') = true := by obtain ⟨a9, c9, rfl⟩ := ownsRow_form HRO.out; simp [Value.oneCell']
        have HALL := Lib.hid hall
        have hdf := HDS.out.fin (pickJ HUP.out (fun x hx => (HUM.out x hx).1)) (fun j hj => by
          obtain ⟨x, hx, rfl⟩ := List.mem_map.1 hj
          have h := HUM.out x hx
          rw [xsT_len]; omega) (base := T0) (e := 90) (v := dv) (by
          have h := HRO.out
          rw [List.take_length] at h
          rw [List.length_map]; exact h) (fun b hb => by
          rw [← HFE.out] at hb
          have := (HFG.out b hb).1.2; omega) ⟨[], 0, []⟩
        rw [List.take_length, xsT_all us s ⟨[], 0, []⟩ (fun x hx => HUM.out x hx)] at hdf
        have HFD := Lib.hid hdf
        have huw : Upd (C :: T0 :: F) w2 wo := (HU4.out.mono (by simp)).trans HU.out
        have hwC : ∀ c ∈ C :: T0 :: F, w2.heap.size ≤ c := fun c hc => by
          rcases List.mem_cons.1 hc with rfl | hc
          · omega
          · rcases List.mem_cons.1 hc with rfl | hc
            · omega
            · exact (HFG.out c hc).1.1
        have HRU := Lib.hid (fun W (f : List Nat) (hu : Upd f wo W) (hf : ∀ c ∈ f, w2.heap.size ≤ c) => RU.out W ((C :: T0 :: F) ++ f) ((huw.mono (fun b hb => List.mem_append_left _ hb)).trans (hu.mono (fun b hb => List.mem_append_right _ hb))) (fun c hc => by
          rcases List.mem_append.1 hc with h | h
          · exact hwC c h
          · exact hf c h))
        have HUW := Lib.hid huw
        clear hall hdf hcc HBD HRO HDS huw hwC HCB HBD9 HRB
        go_wp2_with fail
        go_loopw [10] (fun xv wr => ∃ k : Nat, k ≤ s.comps.length ∧ xv = .int .i64 k ∧ Hid (Upd g1 wo wr) ∧ Hid (R_Co1 g1 wr [.slice p1 s.comps.length y1] (parG (renCo us) s.comps k) ∧ Own g1 wr)) (fun xv _ => s.comps.length - (intOf xv).toNat)
        case atStart => exact ⟨0, Nat.zero_le _, rfl, Lib.hid (Upd.refl _ _), HC0⟩
        case round =>
          clear HC0
          obtain ⟨wp, rfl⟩ : ∃ wp : World, wp = wr := ⟨_, rfl⟩
          obtain ⟨k, hk, rfl, HX, HP⟩ := hrel
          have hCg : C ∉ g1 := fun hm => by have := (HG1.out C hm).2; omega
          have hrCp := HRW.out.upd HX.out hCg
          have D2 := hrCp.cell 1 _ rfl
          by_cases hkl : k < s.comps.length
          · have hkl2 : (k : Int) < (s.comps.length : Int) := by omega
            have hpl := parG_len (renCo us) s.comps k
            obtain ⟨b, off, cap, pa, pc, hve, hbf, hbl2, s0, -, hput⟩ := comp_at HP.out.1 HP.out.2 k (by omega)
            simp only [Value.slice.injEq] at hve
            obtain ⟨rfl, -, rfl⟩ := hve
            have hget := parG_get (renCo us) s.comps k hkl (by omega)
            rw [hget] at s0 hput
            have HST := Lib.hid (parG_set (renCo us) s.comps k hkl)
            have HPT := Lib.hid hput
            generalize s.comps[k] = c at *
            obtain ⟨dfn, vals⟩ := c
            simp only at *
            clear hput hget hpl hrCp hCg
            obtain ⟨e1', hp1, hp2⟩ := HPT.out wp (plcF us dfn) (Upd.refl _ _)
            have e1 : wp.drew.frozen? ⟨b, off + k * 2, none⟩ = false := e1'
            have HP2 := Lib.hid (show R_Co1 g1 (wp.setCell ⟨b, off + k * 2, none⟩ (ei (plcF us dfn))).drew [.slice (some ⟨b, off, none⟩) s.comps.length y1] (parG (renCo us) s.comps (k + 1)) ∧ Own g1 (wp.setCell ⟨b, off + k * 2, none⟩ (ei (plcF us dfn))).drew from by
              rw [← HST.out]; exact ⟨R_Co1k.upd hp1 (Upd.refl [] _).drew (by simp), hp2.upd (Upd.refl [] _).drew (by simp)⟩)
            have HX2 := Lib.hid (show Upd g1 wo (wp.setCell ⟨b, off + k * 2, none⟩ (ei (plcF us dfn))).drew from (HX.out.setCell (Or.inr hbf) _).drew)
            have SI := Lib.hid (placeZ _ us dfn wp.drew _ (HRU.out wp.drew g1 HX.out.drew (fun c hc => by have := (HG1.out c hc).1; omega)))
            have d2 : wp.drew.cell? ⟨C, 1, none⟩ = some (.slice (some ⟨b, off, none⟩) s.comps.length y1) := D2
            have d3 : wp.drew.cell? ⟨b, off + k * 2, none⟩ = some (ei dfn) := s0
            obtain ⟨wQ, hwQ⟩ : ∃ q, q = (wp.setCell ⟨b, off + k * 2, none⟩ (ei (plcF us dfn))).drew := ⟨_, rfl⟩
            rw [← hwQ] at HP2 HX2
            have HWQ := Lib.hid hwQ
            clear HP HPT HST hp1 hp2 HX hwQ
            generalize plcF us dfn = m at *
            go_wp2_with fail
            go_region_law ((refine step_call (by rfl) 79 #[.slice ua us.length uc, .int .i64 dfn] (by go_simp) ?_; refine SI.out.mono ?_; rintro e w9 ⟨rfl, rfl⟩; refine ⟨_, rfl, ?_⟩))
            all_goals
              try rw [← HWQ.out]
              clear SI d2 d3 e1 e1' D2 s0 HWQ
              go_wp2_with fail
              go_roundw
              case rel => exact ⟨k + 1, by omega, by go_num, HX2, HP2⟩
              case measure => simp [intOf]; omega
          · obtain rfl : k = s.comps.length := by omega
            have hAp := (HAB.out.upd HU.out (by
              intro hm
              rcases List.mem_cons.1 hm with h | h
              · omega
              · rcases List.mem_cons.1 h with h | h
                · omega
                · have := (HFG.out _ h).1.1; omega)).upd HX.out (fun hm => by have := (HG1.out _ hm).1; omega)
            have hP := HP.out
            rw [parG_all] at hP
            obtain ⟨fd, rd0, od0, gd⟩ := HFD.out
            have hfg : ∀ c ∈ fd, c ∉ g1 ++ (g2 ++ (g3 ++ g4)) := fun c hc hm => by
              have h1 := HGE.out c hm
              rcases gd c hc with h | h
              · omega
              · rw [← HFE.out] at h
                have := (HFG.out c h).1.2; omega
            have hfg1 : ∀ c ∈ fd, c ∉ g1 := fun c hc hm => hfg c hc (List.mem_append_left _ hm)
            have rd := R_De1k.upd rd0 HX.out hfg1
            have odd := od0.upd HX.out hfg1
            obtain ⟨q1, q2, q3, q4, qo⟩ := HRR.out
            obtain ⟨qo1, qo2, hdis⟩ := own_split qo
            have hcc : ∀ c ∈ g2 ++ (g3 ++ g4), c ∉ C :: T0 :: F := fun c hc hm => by
              have h1 := HGE.out c (List.mem_append_right _ hc)
              rcases List.mem_cons.1 hm with h | h
              · omega
              · rcases List.mem_cons.1 h with h | h
                · omega
                · have := (HFG.out c h).1.2; omega
            have hdg : ∀ c ∈ g2 ++ (g3 ++ g4), c ∉ g1 := fun c hc hm => hdis c hm hc
            have HNE := Lib.hid (show NewQ R_Sy w2 wp [dv, .slice p1 s.comps.length y1, .slice p2 s.meets.length y2, .slice p3 s.allow.length y3, .slice p4 s.hide.length y4] (pruneL us s) from by
              refine ⟨fd ++ (g1 ++ (g2 ++ (g3 ++ g4))), ⟨_, _, _, _, _, fd, g1, g2, g3, g4, rfl, rd, ?_, R_Me1k.upd (R_Me1k.upd q2 HU.out (fun c hc => hcc c (by simp [hc]))) HX.out (fun c hc => hdg c (by simp [hc])), R_S1k.upd (R_S1k.upd q3 HU.out (fun c hc => hcc c (by simp [hc]))) HX.out (fun c hc => hdg c (by simp [hc])), R_S1k.upd (R_S1k.upd q4 HU.out (fun c hc => hcc c (by simp [hc]))) HX.out (fun c hc => hdg c (by simp [hc])), rfl⟩, own_join odd (own_join hP.2 ((qo2.upd HU.out hcc).upd HX.out hdg) hdis) hfg, fun c hc => ?_⟩
              · have h := hP.1
                show R_Co1 g1 wp [.slice p1 s.comps.length y1] (s.comps.map (renCo us))
                exact h
              · rcases List.mem_append.1 hc with h | h
                · rcases gd c h with h2 | h2
                  · omega
                  · rw [← HFE.out] at h2
                    exact (HFG.out c h2).1.1
                · have := (HGE.out c h).1; omega)
            have HUE := Lib.hid (show Upd [] w wp from by
              refine (HU2.out.fresh HUW.out (fun c hc => Or.inl ?_)).fresh HX.out (fun c hc => Or.inl ?_)
              · have h0 := HU2.out.size
                rcases List.mem_cons.1 hc with rfl | hc
                · omega
                · rcases List.mem_cons.1 hc with rfl | hc
                  · omega
                  · have := (HFG.out c hc).1.1; omega
              · have h1 := (HG1.out c hc).1; have := HU2.out.size; omega)
            have HR5 := Lib.hid hrCp
            have HA5 := Lib.hid hAp
            clear hrCp hAp hP rd rd0 odd od0 gd q1 q2 q3 q4 qo qo1 qo2 hdis hcc hdg hfg hfg1 HP HRR HX
            have hr5 := HR5.out
            have hA5 := HA5.out
            unfold RowAt at hr5 hA5
            go_upto_region 21 with (fail)
            go_wp2_with (first
              | (refine wpList_load_row rfl 29 _ rfl C rfl 29 #[dv, .slice p1 s.comps.length y1, .slice p2 s.meets.length y2, .slice p3 s.allow.length y3, .slice p4 s.hide.length y4] (0, 0) _ hr5 Tryz.underlying29 rfl Sy_size ?_)
              | (refine wpList_store_row rfl 29 _ _ rfl (B + 1) #[dv, .slice p1 s.comps.length y1, .slice p2 s.meets.length y2, .slice p3 s.allow.length y3, .slice p4 s.hide.length y4] rfl rfl 29 _ hA5 Sy_size rfl HALL.out ?_)
              | fail)
            have hr : RowAt (wp.setRow (B + 1) #[dv, .slice p1 s.comps.length y1, .slice p2 s.meets.length y2, .slice p3 s.allow.length y3, .slice p4 s.hide.length y4]) (B + 1) 29 [dv, .slice p1 s.comps.length y1, .slice p2 s.meets.length y2, .slice p3 s.allow.length y3, .slice p4 s.hide.length y4] := HA5.out.row _
            have n0 := hr.cell 0 _ rfl
            have n1 := hr.cell 1 _ rfl
            have n2 := hr.cell 2 _ rfl
            have n3 := hr.cell 3 _ rfl
            have n4 := hr.cell 4 _ rfl
            refine bodyPost_ret (v := .tuple #[.agg #[dv, .slice p1 s.comps.length y1, .slice p2 s.meets.length y2, .slice p3 s.allow.length y3, .slice p4 s.hide.length y4], .int .i64 0]) (by simp [results, Tryz.results28, go_sem, n0, n1, n2, n3, n4]) rfl ?_
            rw [HZ.out]
            exact gaveSy (us := [dv, .slice p1 s.comps.length y1, .slice p2 s.meets.length y2, .slice p3 s.allow.length y3, .slice p4 s.hide.length y4]) (W := w2) HNE.out rfl HALL.out HUE.out (by have := HBB.out; omega) hAB HU2.out.size

end Go.Proofs.YtnchmnjkmhfleaaGreat

/-
  What the laws' budget says of systems.
-/
namespace Go.Proofs.YtnchmnjkmhfleaaGreat
open Go.RowKit

theorem S1_fit {l : List (List UInt8)} (h : szF_S1 l ≤ 1048576) : l.length ≤ 2000000 ∧ ∀ p ∈ l, p.length ≤ 2000000 := by
  have h1 : szF_S1 l = (l.length : Int) + (l.map fun p => (p.length : Int)).sum := by
    unfold szF_S1
    first | rfl | simp
  have h2 : ∀ r : List (List UInt8), 0 ≤ (r.map fun p => (p.length : Int)).sum := by
    intro r
    induction r with
    | nil => simp
    | cons z r ih => simp only [List.map_cons, List.sum_cons]; omega
  have h3 := h2 l
  refine ⟨by omega, fun p hp => ?_⟩
  have h4 : (p.length : Int) ≤ (l.map fun p => (p.length : Int)).sum := sum_mem (F := fun p : List UInt8 => (p.length : Int)) (fun x => by simp) hp
  omega
theorem sy_fit {s : Sy} (h : szF_Sy s ≤ 1048576) : SyFit s := by
  unfold szF_Sy at h
  have n0 := szF_De1_nonneg s.defs
  have n1 := szF_Co1_nonneg s.comps
  have n2 := szF_Me1_nonneg s.meets
  have n3 := szF_S1_nonneg s.allow
  have n4 := szF_S1_nonneg s.hide
  have hc : szF_Co1 s.comps = (s.comps.length : Int) + (s.comps.map szF_Co).sum := rfl
  have hc2 := szF_Co1_sum s.comps
  have hm : szF_Me1 s.meets = (s.meets.length : Int) + (s.meets.map szF_Me).sum := rfl
  have hm2 := szF_Me1_sum s.meets
  refine ⟨des_fit (by omega), by omega, ⟨by omega, fun m hm => ?_⟩, S1_fit (by omega), S1_fit (by omega)⟩
  have := sum_mem szF_Me_nonneg hm
  have h2 : szF_Me m = (m.left.length : Int) + (m.right.length : Int) + (m.result.length : Int) := by
    unfold szF_Me
    omega
  omega

end Go.Proofs.YtnchmnjkmhfleaaGreat

/-
  The law FnExactPruneSystem: the call returns true for every input, and writes nothing that was there.
-/
namespace Go.Proofs.YtnchmnjkmhfleaaGreat
open Go.RowKit

set_option maxRecDepth 20000 in
set_option maxHeartbeats 4000000 in
theorem lawPrune (cs : List Value) (x : Sy) (w : World) (fp : List Nat) (hR : R_Sy fp w cs x) (hS : SyOk x) :
    Calls Tryz.prog 7 #[.agg cs.toArray] w fun e w' => e = .returned (.bool true) ∧ Upd [] w w' := by
  have hR' := hR
  obtain ⟨v0, v1, v2, v3, v4, f0, f1, f2, f3, f4, rfl, -, -, -, -, -, rfl⟩ := hR
  have HRX := Lib.hid (fun W (hu : Upd [] w W) => R_Syk.upd hR' hu (by simp))
  obtain ⟨BA, hBA⟩ : ∃ B, B = w.heap.size := ⟨_, rfl⟩
  obtain ⟨wA, hwA⟩ : ∃ wA, wA = w.alloc (.cells #[v0, v1, v2, v3, v4] 45) := ⟨_, rfl⟩
  have uA : Upd [] w wA := by rw [hwA]; exact (Upd.refl _ _).alloc _
  have UA := Lib.hid uA
  have qA : RowAt wA BA 45 [v0, v1, v2, v3, v4] := by rw [hwA, hBA]; exact RowAt.new _ _ _
  have HQA := Lib.hid (fun W (hu : Upd [] wA W) => qA.upd hu (by simp))
  have S1 := Lib.hid (sz_Sy _ x 1048576 wA _ (by omega) (by omega) (HRX.out wA uA) hS)
  clear hR' hS uA qA
  go_enter Tryz.func7, Tryz.ntmps7
  go_upto_region 1 with (fail)
  rw [← hwA, ← hBA]
  have HBA := Lib.hid hBA
  clear hwA hBA
  have u0 : Upd [] wA wA := Upd.refl _ _
  have z_A_0 := (HQA.out _ u0).cell 0 _ rfl
  have z_A_1 := (HQA.out _ u0).cell 1 _ rfl
  have z_A_2 := (HQA.out _ u0).cell 2 _ rfl
  have z_A_3 := (HQA.out _ u0).cell 3 _ rfl
  have z_A_4 := (HQA.out _ u0).cell 4 _ rfl
  go_wp2_with fail
  refine S1.out.mono ?_
  rintro e w1 ⟨⟨r, rfl, hr⟩, uu⟩
  clear S1 z_A_0 z_A_1 z_A_2 z_A_3 z_A_4
  have u1 := u0.trans uu
  clear u0 uu
  rcases hr with rfl | ⟨hr0_x, hr1_x⟩
  · have HU := Lib.hid (UA.out.trans u1)
    go_wp2_with fail
    go_ret
    exact ⟨rfl, HU.out⟩
  · have hsz : szF_Sy x ≤ 1048576 := by omega
    have HSZ := Lib.hid hsz
    have hF := sy_fit hsz
    have tn_x := mkF_Sy_nonneg x
    have hm_x := mkF_Sy_le x
    have hM0 : 1 + mkF_Sy x ≤ 100000000 := by omega
    have hMy : 1 + mkF_Sy (pruneF x).1 ≤ 4611686018427387904 := by have := pruneF_b x hM0; omega
    have tn_y := mkF_Sy_nonneg (pruneF x).1
    obtain ⟨⟨y, cc⟩, hG⟩ : ∃ G, pruneF x = G := ⟨_, rfl⟩
    rw [hG] at hMy tn_y
    simp only at hMy tn_y
    have hMk := hMy
    have HG := Lib.hid hG
    clear hG
    have hcc : ((cc : Int) != (cc : Int)) = false := by simp
    clear hsz hm_x hr1_x
    have z_A_0 := (HQA.out _ u1).cell 0 _ rfl
    have z_A_1 := (HQA.out _ u1).cell 1 _ rfl
    have z_A_2 := (HQA.out _ u1).cell 2 _ rfl
    have z_A_3 := (HQA.out _ u1).cell 3 _ rfl
    have z_A_4 := (HQA.out _ u1).cell 4 _ rfl
    have S2 := to_Sy _ x w1 _ HSZ.out (HRX.out _ (UA.out.trans u1))
    go_wp2_with fail
    refine S2.mono ?_
    clear S2 z_A_0 z_A_1 z_A_2 z_A_3 z_A_4
    rintro e w2 ⟨⟨us, rfl, -, -, hn⟩, uu⟩
    obtain ⟨p0_a_x, q0_a_x, p1_a_x, q1_a_x, p2_a_x, q2_a_x, p3_a_x, q3_a_x, p4_a_x, q4_a_x, rfl⟩ := sy_form hn
    obtain ⟨fp_a_x, rr, oo, ge_a_x⟩ := hn
    have u2 : Upd [] wA w2 := u1.trans (uu)
    have HL_a_x := Lib.hid (show ∀ b ∈ fp_a_x, wA.heap.size ≤ b from fun b hb => by have := ge_a_x b hb; have := u1.size; omega)
    have r2_a_x := rr
    have o2_a_x := oo
    clear u1 uu ge_a_x rr oo
    have S2 := pruneS [.slice p0_a_x (x).defs.length q0_a_x, .slice p1_a_x (x).comps.length q1_a_x, .slice p2_a_x (x).meets.length q2_a_x, .slice p3_a_x (x).allow.length q3_a_x, .slice p4_a_x (x).hide.length q4_a_x] x w2 fp_a_x r2_a_x hF
    rw [HG.out] at S2
    go_wp2_with fail
    refine S2.mono ?_
    clear S2
    rintro e w3 ⟨⟨us, rfl, -, -, hn⟩, uu⟩
    obtain ⟨p0_w0, q0_w0, p1_w0, q1_w0, p2_w0, q2_w0, p3_w0, q3_w0, p4_w0, q4_w0, rfl⟩ := sy_form hn
    obtain ⟨fp_w0, rr, oo, ge_w0⟩ := hn
    have lt_a_x := R_Syk.lt r2_a_x
    have u3 : Upd [] wA w3 := u2.trans (uu)
    have HL_w0 := Lib.hid (show ∀ b ∈ fp_w0, wA.heap.size ≤ b from fun b hb => by have := ge_w0 b hb; have := u2.size; omega)
    have r3_w0 := rr
    have o3_w0 := oo
    clear u2 r2_a_x o2_a_x uu ge_w0 rr oo lt_a_x
    obtain ⟨w4, hwB⟩ : ∃ wB, wB = w3.alloc (.cells #[.slice p0_w0 (y).defs.length q0_w0, .slice p1_w0 (y).comps.length q1_w0, .slice p2_w0 (y).meets.length q2_w0, .slice p3_w0 (y).allow.length q3_w0, .slice p4_w0 (y).hide.length q4_w0] 29) := ⟨_, rfl⟩
    have uB : Upd [] w3 w4 := by rw [hwB]; exact (Upd.refl _ _).alloc _
    obtain ⟨B_w0, hB⟩ : ∃ B, B = w3.heap.size := ⟨_, rfl⟩
    have qq : RowAt w4 B_w0 29 [.slice p0_w0 (y).defs.length q0_w0, .slice p1_w0 (y).comps.length q1_w0, .slice p2_w0 (y).meets.length q2_w0, .slice p3_w0 (y).allow.length q3_w0, .slice p4_w0 (y).hide.length q4_w0] := by rw [hwB, hB]; exact RowAt.new _ _ _
    have lt_w0 := R_Syk.lt r3_w0
    have HN_w0_w0 := Lib.hid (show B_w0 ∉ fp_w0 from fun hm => by have := lt_w0 _ hm; omega)
    have u4 : Upd [] wA w4 := u3.trans (uB)
    have r4_w0 := R_Syk.upd r3_w0 (uB) (by simp)
    have o4_w0 := o3_w0.upd (uB) (by simp)
    have q4_w0 := qq
    clear u3 r3_w0 o3_w0 lt_w0 uB qq
    go_upto_region 6 with (fail)
    rw [← hwB, ← hB]
    clear hwB hB
    have z_A_0 := (HQA.out _ u4).cell 0 _ rfl
    have z_A_1 := (HQA.out _ u4).cell 1 _ rfl
    have z_A_2 := (HQA.out _ u4).cell 2 _ rfl
    have z_A_3 := (HQA.out _ u4).cell 3 _ rfl
    have z_A_4 := (HQA.out _ u4).cell 4 _ rfl
    have S2 := to_Sy _ x w4 _ HSZ.out (HRX.out _ (UA.out.trans u4))
    go_wp2_with fail
    refine S2.mono ?_
    clear S2 z_A_0 z_A_1 z_A_2 z_A_3 z_A_4
    rintro e w5 ⟨⟨us, rfl, -, -, hn⟩, uu⟩
    obtain ⟨p0_x_x, q0_x_x, p1_x_x, q1_x_x, p2_x_x, q2_x_x, p3_x_x, q3_x_x, p4_x_x, q4_x_x, rfl⟩ := sy_form hn
    obtain ⟨fp_x_x, rr, oo, ge_x_x⟩ := hn
    have lt_w0 := R_Syk.lt r4_w0
    have bl_w0 := q4_w0.lt
    have u5 : Upd [] wA w5 := u4.trans (uu)
    have r5_w0 := R_Syk.upd r4_w0 (uu) (by simp)
    have o5_w0 := o4_w0.upd (uu) (by simp)
    have q5_w0 := q4_w0.upd (uu) (by simp)
    have HL_x_x := Lib.hid (show ∀ b ∈ fp_x_x, wA.heap.size ≤ b from fun b hb => by have := ge_x_x b hb; have := u4.size; omega)
    have HD_w0_x_x := Lib.hid (show ∀ b ∈ fp_w0, b ∉ fp_x_x from fun b hb hm => by have := lt_w0 b hb; have := ge_x_x b hm; omega)
    have HN_w0_x_x := Lib.hid (show B_w0 ∉ fp_x_x from fun hm => by have := ge_x_x _ hm; omega)
    have r5_x_x := rr
    have o5_x_x := oo
    clear u4 r4_w0 o4_w0 q4_w0 uu ge_x_x rr oo lt_w0 bl_w0
    obtain ⟨w6, hwB⟩ : ∃ wB, wB = w5.alloc (.cells #[.slice p0_x_x (x).defs.length q0_x_x, .slice p1_x_x (x).comps.length q1_x_x, .slice p2_x_x (x).meets.length q2_x_x, .slice p3_x_x (x).allow.length q3_x_x, .slice p4_x_x (x).hide.length q4_x_x] 29) := ⟨_, rfl⟩
    have uB : Upd [] w5 w6 := by rw [hwB]; exact (Upd.refl _ _).alloc _
    obtain ⟨B_x_x, hB⟩ : ∃ B, B = w5.heap.size := ⟨_, rfl⟩
    have qq : RowAt w6 B_x_x 29 [.slice p0_x_x (x).defs.length q0_x_x, .slice p1_x_x (x).comps.length q1_x_x, .slice p2_x_x (x).meets.length q2_x_x, .slice p3_x_x (x).allow.length q3_x_x, .slice p4_x_x (x).hide.length q4_x_x] := by rw [hwB, hB]; exact RowAt.new _ _ _
    have lt_w0 := R_Syk.lt r5_w0
    have lt_x_x := R_Syk.lt r5_x_x
    have bl_w0 := q5_w0.lt
    have HN_x_x_w0 := Lib.hid (show B_x_x ∉ fp_w0 from fun hm => by have := lt_w0 _ hm; omega)
    have HN_x_x_x_x := Lib.hid (show B_x_x ∉ fp_x_x from fun hm => by have := lt_x_x _ hm; omega)
    have u6 : Upd [] wA w6 := u5.trans (uB)
    have r6_w0 := R_Syk.upd r5_w0 (uB) (by simp)
    have o6_w0 := o5_w0.upd (uB) (by simp)
    have r6_x_x := R_Syk.upd r5_x_x (uB) (by simp)
    have o6_x_x := o5_x_x.upd (uB) (by simp)
    have q6_w0 := q5_w0.upd (uB) (by simp)
    have q6_x_x := qq
    clear u5 r5_w0 o5_w0 r5_x_x o5_x_x q5_w0 lt_w0 lt_x_x bl_w0 uB qq
    go_upto_region 7 with (fail)
    rw [← hwB, ← hB]
    clear hwB hB
    have z_x_x_0 := q6_x_x.cell 0 _ rfl
    have z_x_x_1 := q6_x_x.cell 1 _ rfl
    have z_x_x_2 := q6_x_x.cell 2 _ rfl
    have z_x_x_3 := q6_x_x.cell 3 _ rfl
    have z_x_x_4 := q6_x_x.cell 4 _ rfl
    have S2 := pruneI [.slice p0_x_x (x).defs.length q0_x_x, .slice p1_x_x (x).comps.length q1_x_x, .slice p2_x_x (x).meets.length q2_x_x, .slice p3_x_x (x).allow.length q3_x_x, .slice p4_x_x (x).hide.length q4_x_x] x w6 fp_x_x r6_x_x hF
    rw [HG.out] at S2
    go_wp2_with fail
    refine S2.mono ?_
    clear S2 z_x_x_0 z_x_x_1 z_x_x_2 z_x_x_3 z_x_x_4
    rintro e w7 ⟨⟨us, rfl, -, -, hn⟩, uu⟩
    obtain ⟨p0_g0, q0_g0, p1_g0, q1_g0, p2_g0, q2_g0, p3_g0, q3_g0, p4_g0, q4_g0, rfl⟩ := sy_form hn
    obtain ⟨fp_g0, rr, oo, ge_g0⟩ := hn
    have lt_w0 := R_Syk.lt r6_w0
    have lt_x_x := R_Syk.lt r6_x_x
    have bl_w0 := q6_w0.lt
    have bl_x_x := q6_x_x.lt
    have u7 : Upd [] wA w7 := u6.trans (uu)
    have r7_w0 := R_Syk.upd r6_w0 (uu) (by simp)
    have o7_w0 := o6_w0.upd (uu) (by simp)
    have r7_x_x := R_Syk.upd r6_x_x (uu) (by simp)
    have o7_x_x := o6_x_x.upd (uu) (by simp)
    have q7_w0 := q6_w0.upd (uu) (by simp)
    have q7_x_x := q6_x_x.upd (uu) (by simp)
    have HL_g0 := Lib.hid (show ∀ b ∈ fp_g0, wA.heap.size ≤ b from fun b hb => by have := ge_g0 b hb; have := u6.size; omega)
    have HD_w0_g0 := Lib.hid (show ∀ b ∈ fp_w0, b ∉ fp_g0 from fun b hb hm => by have := lt_w0 b hb; have := ge_g0 b hm; omega)
    have HD_x_x_g0 := Lib.hid (show ∀ b ∈ fp_x_x, b ∉ fp_g0 from fun b hb hm => by have := lt_x_x b hb; have := ge_g0 b hm; omega)
    have HN_w0_g0 := Lib.hid (show B_w0 ∉ fp_g0 from fun hm => by have := ge_g0 _ hm; omega)
    have HN_x_x_g0 := Lib.hid (show B_x_x ∉ fp_g0 from fun hm => by have := ge_g0 _ hm; omega)
    have r7_g0 := rr
    have o7_g0 := oo
    clear u6 r6_w0 o6_w0 r6_x_x o6_x_x q6_w0 q6_x_x uu ge_g0 rr oo lt_w0 lt_x_x bl_w0 bl_x_x
    obtain ⟨w8, hwB⟩ : ∃ wB, wB = w7.alloc (.cells #[.slice p0_g0 (y).defs.length q0_g0, .slice p1_g0 (y).comps.length q1_g0, .slice p2_g0 (y).meets.length q2_g0, .slice p3_g0 (y).allow.length q3_g0, .slice p4_g0 (y).hide.length q4_g0] 29) := ⟨_, rfl⟩
    have uB : Upd [] w7 w8 := by rw [hwB]; exact (Upd.refl _ _).alloc _
    obtain ⟨B_g0, hB⟩ : ∃ B, B = w7.heap.size := ⟨_, rfl⟩
    have qq : RowAt w8 B_g0 29 [.slice p0_g0 (y).defs.length q0_g0, .slice p1_g0 (y).comps.length q1_g0, .slice p2_g0 (y).meets.length q2_g0, .slice p3_g0 (y).allow.length q3_g0, .slice p4_g0 (y).hide.length q4_g0] := by rw [hwB, hB]; exact RowAt.new _ _ _
    have lt_w0 := R_Syk.lt r7_w0
    have lt_x_x := R_Syk.lt r7_x_x
    have lt_g0 := R_Syk.lt r7_g0
    have bl_w0 := q7_w0.lt
    have bl_x_x := q7_x_x.lt
    have HN_g0_w0 := Lib.hid (show B_g0 ∉ fp_w0 from fun hm => by have := lt_w0 _ hm; omega)
    have HN_g0_x_x := Lib.hid (show B_g0 ∉ fp_x_x from fun hm => by have := lt_x_x _ hm; omega)
    have HN_g0_g0 := Lib.hid (show B_g0 ∉ fp_g0 from fun hm => by have := lt_g0 _ hm; omega)
    have u8 : Upd [] wA w8 := u7.trans (uB)
    have r8_w0 := R_Syk.upd r7_w0 (uB) (by simp)
    have o8_w0 := o7_w0.upd (uB) (by simp)
    have r8_x_x := R_Syk.upd r7_x_x (uB) (by simp)
    have o8_x_x := o7_x_x.upd (uB) (by simp)
    have r8_g0 := R_Syk.upd r7_g0 (uB) (by simp)
    have o8_g0 := o7_g0.upd (uB) (by simp)
    have q8_w0 := q7_w0.upd (uB) (by simp)
    have q8_x_x := q7_x_x.upd (uB) (by simp)
    have q8_g0 := qq
    clear u7 r7_w0 o7_w0 r7_x_x o7_x_x r7_g0 o7_g0 q7_w0 q7_x_x lt_w0 lt_x_x lt_g0 bl_w0 bl_x_x uB qq
    go_upto_region 8 with (fail)
    rw [← hwB, ← hB]
    clear hwB hB
    have z_g0_0 := q8_g0.cell 0 _ rfl
    have z_g0_1 := q8_g0.cell 1 _ rfl
    have z_g0_2 := q8_g0.cell 2 _ rfl
    have z_g0_3 := q8_g0.cell 3 _ rfl
    have z_g0_4 := q8_g0.cell 4 _ rfl
    have z_w0_0 := q8_w0.cell 0 _ rfl
    have z_w0_1 := q8_w0.cell 1 _ rfl
    have z_w0_2 := q8_w0.cell 2 _ rfl
    have z_w0_3 := q8_w0.cell 3 _ rfl
    have z_w0_4 := q8_w0.cell 4 _ rfl
    have S2 := eq_Sy [.slice p0_g0 (y).defs.length q0_g0, .slice p1_g0 (y).comps.length q1_g0, .slice p2_g0 (y).meets.length q2_g0, .slice p3_g0 (y).allow.length q3_g0, .slice p4_g0 (y).hide.length q4_g0] [.slice p0_w0 (y).defs.length q0_w0, .slice p1_w0 (y).comps.length q1_w0, .slice p2_w0 (y).meets.length q2_w0, .slice p3_w0 (y).allow.length q3_w0, .slice p4_w0 (y).hide.length q4_w0] _ w8 _ _ r8_g0 r8_w0
    go_wp2_with fail
    refine S2.mono ?_
    clear S2 z_g0_0 z_g0_1 z_g0_2 z_g0_3 z_g0_4 z_w0_0 z_w0_1 z_w0_2 z_w0_3 z_w0_4
    rintro e w9 ⟨rfl, uu⟩
    have u9 : Upd [] wA w9 := u8.trans (uu)
    have r9_w0 := R_Syk.upd r8_w0 (uu) (by simp)
    have o9_w0 := o8_w0.upd (uu) (by simp)
    have r9_x_x := R_Syk.upd r8_x_x (uu) (by simp)
    have o9_x_x := o8_x_x.upd (uu) (by simp)
    have r9_g0 := R_Syk.upd r8_g0 (uu) (by simp)
    have o9_g0 := o8_g0.upd (uu) (by simp)
    have q9_w0 := q8_w0.upd (uu) (by simp)
    have q9_x_x := q8_x_x.upd (uu) (by simp)
    have q9_g0 := q8_g0.upd (uu) (by simp)
    clear u8 r8_w0 o8_w0 r8_x_x o8_x_x r8_g0 o8_g0 q8_w0 q8_x_x q8_g0 uu
    have z_x_x_0 := q9_x_x.cell 0 _ rfl
    have z_x_x_1 := q9_x_x.cell 1 _ rfl
    have z_x_x_2 := q9_x_x.cell 2 _ rfl
    have z_x_x_3 := q9_x_x.cell 3 _ rfl
    have z_x_x_4 := q9_x_x.cell 4 _ rfl
    have z_A_0 := (HQA.out _ u9).cell 0 _ rfl
    have z_A_1 := (HQA.out _ u9).cell 1 _ rfl
    have z_A_2 := (HQA.out _ u9).cell 2 _ rfl
    have z_A_3 := (HQA.out _ u9).cell 3 _ rfl
    have z_A_4 := (HQA.out _ u9).cell 4 _ rfl
    have S6 := to_Sy _ x w9.drew _ HSZ.out (HRX.out _ (UA.out.trans u9).drew)
    have S7 := Lib.hid (fun W us f (hu : Upd [] w9.drew W) (h : R_Sy f W us x) => eq_Sy [.slice p0_x_x (x).defs.length q0_x_x, .slice p1_x_x (x).comps.length q1_x_x, .slice p2_x_x (x).meets.length q2_x_x, .slice p3_x_x (x).allow.length q3_x_x, .slice p4_x_x (x).hide.length q4_x_x] us x W _ f (R_Syk.upd r9_x_x ((Upd.refl [] _).drew.trans hu) (by simp)) h)
    go_wp2_with fail
    go_region_held3 (fun w' => w'.cell? ⟨B_x_x, 0, none⟩ = some (.slice p0_x_x (x).defs.length q0_x_x) ∧ w'.cell? ⟨B_x_x, 1, none⟩ = some (.slice p1_x_x (x).comps.length q1_x_x) ∧ w'.cell? ⟨B_x_x, 2, none⟩ = some (.slice p2_x_x (x).meets.length q2_x_x) ∧ w'.cell? ⟨B_x_x, 3, none⟩ = some (.slice p3_x_x (x).allow.length q3_x_x) ∧ w'.cell? ⟨B_x_x, 4, none⟩ = some (.slice p4_x_x (x).hide.length q4_x_x) ∧ w'.cell? ⟨BA, 0, none⟩ = some (v0) ∧ w'.cell? ⟨BA, 1, none⟩ = some (v1) ∧ w'.cell? ⟨BA, 2, none⟩ = some (v2) ∧ w'.cell? ⟨BA, 3, none⟩ = some (v3) ∧ w'.cell? ⟨BA, 4, none⟩ = some (v4)) (go_keep)
      (first
        | ((go_at_call 18); (refine S6.mono ?_); rintro e w6' ⟨⟨us, rfl, -, -, hn⟩, hu6⟩; obtain ⟨p0_t, q0_t, p1_t, q1_t, p2_t, q2_t, p3_t, q3_t, p4_t, q4_t, rfl⟩ := sy_form hn; obtain ⟨fp_t, rr6, -, -⟩ := hn; have y_0 := hu6.keep z_x_x_0; have y_1 := hu6.keep z_x_x_1; have y_2 := hu6.keep z_x_x_2; have y_3 := hu6.keep z_x_x_3; have y_4 := hu6.keep z_x_x_4; have y_5 := hu6.keep z_A_0; have y_6 := hu6.keep z_A_1; have y_7 := hu6.keep z_A_2; have y_8 := hu6.keep z_A_3; have y_9 := hu6.keep z_A_4)
        | ((go_at_call 20); (refine (S7.out w6' _ fp_t hu6 rr6).mono ?_); rintro e w10 ⟨rfl, hu7⟩; have t_0 := hu7.keep y_0; have t_1 := hu7.keep y_1; have t_2 := hu7.keep y_2; have t_3 := hu7.keep y_3; have t_4 := hu7.keep y_4; have t_5 := hu7.keep y_5; have t_6 := hu7.keep y_6; have t_7 := hu7.keep y_7; have t_8 := hu7.keep y_8; have t_9 := hu7.keep y_9))
    have uu : Upd [] w9 w10 := ((Upd.refl [] w9).drew.trans hu6).trans hu7
    have u10 : Upd [] wA w10 := u9.trans (uu)
    have r10_w0 := R_Syk.upd r9_w0 (uu) (by simp)
    have o10_w0 := o9_w0.upd (uu) (by simp)
    have r10_x_x := R_Syk.upd r9_x_x (uu) (by simp)
    have o10_x_x := o9_x_x.upd (uu) (by simp)
    have r10_g0 := R_Syk.upd r9_g0 (uu) (by simp)
    have o10_g0 := o9_g0.upd (uu) (by simp)
    have q10_w0 := q9_w0.upd (uu) (by simp)
    have q10_x_x := q9_x_x.upd (uu) (by simp)
    have q10_g0 := q9_g0.upd (uu) (by simp)
    clear u9 r9_w0 o9_w0 r9_x_x o9_x_x r9_g0 o9_g0 q9_w0 q9_x_x q9_g0 uu S6 S7 hu6 hu7 rr6 z_x_x_0 z_x_x_1 z_x_x_2 z_x_x_3 z_x_x_4 z_A_0 z_A_1 z_A_2 z_A_3 z_A_4 y_0 y_1 y_2 y_3 y_4 y_5 y_6 y_7 y_8 y_9 t_0 t_1 t_2 t_3 t_4 t_5 t_6 t_7 t_8 t_9
    have z_x_x_0 := q10_x_x.cell 0 _ rfl
    have z_x_x_1 := q10_x_x.cell 1 _ rfl
    have z_x_x_2 := q10_x_x.cell 2 _ rfl
    have z_x_x_3 := q10_x_x.cell 3 _ rfl
    have z_x_x_4 := q10_x_x.cell 4 _ rfl
    go_wp2_with fail
    refine (mark_Sy [.slice p0_x_x (x).defs.length q0_x_x, .slice p1_x_x (x).comps.length q1_x_x, .slice p2_x_x (x).meets.length q2_x_x, .slice p3_x_x (x).allow.length q3_x_x, .slice p4_x_x (x).hide.length q4_x_x] x _ _ fp_x_x (by omega) (by omega) r10_x_x o10_x_x).mono ?_
    clear z_x_x_0 z_x_x_1 z_x_x_2 z_x_x_3 z_x_x_4
    rintro e w11 ⟨rfl, r11_x_x, o11_x_x, uu⟩
    have u11 : Upd [] wA w11 := u10.fresh (uu) (fun b hb => Or.inl (HL_x_x.out b hb))
    have r11_w0 := R_Syk.upd r10_w0 (uu) HD_w0_x_x.out
    have o11_w0 := o10_w0.upd (uu) HD_w0_x_x.out
    have r11_g0 := R_Syk.upd r10_g0 (uu) (fun b hb hm => HD_x_x_g0.out b hm hb)
    have o11_g0 := o10_g0.upd (uu) (fun b hb hm => HD_x_x_g0.out b hm hb)
    have q11_w0 := q10_w0.upd (uu) HN_w0_x_x.out
    have q11_x_x := q10_x_x.upd (uu) HN_x_x_x_x.out
    have q11_g0 := q10_g0.upd (uu) HN_g0_x_x.out
    clear u10 r10_w0 o10_w0 r10_x_x o10_x_x r10_g0 o10_g0 q10_w0 q10_x_x q10_g0 r11_x_x o11_x_x q11_x_x uu
    have hk : 0 ≤ 1 + mkF_Sy x := by omega
    have z_g0_0 := q11_g0.cell 0 _ rfl
    have z_g0_1 := q11_g0.cell 1 _ rfl
    have z_g0_2 := q11_g0.cell 2 _ rfl
    have z_g0_3 := q11_g0.cell 3 _ rfl
    have z_g0_4 := q11_g0.cell 4 _ rfl
    have z_w0_0 := q11_w0.cell 0 _ rfl
    have z_w0_1 := q11_w0.cell 1 _ rfl
    have z_w0_2 := q11_w0.cell 2 _ rfl
    have z_w0_3 := q11_w0.cell 3 _ rfl
    have z_w0_4 := q11_w0.cell 4 _ rfl
    have S2 := eq_Sy [.slice p0_g0 (y).defs.length q0_g0, .slice p1_g0 (y).comps.length q1_g0, .slice p2_g0 (y).meets.length q2_g0, .slice p3_g0 (y).allow.length q3_g0, .slice p4_g0 (y).hide.length q4_g0] [.slice p0_w0 (y).defs.length q0_w0, .slice p1_w0 (y).comps.length q1_w0, .slice p2_w0 (y).meets.length q2_w0, .slice p3_w0 (y).allow.length q3_w0, .slice p4_w0 (y).hide.length q4_w0] _ w11 _ _ r11_g0 r11_w0
    go_wp2_with fail
    refine S2.mono ?_
    clear S2 z_g0_0 z_g0_1 z_g0_2 z_g0_3 z_g0_4 z_w0_0 z_w0_1 z_w0_2 z_w0_3 z_w0_4
    rintro e w12 ⟨rfl, uu⟩
    have u12 : Upd [] wA w12 := u11.trans (uu)
    have r12_w0 := R_Syk.upd r11_w0 (uu) (by simp)
    have o12_w0 := o11_w0.upd (uu) (by simp)
    have r12_g0 := R_Syk.upd r11_g0 (uu) (by simp)
    have o12_g0 := o11_g0.upd (uu) (by simp)
    have q12_w0 := q11_w0.upd (uu) (by simp)
    have q12_g0 := q11_g0.upd (uu) (by simp)
    clear u11 r11_w0 o11_w0 r11_g0 o11_g0 q11_w0 q11_g0 uu
    have z_g0_0 := q12_g0.cell 0 _ rfl
    have z_g0_1 := q12_g0.cell 1 _ rfl
    have z_g0_2 := q12_g0.cell 2 _ rfl
    have z_g0_3 := q12_g0.cell 3 _ rfl
    have z_g0_4 := q12_g0.cell 4 _ rfl
    go_wp2_with fail
    refine (mark_Sy [.slice p0_g0 (y).defs.length q0_g0, .slice p1_g0 (y).comps.length q1_g0, .slice p2_g0 (y).meets.length q2_g0, .slice p3_g0 (y).allow.length q3_g0, .slice p4_g0 (y).hide.length q4_g0] y _ _ fp_g0 (by omega) (by omega) r12_g0 o12_g0).mono ?_
    clear z_g0_0 z_g0_1 z_g0_2 z_g0_3 z_g0_4
    rintro e w13 ⟨rfl, r13_g0, o13_g0, uu⟩
    have u13 : Upd [] wA w13 := u12.fresh (uu) (fun b hb => Or.inl (HL_g0.out b hb))
    have r13_w0 := R_Syk.upd r12_w0 (uu) HD_w0_g0.out
    have o13_w0 := o12_w0.upd (uu) HD_w0_g0.out
    have q13_w0 := q12_w0.upd (uu) HN_w0_g0.out
    have q13_g0 := q12_g0.upd (uu) HN_g0_g0.out
    clear u12 r12_w0 o12_w0 r12_g0 o12_g0 q12_w0 q12_g0 uu
    have hk0 : 0 ≤ 1 + mkF_Sy y := by omega
    have hne : ((1 + mkF_Sy y) != (1 + mkF_Sy y)) = false := by simp
    have z_g0_0 := q13_g0.cell 0 _ rfl
    have z_g0_1 := q13_g0.cell 1 _ rfl
    have z_g0_2 := q13_g0.cell 2 _ rfl
    have z_g0_3 := q13_g0.cell 3 _ rfl
    have z_g0_4 := q13_g0.cell 4 _ rfl
    have S2 := held_Sy [.slice p0_g0 (y).defs.length q0_g0, .slice p1_g0 (y).comps.length q1_g0, .slice p2_g0 (y).meets.length q2_g0, .slice p3_g0 (y).allow.length q3_g0, .slice p4_g0 (y).hide.length q4_g0] y 1 w13 fp_g0 (by omega) hMk r13_g0
    go_wp2_with fail
    refine S2.mono ?_
    clear S2 z_g0_0 z_g0_1 z_g0_2 z_g0_3 z_g0_4
    rintro e w14 ⟨rfl, uu⟩
    have u14 : Upd [] wA w14 := u13.trans (uu)
    have r14_w0 := R_Syk.upd r13_w0 (uu) (by simp)
    have o14_w0 := o13_w0.upd (uu) (by simp)
    have r14_g0 := R_Syk.upd r13_g0 (uu) (by simp)
    have o14_g0 := o13_g0.upd (uu) (by simp)
    have q14_w0 := q13_w0.upd (uu) (by simp)
    have q14_g0 := q13_g0.upd (uu) (by simp)
    clear u13 r13_w0 o13_w0 r13_g0 o13_g0 q13_w0 q13_g0 uu
    have z_A_0 := (HQA.out _ u14).cell 0 _ rfl
    have z_A_1 := (HQA.out _ u14).cell 1 _ rfl
    have z_A_2 := (HQA.out _ u14).cell 2 _ rfl
    have z_A_3 := (HQA.out _ u14).cell 3 _ rfl
    have z_A_4 := (HQA.out _ u14).cell 4 _ rfl
    have S2 := to_Sy _ x w14 _ HSZ.out (HRX.out _ (UA.out.trans u14))
    go_wp2_with fail
    refine S2.mono ?_
    clear S2 z_A_0 z_A_1 z_A_2 z_A_3 z_A_4
    rintro e w15 ⟨⟨us, rfl, -, -, hn⟩, uu⟩
    obtain ⟨p0_c_x, q0_c_x, p1_c_x, q1_c_x, p2_c_x, q2_c_x, p3_c_x, q3_c_x, p4_c_x, q4_c_x, rfl⟩ := sy_form hn
    obtain ⟨fp_c_x, rr, oo, ge_c_x⟩ := hn
    have lt_w0 := R_Syk.lt r14_w0
    have lt_g0 := R_Syk.lt r14_g0
    have bl_w0 := q14_w0.lt
    have bl_g0 := q14_g0.lt
    have u15 : Upd [] wA w15 := u14.trans (uu)
    have r15_w0 := R_Syk.upd r14_w0 (uu) (by simp)
    have o15_w0 := o14_w0.upd (uu) (by simp)
    have r15_g0 := R_Syk.upd r14_g0 (uu) (by simp)
    have o15_g0 := o14_g0.upd (uu) (by simp)
    have q15_w0 := q14_w0.upd (uu) (by simp)
    have q15_g0 := q14_g0.upd (uu) (by simp)
    have HL_c_x := Lib.hid (show ∀ b ∈ fp_c_x, wA.heap.size ≤ b from fun b hb => by have := ge_c_x b hb; have := u14.size; omega)
    have HD_w0_c_x := Lib.hid (show ∀ b ∈ fp_w0, b ∉ fp_c_x from fun b hb hm => by have := lt_w0 b hb; have := ge_c_x b hm; omega)
    have HD_g0_c_x := Lib.hid (show ∀ b ∈ fp_g0, b ∉ fp_c_x from fun b hb hm => by have := lt_g0 b hb; have := ge_c_x b hm; omega)
    have HN_w0_c_x := Lib.hid (show B_w0 ∉ fp_c_x from fun hm => by have := ge_c_x _ hm; omega)
    have HN_g0_c_x := Lib.hid (show B_g0 ∉ fp_c_x from fun hm => by have := ge_c_x _ hm; omega)
    have r15_c_x := rr
    have o15_c_x := oo
    clear u14 r14_w0 o14_w0 r14_g0 o14_g0 q14_w0 q14_g0 uu ge_c_x rr oo lt_w0 lt_g0 bl_w0 bl_g0
    have S2 := pruneI [.slice p0_c_x (x).defs.length q0_c_x, .slice p1_c_x (x).comps.length q1_c_x, .slice p2_c_x (x).meets.length q2_c_x, .slice p3_c_x (x).allow.length q3_c_x, .slice p4_c_x (x).hide.length q4_c_x] x w15 fp_c_x r15_c_x hF
    rw [HG.out] at S2
    go_wp2_with fail
    refine S2.mono ?_
    clear S2
    rintro e w16 ⟨⟨us, rfl, -, -, hn⟩, uu⟩
    obtain ⟨p0_h0, q0_h0, p1_h0, q1_h0, p2_h0, q2_h0, p3_h0, q3_h0, p4_h0, q4_h0, rfl⟩ := sy_form hn
    obtain ⟨fp_h0, rr, oo, ge_h0⟩ := hn
    have lt_w0 := R_Syk.lt r15_w0
    have lt_g0 := R_Syk.lt r15_g0
    have lt_c_x := R_Syk.lt r15_c_x
    have bl_w0 := q15_w0.lt
    have bl_g0 := q15_g0.lt
    have u16 : Upd [] wA w16 := u15.trans (uu)
    have r16_w0 := R_Syk.upd r15_w0 (uu) (by simp)
    have o16_w0 := o15_w0.upd (uu) (by simp)
    have r16_g0 := R_Syk.upd r15_g0 (uu) (by simp)
    have o16_g0 := o15_g0.upd (uu) (by simp)
    have q16_w0 := q15_w0.upd (uu) (by simp)
    have q16_g0 := q15_g0.upd (uu) (by simp)
    have HL_h0 := Lib.hid (show ∀ b ∈ fp_h0, wA.heap.size ≤ b from fun b hb => by have := ge_h0 b hb; have := u15.size; omega)
    have HD_w0_h0 := Lib.hid (show ∀ b ∈ fp_w0, b ∉ fp_h0 from fun b hb hm => by have := lt_w0 b hb; have := ge_h0 b hm; omega)
    have HD_g0_h0 := Lib.hid (show ∀ b ∈ fp_g0, b ∉ fp_h0 from fun b hb hm => by have := lt_g0 b hb; have := ge_h0 b hm; omega)
    have HN_w0_h0 := Lib.hid (show B_w0 ∉ fp_h0 from fun hm => by have := ge_h0 _ hm; omega)
    have HN_g0_h0 := Lib.hid (show B_g0 ∉ fp_h0 from fun hm => by have := ge_h0 _ hm; omega)
    have r16_h0 := rr
    have o16_h0 := oo
    clear u15 r15_w0 o15_w0 r15_g0 o15_g0 r15_c_x o15_c_x q15_w0 q15_g0 uu ge_h0 rr oo lt_w0 lt_g0 lt_c_x bl_w0 bl_g0
    obtain ⟨w17, hwB⟩ : ∃ wB, wB = w16.alloc (.cells #[.slice p0_h0 (y).defs.length q0_h0, .slice p1_h0 (y).comps.length q1_h0, .slice p2_h0 (y).meets.length q2_h0, .slice p3_h0 (y).allow.length q3_h0, .slice p4_h0 (y).hide.length q4_h0] 29) := ⟨_, rfl⟩
    have uB : Upd [] w16 w17 := by rw [hwB]; exact (Upd.refl _ _).alloc _
    obtain ⟨B_h0, hB⟩ : ∃ B, B = w16.heap.size := ⟨_, rfl⟩
    have qq : RowAt w17 B_h0 29 [.slice p0_h0 (y).defs.length q0_h0, .slice p1_h0 (y).comps.length q1_h0, .slice p2_h0 (y).meets.length q2_h0, .slice p3_h0 (y).allow.length q3_h0, .slice p4_h0 (y).hide.length q4_h0] := by rw [hwB, hB]; exact RowAt.new _ _ _
    have lt_w0 := R_Syk.lt r16_w0
    have lt_g0 := R_Syk.lt r16_g0
    have lt_h0 := R_Syk.lt r16_h0
    have bl_w0 := q16_w0.lt
    have bl_g0 := q16_g0.lt
    have HN_h0_w0 := Lib.hid (show B_h0 ∉ fp_w0 from fun hm => by have := lt_w0 _ hm; omega)
    have HN_h0_g0 := Lib.hid (show B_h0 ∉ fp_g0 from fun hm => by have := lt_g0 _ hm; omega)
    have HN_h0_h0 := Lib.hid (show B_h0 ∉ fp_h0 from fun hm => by have := lt_h0 _ hm; omega)
    have u17 : Upd [] wA w17 := u16.trans (uB)
    have r17_w0 := R_Syk.upd r16_w0 (uB) (by simp)
    have o17_w0 := o16_w0.upd (uB) (by simp)
    have r17_g0 := R_Syk.upd r16_g0 (uB) (by simp)
    have o17_g0 := o16_g0.upd (uB) (by simp)
    have r17_h0 := R_Syk.upd r16_h0 (uB) (by simp)
    have o17_h0 := o16_h0.upd (uB) (by simp)
    have q17_w0 := q16_w0.upd (uB) (by simp)
    have q17_g0 := q16_g0.upd (uB) (by simp)
    have q17_h0 := qq
    clear u16 r16_w0 o16_w0 r16_g0 o16_g0 r16_h0 o16_h0 q16_w0 q16_g0 lt_w0 lt_g0 lt_h0 bl_w0 bl_g0 uB qq
    go_upto_region 25 with (fail)
    rw [← hwB, ← hB]
    clear hwB hB
    have z_h0_0 := q17_h0.cell 0 _ rfl
    have z_h0_1 := q17_h0.cell 1 _ rfl
    have z_h0_2 := q17_h0.cell 2 _ rfl
    have z_h0_3 := q17_h0.cell 3 _ rfl
    have z_h0_4 := q17_h0.cell 4 _ rfl
    have z_w0_0 := q17_w0.cell 0 _ rfl
    have z_w0_1 := q17_w0.cell 1 _ rfl
    have z_w0_2 := q17_w0.cell 2 _ rfl
    have z_w0_3 := q17_w0.cell 3 _ rfl
    have z_w0_4 := q17_w0.cell 4 _ rfl
    have S2 := eq_Sy [.slice p0_h0 (y).defs.length q0_h0, .slice p1_h0 (y).comps.length q1_h0, .slice p2_h0 (y).meets.length q2_h0, .slice p3_h0 (y).allow.length q3_h0, .slice p4_h0 (y).hide.length q4_h0] [.slice p0_w0 (y).defs.length q0_w0, .slice p1_w0 (y).comps.length q1_w0, .slice p2_w0 (y).meets.length q2_w0, .slice p3_w0 (y).allow.length q3_w0, .slice p4_w0 (y).hide.length q4_w0] _ w17 _ _ r17_h0 r17_w0
    go_wp2_with fail
    refine S2.mono ?_
    clear S2 z_h0_0 z_h0_1 z_h0_2 z_h0_3 z_h0_4 z_w0_0 z_w0_1 z_w0_2 z_w0_3 z_w0_4
    rintro e w18 ⟨rfl, uu⟩
    have u18 : Upd [] wA w18 := u17.trans (uu)
    have r18_w0 := R_Syk.upd r17_w0 (uu) (by simp)
    have o18_w0 := o17_w0.upd (uu) (by simp)
    have r18_g0 := R_Syk.upd r17_g0 (uu) (by simp)
    have o18_g0 := o17_g0.upd (uu) (by simp)
    have r18_h0 := R_Syk.upd r17_h0 (uu) (by simp)
    have o18_h0 := o17_h0.upd (uu) (by simp)
    have q18_w0 := q17_w0.upd (uu) (by simp)
    have q18_g0 := q17_g0.upd (uu) (by simp)
    have q18_h0 := q17_h0.upd (uu) (by simp)
    clear u17 r17_w0 o17_w0 r17_g0 o17_g0 r17_h0 o17_h0 q17_w0 q17_g0 q17_h0 uu
    have z_g0_0 := q18_g0.cell 0 _ rfl
    have z_g0_1 := q18_g0.cell 1 _ rfl
    have z_g0_2 := q18_g0.cell 2 _ rfl
    have z_g0_3 := q18_g0.cell 3 _ rfl
    have z_g0_4 := q18_g0.cell 4 _ rfl
    have S2 := held_Sy [.slice p0_g0 (y).defs.length q0_g0, .slice p1_g0 (y).comps.length q1_g0, .slice p2_g0 (y).meets.length q2_g0, .slice p3_g0 (y).allow.length q3_g0, .slice p4_g0 (y).hide.length q4_g0] y 1 w18 fp_g0 (by omega) hMk r18_g0
    go_wp2_with fail
    refine S2.mono ?_
    clear S2 z_g0_0 z_g0_1 z_g0_2 z_g0_3 z_g0_4
    rintro e w19 ⟨rfl, uu⟩
    have u19 : Upd [] wA w19 := u18.trans (uu)
    have r19_w0 := R_Syk.upd r18_w0 (uu) (by simp)
    have o19_w0 := o18_w0.upd (uu) (by simp)
    have r19_g0 := R_Syk.upd r18_g0 (uu) (by simp)
    have o19_g0 := o18_g0.upd (uu) (by simp)
    have r19_h0 := R_Syk.upd r18_h0 (uu) (by simp)
    have o19_h0 := o18_h0.upd (uu) (by simp)
    have q19_w0 := q18_w0.upd (uu) (by simp)
    have q19_g0 := q18_g0.upd (uu) (by simp)
    have q19_h0 := q18_h0.upd (uu) (by simp)
    clear u18 r18_w0 o18_w0 r18_g0 o18_g0 r18_h0 o18_h0 q18_w0 q18_g0 q18_h0 uu
    have HU := Lib.hid (UA.out.trans u19)
    go_wp2_with fail
    go_ret
    exact ⟨rfl, HU.out⟩

end Go.Proofs.YtnchmnjkmhfleaaGreat

/-
  The form's reading of definitions.
-/
namespace Go.Proofs.YtnchmnjkmhfleaaGreat
open Go.RowKit Go.ChangeShapes Go.WideShapes Go.Deep

set_option maxRecDepth 20000 in
theorem opens_Pa : Opens Tryz.prog 205 R_Pa PaOk := by
  intro H enc w fuel cs x hx
  obtain ⟨y0, y1, y2, y3, n, -, hl, h0, h1, h2, h3⟩ := Go.Joins.trod_struct4 Tryz.underlying205 hx
  rw [show Tryz.prog.cellsOf 205 = 4 by kernel_rfl] at hl
  match cs, hl with
  | [a, b, c, d], _ =>
    have c0 : Tryz.prog.cellsOf 2 = 1 := by kernel_rfl
    have c3 : Tryz.prog.cellsOf 9 = 1 := by kernel_rfl
    have c4 : Tryz.prog.cellsOf 203 = 1 := by kernel_rfl
    obtain ⟨k, e0, -, -⟩ := DataW.trod_int Tryz.underlying2 h0
    obtain ⟨m, e1, -, -⟩ := DataW.trod_int Tryz.underlying2 h1
    obtain ⟨s, e2, -, hs⟩ := DataW.trod_string Tryz.underlying9 h2
    simp [c0, c3, c4] at e0 e1 e2 h3
    obtain ⟨args, f3, r3, -⟩ := opens_T2 h3
    refine ⟨⟨k, m, s.data.toList, args⟩, f3 ++ [], ⟨d, f3, by rw [e0, e1, e2], r3, rfl⟩, ?_⟩
    show s.data.toList.length ≤ 9223372036854775807
    have : s.data.toList.length ≤ maxLen := hs
    simp only [maxLen] at this
    omega
theorem opens_Pa1 : Opens Tryz.prog 133 R_Pa1 Pa1Ok := opens_slQ Tryz.underlying133 (by kernel_rfl) (by decide) opens_Pa
set_option maxRecDepth 20000 in
theorem opens_De : Opens Tryz.prog 135 R_De DeOk := by
  intro H enc w fuel cs x hx
  obtain ⟨y0, y1, y2, n, -, hl, h0, h1, h2⟩ := trod_struct3 Tryz.underlying135 hx
  rw [show Tryz.prog.cellsOf 135 = 3 by kernel_rfl] at hl
  match cs, hl with
  | [a, b, c], _ =>
    have c0 : Tryz.prog.cellsOf 2 = 1 := by kernel_rfl
    have c3 : Tryz.prog.cellsOf 9 = 1 := by kernel_rfl
    have c4 : Tryz.prog.cellsOf 133 = 1 := by kernel_rfl
    obtain ⟨s, e0, -, hs⟩ := DataW.trod_string Tryz.underlying9 h0
    obtain ⟨m, e1, -, -⟩ := DataW.trod_int Tryz.underlying2 h1
    simp [c0, c3, c4] at e0 e1 h2
    obtain ⟨body, f2, r2, g2⟩ := opens_Pa1 h2
    refine ⟨⟨s.data.toList, m, body⟩, f2 ++ [], ⟨c, f2, by rw [e0, e1], r2, rfl⟩, ?_, g2⟩
    show s.data.toList.length ≤ 9223372036854775807
    have : s.data.toList.length ≤ maxLen := hs
    simp only [maxLen] at this
    omega
theorem opens_De1 : Opens Tryz.prog 41 R_De1 De1Ok := opens_slQ Tryz.underlying41 (by kernel_rfl) (by decide) opens_De

end Go.Proofs.YtnchmnjkmhfleaaGreat

/-
  The form's reading of systems.
-/
namespace Go.Proofs.YtnchmnjkmhfleaaGreat
open Go.RowKit Go.ChangeShapes Go.WideShapes Go.Deep

set_option maxRecDepth 20000 in
theorem opens_Co : Opens Tryz.prog 46 R_Co CoOk := by
  intro H enc w fuel cs x hx
  obtain ⟨y0, y1, n, -, hl, h0, h1⟩ := trod_struct2 Tryz.underlying46 hx
  rw [show Tryz.prog.cellsOf 46 = 2 by kernel_rfl] at hl
  match cs, hl with
  | [a, b], _ =>
    have c0 : Tryz.prog.cellsOf 2 = 1 := by kernel_rfl
    have c1 : Tryz.prog.cellsOf 36 = 1 := by kernel_rfl
    obtain ⟨k, e0, -, -⟩ := DataW.trod_int Tryz.underlying2 h0
    simp [c0, c1] at e0 h1
    obtain ⟨vals, f1, r1, -⟩ := opens_I1 h1
    exact ⟨⟨k, vals⟩, f1 ++ [], ⟨b, f1, by rw [e0], r1, rfl⟩, trivial⟩
theorem opens_Co1 : Opens Tryz.prog 42 R_Co1 Co1Ok := opens_slQ Tryz.underlying42 (by kernel_rfl) (by decide) opens_Co
set_option maxRecDepth 20000 in
theorem opens_Me : Opens Tryz.prog 137 R_Me MeOk := by
  intro H enc w fuel cs x hx
  obtain ⟨y0, y1, y2, n, -, hl, h0, h1, h2⟩ := trod_struct3 Tryz.underlying137 hx
  rw [show Tryz.prog.cellsOf 137 = 3 by kernel_rfl] at hl
  match cs, hl with
  | [a, b, c], _ =>
    have c3 : Tryz.prog.cellsOf 9 = 1 := by kernel_rfl
    obtain ⟨s, e0, -, hs⟩ := DataW.trod_string Tryz.underlying9 h0
    obtain ⟨t, e1, -, ht⟩ := DataW.trod_string Tryz.underlying9 h1
    obtain ⟨u, e2, -, hu⟩ := DataW.trod_string Tryz.underlying9 h2
    simp [c3] at e0 e1 e2
    refine ⟨⟨s.data.toList, t.data.toList, u.data.toList⟩, [], ⟨by rw [e0, e1, e2], rfl⟩, ?_⟩
    show s.data.toList.length ≤ 9223372036854775807 ∧ t.data.toList.length ≤ 9223372036854775807 ∧ u.data.toList.length ≤ 9223372036854775807
    have h1 : s.data.toList.length ≤ maxLen := hs
    have h2 : t.data.toList.length ≤ maxLen := ht
    have h3 : u.data.toList.length ≤ maxLen := hu
    simp only [maxLen] at h1 h2 h3
    omega
theorem opens_Me1 : Opens Tryz.prog 43 R_Me1 Me1Ok := opens_slQ Tryz.underlying43 (by kernel_rfl) (by decide) opens_Me

set_option maxRecDepth 20000 in
theorem open_Sy {H : Type} {enc : TypeId × Value → H} {w : World} {v : Value} {d : DataW H} {ps : List MemPlace} (hv : ∃ cs, v = .agg cs ∧ cs.size = Tryz.prog.cellsOf 45)
    (hd : DataW.Trod enc Tryz.prog w 0 (fun _ => true) true 45 v d ps) : ∃ x fp cs, v = .agg cs.toArray ∧ R_Sy fp w cs x ∧ SyOk x := by
  obtain ⟨cs, rfl, hcs⟩ := hv
  rw [show Tryz.prog.cellsOf 45 = 5 by kernel_rfl] at hcs
  obtain ⟨l, rfl⟩ : ∃ l : List Value, cs = l.toArray := ⟨cs.toList, by simp⟩
  match l, hcs with
  | [a, b, c, d, e], _ =>
    obtain ⟨fuel, hf⟩ := hd
    obtain ⟨y0, y1, y2, y3, y4, n, -, h0, h1, h2, h3, h4⟩ := trod_struct5 Tryz.underlying45 hf
    have c1 : Tryz.prog.cellsOf 41 = 1 := by kernel_rfl
    have c2 : Tryz.prog.cellsOf 42 = 1 := by kernel_rfl
    have c3 : Tryz.prog.cellsOf 43 = 1 := by kernel_rfl
    have c4 : Tryz.prog.cellsOf 27 = 1 := by kernel_rfl
    simp [c1, c2, c3, c4, Value.cells] at h0 h1 h2 h3 h4
    obtain ⟨s0, f0, r0, g0⟩ := opens_De1 h0
    obtain ⟨s1, f1, r1, g1⟩ := opens_Co1 h1
    obtain ⟨s2, f2, r2, g2⟩ := opens_Me1 h2
    obtain ⟨s3, f3, r3, g3⟩ := opens_S1 h3
    obtain ⟨s4, f4, r4, g4⟩ := opens_S1 h4
    exact ⟨⟨s0, s1, s2, s3, s4⟩, f0 ++ (f1 ++ (f2 ++ (f3 ++ f4))), [a, b, c, d, e], rfl, ⟨a, b, c, d, e, f0, f1, f2, f3, f4, rfl, r0, r1, r2, r3, r4, rfl⟩, ⟨g0, g1, g2, g3, g4⟩⟩

end Go.Proofs.YtnchmnjkmhfleaaGreat
