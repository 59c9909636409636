/-
  Texts joined in one file: DfG, IdxDe, DfH, DfY, DfZ, DfDt, DfSt, FitD, LawDefText, OpenDe.
-/
import Derived.Test.YtjelcjiofcoifaaGreatDoorZT1
import Derived.Test.YtjelcjiofcoifaaGreatDoorZT2
import Derived.Test.YtjelcjiofcoifaaGreatDoorZT3
import Derived.Deep.RegionHeld3
import Derived.Lib.SmallJoins
import Derived.Deep.Strs
/-
  The first part of a body that is not valid: what the program's call returns.
-/
namespace Go.Proofs.YtjelcjiofcoifaaGreatDoor
open Go.RowKit

/-- what bounds a definition that is looked at. -/
def DeFit (d : De) : Prop := d.body.length ≤ 2000000 ∧ ∀ p ∈ d.body, p.name.length ≤ 2000000 ∧ p.args.length ≤ 2000000

set_option maxRecDepth 20000 in
set_option maxHeartbeats 8000000 in
theorem bodyFaultI (ds : List De) (dv : Value) (fd : List Nat) (cs : List Value) (d : De) (fp : List Nat) (w : World) (hD : R_De1 fd w [dv] ds) (hdl : ds.length ≤ 1000000) (hR : R_De fp w cs d) (hF : DeFit d) (hp0 : 0 ≤ d.pars) (hp1 : d.pars ≤ 3) :
    Calls Tryz.prog 59 #[dv, .agg cs.toArray] w fun e w' => e = .returned (.tuple #[.int .i64 (faultP ds d).1, .int .i64 (faultP ds d).2]) ∧ Upd [] w w' := by
  have hR' := hR
  obtain ⟨v2, f2, rfl, h2, rfl⟩ := hR
  have h2' := h2
  obtain ⟨a, cap, rfl, g1, g2, hc⟩ := slQ_open h2
  obtain ⟨ad, qd, rfl, -, -, -⟩ := slQ_open hD
  unfold maxLen at g2
  obtain ⟨wA, hwA⟩ : ∃ wA, wA = w.alloc (.cells #[es d.name, ei d.pars, .slice a d.body.length cap] 56) := ⟨_, rfl⟩
  obtain ⟨BA, hBA⟩ : ∃ BA, BA = w.heap.size := ⟨_, rfl⟩
  have uA : Upd [] w wA := by rw [hwA]; exact (Upd.refl _ _).alloc _
  have HC := Lib.hid (fun W (hu : Upd [] wA W) => show W.cell? ⟨BA, 0, none⟩ = some (es d.name) ∧ W.cell? ⟨BA, 1, none⟩ = some (ei d.pars) ∧ W.cell? ⟨BA, 2, none⟩ = some (.slice a d.body.length cap) from
    ⟨hu.keep (by rw [hwA, hBA]; exact cell_new w _ _ _ rfl 0 _ rfl), hu.keep (by rw [hwA, hBA]; exact cell_new w _ _ _ rfl 1 _ rfl), hu.keep (by rw [hwA, hBA]; exact cell_new w _ _ _ rfl 2 _ rfl)⟩)
  have HM := Lib.hid (show faultP ds d = if (inB (d.body.length : Int) 1 20 && shapeG folP 1 d.body) = true then faultFrom ds d d.body 0 d.body else (0, 1) by
    unfold faultP bodyOk inB
    rw [show decide ((1 : Int) ≤ (d.body.length : Int)) = decide (1 ≤ d.body.length) by congr 1; rw [eq_iff_iff]; omega, show decide ((d.body.length : Int) ≤ 20) = decide (d.body.length ≤ 20) by congr 1; rw [eq_iff_iff]; omega])
  have SW := Lib.hid (fun W => within (d.body.length : Int) 1 20 W)
  have SQ := Lib.hid (fun n => (show Calls Tryz.prog 55 #[.int .i64 (d.body.length : Int), .int .i64 1, .int .i64 20] (wA.drewN n) fun e w' => e = .returned (.bool (inB (d.body.length : Int) 1 20)) ∧ ∃ m, w' = wA.drewN m from (within (d.body.length : Int) 1 20 (wA.drewN n)).mono fun e w' ⟨h, hw⟩ => ⟨h, n, hw.symm⟩))
  have HRD := Lib.hid (fun W (hu : Upd [] w W) => R_Dek.upd hR' hu (by simp))
  have UA := Lib.hid uA
  have HFIT := Lib.hid hF
  obtain ⟨c0, c1, c2⟩ := HC.out wA (Upd.refl _ _)
  cases hin : inB (d.body.length : Int) 1 20 with
  | false =>
    rw [hin] at SQ
    have HZ := Lib.hid (show faultP ds d = (0, 1) by rw [HM.out, hin]; rfl)
    generalize faultP ds d = Z at *
    clear HM hin HRD HFIT hR' h2 h2' hc hF hD uA HC
    go_enter Tryz.func59, Tryz.ntmps59
    go_upto_region 1 with (fail)
    rw [← hwA, ← hBA]
    clear hwA hBA
    go_wp2_with fail
    go_quiet ((go_at_call 55; with_reducible exact SQ.out _))
    have HU := Lib.hid (UA.out.drewN nq)
    go_wp2_with fail
    go_ret2
    exact ⟨by rw [HZ.out]; rfl, HU.out⟩
  | true =>
    have h20 := inB_true hin
    rw [hin] at SW
    rw [hin, Bool.true_and] at HM
    have SE := Lib.hid (fun W (hu : Upd [] wA W) => endDI _ d W _ (HRD.out W (UA.out.trans hu)) (by omega))
    have hl20 : d.body.length ≤ 20 := by omega
    clear hin h20 SQ hR' h2 uA
    go_enter Tryz.func59, Tryz.ntmps59
    go_upto_region 1 with (fail)
    rw [← hwA, ← hBA]
    clear hwA hBA
    go_wp2_with fail
    go_region_held3 (fun w' => w'.cell? ⟨BA, 0, none⟩ = some (es d.name) ∧ w'.cell? ⟨BA, 1, none⟩ = some (ei d.pars) ∧ w'.cell? ⟨BA, 2, none⟩ = some (.slice a d.body.length cap)) (go_keep)
      (first
        | (go_at_call 55; (with_reducible refine (SW.out _).mono ?_); rintro e wq ⟨rfl, rfl⟩)
        | (go_at_call 93; (with_reducible refine (SE.out _ (by repeat (first | exact Upd.refl _ _ | refine Upd.drew ?_ | refine Upd.drewN ?_ _))).mono ?_); rintro e w1 ⟨⟨r, rfl, hr0, hr1, hr2⟩, hu1⟩; have d0 := hu1.keep c0; have d1 := hu1.keep c1; have d2 := hu1.keep c2))
    all_goals
      have hne : (r != (d.body.length : Int)) = !shapeG folP 1 d.body := by rw [← hr2]; rfl
      have HU := Lib.hid ((Upd.refl [] wA).drew.trans hu1)
      rw [hne]
      clear hne hr0 hr1 hr2 hu1 SW SE c0 c1 c2
      obtain ⟨sh, hsh⟩ : ∃ q, shapeG folP 1 d.body = q := ⟨_, rfl⟩
      rw [hsh] at HM ⊢
      cases sh with
      | false =>
        have HZ := Lib.hid (show faultP ds d = (0, 1) by rw [HM.out]; rfl)
        clear HM hsh HRD HFIT h2' hc hF hD HC
        go_wp2_with fail
        go_ret2
        exact ⟨by rw [HZ.out]; rfl, UA.out.trans HU.out⟩
      | true =>
        obtain ⟨x, -, hok, hfl⟩ := forestT_one folP_nn hsh
        have HZ := Lib.hid (show faultP ds d = faultFrom ds d d.body 0 d.body by rw [HM.out]; rfl)
        have SP := Lib.hid (placesI _ d x w1 _ (HRD.out w1 (UA.out.trans HU.out)) hok hfl hl20 hp0 hp1)
        have HPL := Lib.hid (fun i (hi : i < d.body.length) => place_at hok hfl i hi)
        have HPN := Lib.hid (show (plT x d.pars false).length = d.body.length by rw [plT_len, hfl])
        clear HM hsh hok hfl
        generalize plT x d.pars false = pl at *
        go_wp2_with fail
        refine SP.out.mono ?_
        rintro e w2 ⟨⟨v', rfl, hnew⟩, hu2⟩
        obtain ⟨apl, cpl, rfl⟩ := New.form hnew
        obtain ⟨fpl, hpr, -, -⟩ := hnew
        have HPR := Lib.hid hpr
        have e2 := hu2.keep d2
        have HU2 := Lib.hid ((UA.out.trans HU.out).trans hu2)
        clear SP hu2 hpr d0 d1 d2
        have hpl' := HPN.out
        rw [hpl']
        clear hpl'
        go_wp2_with fail
        go_loopw [28] (fun iv wr => ∃ k : Nat, k ≤ d.body.length ∧ iv = .int .i64 k ∧ Hid (Upd [] w2 wr) ∧ Hid (faultFrom ds d d.body k (d.body.drop k) = faultFrom ds d d.body 0 d.body)) (fun iv _ => d.body.length - (intOf iv).toNat)
        case atStart => exact ⟨0, Nat.zero_le _, rfl, Lib.hid (Upd.refl _ _), Lib.hid rfl⟩
        case round =>
          obtain ⟨wo, rfl⟩ : ∃ wo : World, wo = wr := ⟨_, rfl⟩
          obtain ⟨k, hk, rfl, HUk, HF⟩ := hrel
          by_cases hlt : k < d.body.length
          · obtain ⟨bb, off, u, f', rfl, -, -, -, hcell, -, hr⟩ := hc k hlt
            have hr' := hr
            obtain ⟨v3, f3, rfl, h3, rfl⟩ := hr
            obtain ⟨a3, c3, rfl, -, -, -⟩ := slP_open h3
            have UW := Lib.hid (HU2.out.trans HUk.out)
            have s0 := UW.out.keep (hcell 0 _ rfl)
            have s1 := UW.out.keep (hcell 1 _ rfl)
            have s2 := UW.out.keep (hcell 2 _ rfl)
            have s3 := UW.out.keep (hcell 3 _ rfl)
            simp only [Nat.add_zero] at s0
            obtain ⟨ap, qp, hvp, -, hqp, hrc⟩ := slF2_open HPR.out
            obtain ⟨bp, op, rfl, -, -, r1, r2⟩ := hrc k (by rw [HPN.out]; exact hlt)
            simp only [Value.slice.injEq] at hvp
            obtain ⟨rfl, -, -⟩ := hvp
            have hplk : pl[k]'(by rw [HPN.out]; exact hlt) = (d.pars + cntB folP sumP d.body k, behindP d.body k) := by
              have := HPL.out k hlt
              rw [List.getElem?_eq_getElem (by rw [HPN.out]; exact hlt)] at this
              exact Option.some.inj this
            rw [hplk] at r1 r2
            have r1 := HUk.out.keep r1
            have r2 := HUk.out.keep r2
            have hcb := cntB_bd folP sumP d.body k
            have hfk := HFIT.out.2 d.body[k] (List.getElem_mem hlt)
            have hf := HF.out
            rw [List.drop_eq_getElem_cons hlt, faultFrom] at hf
            have HFN := Lib.hid hf
            have hsc0 : 0 ≤ d.pars + cntB folP sumP d.body k := by omega
            have hsc1 : d.pars + cntB folP sumP d.body k ≤ 29 := by omega
            have HR := Lib.hid (fun W (hu : Upd [] wo W) => reasonI ds (.slice ad ds.length qd) fd _ d.body[k] _ (d.pars + cntB folP sumP d.body k) (behindP d.body k) W (R_De1k.upd hD (UW.out.trans hu) (by simp)) (R_Pak.upd hr' (UW.out.trans hu) (by simp)) hdl hfk.1 hfk.2 hsc0 hsc1)
            have hkl : (k : Int) < (d.body.length : Int) := by omega
            have hrn := reasonP_nn ds d.body[k] (d.pars + cntB folP sumP d.body k) (behindP d.body k)
            clear hf hrc hplk hcb hfk hr' hcell h3 hsc0 hsc1
            generalize reasonP ds d.body[k] (d.pars + cntB folP sumP d.body k) (behindP d.body k) = rz at *
            generalize d.pars + cntB folP sumP d.body k = sc at *
            generalize behindP d.body k = bh at *
            generalize d.body[k] = p at *
            obtain ⟨wP, hwP⟩ : ∃ q, q = wo.alloc (.cells #[ei p.kind, ei p.num, es p.name, .slice a3 p.args.length c3] 134) := ⟨_, rfl⟩
            obtain ⟨BP, hBP⟩ : ∃ q, q = wo.heap.size := ⟨_, rfl⟩
            have uP : Upd [] wo wP := by rw [hwP]; exact (Upd.refl _ _).alloc _
            have x0 : wP.cell? ⟨BP, 0, none⟩ = some (ei p.kind) := by rw [hwP, hBP]; exact cell_new wo _ _ _ rfl 0 _ rfl
            have x1 : wP.cell? ⟨BP, 1, none⟩ = some (ei p.num) := by rw [hwP, hBP]; exact cell_new wo _ _ _ rfl 1 _ rfl
            have x2 : wP.cell? ⟨BP, 2, none⟩ = some (es p.name) := by rw [hwP, hBP]; exact cell_new wo _ _ _ rfl 2 _ rfl
            have x3 : wP.cell? ⟨BP, 3, none⟩ = some (.slice a3 p.args.length c3) := by rw [hwP, hBP]; exact cell_new wo _ _ _ rfl 3 _ rfl
            have r1 := uP.keep r1
            have r2 := uP.keep r2
            have UP := Lib.hid uP
            clear uP
            go_upto_region 7 with (fail)
            rw [← hwP, ← hBP]
            clear hwP hBP s0 s1 s2 s3
            go_region_held3 (fun w' => w'.cell? ⟨BP, 0, none⟩ = some (ei p.kind) ∧ w'.cell? ⟨BP, 1, none⟩ = some (ei p.num) ∧ w'.cell? ⟨BP, 2, none⟩ = some (es p.name) ∧ w'.cell? ⟨BP, 3, none⟩ = some (.slice a3 p.args.length c3) ∧ w'.cell? ⟨bp, op + k * 2, none⟩ = some (ei sc) ∧ w'.cell? ⟨bp, op + k * 2 + 1, none⟩ = some (.bool bh)) (go_keep)
              (first
                | (go_at_call 95; (with_reducible refine (HR.out _ (UP.out.trans (by repeat (first | exact Upd.refl _ _ | refine Upd.drew ?_ | refine Upd.drewN ?_ _)))).mono ?_); rintro e w5 ⟨rfl, hu5⟩; have y0 := hu5.keep x0; have y1 := hu5.keep x1; have y2 := hu5.keep x2; have y3 := hu5.keep x3; have z1 := hu5.keep r1; have z2 := hu5.keep r2))
            all_goals
              have HU5 := Lib.hid (HUk.out.trans (UP.out.trans ((Upd.refl [] wP).drew.trans hu5)))
              clear hu5 y0 y1 y2 y3 z1 z2 x0 x1 x2 x3 r1 r2 HR UP UW HUk
              by_cases hz : rz = 0
              · have hzb : (rz != 0) = false := by simp [hz]
                have HK := Lib.hid (show faultFrom ds d d.body (k + 1) (d.body.drop (k + 1)) = faultFrom ds d d.body 0 d.body by rw [← HFN.out, if_pos hz])
                clear hz HFN
                go_wp2_with fail
                go_roundw
                case rel => exact ⟨k + 1, by omega, by go_num, HU5, HK⟩
                case measure => simp [intOf]; omega
              · have hzb : (rz != 0) = true := by simp [hz]
                have HK := Lib.hid (show faultP ds d = ((k : Int), rz) by rw [HZ.out, ← HFN.out, if_neg hz])
                clear hz HFN
                go_wp2_with fail
                go_ret2
                exact ⟨by rw [HK.out]; rfl, HU2.out.trans HU5.out⟩
          · have hkk : ¬ (k : Int) < (d.body.length : Int) := by omega
            have hf := HF.out
            rw [List.drop_of_length_le (by omega), faultFrom] at hf
            have HK := Lib.hid (show faultP ds d = (0, 0) by rw [HZ.out, ← hf])
            clear hf
            go_wp2_with fail
            go_ret2
            exact ⟨by rw [HK.out]; rfl, HU2.out.trans HUk.out⟩

end Go.Proofs.YtjelcjiofcoifaaGreatDoor

/-
  Slices of structs (Definition): the first element of which something is true, and whether there is one (the library's functions with a function's value).
-/
namespace Go.Proofs.YtjelcjiofcoifaaGreatDoor
open Go.RowKit

set_option maxRecDepth 20000 in
set_option maxHeartbeats 2000000 in
theorem idxFuncDe (P : De → Bool) (fn : FuncId) (caps : Array Value) (v : Value) (xs : List De) (w : World) (fp : List Nat) (hR : R_De1 fp w [v] xs)
    (hent : ∀ args w, Sem.run Tryz.prog (callFunc fn args) w = .ok (.enter fn args) w)
    (hby : ∀ wr us g s, s ∈ xs → Upd [] w wr → R_De g wr us s → Calls Tryz.prog fn (#[.agg us.toArray] ++ caps) wr fun e w' => e = .returned (.bool (P s)) ∧ Upd [] wr w') :
    Calls Tryz.prog 91 #[v, .func (.func fn) #[] caps] w fun e w' => e = .returned (.int .i64 (firstP P xs)) ∧ Upd [] w w' := by
  obtain ⟨a1, c1, rfl, hl1, hm1, hc1⟩ := slQ_open hR
  unfold maxLen at hm1
  have HBY := Lib.hid hby
  have HC := Lib.hid hc1
  have HF := Lib.hid (fun k (hk : k < xs.length) (h1 : ∀ j (_ : j < k) (hj : j < xs.length), P xs[j] = false) (h2 : P xs[k] = true) => firstP_at k hk h1 h2)
  have HN := Lib.hid (fun (h : ∀ j (hj : j < xs.length), P xs[j] = false) => firstP_none h)
  clear hR hby hc1
  generalize firstP P xs = Z at *
  go_enter Tryz.func91, Tryz.ntmps91
  go_wp2_with fail
  go_loopw [8] (fun i wr => ∃ k : Nat, k ≤ xs.length ∧ i = .int .i64 k ∧ Hid (Upd [] w wr) ∧ Hid (∀ j (_ : j < k) (hj : j < xs.length), P xs[j] = false)) (fun i _ => xs.length - (intOf i).toNat)
  case atStart => exact ⟨0, Nat.zero_le _, rfl, Lib.hid (Upd.refl _ _), Lib.hid (fun j hj => absurd hj (Nat.not_lt_zero _))⟩
  case round =>
    obtain ⟨wo, rfl⟩ : ∃ wo : World, wo = wr := ⟨_, rfl⟩
    obtain ⟨k, hk, rfl, HU, HI⟩ := hrel
    by_cases hlt : k < xs.length
    · obtain ⟨bb, off, u, f', rfl, -, -, hul, hcell, -, hr⟩ := HC.out k hlt
      have HFK := Lib.hid (HF.out k hlt HI.out)
      have HIK := Lib.hid (fun (h : P xs[k] = false) j (hjk : j < k + 1) (hj : j < xs.length) => (show P xs[j] = false by
        by_cases e : j = k
        · subst e; exact h
        · exact HI.out j (by omega) hj))
      have HS1 := Lib.hid (HBY.out wo u f' xs[k] (List.getElem_mem hlt) HU.out (R_Dek.upd hr HU.out (by simp)))
      have hcell' : ∀ (j : Nat) c, u[j]? = some c → wo.cell? ⟨bb, off + k * 3 + j, none⟩ = some c := fun j c hj => HU.out.keep (hcell j c hj)
      match u, hul with
      | [x0, x1, x2], _ =>
        have s0 := hcell' 0 _ rfl
        have s1 := hcell' 1 _ rfl
        have s2 := hcell' 2 _ rfl
        simp only [Nat.add_zero] at s0
        have hkl : (k : Int) < (xs.length : Int) := by omega
        clear hr hcell hcell' HF HN
        generalize xs[k] = s at *
        generalize P s = q at *
        go_wp2_with fail
        refine HS1.out.mono ?_
        rintro e w1 ⟨rfl, hu1⟩
        have HU1 := Lib.hid (HU.out.trans hu1)
        clear HS1 hu1 s0 s1 s2
        cases q with
        | false =>
          replace HIK := Lib.hid (HIK.out rfl)
          clear HFK
          go_wp2_with fail
          go_roundw
          case rel => exact ⟨k + 1, by omega, by go_num, HU1, HIK⟩
          case measure => simp [intOf]; omega
        | true =>
          have HZ := Lib.hid (HFK.out rfl)
          clear HIK HFK
          go_wp2_with fail
          go_ret
          exact ⟨by rw [HZ.out]; rfl, HU1.out⟩
    · have HZ := Lib.hid (HN.out (fun j hj => HI.out j (by omega) hj))
      clear HF HN
      go_wp2_with fail
      go_ret
      exact ⟨by rw [HZ.out]; rfl, HU.out⟩

set_option maxRecDepth 20000 in
theorem conFuncDe (P : De → Bool) (fn : FuncId) (caps : Array Value) (v : Value) (xs : List De) (w : World) (fp : List Nat) (hR : R_De1 fp w [v] xs)
    (hent : ∀ args w, Sem.run Tryz.prog (callFunc fn args) w = .ok (.enter fn args) w)
    (hby : ∀ wr us g s, s ∈ xs → Upd [] w wr → R_De g wr us s → Calls Tryz.prog fn (#[.agg us.toArray] ++ caps) wr fun e w' => e = .returned (.bool (P s)) ∧ Upd [] wr w') :
    Calls Tryz.prog 88 #[v, .func (.func fn) #[] caps] w fun e w' => e = .returned (.bool (xs.any P)) ∧ Upd [] w w' := by
  have S1 := Lib.hid (idxFuncDe P fn caps v xs w fp hR hent hby)
  have HB := Lib.hid (firstP_nonneg P xs)
  clear hR hent hby
  generalize firstP P xs = Z at *
  generalize xs.any P = q at *
  go_enter Tryz.func88, Tryz.ntmps88
  go_wp2_with fail
  refine S1.out.mono ?_
  rintro e w1 ⟨rfl, hu⟩
  have HU := Lib.hid hu
  clear hu
  go_wp2_with fail
  go_ret
  exact ⟨by show Ending.returned (.bool (decide (0 ≤ Z))) = _; rw [HB.out], HU.out⟩

end Go.Proofs.YtjelcjiofcoifaaGreatDoor

/-
  The program's check of a list of definitions: what the calls return.
-/
namespace Go.Proofs.YtjelcjiofcoifaaGreatDoor
open Go.RowKit

theorem enter_pars1 (args : Array Value) (w : World) : Sem.run Tryz.prog (callFunc 89 args) w = .ok (.enter 89 args) w := by go_simp
theorem enter_named1 (args : Array Value) (w : World) : Sem.run Tryz.prog (callFunc 92 args) w = .ok (.enter 92 args) w := by go_simp
set_option maxRecDepth 20000 in
set_option maxHeartbeats 1000000 in
theorem pars1I (cs : List Value) (d : De) (w : World) (fp : List Nat) (hR : R_De fp w cs d) :
    Calls Tryz.prog 89 #[.agg cs.toArray] w fun e w' => e = .returned (.bool (!inB d.pars 0 3)) ∧ Upd [] w w' := by
  obtain ⟨v2, f2, rfl, -, -⟩ := hR
  have S1 := Lib.hid (fun W => within d.pars 0 3 W)
  generalize inB d.pars 0 3 = q at *
  go_enter Tryz.func89, Tryz.ntmps89
  go_wp2_with fail
  refine (S1.out _).mono ?_
  rintro e w1 ⟨rfl, rfl⟩
  clear S1
  go_wp2_with fail
  go_ret
  exact ⟨rfl, (Upd.refl _ _).alloc _⟩
set_option maxRecDepth 20000 in
set_option maxHeartbeats 1000000 in
theorem parametersOkI (v : Value) (ds : List De) (w : World) (fp : List Nat) (hR : R_De1 fp w [v] ds) :
    Calls Tryz.prog 56 #[v] w fun e w' => e = .returned (.bool (ds.all fun d => inB d.pars 0 3)) ∧ Upd [] w w' := by
  have S1 := Lib.hid (conFuncDe (fun d => !inB d.pars 0 3) 89 #[] v ds w fp hR enter_pars1 (fun wr us g s _ _ hs => pars1I us s wr g hs))
  have HM := Lib.hid (show (ds.all fun d => inB d.pars 0 3) = !(ds.any fun d => !inB d.pars 0 3) by rw [List.all_eq_not_any_not])
  generalize (ds.all fun d => inB d.pars 0 3) = Z at *
  generalize (ds.any fun d => !inB d.pars 0 3) = q at *
  have hent := enter_pars1
  clear hR
  go_enter Tryz.func56, Tryz.ntmps56
  go_wp2_with fail
  refine S1.out.mono ?_
  rintro e w1 ⟨rfl, hu⟩
  have HU := Lib.hid hu
  clear S1 hu
  go_wp2_with fail
  go_ret
  exact ⟨by rw [HM.out]; rfl, HU.out⟩
set_option maxRecDepth 20000 in
set_option maxHeartbeats 1000000 in
theorem named1I (cs : List Value) (d : De) (nm : List UInt8) (B : Nat) (w : World) (fp : List Nat) (hR : R_De fp w cs d) (c0 : w.cell? ⟨B, 0, none⟩ = some (es nm)) :
    Calls Tryz.prog 92 #[.agg cs.toArray, .pointer (some ⟨B, 0, none⟩)] w fun e w' => e = .returned (.bool (d.name == nm)) ∧ Upd [] w w' := by
  obtain ⟨v2, f2, rfl, -, -⟩ := hR
  have c0 := ((Upd.refl [] w).alloc (.cells #[es d.name, ei d.pars, v2] 56)).keep c0
  obtain ⟨q, hq⟩ : ∃ q, (d.name == nm) = q := ⟨_, rfl⟩
  rw [hq]
  generalize d.name = m at *
  go_enter Tryz.func92, Tryz.ntmps92
  go_wp2_with fail
  go_ret
  exact ⟨by first | rfl | (rw [← hq]; rfl), (Upd.refl _ _).alloc _⟩
set_option maxRecDepth 20000 in
set_option maxHeartbeats 1000000 in
theorem definitionNamedI (v : Value) (ds : List De) (nm : List UInt8) (w : World) (fp : List Nat) (hR : R_De1 fp w [v] ds) :
    Calls Tryz.prog 58 #[v, es nm] w fun e w' => e = .returned (.int .i64 (firstP (fun d => d.name == nm) ds)) ∧ Upd [] w w' := by
  obtain ⟨a, c, rfl, -, -, -⟩ := slQ_open hR
  obtain ⟨wA, hwA⟩ : ∃ wA, wA = w.alloc (.cells #[es nm] 9) := ⟨_, rfl⟩
  obtain ⟨BA, hBA⟩ : ∃ BA, BA = w.heap.size := ⟨_, rfl⟩
  have uA : Upd [] w wA := by rw [hwA]; exact (Upd.refl _ _).alloc _
  have c0 : wA.cell? ⟨BA, 0, none⟩ = some (es nm) := by rw [hwA, hBA]; exact cell_new w _ _ _ rfl 0 _ rfl
  have S1 := Lib.hid (idxFuncDe (fun d => d.name == nm) 92 #[.pointer (some ⟨BA, 0, none⟩)] _ ds wA fp (R_De1k.upd hR uA (by simp)) enter_named1 (fun wr us g s _ hu hs => named1I us s nm BA wr g hs (hu.keep c0)))
  have UA := Lib.hid uA
  have hent := enter_named1
  clear hR uA c0
  generalize firstP (fun d : De => d.name == nm) ds = Z at *
  generalize ds.length = n at *
  go_enter Tryz.func58, Tryz.ntmps58
  go_upto_region 1 with (fail)
  rw [← hwA, ← hBA]
  clear hwA hBA
  go_wp2_with fail
  refine S1.out.mono ?_
  rintro e w1 ⟨rfl, hu⟩
  have HU := Lib.hid (UA.out.trans hu)
  clear S1 hu
  go_wp2_with fail
  go_ret
  exact ⟨rfl, HU.out⟩

/-- what bounds a list of definitions that is looked at. -/
def DesFit (ds : List De) : Prop := ds.length ≤ 2000000 ∧ ∀ d ∈ ds, d.name.length ≤ 2000000 ∧ DeFit d

theorem sizeD_eq (ds : List De) : sizeD ds = (inB (ds.length : Int) 1 4 && ds.all fun d => inB d.pars 0 3) := by
  unfold sizeD inB
  rw [show decide ((1 : Int) ≤ (ds.length : Int)) = decide (1 ≤ ds.length) by congr 1; rw [eq_iff_iff]; omega, show decide ((ds.length : Int) ≤ 4) = decide (ds.length ≤ 4) by congr 1; rw [eq_iff_iff]; omega]
set_option maxRecDepth 20000 in
set_option maxHeartbeats 8000000 in
theorem validDefsI (v : Value) (ds : List De) (w : World) (fp : List Nat) (hR : R_De1 fp w [v] ds) (hF : DesFit ds) :
    Calls Tryz.prog 27 #[v] w fun e w' => e = .returned (.bool (defsOk ds)) ∧ Upd [] w w' := by
  have hR' := hR
  obtain ⟨a, cap, rfl, g1, g2, hc⟩ := slQ_open hR
  unfold maxLen at g2
  have hHS := sizeD_eq ds
  have SW := Lib.hid (within (ds.length : Int) 1 4 w)
  have SP := Lib.hid (parametersOkI (.slice a ds.length cap) ds w fp hR')
  have HSZ := Lib.hid (fun (h : sizeD ds = false) => defsOk_size h)
  have HNO := Lib.hid (fun k (hk : k < ds.length) (h : goodD ds k ds[k] = false) => defsOk_no hk h)
  have HYE := Lib.hid (fun (h : ∀ j (hj : j < ds.length), goodD ds j ds[j] = true) => defsOk_yes h)
  have HC := Lib.hid hc
  have HRD := Lib.hid (fun W (hu : Upd [] w W) => R_De1k.upd hR' hu (by simp))
  have HFT := Lib.hid hF
  clear hR hR' hc hF
  generalize hZ : defsOk ds = Z at *
  clear hZ
  obtain ⟨q1, h1⟩ : ∃ q, inB (ds.length : Int) 1 4 = q := ⟨_, rfl⟩
  obtain ⟨q2, h2⟩ : ∃ q, (ds.all fun d => inB d.pars 0 3) = q := ⟨_, rfl⟩
  rw [h1, h2] at hHS
  rw [h1] at SW
  rw [h2] at SP
  cases q1 with
  | false =>
    have HZ := Lib.hid (HSZ.out (by rw [hHS]; rfl))
    clear HSZ HNO HYE HC HRD HFT h1 h2 hHS SP
    go_enter Tryz.func27, Tryz.ntmps27
    go_wp2_with fail
    refine SW.out.mono ?_
    rintro e w1 ⟨rfl, rfl⟩
    clear SW
    go_wp2_with fail
    go_ret
    exact ⟨by rw [HZ.out]; rfl, Upd.refl _ _⟩
  | true =>
    cases q2 with
    | false =>
      have HZ := Lib.hid (HSZ.out (by rw [hHS]; rfl))
      clear HSZ HNO HYE HC HRD HFT h1 h2 hHS
      go_enter Tryz.func27, Tryz.ntmps27
      go_wp2_with fail
      refine SW.out.mono ?_
      rintro e w1 ⟨rfl, rfl⟩
      clear SW
      go_wp2_with fail
      refine SP.out.mono ?_
      rintro e w1 ⟨rfl, hu⟩
      have HU := Lib.hid hu
      clear SP hu
      go_wp2_with fail
      go_ret
      exact ⟨by rw [HZ.out]; rfl, HU.out⟩
    | true =>
      have hl4 : ds.length ≤ 4 := by have := inB_true h1; omega
      have HPA := Lib.hid (fun d (hd : d ∈ ds) => (show 0 ≤ d.pars ∧ d.pars ≤ 3 from inB_true (List.all_eq_true.1 h2 d hd)))
      have HST := Lib.hid (show sizeD ds = true by rw [hHS]; rfl)
      clear HSZ h1 h2 hHS
      go_enter Tryz.func27, Tryz.ntmps27
      go_wp2_with fail
      refine SW.out.mono ?_
      rintro e w1 ⟨rfl, rfl⟩
      clear SW
      go_wp2_with fail
      refine SP.out.mono ?_
      rintro e w1 ⟨rfl, hu⟩
      have HU1 := Lib.hid hu
      clear SP hu
      go_wp2_with fail
      go_loopw [18] (fun iv wr => ∃ k : Nat, k ≤ ds.length ∧ iv = .int .i64 k ∧ Hid (Upd [] w1 wr) ∧ Hid (∀ j (_ : j < k) (hj : j < ds.length), goodD ds j ds[j] = true)) (fun iv _ => ds.length - (intOf iv).toNat)
      case atStart => exact ⟨0, Nat.zero_le _, rfl, Lib.hid (Upd.refl _ _), Lib.hid (fun j hj => absurd hj (Nat.not_lt_zero _))⟩
      case round =>
        obtain ⟨wo, rfl⟩ : ∃ wo : World, wo = wr := ⟨_, rfl⟩
        obtain ⟨k, hk, rfl, HUk, HG⟩ := hrel
        by_cases hlt : k < ds.length
        · obtain ⟨bb, off, u, f', rfl, -, -, -, hcell, -, hr⟩ := HC.out k hlt
          have hr' := hr
          obtain ⟨v2, f2, rfl, h2, rfl⟩ := hr
          obtain ⟨a2, c2, rfl, -, -, -⟩ := slQ_open h2
          have UW := Lib.hid (HU1.out.trans HUk.out)
          have s0 := UW.out.keep (hcell 0 _ rfl)
          have s1 := UW.out.keep (hcell 1 _ rfl)
          have s2 := UW.out.keep (hcell 2 _ rfl)
          simp only [Nat.add_zero] at s0
          have hfk := HFT.out.2 ds[k] (List.getElem_mem hlt)
          have hpk := HPA.out ds[k] (List.getElem_mem hlt)
          have HNK := Lib.hid (HNO.out k hlt)
          have HGK := Lib.hid (fun (h : goodD ds k ds[k] = true) j (hjk : j < k + 1) (hj : j < ds.length) => (show goodD ds j ds[j] = true by
            by_cases e : j = k
            · subst e; exact h
            · exact HG.out j (by omega) hj))
          have HGD := Lib.hid (show goodD ds k ds[k] = (nameF ds[k].name && !((ds.take k).any fun o => o.name == ds[k].name) && (faultP ds ds[k]).2 == 0) from rfl)
          have SN := Lib.hid (fun W => isNameI ds[k].name W hfk.1)
          have HRK := Lib.hid (fun W (hu : Upd [] wo W) => R_Dek.upd hr' (UW.out.trans hu) (by simp))
          have SB := Lib.hid (fun W (hu : Upd [] wo W) => bodyFaultI ds (.slice (some ⟨bb, off, none⟩) ds.length cap) fp _ ds[k] _ W (HRD.out W (UW.out.trans hu)) (by omega) (HRK.out W hu) hfk.2 hpk.1 hpk.2)
          have SD := Lib.hid (fun W (hu : Upd [] wo W) => show Calls Tryz.prog 58 #[.slice (some ⟨bb, off, none⟩) k cap, es ds[k].name] W (fun e w' => e = .returned (.int .i64 (firstP (fun d => d.name == ds[k].name) (ds.take k))) ∧ Upd [] W w') from by
            obtain ⟨f9, h9, -⟩ := slQ_take (HRD.out W (UW.out.trans hu)) k (by omega)
            exact definitionNamedI _ (ds.take k) ds[k].name W f9 h9)
          have hfa := firstP_nonneg (fun d : De => d.name == ds[k].name) (ds.take k)
          have HFA := Lib.hid hfa
          have hkl : (k : Int) < (ds.length : Int) := by omega
          have hkc : (k : Int) ≤ (cap : Int) := by omega
          have hkc2 : k ≤ cap := by omega
          clear hfk hpk hcell hr' h2 hfa HG
          generalize goodD ds k ds[k] = gz at *
          generalize firstP (fun d : De => d.name == ds[k].name) (ds.take k) = fz at *
          generalize ((ds.take k).any fun o : De => o.name == ds[k].name) = az at *
          generalize faultP ds ds[k] = fl at *
          generalize ds[k] = d at *
          obtain ⟨wP, hwP⟩ : ∃ q, q = wo.alloc (.cells #[es d.name, ei d.pars, .slice a2 d.body.length c2] 56) := ⟨_, rfl⟩
          obtain ⟨BP, hBP⟩ : ∃ q, q = wo.heap.size := ⟨_, rfl⟩
          have uP : Upd [] wo wP := by rw [hwP]; exact (Upd.refl _ _).alloc _
          have x0 : wP.cell? ⟨BP, 0, none⟩ = some (es d.name) := by rw [hwP, hBP]; exact cell_new wo _ _ _ rfl 0 _ rfl
          have x1 : wP.cell? ⟨BP, 1, none⟩ = some (ei d.pars) := by rw [hwP, hBP]; exact cell_new wo _ _ _ rfl 1 _ rfl
          have x2 : wP.cell? ⟨BP, 2, none⟩ = some (.slice a2 d.body.length c2) := by rw [hwP, hBP]; exact cell_new wo _ _ _ rfl 2 _ rfl
          have UP := Lib.hid uP
          have SQ := Lib.hid (fun n => (show Calls Tryz.prog 57 #[es d.name] (wP.drewN n) fun e w' => e = .returned (.bool (nameF d.name)) ∧ ∃ m, w' = wP.drewN m from (SN.out (wP.drewN n)).mono fun e w' ⟨h, hw⟩ => ⟨h, n, hw.symm⟩))
          clear uP
          go_upto_region 6 with (fail)
          rw [← hwP, ← hBP]
          clear hwP hBP s0 s1 s2
          cases hnm : nameF d.name with
          | false =>
            rw [hnm] at SQ
            have HZ := Lib.hid (HNK.out (by rw [HGD.out, hnm]; rfl))
            clear hnm HNK HGK HGD SN SB SD HRK HFA HYE HNO
            go_quiet ((go_at_call 57; with_reducible exact SQ.out _))
            have HU9 := Lib.hid (UW.out.trans (UP.out.drewN nq))
            go_wp2_with fail
            go_ret
            exact ⟨by rw [HZ.out]; rfl, HU9.out⟩
          | true =>
            rw [hnm] at SN
            rw [hnm, Bool.true_and] at HGD
            clear hnm SQ
            go_region_held3 (fun w' => w'.cell? ⟨BP, 0, none⟩ = some (es d.name)) (go_keep)
              (first
                | (go_at_call 57; (with_reducible refine (SN.out _).mono ?_); rintro e wq ⟨rfl, rfl⟩)
                | (go_at_call 58; (with_reducible refine (SD.out _ (UP.out.trans (by repeat (first | exact Upd.refl _ _ | refine Upd.drew ?_ | refine Upd.drewN ?_ _)))).mono ?_); rintro e w5 ⟨rfl, hu5⟩; have y0 := hu5.keep x0))
            all_goals
              have HU5 := Lib.hid (UP.out.trans ((Upd.refl [] wP).drew.trans hu5))
              have y1 := ((Upd.refl [] wP).drew.trans hu5).keep x1
              have y2 := ((Upd.refl [] wP).drew.trans hu5).keep x2
              rw [show decide (0 ≤ fz) = az from HFA.out]
              clear hu5 x0 x1 x2 SN SD HFA UP
              cases az with
              | true =>
                have HZ := Lib.hid (HNK.out (by rw [HGD.out]; rfl))
                clear HNK HGK HGD SB HRK HYE HNO
                go_wp2_with fail
                go_ret
                exact ⟨by rw [HZ.out]; rfl, UW.out.trans HU5.out⟩
              | false =>
                have SB5 := Lib.hid (SB.out w5 HU5.out)
                obtain ⟨f0, f1⟩ := fl
                clear SB HRK
                go_wp2_with fail
                refine SB5.out.mono ?_
                rintro e w6 ⟨rfl, hu6⟩
                have HU6 := Lib.hid (HUk.out.trans (HU5.out.trans hu6))
                clear hu6 SB5 y0 y1 y2 UW HUk HU5
                by_cases hf : f1 = 0
                · have hfb : (f1 != 0) = false := by simp [hf]
                  have HGN := Lib.hid (HGK.out (by rw [HGD.out, hf]; rfl))
                  clear HNK HGK HGD hf
                  go_wp2_with fail
                  go_roundw
                  case rel => exact ⟨k + 1, by omega, by go_num, HU6, HGN⟩
                  case measure => simp [intOf]; omega
                · have hfb : (f1 != 0) = true := by simp [hf]
                  have HZ := Lib.hid (HNK.out (by rw [HGD.out]; simp [hf]))
                  clear HNK HGK HGD hf
                  go_wp2_with fail
                  go_ret
                  exact ⟨by rw [HZ.out]; rfl, HU1.out.trans HU6.out⟩
        · have hkk : ¬ (k : Int) < (ds.length : Int) := by omega
          have HZ := Lib.hid ((HYE.out (fun j hj => HG.out j (by omega) hj)).trans HST.out)
          clear HG HNO HYE
          go_wp2_with fail
          go_ret
          exact ⟨by rw [HZ.out]; rfl, HU1.out.trans HUk.out⟩

end Go.Proofs.YtjelcjiofcoifaaGreatDoor

/-
  The reference's check of a list of definitions: what the call returns.
-/
namespace Go.Proofs.YtjelcjiofcoifaaGreatDoor
open Go.RowKit

set_option maxRecDepth 20000 in
set_option maxHeartbeats 16000000 in
theorem defsS (v : Value) (ds : List De) (w : World) (fp : List Nat) (hR : R_De1 fp w [v] ds) (hF : DesFit ds) :
    Calls Tryz.prog 23 #[v] w fun e w' => e = .returned (.bool (defsOk ds)) ∧ Upd [] w w' := by
  have hR' := hR
  obtain ⟨a, cap, rfl, g1, g2, hc⟩ := slQ_open hR
  unfold maxLen at g2
  have HLEN := Lib.hid (fun (h : inB (ds.length : Int) 1 4 = false) => defsOk_len h)
  have HNN := Lib.hid (fun k (hk : k < ds.length) (h : nameF ds[k].name = false) => defsOk_noname hk h)
  have HNP := Lib.hid (fun k (hk : k < ds.length) (h : inB ds[k].pars 0 3 = false) => defsOk_nopars hk h)
  have HND := Lib.hid (fun j k (hj : j < k) (hk : k < ds.length) (h : (ds[j].name == ds[k].name) = true) => defsOk_nodup hj hk h)
  have HNF := Lib.hid (fun k (hk : k < ds.length) (h : (faultP ds ds[k]).2 ≠ 0) => defsOk_nofault hk h)
  have HALL := Lib.hid (fun (hs : inB (ds.length : Int) 1 4 = true) h1 h2 => defsOk_all (ds := ds) hs h1 h2)
  have HC := Lib.hid hc
  have HRD := Lib.hid (fun W (hu : Upd [] w W) => R_De1k.upd hR' hu (by simp))
  have HFT := Lib.hid hF
  clear hR hR' hc hF
  generalize hZ : defsOk ds = Z at *
  clear hZ
  by_cases h0 : ds.length = 0
  · have HZ := Lib.hid (HLEN.out (inB_no (by omega)))
    have hb : ((ds.length : Int) == 0) = true := by rw [h0]; rfl
    clear h0 HLEN HNN HNP HND HNF HALL HC HRD HFT
    go_enter Tryz.func23, Tryz.ntmps23
    go_wp2_with fail
    go_ret
    exact ⟨by rw [HZ.out]; rfl, Upd.refl _ _⟩
  · have hb : ((ds.length : Int) == 0) = false := by simp; intro h; exact h0 (by rw [h]; rfl)
    by_cases h4 : 4 < ds.length
    · have HZ := Lib.hid (HLEN.out (inB_no (by omega)))
      have hb2 : (4 : Int) < (ds.length : Int) := by omega
      clear h0 h4 HLEN HNN HNP HND HNF HALL HC HRD HFT
      go_enter Tryz.func23, Tryz.ntmps23
      go_wp2_with fail
      go_ret
      exact ⟨by rw [HZ.out]; rfl, Upd.refl _ _⟩
    · have hb2 : ¬ (4 : Int) < (ds.length : Int) := by omega
      have hl4 : ds.length ≤ 4 := by omega
      have HAL := Lib.hid (HALL.out (inB_mk (by omega)))
      clear h0 h4 HLEN HALL
      go_enter Tryz.func23, Tryz.ntmps23
      go_wp2_with fail
      go_loopw [3] (fun iv wr => ∃ k : Nat, k ≤ ds.length ∧ iv = .int .i64 k ∧ Hid (∀ j (_ : j < k) (hj : j < ds.length), headD ds j ds[j] = true) ∧ Hid (Upd [] w wr)) (fun iv _ => ds.length - (intOf iv).toNat)
      case atStart => exact ⟨0, Nat.zero_le _, rfl, Lib.hid (fun j hj => absurd hj (Nat.not_lt_zero _)), Lib.hid (Upd.refl _ _)⟩
      case round =>
        obtain ⟨wo, rfl⟩ : ∃ wo : World, wo = wr := ⟨_, rfl⟩
        obtain ⟨k, hk, rfl, HG, HU⟩ := hrel
        by_cases hlt : k < ds.length
        · obtain ⟨bb, off, u, f', rfl, -, -, -, hcell, -, hr⟩ := HC.out k hlt
          obtain ⟨v2, f2, rfl, -, -⟩ := hr
          have s0 := HU.out.keep (hcell 0 _ rfl)
          have s1 := HU.out.keep (hcell 1 _ rfl)
          simp only [Nat.add_zero] at s0
          have hfk := HFT.out.2 ds[k] (List.getElem_mem hlt)
          have S1 := Lib.hid (nameS ds[k].name wo hfk.1)
          have S2 := Lib.hid (l00In ds[k].pars 0 3 wo)
          have HN1 := Lib.hid (HNN.out k hlt)
          have HN2 := Lib.hid (HNP.out k hlt)
          have hkl : (k : Int) < (ds.length : Int) := by omega
          clear hfk hcell
          obtain ⟨q1, h1⟩ : ∃ q, nameF ds[k].name = q := ⟨_, rfl⟩
          obtain ⟨q2, h2⟩ : ∃ q, inB ds[k].pars 0 3 = q := ⟨_, rfl⟩
          rw [h1] at S1
          rw [h2] at S2
          go_wp2_with fail
          refine S1.out.mono ?_
          rintro e wq ⟨rfl, rfl⟩
          clear S1
          cases q1 with
          | false =>
            have HZ := Lib.hid (HN1.out h1)
            clear HN1 HN2 S2 h1 h2
            go_wp2_with fail
            go_ret
            exact ⟨by rw [HZ.out]; rfl, HU.out⟩
          | true =>
            go_wp2_with fail
            refine S2.out.mono ?_
            rintro e wq ⟨rfl, rfl⟩
            clear S2
            cases q2 with
            | false =>
              have HZ := Lib.hid (HN2.out h2)
              clear HN1 HN2 h1 h2
              go_wp2_with fail
              go_ret
              exact ⟨by rw [HZ.out]; rfl, HU.out⟩
            | true =>
              have HH := Lib.hid (And.intro h1 h2)
              clear HN1 HN2 h1 h2 s1
              go_wp2_with fail
              go_loopw [4] (fun jv wr => ∃ j : Nat, j ≤ k ∧ jv = .int .i64 j ∧ Hid (∀ i (_ : i < j) (hi : i < ds.length), (ds[i].name == ds[k].name) = false) ∧ Hid (Upd [] wo wr)) (fun jv _ => k - (intOf jv).toNat)
              case atStart => exact ⟨0, Nat.zero_le _, rfl, Lib.hid (fun i hi => absurd hi (Nat.not_lt_zero _)), Lib.hid (Upd.refl _ _)⟩
              case round =>
                obtain ⟨wi, rfl⟩ : ∃ wi : World, wi = wr := ⟨_, rfl⟩
                obtain ⟨j, hj, rfl, HE, HUi⟩ := hrel
                by_cases hjk : j < k
                · have hjl : j < ds.length := by omega
                  obtain ⟨bb', off', u', f'', he, -, -, -, hcell', -, hr'⟩ := HC.out j hjl
                  simp only [Option.some.injEq, Addr.mk.injEq, and_true] at he
                  obtain ⟨rfl, rfl⟩ := he
                  obtain ⟨v4, f4, rfl, -, -⟩ := hr'
                  have t0 := (HU.out.trans HUi.out).keep (hcell' 0 _ rfl)
                  simp only [Nat.add_zero] at t0
                  have s0' := HUi.out.keep s0
                  have hjki : (j : Int) < (k : Int) := by omega
                  have hjli : (j : Int) < (ds.length : Int) := by omega
                  have HDU := Lib.hid (HND.out j k hjk hlt)
                  have HEN := Lib.hid (fun (h : (ds[j].name == ds[k].name) = false) i (hij : i < j + 1) (hi : i < ds.length) => (show (ds[i].name == ds[k].name) = false by
                    by_cases e : i = j
                    · subst e; exact h
                    · exact HE.out i (by omega) hi))
                  clear hcell' HE
                  obtain ⟨qe, hqe⟩ : ∃ q, (ds[j].name == ds[k].name) = q := ⟨_, rfl⟩
                  rw [hqe] at HDU HEN
                  generalize ds[j].name = nj at *
                  generalize hnk : ds[k].name = nk at *
                  clear hnk
                  cases qe with
                  | true =>
                    have HZ := Lib.hid (HDU.out rfl)
                    clear HDU HEN
                    go_wp2_with fail
                    go_quiet (fail)
                    go_wp2_with fail
                    go_ret
                    exact ⟨by rw [HZ.out]; rfl, HU.out.trans (HUi.out.drewN nq)⟩
                  | false =>
                    have HE2 := Lib.hid (HEN.out rfl)
                    clear HDU HEN
                    go_wp2_with fail
                    go_quiet (fail)
                    go_wp2_with fail
                    go_roundw
                    case rel => exact ⟨j + 1, by omega, by go_num, HE2, Lib.hid (HUi.out.drewN nq)⟩
                    case measure => simp [intOf]; omega
                · have hjki : ¬ (j : Int) < (k : Int) := by omega
                  have HK := Lib.hid (show ∀ i (_ : i < k + 1) (hi : i < ds.length), headD ds i ds[i] = true from fun i hi hil => by
                    by_cases e : i = k
                    · subst e
                      unfold headD
                      rw [HH.out.1, HH.out.2]
                      simp only [Bool.true_and, Bool.not_eq_true']
                      rw [List.any_eq_false]
                      intro o ho
                      obtain ⟨m, hm, rfl⟩ := List.mem_iff_getElem.1 ho
                      simp only [List.length_take] at hm
                      rw [List.getElem_take, HE.out m (by omega) (by omega)]; simp
                    · exact HG.out i (by omega) hil)
                  have HUU := Lib.hid (HU.out.trans HUi.out)
                  clear HE HG HH
                  go_wp2_with fail
                  go_roundw
                  case rel => exact ⟨k + 1, by omega, by go_num, HK, HUU⟩
                  case measure => simp [intOf]; omega
        · have hkl : ¬ (k : Int) < (ds.length : Int) := by omega
          have HH := Lib.hid (fun j (hj : j < ds.length) => HG.out j (by omega) hj)
          have HPA := Lib.hid (fun j (hj : j < ds.length) => (show 0 ≤ ds[j].pars ∧ ds[j].pars ≤ 3 from by
            have := HH.out j hj
            unfold headD at this
            simp only [Bool.and_eq_true] at this
            exact inB_true this.1.2))
          clear HG HNN HNP HND
          go_wp2_with fail
          go_loopw [5] (fun iv wr => ∃ m : Nat, m ≤ ds.length ∧ iv = .int .i64 m ∧ Hid (∀ j (_ : j < m) (hj : j < ds.length), (faultP ds ds[j]).2 = 0) ∧ Hid (Upd [] wo wr)) (fun iv _ => ds.length - (intOf iv).toNat)
          case atStart => exact ⟨0, Nat.zero_le _, rfl, Lib.hid (fun j hj => absurd hj (Nat.not_lt_zero _)), Lib.hid (Upd.refl _ _)⟩
          case round =>
            obtain ⟨wi, rfl⟩ : ∃ wi : World, wi = wr := ⟨_, rfl⟩
            obtain ⟨m, hm, rfl, HE, HUi⟩ := hrel
            by_cases hml : m < ds.length
            · obtain ⟨bb, off, u, f', rfl, -, -, -, hcell, -, hr⟩ := HC.out m hml
              have UU := Lib.hid (HU.out.trans HUi.out)
              obtain ⟨f9, hDA⟩ := DeAt.of (w := w) (o := off + m * 3) (fun j c hj => hcell j c hj) hr
              have hfm := HFT.out.2 ds[m] (List.getElem_mem hml)
              have hpm := HPA.out m hml
              have S3 := Lib.hid (bodyS ds (.slice (some ⟨bb, off, none⟩) ds.length cap) fp bb (off + m * 3) f9 ds[m] wi (HRD.out wi UU.out) (hDA.upd UU.out) (by omega) ⟨hfm.2.1, hfm.2.2⟩ hpm.1 hpm.2)
              have HNO := Lib.hid (HNF.out m hml)
              have HEN := Lib.hid (fun (h : (faultP ds ds[m]).2 = 0) i (him : i < m + 1) (hi : i < ds.length) => (show (faultP ds ds[i]).2 = 0 by
                by_cases e : i = m
                · subst e; exact h
                · exact HE.out i (by omega) hi))
              have hmi : (m : Int) < (ds.length : Int) := by omega
              have hfn : 0 ≤ (faultP ds ds[m]).2 := by
                have : ∀ (l : List Pa) (i : Nat), 0 ≤ (faultFrom ds ds[m] ds[m].body i l).2 := by
                  intro l
                  induction l with
                  | nil => intro i; simp [faultFrom]
                  | cons p l ih =>
                    intro i
                    rw [faultFrom]
                    split
                    · exact ih (i + 1)
                    · exact (reasonP_nn ds p _ _).1
                unfold faultP
                split
                · exact this _ _
                · simp
              clear hcell hr hDA hfm hpm HE
              generalize faultP ds ds[m] = fl at *
              obtain ⟨f0, f1⟩ := fl
              simp only at hfn HNO HEN S3
              go_wp2_with fail
              refine S3.out.mono ?_
              rintro e w6 ⟨rfl, hu6⟩
              have HU6 := Lib.hid (HUi.out.trans hu6)
              clear hu6 S3 UU
              by_cases hz : f1 = 0
              · have hzb : ¬ (0 : Int) < f1 := by omega
                have HE2 := Lib.hid (HEN.out hz)
                clear HNO HEN hz
                go_wp2_with fail
                go_roundw
                case rel => exact ⟨m + 1, by omega, by go_num, HE2, HU6⟩
                case measure => simp [intOf]; omega
              · have hzb : (0 : Int) < f1 := by omega
                have HZ := Lib.hid (HNO.out hz)
                clear HNO HEN hz
                go_wp2_with fail
                go_ret
                exact ⟨by rw [HZ.out]; rfl, HU.out.trans HU6.out⟩
            · have hmi : ¬ (m : Int) < (ds.length : Int) := by omega
              have HZ := Lib.hid (HAL.out HH.out (fun j hj => HE.out j (by omega) hj))
              clear HE HH HAL HNF
              go_wp2_with fail
              go_ret
              exact ⟨by rw [HZ.out]; rfl, HU.out.trans HUi.out⟩

end Go.Proofs.YtjelcjiofcoifaaGreatDoor

/-
  The text of a body: what the program's calls return (a printer that goes on through the parts).
-/
namespace Go.Proofs.YtjelcjiofcoifaaGreatDoor
open Go.RowKit

/-- what the printer reads beside its own two cells. -/
structure PrEnv (lv : Value) (fd : List Nat) (ds : List De) (b off cap : Nat) (fb : List Nat) (body : List Pa) (W : World) : Prop where
  g : Glob W
  l : R_De1 fd W [lv] ds
  r : R_Pa1 fb W [.slice (some ⟨b, off, none⟩) body.length cap] body
/-- the printer before the part k. -/
structure PrW (X : Nat) (lv : Value) (fd : List Nat) (ds : List De) (b off cap : Nat) (fb : List Nat) (body : List Pa) (k : Nat) (w : World) : Prop where
  blk : ∃ a m c, m + k = body.length ∧ c + k = cap ∧ w.heap[X]? = some (.cells #[lv, .slice a m c] 91 (0, 0)) ∧ (0 < m → a = some ⟨b, off + k * 4, none⟩)
  env : ∀ W, Upd [X] w W → PrEnv lv fd ds b off cap fb body W
  nx : X ∉ fb
theorem PrW.upd {X : Nat} {lv : Value} {fd : List Nat} {ds : List De} {b off cap : Nat} {fb : List Nat} {body : List Pa} {k : Nat} {w w' : World} (h : PrW X lv fd ds b off cap fb body k w) (hu : Upd [] w w') : PrW X lv fd ds b off cap fb body k w' := by
  obtain ⟨a, m, c, h1, h2, h3, h4⟩ := h.blk
  exact ⟨⟨a, m, c, h1, h2, by rw [hu.block X (Array.getElem?_eq_some_iff.1 h3).1 (by simp)]; exact h3, h4⟩, fun W hW => h.env W ((hu.mono (by simp)).trans hW), h.nx⟩
/-- what the printer leaves behind a part. -/
def Printed (X : Nat) (lv : Value) (fd : List Nat) (ds : List De) (b off cap : Nat) (fb : List Nat) (body : List Pa) (k : Nat) (T : List UInt8) (w : World) (e : Ending) (w' : World) : Prop :=
  e = .returned (es T) ∧ Upd [X] w w' ∧ PrW X lv fd ds b off cap fb body k w'
theorem es_parD (T : List UInt8) : ((⟨#[40]⟩ : ByteArray) ++ ⟨T.toArray⟩ ++ ⟨#[41]⟩) = ⟨(([40] ++ T) ++ [41]).toArray⟩ := by rw [str_cat, str_cat]

set_option maxRecDepth 20000 in
set_option maxHeartbeats 4000000 in
theorem innerD (X : Nat) (lv : Value) (fd : List Nat) (ds : List De) (b off cap : Nat) (fb : List Nat) (body : List Pa) (k k' : Nat) (y : Tr Pa) (post : List Pa) (T : List UInt8) (w : World) (hW : PrW X lv fd ds b off cap fb body k w) (hdr : body.drop k = flatT y ++ post) (hT : T.length ≤ 100000)
    (S : Calls Tryz.prog 61 #[.pointer (some ⟨X, 0, none⟩)] w (Printed X lv fd ds b off cap fb body k' T w)) :
    Calls Tryz.prog 98 #[.pointer (some ⟨X, 0, none⟩)] w (Printed X lv fd ds b off cap fb body k' (par (chP y) T) w) := by
  obtain ⟨p, args⟩ := y
  have hkl : k < body.length := by
    have h1 := congrArg List.length hdr
    simp only [List.length_drop, flatT, List.cons_append, List.length_cons] at h1
    omega
  have hpk : body[k] = p := by
    rw [List.drop_eq_getElem_cons hkl] at hdr
    simp only [flatT, List.cons_append, List.cons.injEq] at hdr
    exact hdr.1
  obtain ⟨a, m, c, hm, hc, hX, ha⟩ := hW.blk
  obtain rfl := ha (by omega)
  have hE := (hW.env w (Upd.refl _ _)).r
  obtain ⟨a1, c1, hv1, g1, g2, hcc⟩ := slQ_open hE
  simp only [Value.slice.injEq] at hv1
  obtain ⟨rfl, -, rfl⟩ := hv1
  obtain ⟨b', off', u, f', he, -, -, -, hcell, -, hr⟩ := hcc k hkl
  simp only [Option.some.injEq, Addr.mk.injEq, and_true] at he
  obtain ⟨rfl, rfl⟩ := he
  obtain ⟨v3, f3, rfl, -, -⟩ := hr
  rw [hpk] at hcell
  have p0 := hcell 0 _ rfl
  simp only [Nat.add_zero] at p0
  have x1 : w.cell? ⟨X, 1, none⟩ = some (.slice (some ⟨b, off + k * 4, none⟩) m c) := by simp [World.cell?, hX]
  have hm1 : (0 : Int) < (m : Int) := by omega
  have hm2 : 0 < m := by omega
  have HS := Lib.hid S
  have HCH := Lib.hid (show chP (Tr.mk p args) = (p.kind == 2) from rfl)
  unfold maxLen at g2
  clear hW hX hE hcc hcell S hpk hdr
  obtain ⟨q2, h2⟩ : ∃ q, (p.kind == 2) = q := ⟨_, rfl⟩
  rw [h2] at HCH
  cases q2 with
  | false =>
    have HZ := Lib.hid (show par (chP (Tr.mk p args)) T = T by rw [HCH.out]; rfl)
    go_enter Tryz.func98, Tryz.ntmps98
    go_wp2_with fail
    refine HS.out.mono ?_
    rintro e w1 ⟨rfl, hr⟩
    have HR := Lib.hid hr
    clear hr HS
    go_wp2_with fail
    go_ret
    exact ⟨by rw [HZ.out]; rfl, HR.out⟩
  | true =>
    have HZ := Lib.hid (show par (chP (Tr.mk p args)) T = ([40] ++ T) ++ [41] by rw [HCH.out]; rfl)
    have n1 : ¬ (9223372036854775807 < 1 + T.length) := by omega
    have n2 : ¬ (9223372036854775807 < 1 + T.length + 1) := by omega
    go_enter Tryz.func98, Tryz.ntmps98
    go_wp2_with fail
    refine HS.out.mono ?_
    rintro e w1 ⟨rfl, hr⟩
    have HR := Lib.hid hr
    clear hr HS
    go_wp2_with fail
    go_ret
    exact ⟨by rw [HZ.out, es_parD]; rfl, HR.out⟩

set_option maxRecDepth 20000 in
set_option maxHeartbeats 16000000 in
theorem partD (X : Nat) (lv : Value) (fd : List Nat) (ds : List De) (b off cap : Nat) (fb : List Nat) (body : List Pa) (hbl : body.length ≤ 20) (hns : ∀ d ∈ ds, d.name.length ≤ 10) (hfine : ∀ p ∈ body, PaFine ds p) (ns : List (List UInt8)) (hnsd : ns = ds.map De.name) (N : Nat) :
    ∀ (x : Tr Pa) (k : Nat) (post : List Pa) (w : World), (flatT x).length ≤ N → okT folP x = true → body.drop k = flatT x ++ post → PrW X lv fd ds b off cap fb body k w →
    Calls Tryz.prog 61 #[.pointer (some ⟨X, 0, none⟩)] w (Printed X lv fd ds b off cap fb body (k + (flatT x).length) (pT ns x) w) := by
  induction N with
  | zero => intro x k post w hN; have := flatT_pos x; omega
  | succ N ih =>
    intro x k post w hN hok hdr hW
    have hfx : ∀ q ∈ flatT x, PaFine ds q := fun q hq => hfine q (List.mem_of_mem_drop (hdr ▸ List.mem_append_left _ hq))
    have hnn : ∀ n ∈ ns, n.length ≤ 10 := fun n hn => by rw [hnsd] at hn; obtain ⟨d, hd, rfl⟩ := List.mem_map.1 hn; exact hns d hd
    obtain ⟨p, args⟩ := x
    have hkl : k < body.length := by
      have h1 := congrArg List.length hdr
      simp only [List.length_drop, flatT, List.cons_append, List.length_cons] at h1
      omega
    have hpk : body[k] = p := by
      rw [List.drop_eq_getElem_cons hkl] at hdr
      simp only [flatT, List.cons_append, List.cons.injEq] at hdr
      exact hdr.1
    have hdr2 : body.drop (k + 1) = flatTs args ++ post := by
      rw [List.drop_eq_getElem_cons hkl] at hdr
      simp only [flatT, List.cons_append, List.cons.injEq] at hdr
      exact hdr.2
    simp only [okT, Bool.and_eq_true, decide_eq_true_eq] at hok
    simp only [flatT, List.length_cons] at hN
    have hp := hfx p (by simp [flatT])
    have hfa : ∀ q ∈ flatTs args, PaFine ds q := fun q hq => hfx q (by simp [flatT, hq])
    obtain ⟨a, m, c, hm, hc, hX, ha⟩ := hW.blk
    obtain rfl := ha (by omega)
    obtain ⟨m', rfl⟩ : ∃ m', m = m' + 1 := ⟨m - 1, by omega⟩
    have hE := (hW.env w (Upd.refl _ _)).r
    obtain ⟨a1, c1, hv1, g1, g2, hcc⟩ := slQ_open hE
    simp only [Value.slice.injEq] at hv1
    obtain ⟨rfl, -, rfl⟩ := hv1
    obtain ⟨c', rfl⟩ : ∃ c', c = c' + 1 := ⟨c - 1, by omega⟩
    obtain ⟨b', off', u, f', he, -, hb9, -, hcell, hsub, hr⟩ := hcc k hkl
    simp only [Option.some.injEq, Addr.mk.injEq, and_true] at he
    obtain ⟨rfl, rfl⟩ := he
    obtain ⟨v3, f3, rfl, h3, rfl⟩ := hr
    rw [hpk] at hcell h3
    have h3' := h3
    have hX3 : ∀ c ∈ f3, c ∉ [X] := fun c hc hm => hW.nx (by simp at hm; subst hm; exact hsub _ (by simp [hc]))
    obtain ⟨a3, c3, rfl, l3, m3, -⟩ := slP_open h3
    have p0 := hcell 0 _ rfl
    have p1 := hcell 1 _ rfl
    have p2 := hcell 2 _ rfl
    have p3 := hcell 3 _ rfl
    simp only [Nat.add_zero] at p0
    unfold maxLen at g2 m3
    have hXl : X < w.heap.size := (Array.getElem?_eq_some_iff.1 hX).1
    have x1 : w.cell? ⟨X, 1, none⟩ = some (.slice (some ⟨b, off + k * 4, none⟩) (m' + 1) (c' + 1)) := by simp [World.cell?, hX]
    obtain ⟨wC, hwC⟩ : ∃ q, q = w.alloc (.cells #[ei p.kind, ei p.num, es p.name, .slice a3 p.args.length c3] 134) := ⟨_, rfl⟩
    obtain ⟨BC, hBC⟩ : ∃ q, q = w.heap.size := ⟨_, rfl⟩
    have uC : Upd [] w wC := by rw [hwC]; exact (Upd.refl _ _).alloc _
    have e0 : wC.cell? ⟨BC, 0, none⟩ = some (ei p.kind) := by rw [hwC, hBC]; exact cell_new w _ _ _ rfl 0 _ rfl
    have e1 : wC.cell? ⟨BC, 1, none⟩ = some (ei p.num) := by rw [hwC, hBC]; exact cell_new w _ _ _ rfl 1 _ rfl
    have e2 : wC.cell? ⟨BC, 2, none⟩ = some (es p.name) := by rw [hwC, hBC]; exact cell_new w _ _ _ rfl 2 _ rfl
    have e3 : wC.cell? ⟨BC, 3, none⟩ = some (.slice a3 p.args.length c3) := by rw [hwC, hBC]; exact cell_new w _ _ _ rfl 3 _ rfl
    have hXC : wC.heap[X]? = some (.cells #[lv, .slice (some ⟨b, off + k * 4, none⟩) (m' + 1) (c' + 1)] 91 (0, 0)) := by rw [uC.block X hXl (by simp)]; exact hX
    have y1 : wC.cell? ⟨X, 1, none⟩ = some (.slice (some ⟨b, off + k * 4, none⟩) (m' + 1) (c' + 1)) := by simp [World.cell?, hXC]
    have zX : wC.frozen? ⟨X, 1, none⟩ = false := by simp [World.frozen?, hXC]
    have nXB : X ≠ BC := by omega
    obtain ⟨ar, har⟩ : ∃ ar : Option Addr, ar = if c' = 0 then some ⟨b, off + k * 4, none⟩ else some ⟨b, off + k * 4 + 4, none⟩ := ⟨_, rfl⟩
    obtain ⟨wD, hwD⟩ : ∃ q, q = wC.setCell ⟨X, 1, none⟩ (.slice ar m' c') := ⟨_, rfl⟩
    have uD : Upd [X] wC wD := by rw [hwD]; exact (Upd.refl _ _).setCell (Or.inr (by simp)) _
    have hXD : wD.heap[X]? = some (.cells #[lv, .slice ar m' c'] 91 (0, 0)) := by
      rw [hwD]; simp [World.setCell, Array.getElem?_modify, hXC]
    have hWD : PrW X lv fd ds b off cap fb body (k + 1) wD := by
      refine ⟨⟨ar, m', c', by omega, by omega, hXD, fun h => ?_⟩, fun W hu => hW.env W ((uC.mono (by simp)).trans (uD.trans hu)), hW.nx⟩
      rw [har, if_neg (by omega), show off + (k + 1) * 4 = off + k * 4 + 4 by omega]
    have f0 := uD.keepF (by simpa using nXB.symm) e0
    have f1 := uD.keepF (by simpa using nXB.symm) e1
    have f2 := uD.keepF (by simpa using nXB.symm) e2
    have f3' := uD.keepF (by simpa using nXB.symm) e3
    have HUD := Lib.hid (show Upd [X] w wD from (uC.mono (by simp)).trans uD)
    have HIH := Lib.hid ih
    have HOK := Lib.hid hok
    have HDR := Lib.hid hdr2
    have HFA := Lib.hid hfa
    have HP := Lib.hid hp
    have HWD := Lib.hid hWD
    have HT2 := Lib.hid (fun W (hu : Upd [X] wD W) => R_T2k.upd h3' (HUD.out.trans hu) hX3)
    have HEV := Lib.hid (fun W (hu : Upd [X] wD W) => hW.env W (HUD.out.trans hu))
    have hm0 : (0 : Int) < (m' : Int) + 1 := by omega
    clear hW hWD uC uD ih hok hdr hdr2 hfx hfa hp h3 h3' hE hcc hcell hX hXD hXC hpk
    generalize p.args.length = L3 at *
    go_enter Tryz.func61, Tryz.ntmps61
    go_upto_region 2 with (fail)
    rw [← hwC, ← hBC]
    clear hwC hBC p0 p1 p2 p3
    go_upto_region 3 with (fail)
    rw [← har, ← hwD]
    clear hwD har y1 zX e0 e1 e2 e3 x1
    have HNS := Lib.hid hnsd
    have HTL := Lib.hid (fun V (hu : Upd [X] wD V) => listedI (.slice a3 L3 c3) p.args V f3 (HEV.out V hu).g (HT2.out V hu) (by have := HP.out.three; omega) HP.out.exps)
    have HIN := Lib.hid (fun (y : Tr Pa) kk (post' : List Pa) V (hV : PrW X lv fd ds b off cap fb body kk V) (hlen : (flatT y).length ≤ N) (hoky : okT folP y = true) (hdry : body.drop kk = flatT y ++ post') (hT : (pT ns y).length ≤ 100000) =>
      innerD X lv fd ds b off cap fb body kk (kk + (flatT y).length) y post' (pT ns y) V hV hdry hT (HIH.out y kk post' V hlen hoky hdry hV))
    have hNl : N ≤ 19 ∨ 19 < N := by omega
    clear hfine
    have hfl : (flatTs args).length ≤ 20 := by
      have h1 := congrArg List.length HDR.out
      simp only [List.length_drop, List.length_append] at h1
      omega
    obtain ⟨pk, pn, pname, pargs⟩ := p
    have hkd := HP.out.kind
    simp only at *
    rcases (by omega : pk = 0 ∨ pk = 5 ∨ pk = 1 ∨ pk = 2 ∨ pk = 3 ∨ pk = 4) with rfl | rfl | rfl | rfl | rfl | rfl
    · have hargs : args = [] := List.eq_nil_of_length_eq_zero (by have h := HOK.out.1; rw [show folP _ = 0 from rfl] at h; omega)
      subst hargs
      have HRES := Lib.hid (show pT ns (.mk ⟨0, pn, pname, pargs⟩ []) = [48] by simp [pT])
      have HLEN := Lib.hid (show k + (flatT (Tr.mk (⟨0, pn, pname, pargs⟩ : Pa) [])).length = k + 1 by simp [flatT, flatTs])
      clear HTL HIN HIH HT2 HEV
      go_wp2_with fail
      go_ret
      exact ⟨by rw [HRES.out]; rfl, HUD.out, by rw [HLEN.out]; exact HWD.out⟩
    · have hargs : args = [] := List.eq_nil_of_length_eq_zero (by have h := HOK.out.1; rw [show folP _ = 0 from rfl] at h; omega)
      subst hargs
      obtain ⟨n0, n1⟩ := HP.out.call rfl
      simp only at n0 n1
      obtain ⟨j, rfl⟩ : ∃ j : Nat, pn = j := ⟨pn.toNat, by omega⟩
      have hj : j < ds.length := by omega
      obtain ⟨al, cl, rfl, gl1, gl2, hcl⟩ := slQ_open (HEV.out wD (Upd.refl _ _)).l
      obtain ⟨bl, ol, ul, fl, rfl, -, -, -, hcelll, -, hrl⟩ := hcl j hj
      obtain ⟨v5, f5, rfl, -, -⟩ := hrl
      have d0 := hcelll 0 _ rfl
      simp only [Nat.add_zero] at d0
      unfold maxLen at gl2
      have hnj : ns.getD j [] = ds[j].name := by
        rw [HNS.out, List.getD_eq_getElem?_getD, List.getElem?_map, List.getElem?_eq_getElem hj]; rfl
      have hnl := hns ds[j] (List.getElem_mem hj)
      have hAl := args_len pargs HP.out.three
      have HRES := Lib.hid (show pT ns (.mk ⟨5, (j : Int), pname, pargs⟩ []) = ds[j].name ++ argsTxt pargs by simp [pT, ← hnj])
      have HLEN := Lib.hid (show k + (flatT (Tr.mk (⟨5, (j : Int), pname, pargs⟩ : Pa) [])).length = k + 1 by simp [flatT, flatTs])
      obtain ⟨ab, mb, cb, -, -, hXB, -⟩ := HWD.out.blk
      have x0 : wD.cell? ⟨X, 0, none⟩ = some (.slice (some ⟨bl, ol, none⟩) ds.length cl) := by simp [World.cell?, hXB]
      have hjl : (j : Int) < (ds.length : Int) := by omega
      clear HIN HIH HT2 hcl hcelll hnj HNS hXB
      generalize ds[j].name = nm at *
      generalize hA : argsTxt pargs = A at *
      obtain ⟨S, hS⟩ : ∃ S, S = nm ++ A := ⟨_, rfl⟩
      have hc1 : (ByteArray.mk nm.toArray ++ ByteArray.mk A.toArray) = ByteArray.mk S.toArray := by rw [hS, str_cat]
      rw [← hS] at HRES
      have n3 : ¬ (9223372036854775807 < nm.length + A.length) := by omega
      clear hS hA
      go_wp2_with fail
      go_region_held3 (fun w' => w'.cell? ⟨X, 0, none⟩ = some (.slice (some ⟨bl, ol, none⟩) ds.length cl) ∧ w'.cell? ⟨BC, 1, none⟩ = some (ei j) ∧ w'.cell? ⟨BC, 3, none⟩ = some (.slice a3 L3 c3) ∧ w'.cell? ⟨bl, ol + j * 3, none⟩ = some (es nm)) (go_keep)
        (first
          | (go_at_call 97; (with_reducible refine (HTL.out _ (by repeat (first | exact Upd.refl _ _ | refine Upd.drew ?_))).mono ?_); rintro e w1 ⟨rfl, hu1⟩; have s0 := hu1.keep x0; have s1 := hu1.keep f1; have s3 := hu1.keep f3'; have s4 := hu1.keep d0))
      all_goals
        have HU1 := Lib.hid ((Upd.refl [] wD).drew.trans hu1)
        clear hu1 s0 s1 s3 s4 HTL HEV
        go_wp2_with fail
        go_ret
        exact ⟨by rw [HRES.out]; rfl, HUD.out.trans (HU1.out.mono (by simp)), by rw [HLEN.out]; exact HWD.out.upd HU1.out⟩
    · have hlen1 : args.length = 1 := by have h := HOK.out.1; rw [show folP _ = 1 from rfl] at h; omega
      match args, hlen1 with
      | [y], _ =>
        have hoky : okT folP y = true := by have := HOK.out.2; simpa [okTs] using this
        have hdy : body.drop (k + 1) = flatT y ++ post := by have := HDR.out; simpa [flatTs] using this
        have hly : (flatT y).length ≤ N := by simp only [flatTs, List.append_nil] at hN; omega
        have hyl : (flatT y).length ≤ 20 := by simp only [flatTs, List.append_nil] at hfl; omega
        have hT := pT_len hnn y hoky (fun q hq => HFA.out q (by simp [flatTs, hq]))
        have TI := Lib.hid (fun V (hu : Upd [] wD V) => HIN.out y (k + 1) post V (HWD.out.upd hu) hly hoky hdy (by omega))
        have hPl := par_len (chP y) (pT ns y)
        have hAl := args_len pargs HP.out.three
        have hnl := HP.out.act rfl
        simp only at hnl
        have HRES := Lib.hid (show pT ns (.mk ⟨1, pn, pname, pargs⟩ [y]) = ((pname ++ argsTxt pargs) ++ [46]) ++ par (chP y) (pT ns y) by simp [pT, pTs])
        have HLEN := Lib.hid (show k + (flatT (Tr.mk (⟨1, pn, pname, pargs⟩ : Pa) [y])).length = k + 1 + (flatT y).length by simp [flatT, flatTs]; omega)
        clear HIN HIH HT2 HEV HNS
        generalize hP : par (chP y) (pT ns y) = P at *
        generalize hA : argsTxt pargs = A at *
        obtain ⟨M1, hM1⟩ : ∃ M1, M1 = pname ++ A := ⟨_, rfl⟩
        have hc1 : (ByteArray.mk pname.toArray ++ ByteArray.mk A.toArray) = ByteArray.mk M1.toArray := by rw [hM1, str_cat]
        have hm1 : M1.length ≤ 2000 := by rw [hM1, List.length_append]; omega
        rw [← hM1] at HRES
        obtain ⟨M2, hM2⟩ : ∃ M2, M2 = M1 ++ [46] := ⟨_, rfl⟩
        have hc2 : (ByteArray.mk M1.toArray ++ ByteArray.mk #[46]) = ByteArray.mk M2.toArray := by rw [hM2, str_cat]
        have hm2 : M2.length ≤ 2001 := by rw [hM2, List.length_append]; simp; omega
        rw [← hM2] at HRES
        obtain ⟨SS, hSS⟩ : ∃ SS, SS = M2 ++ P := ⟨_, rfl⟩
        have hc3 : (ByteArray.mk M2.toArray ++ ByteArray.mk P.toArray) = ByteArray.mk SS.toArray := by rw [hSS, str_cat]
        rw [← hSS] at HRES
        have n1 : ¬ (9223372036854775807 < pname.length + A.length) := by omega
        have n2 : ¬ (9223372036854775807 < M1.length + 1) := by omega
        have n3 : ¬ (9223372036854775807 < M2.length + P.length) := by omega
        clear hSS hM1 hM2 hA hP
        have nBX : BC ∉ [X] := by simpa using nXB.symm
        go_wp2_with fail
        go_region_held3 (fun w' => w'.cell? ⟨BC, 2, none⟩ = some (es pname) ∧ w'.cell? ⟨BC, 3, none⟩ = some (.slice a3 L3 c3)) (go_keep)
          (first
            | (go_at_call 97; (with_reducible refine (HTL.out _ (by repeat (first | exact Upd.refl _ _ | assumption | refine Upd.drew ?_))).mono ?_); rintro e w1 ⟨rfl, hu1⟩; have hX1 : Upd [X] wD w1 := Upd.trans (by repeat (first | exact Upd.refl _ _ | assumption | refine Upd.drew ?_)) (hu1.mono (by simp)); (try have hN1 : Upd [] wD w1 := Upd.trans (by repeat (first | exact Upd.refl _ _ | refine Upd.drew ?_)) hu1); (try have hpr1 := PrW.upd hpr hu1); have s2 := hX1.keepF nBX f2; have s3 := hX1.keepF nBX f3')
            | (go_at_call 98; (with_reducible refine (TI.out _ (by repeat (first | exact Upd.refl _ _ | assumption | refine Upd.drew ?_))).mono ?_); rintro e w2 ⟨rfl, hu2, hpr⟩; have hX2 : Upd [X] wD w2 := Upd.trans (by repeat (first | exact Upd.refl _ _ | assumption | refine Upd.drew ?_)) hu2; have r2 := hX2.keepF nBX f2; have r3 := hX2.keepF nBX f3'))
        all_goals
          go_wp2_with fail
          go_ret
          exact ⟨by rw [HRES.out]; rfl, HUD.out.trans (by assumption), by rw [HLEN.out]; assumption⟩
    · have hlen2 : args.length = 2 := by have h := HOK.out.1; rw [show folP _ = 2 from rfl] at h; omega
      match args, hlen2 with
      | [y, z], _ =>
        have hoks : okT folP y = true ∧ okT folP z = true := by have := HOK.out.2; simpa [okTs] using this
        have hdy : body.drop (k + 1) = flatT y ++ (flatT z ++ post) := by have := HDR.out; simpa [flatTs] using this
        have hdz : body.drop (k + 1 + (flatT y).length) = flatT z ++ post := by rw [← List.drop_drop, hdy]; simp
        simp only [flatTs, List.append_nil, List.length_append] at hN hfl
        have hT := pT_len hnn y hoks.1 (fun q hq => HFA.out q (by simp [flatTs, hq]))
        have hTz := pT_len hnn z hoks.2 (fun q hq => HFA.out q (by simp [flatTs, hq]))
        have TI2 := Lib.hid (HIN.out y (k + 1) (flatT z ++ post) wD HWD.out (by omega) hoks.1 hdy (by omega))
        have TZ := Lib.hid (fun V (hV : PrW X lv fd ds b off cap fb body (k + 1 + (flatT y).length) V) => HIH.out z (k + 1 + (flatT y).length) post V (by omega) hoks.2 hdz hV)
        have hPl := par_len (chP y) (pT ns y)
        have HRES := Lib.hid (show pT ns (.mk ⟨2, pn, pname, pargs⟩ [y, z]) = (par (chP y) (pT ns y) ++ [32, 43, 32]) ++ pT ns z by simp [pT, pTs])
        have HLEN := Lib.hid (show k + (flatT (Tr.mk (⟨2, pn, pname, pargs⟩ : Pa) [y, z])).length = k + 1 + (flatT y).length + (flatT z).length by simp [flatT, flatTs]; omega)
        clear HIN HIH HT2 HEV HNS HTL
        generalize hP : par (chP y) (pT ns y) = P at *
        generalize hZ : pT ns z = Z at *
        obtain ⟨M1, hM1⟩ : ∃ M1, M1 = P ++ [32, 43, 32] := ⟨_, rfl⟩
        have hc1 : (ByteArray.mk P.toArray ++ ByteArray.mk #[32, 43, 32]) = ByteArray.mk M1.toArray := by rw [hM1, str_cat]
        have hm1 : M1.length ≤ 50000 := by rw [hM1, List.length_append]; simp; omega
        rw [← hM1] at HRES
        obtain ⟨SS, hSS⟩ : ∃ SS, SS = M1 ++ Z := ⟨_, rfl⟩
        have hc2 : (ByteArray.mk M1.toArray ++ ByteArray.mk Z.toArray) = ByteArray.mk SS.toArray := by rw [hSS, str_cat]
        rw [← hSS] at HRES
        have n1 : ¬ (9223372036854775807 < P.length + 3) := by omega
        have n2 : ¬ (9223372036854775807 < M1.length + Z.length) := by omega
        clear hSS hM1 hP hZ
        go_wp2_with fail
        refine TI2.out.mono ?_
        rintro e w8 ⟨rfl, hu8, hpr8⟩
        have TZ2 := Lib.hid (TZ.out w8 hpr8)
        have HU8 := Lib.hid hu8
        clear TI2 hu8 hpr8 TZ
        go_wp2_with fail
        refine TZ2.out.mono ?_
        rintro e w9 ⟨rfl, hu9, hpr9⟩
        have HE := Lib.hid (And.intro (HU8.out.trans hu9) hpr9)
        clear TZ2 hu9 hpr9
        go_wp2_with fail
        go_ret
        exact ⟨by rw [HRES.out]; rfl, HUD.out.trans HE.out.1, by rw [HLEN.out]; exact HE.out.2⟩
    · have hlen1 : args.length = 1 := by have h := HOK.out.1; rw [show folP _ = 1 from rfl] at h; omega
      match args, hlen1 with
      | [y], _ =>
        have hoky : okT folP y = true := by have := HOK.out.2; simpa [okTs] using this
        have hdy : body.drop (k + 1) = flatT y ++ post := by have := HDR.out; simpa [flatTs] using this
        have hly : (flatT y).length ≤ N := by simp only [flatTs, List.append_nil] at hN; omega
        have hyl : (flatT y).length ≤ 20 := by simp only [flatTs, List.append_nil] at hfl; omega
        have hT := pT_len hnn y hoky (fun q hq => HFA.out q (by simp [flatTs, hq]))
        have TI := Lib.hid (fun V (hu : Upd [] wD V) => HIN.out y (k + 1) post V (HWD.out.upd hu) hly hoky hdy (by omega))
        have hPl := par_len (chP y) (pT ns y)
        have ho := HP.out.one rfl
        simp only at ho
        obtain ⟨ae, ce, hve, -, -, hce⟩ := slP_open (HT2.out wD (Upd.refl _ _))
        obtain ⟨be, oe, ue, fe, hae, -, -, ge, -, re⟩ := hce 0 (by rw [ho]; decide)
        simp only [Value.slice.injEq] at hve
        obtain ⟨rfl, hL3, -⟩ := hve
        subst hae
        obtain rfl : L3 = 1 := by rw [hL3, ho]
        match pargs, ho with
        | [x], _ =>
          have re : R_T1 fe wD [ue] x := re
          have ge : wD.cell? ⟨be, oe, none⟩ = some ue := by simpa using ge
          have hex := HP.out.exps x (by simp)
          have hAl := expT_len x
          have S1 := Lib.hid (expTreeI x ue wD fe hex re)
          have HGL := Lib.hid (fun V (hu : Upd [] wD V) => (HEV.out V (hu.mono (by simp))).g)
          obtain ⟨ax, cx, rfl, -, -, -⟩ := slF2_open re
          have HRES := Lib.hid (show pT ns (.mk ⟨3, pn, pname, [x]⟩ [y]) = (([91] ++ expT x) ++ [93]) ++ par (chP y) (pT ns y) by simp [pT, pTs])
          have HLEN := Lib.hid (show k + (flatT (Tr.mk (⟨3, pn, pname, [x]⟩ : Pa) [y])).length = k + 1 + (flatT y).length by simp [flatT, flatTs]; omega)
          clear HIN HIH HT2 HEV HNS HTL hce re hL3 hlen1 l3
          generalize hP : par (chP y) (pT ns y) = P at *
          generalize hA : expT x = A at *
          have HAX := Lib.hid hA.symm
          obtain ⟨M1, hM1⟩ : ∃ M1, M1 = [91] ++ A := ⟨_, rfl⟩
          have hc1 : (ByteArray.mk #[91] ++ ByteArray.mk A.toArray) = ByteArray.mk M1.toArray := by rw [hM1, str_cat]
          have hm1 : M1.length ≤ 2000 := by rw [hM1, List.length_append]; simp; omega
          rw [← hM1] at HRES
          obtain ⟨M2, hM2⟩ : ∃ M2, M2 = M1 ++ [93] := ⟨_, rfl⟩
          have hc2 : (ByteArray.mk M1.toArray ++ ByteArray.mk #[93]) = ByteArray.mk M2.toArray := by rw [hM2, str_cat]
          have hm2 : M2.length ≤ 2001 := by rw [hM2, List.length_append]; simp; omega
          rw [← hM2] at HRES
          obtain ⟨SS, hSS⟩ : ∃ SS, SS = M2 ++ P := ⟨_, rfl⟩
          have hc3 : (ByteArray.mk M2.toArray ++ ByteArray.mk P.toArray) = ByteArray.mk SS.toArray := by rw [hSS, str_cat]
          rw [← hSS] at HRES
          have n1 : ¬ (9223372036854775807 < 1 + A.length) := by omega
          have n2 : ¬ (9223372036854775807 < M1.length + 1) := by omega
          have n3 : ¬ (9223372036854775807 < M2.length + P.length) := by omega
          clear hSS hM1 hM2 hA hP
          go_wp2_with fail
          refine S1.out.mono ?_
          rintro e w1 ⟨⟨vt, ft, rfl, hx⟩, hu1⟩
          have S2 := Lib.hid (expTextI A w1 vt ft (HGL.out w1 hu1) (by obtain ⟨z, hz⟩ := hx; exact ⟨z, hz.1, hz.2⟩))
          have HU1 := Lib.hid hu1
          clear S1 hu1 hx HGL
          go_wp2_with fail
          refine S2.out.mono ?_
          rintro e w2 ⟨rfl, hu2⟩
          have HU2 := Lib.hid (HU1.out.trans hu2)
          clear S2 hu2
          have TI2 := Lib.hid (TI.out w2 HU2.out)
          clear TI
          go_wp2_with fail
          refine TI2.out.mono ?_
          rintro e w9 ⟨rfl, hu9, hpr9⟩
          have HE := Lib.hid (And.intro ((HU2.out).mono (by simp) |>.trans hu9) hpr9)
          clear TI2 hu9 hpr9
          go_wp2_with fail
          go_ret
          exact ⟨by rw [HRES.out]; rfl, HUD.out.trans HE.out.1, by rw [HLEN.out]; exact HE.out.2⟩
    · have hlen1 : args.length = 1 := by have h := HOK.out.1; rw [show folP _ = 1 from rfl] at h; omega
      match args, hlen1 with
      | [y], _ =>
        have hoky : okT folP y = true := by have := HOK.out.2; simpa [okTs] using this
        have hdy : body.drop (k + 1) = flatT y ++ post := by have := HDR.out; simpa [flatTs] using this
        have hly : (flatT y).length ≤ N := by simp only [flatTs, List.append_nil] at hN; omega
        have hyl : (flatT y).length ≤ 20 := by simp only [flatTs, List.append_nil] at hfl; omega
        have hT := pT_len hnn y hoky (fun q hq => HFA.out q (by simp [flatTs, hq]))
        have TI := Lib.hid (fun V (hu : Upd [] wD V) => HIN.out y (k + 1) post V (HWD.out.upd hu) hly hoky hdy (by omega))
        have hPl := par_len (chP y) (pT ns y)
        obtain ⟨s1, s7⟩ := HP.out.sum rfl
        simp only at s1 s7
        have hAl := itoa_two (n := pn) (by omega) (by omega)
        have S1 := Lib.hid (decimalL pn wD (by omega) (by omega))
        have HRES := Lib.hid (show pT ns (.mk ⟨4, pn, pname, pargs⟩ [y]) = (([115, 117, 109, 32] ++ Lib.itoa pn) ++ [46]) ++ par (chP y) (pT ns y) by simp [pT, pTs])
        have HLEN := Lib.hid (show k + (flatT (Tr.mk (⟨4, pn, pname, pargs⟩ : Pa) [y])).length = k + 1 + (flatT y).length by simp [flatT, flatTs]; omega)
        clear HIN HIH HT2 HEV HNS HTL
        generalize hP : par (chP y) (pT ns y) = P at *
        generalize hA : Lib.itoa pn = A at *
        obtain ⟨M1, hM1⟩ : ∃ M1, M1 = [115, 117, 109, 32] ++ A := ⟨_, rfl⟩
        have hc1 : (ByteArray.mk #[115, 117, 109, 32] ++ ByteArray.mk A.toArray) = ByteArray.mk M1.toArray := by rw [hM1, str_cat]
        have hm1 : M1.length ≤ 2000 := by rw [hM1, List.length_append]; simp; omega
        rw [← hM1] at HRES
        obtain ⟨M2, hM2⟩ : ∃ M2, M2 = M1 ++ [46] := ⟨_, rfl⟩
        have hc2 : (ByteArray.mk M1.toArray ++ ByteArray.mk #[46]) = ByteArray.mk M2.toArray := by rw [hM2, str_cat]
        have hm2 : M2.length ≤ 2001 := by rw [hM2, List.length_append]; simp; omega
        rw [← hM2] at HRES
        obtain ⟨SS, hSS⟩ : ∃ SS, SS = M2 ++ P := ⟨_, rfl⟩
        have hc3 : (ByteArray.mk M2.toArray ++ ByteArray.mk P.toArray) = ByteArray.mk SS.toArray := by rw [hSS, str_cat]
        rw [← hSS] at HRES
        have n1 : ¬ (9223372036854775807 < 4 + A.length) := by omega
        have n2 : ¬ (9223372036854775807 < M1.length + 1) := by omega
        have n3 : ¬ (9223372036854775807 < M2.length + P.length) := by omega
        clear hSS hM1 hM2 hA hP
        go_wp2_with fail
        refine S1.out.mono ?_
        rintro e w1 ⟨rfl, hu1⟩
        have HU1 := Lib.hid hu1
        clear S1 hu1
        have TI2 := Lib.hid (TI.out w1 HU1.out)
        clear TI
        go_wp2_with fail
        refine TI2.out.mono ?_
        rintro e w9 ⟨rfl, hu9, hpr9⟩
        have HE := Lib.hid (And.intro ((HU1.out).mono (by simp) |>.trans hu9) hpr9)
        clear TI2 hu9 hpr9
        go_wp2_with fail
        go_ret
        exact ⟨by rw [HRES.out]; rfl, HUD.out.trans HE.out.1, by rw [HLEN.out]; exact HE.out.2⟩

end Go.Proofs.YtjelcjiofcoifaaGreatDoor

/-
  The text of a definition: what the program's calls return.
-/
namespace Go.Proofs.YtjelcjiofcoifaaGreatDoor
open Go.RowKit

theorem procT_tree {ds : List De} {d : De} {x : Tr Pa} (h : forestT folP d.body = [x]) : procT ds d = ((((([112, 114, 111, 99, 32] ++ d.name) ++ [32]) ++ Lib.itoa d.pars) ++ [32, 61, 32]) ++ pT (ds.map De.name) x) := by
  unfold procT; rw [h]; rfl
/-- what DefinitionText returns. -/
noncomputable def defTextF (ds : List De) (k : Int) : List UInt8 := if (defsOk ds && inB k 0 ((ds.length : Int) - 1)) = true then ((ds[k.toNat]?).map (procT ds)).getD [] else []

set_option maxRecDepth 20000 in
set_option maxHeartbeats 8000000 in
theorem defTextI (ds : List De) (lv : Value) (fd : List Nat) (cs : List Value) (d : De) (fp : List Nat) (w : World) (hG : Glob w) (hL : R_De1 fd w [lv] ds) (hR : R_De fp w cs d) (hok : defsOk ds = true) (hd : d ∈ ds) :
    Calls Tryz.prog 29 #[lv, .agg cs.toArray] w fun e w' => e = .returned (es (procT ds d)) ∧ Upd [] w w' := by
  obtain ⟨h4, h1, hpar, hnm, hbody⟩ := defs_fine hok
  obtain ⟨hb, hl20, hfine⟩ := hbody d hd
  obtain ⟨x, hx, hokx, hfl⟩ := body_tree hb
  obtain ⟨p0, p1⟩ := hpar d hd
  have hnl := hnm d hd
  obtain ⟨v2, f2, rfl, h2, rfl⟩ := hR
  have h2' := h2
  obtain ⟨a, cap, rfl, g1, g2, hc⟩ := slQ_open h2
  have hpos := flatT_pos x
  rw [hfl] at hpos
  obtain ⟨b, off, u, f, rfl, -, -, -, -, -, -⟩ := hc 0 (by omega)
  obtain ⟨al, ql, rfl, -, -, -⟩ := slQ_open hL
  obtain ⟨w1, hw1⟩ : ∃ q, q = w.alloc (.cells #[es d.name, ei d.pars, .slice (some ⟨b, off, none⟩) d.body.length cap] 56) := ⟨_, rfl⟩
  obtain ⟨BA, hBA⟩ : ∃ q, q = w.heap.size := ⟨_, rfl⟩
  have u1 : Upd [] w w1 := by rw [hw1]; exact (Upd.refl _ _).alloc _
  have e0 : w1.cell? ⟨BA, 0, none⟩ = some (es d.name) := by rw [hw1, hBA]; exact cell_new w _ _ _ rfl 0 _ rfl
  have e1 : w1.cell? ⟨BA, 1, none⟩ = some (ei d.pars) := by rw [hw1, hBA]; exact cell_new w _ _ _ rfl 1 _ rfl
  have e2 : w1.cell? ⟨BA, 2, none⟩ = some (.slice (some ⟨b, off, none⟩) d.body.length cap) := by rw [hw1, hBA]; exact cell_new w _ _ _ rfl 2 _ rfl
  have s1 : w1.heap.size = BA + 1 := by rw [hw1, hBA]; simp
  obtain ⟨wA, hwA⟩ : ∃ q, q = w1.alloc (.cells #[.slice al ds.length ql, .slice (some ⟨b, off, none⟩) d.body.length cap] 91) := ⟨_, rfl⟩
  have uA : Upd [] w1 wA := by rw [hwA]; exact (Upd.refl _ _).alloc _
  have hXA : wA.heap[BA + 1]? = some (.cells #[.slice al ds.length ql, .slice (some ⟨b, off, none⟩) d.body.length cap] 91 (0, 0)) := by rw [hwA, ← s1]; exact heap_alloc_new w1 _
  have hWA : PrW (BA + 1) (.slice al ds.length ql) fd ds b off cap f2 d.body 0 wA := by
    refine ⟨⟨some ⟨b, off, none⟩, d.body.length, cap, rfl, rfl, hXA, fun _ => rfl⟩, fun W hu => ?_, fun h => ?_⟩
    · have huW : Upd [] w W := (u1.trans uA).fresh hu (fun q hq => Or.inl (by simp at hq; omega))
      exact ⟨hG.upd huW, R_De1k.upd hL huW (by simp), R_Pa1k.upd h2' huW (by simp)⟩
    · have := R_Pa1k.lt h2' _ h
      omega
  have TP := Lib.hid (fun V (hu : Upd [] wA V) => partD (BA + 1) (.slice al ds.length ql) fd ds b off cap f2 d.body hl20 hnm hfine (ds.map De.name) rfl 20 x 0 [] V (by rw [hfl]; exact hl20) hokx (by simp [hfl]) (hWA.upd hu))
  have hTl := pT_len (ds := ds) (ns := ds.map De.name) (fun n hn => by obtain ⟨q, hq, rfl⟩ := List.mem_map.1 hn; exact hnm q hq) x hokx (fun p hp => hfine p (hfl ▸ hp))
  rw [hfl] at hTl
  have TD := Lib.hid (fun V => decimalL d.pars V p0 (by omega))
  have hAl := itoa_two (n := d.pars) p0 (by omega)
  have HRES := Lib.hid (procT_tree (ds := ds) hx)
  have d0 := uA.keep e0
  have d1 := uA.keep e1
  have UA := Lib.hid (u1.trans uA)
  have HS1 := Lib.hid s1
  have hfr : ∀ b' ∈ [BA + 1], w.heap.size ≤ b' ∨ b' ∈ ([] : List Nat) := fun b' hb' => Or.inl (by simp at hb'; omega)
  have HFR := Lib.hid hfr
  have nBX : BA ∉ [BA + 1] := by simp
  clear hG hL h2 h2' hc hWA u1 uA hXA e0 e1 s1 hfr hfl hokx hx hpos hb hbody hfine hpar hnm hok hd
  generalize hT : pT (ds.map De.name) x = T at *
  generalize hA : Lib.itoa d.pars = A at *
  generalize procT ds d = R at *
  obtain ⟨M1, hM1⟩ : ∃ M, M = [112, 114, 111, 99, 32] ++ d.name := ⟨_, rfl⟩
  have k1 : (ByteArray.mk #[112, 114, 111, 99, 32] ++ ByteArray.mk d.name.toArray) = ByteArray.mk M1.toArray := by rw [hM1, str_cat]
  have l1 : M1.length ≤ 100 := by rw [hM1, List.length_append]; simp; omega
  rw [← hM1] at HRES
  obtain ⟨M2, hM2⟩ : ∃ M, M = M1 ++ [32] := ⟨_, rfl⟩
  have k2 : (ByteArray.mk M1.toArray ++ ByteArray.mk #[32]) = ByteArray.mk M2.toArray := by rw [hM2, str_cat]
  have l2 : M2.length ≤ 101 := by rw [hM2, List.length_append]; simp; omega
  rw [← hM2] at HRES
  obtain ⟨M3, hM3⟩ : ∃ M, M = M2 ++ A := ⟨_, rfl⟩
  have k3 : (ByteArray.mk M2.toArray ++ ByteArray.mk A.toArray) = ByteArray.mk M3.toArray := by rw [hM3, str_cat]
  have l3 : M3.length ≤ 103 := by rw [hM3, List.length_append]; omega
  rw [← hM3] at HRES
  obtain ⟨M4, hM4⟩ : ∃ M, M = M3 ++ [32, 61, 32] := ⟨_, rfl⟩
  have k4 : (ByteArray.mk M3.toArray ++ ByteArray.mk #[32, 61, 32]) = ByteArray.mk M4.toArray := by rw [hM4, str_cat]
  have l4 : M4.length ≤ 106 := by rw [hM4, List.length_append]; simp; omega
  rw [← hM4] at HRES
  obtain ⟨M5, hM5⟩ : ∃ M, M = M4 ++ T := ⟨_, rfl⟩
  have k5 : (ByteArray.mk M4.toArray ++ ByteArray.mk T.toArray) = ByteArray.mk M5.toArray := by rw [hM5, str_cat]
  rw [← hM5] at HRES
  have n1 : ¬ (9223372036854775807 < 5 + d.name.length) := by omega
  have n2 : ¬ (9223372036854775807 < M1.length + 1) := by omega
  have n3 : ¬ (9223372036854775807 < M2.length + A.length) := by omega
  have n4 : ¬ (9223372036854775807 < M3.length + 3) := by omega
  have n5 : ¬ (9223372036854775807 < M4.length + T.length) := by omega
  clear hM1 hM2 hM3 hM4 hM5 hT hA
  generalize d.name = nm at *
  generalize d.pars = P at *
  go_enter Tryz.func29, Tryz.ntmps29
  go_upto_region 1 with (fail)
  rw [← hw1, ← hBA]
  clear hw1 hBA
  go_upto_region 2 with (fail)
  have hs1 : w1.heap.size = BA + 1 := HS1.out
  rw [← hwA, hs1]
  clear hwA hs1 e2
  go_wp2_with fail
  go_region_held3 (fun w' => w'.cell? ⟨BA, 0, none⟩ = some (es nm) ∧ w'.cell? ⟨BA, 1, none⟩ = some (ei P)) (go_keep)
    (first
      | (go_at_call 60; (with_reducible refine (TD.out _).mono ?_); rintro e w2 ⟨rfl, hu2⟩; have hX2 : Upd [] wA w2 := Upd.trans (by repeat (first | exact Upd.refl _ _ | assumption | refine Upd.drew ?_)) hu2; have s0 := hX2.keep d0; have s1 := hX2.keep d1)
      | (go_at_call 61; (with_reducible refine (TP.out _ (by repeat (first | exact Upd.refl _ _ | assumption | refine Upd.drew ?_))).mono ?_); rintro e w3 ⟨rfl, hu3, hpr3⟩; have hX3 : Upd [BA + 1] wA w3 := Upd.trans (by first | (refine Upd.mono (f := []) ?_ (by simp); repeat (first | exact Upd.refl _ _ | assumption | refine Upd.drew ?_))) hu3; have r0 := hX3.keepF nBX d0; have r1 := hX3.keepF nBX d1))
  all_goals
    have HE := Lib.hid (UA.out.fresh hX3 HFR.out)
    clear hu2 hu3 hpr3 hX2 hX3 s0 s1 r0 r1 TP TD
    go_wp2_with fail
    go_ret
    exact ⟨by rw [HRES.out]; rfl, HE.out⟩

set_option maxRecDepth 20000 in
set_option maxHeartbeats 4000000 in
theorem defTextAllI (v : Value) (ds : List De) (k : Int) (fd : List Nat) (w : World) (hG : Glob w) (hR : R_De1 fd w [v] ds) (hF : DesFit ds) :
    Calls Tryz.prog 9 #[v, .int .i64 k] w fun e w' => e = .returned (es (defTextF ds k)) ∧ Upd [] w w' := by
  have S1 := Lib.hid (validDefsI v ds w fd hR hF)
  have hR' := hR
  obtain ⟨a, cap, rfl, g1, g2, hc⟩ := slQ_open hR
  unfold maxLen at g2
  have HM := Lib.hid (show defTextF ds k = if (defsOk ds && inB k 0 ((ds.length : Int) - 1)) = true then ((ds[k.toNat]?).map (procT ds)).getD [] else [] from rfl)
  have HIX := Lib.hid (fun (h : ds.length ≤ 1000000) W => idxI k ds.length W h)
  have HG := Lib.hid (fun W (hu : Upd [] w W) => hG.upd hu)
  have HRD := Lib.hid (fun W (hu : Upd [] w W) => R_De1k.upd hR' hu (by simp))
  have HC := Lib.hid hc
  clear hR hR' hF hG hc
  generalize defTextF ds k = Z at *
  cases hok : defsOk ds with
  | false =>
    rw [hok] at S1 HM
    clear hok HIX HG HRD HC
    go_enter Tryz.func9, Tryz.ntmps9
    go_wp2_with fail
    refine S1.out.mono ?_
    rintro e w1 ⟨rfl, hu⟩
    have HU := Lib.hid hu
    clear S1 hu
    go_wp2_with fail
    go_ret
    exact ⟨by rw [HM.out]; rfl, HU.out⟩
  | true =>
    rw [hok] at S1 HM
    have HOK := Lib.hid hok
    clear hok
    go_enter Tryz.func9, Tryz.ntmps9
    go_wp2_with fail
    refine S1.out.mono ?_
    rintro e w1 ⟨rfl, hu⟩
    have HU := Lib.hid hu
    have S2 := Lib.hid (HIX.out (by have := (defs_fine HOK.out).1; omega) w1)
    clear S1 hu
    cases hin : inB k 0 ((ds.length : Int) - 1) with
    | false =>
      rw [hin] at S2 HM
      clear hin HIX HG HRD HC HOK
      go_wp2_with fail
      refine S2.out.mono ?_
      rintro e w2 ⟨rfl, rfl⟩
      clear S2
      go_wp2_with fail
      go_ret
      exact ⟨by rw [HM.out]; rfl, HU.out⟩
    | true =>
      rw [hin] at S2 HM
      have hkb := inB_true hin
      obtain ⟨j, rfl⟩ : ∃ j : Nat, k = j := ⟨k.toNat, by omega⟩
      have hj : j < ds.length := by omega
      obtain ⟨b, off, u, f, rfl, -, -, -, hcell, -, hr⟩ := HC.out j hj
      have hr' := R_Dek.upd hr HU.out (by simp)
      have S3 := Lib.hid (defTextI ds (.slice (some ⟨b, off, none⟩) ds.length cap) fd u ds[j] f w1 (HG.out w1 HU.out) (HRD.out w1 HU.out) hr' HOK.out (List.getElem_mem hj))
      obtain ⟨v2, f2, rfl, -, -⟩ := hr
      have p0 := HU.out.keep (hcell 0 _ rfl)
      have p1 := HU.out.keep (hcell 1 _ rfl)
      have p2 := HU.out.keep (hcell 2 _ rfl)
      simp only [Nat.add_zero] at p0
      have hjl : (j : Int) < (ds.length : Int) := by omega
      have HZ := Lib.hid (show Z = procT ds ds[j] by rw [HM.out, Int.toNat_natCast, List.getElem?_eq_getElem hj]; rfl)
      clear hin hkb hcell hr' HIX HG HRD HC HOK HM
      generalize procT ds ds[j] = R at *
      generalize ds[j] = d at *
      go_wp2_with fail
      refine S2.out.mono ?_
      rintro e w2 ⟨rfl, rfl⟩
      clear S2
      go_wp2_with fail
      refine S3.out.mono ?_
      rintro e w3 ⟨rfl, hu3⟩
      have HU3 := Lib.hid (HU.out.trans hu3)
      clear S3 hu3
      go_wp2_with fail
      go_ret
      exact ⟨by rw [HZ.out]; rfl, HU3.out⟩

end Go.Proofs.YtjelcjiofcoifaaGreatDoor

/-
  The text of a definition: what the reference's calls return.
-/
namespace Go.Proofs.YtjelcjiofcoifaaGreatDoor
open Go.RowKit

set_option maxRecDepth 20000 in
set_option maxHeartbeats 8000000 in
theorem procDS (ds : List De) (lv : Value) (fd : List Nat) (j : Nat) (w : World) (hL : R_De1 fd w [lv] ds) (hok : defsOk ds = true) (hj : j < ds.length) :
    Calls Tryz.prog 25 #[lv, .int .i64 j] w fun e w' => e = .returned (es (procT ds ds[j])) ∧ Upd [] w w' := by
  obtain ⟨h4, h1, hpar, hnm, hbody⟩ := defs_fine hok
  obtain ⟨hb, hl20, hfine⟩ := hbody ds[j] (List.getElem_mem hj)
  obtain ⟨x, hx, hokx, hfl⟩ := body_tree hb
  obtain ⟨p0, p1⟩ := hpar ds[j] (List.getElem_mem hj)
  have hnl := hnm ds[j] (List.getElem_mem hj)
  obtain ⟨al, ql, rfl, gl1, gl2, hc⟩ := slQ_open hL
  unfold maxLen at gl2
  obtain ⟨b, off, u, f, rfl, -, -, -, hcell, -, hr⟩ := hc j hj
  obtain ⟨v2, f2, rfl, h2, rfl⟩ := hr
  have d0 := hcell 0 _ rfl
  have d1 := hcell 1 _ rfl
  have d2 := hcell 2 _ rfl
  simp only [Nat.add_zero] at d0
  have hsg : shapeG folP 1 ds[j].body = true := by
    unfold bodyOk at hb
    simp only [Bool.and_eq_true] at hb
    exact hb.2
  have TP := Lib.hid (fun V (hu : Upd [] w V) => bodyDS ds (.slice (some ⟨b, off, none⟩) ds.length ql) fd v2 ds[j].body x V f2 (ds.map De.name) rfl (fun n hn => by obtain ⟨q, hq, rfl⟩ := List.mem_map.1 hn; exact hnm q hq) (R_De1k.upd hL hu (by simp)) (R_Pa1k.upd h2 hu (by simp)) hsg hl20 hfine hx)
  have hTl := pT_len (ds := ds) (ns := ds.map De.name) (fun n hn => by obtain ⟨q, hq, rfl⟩ := List.mem_map.1 hn; exact hnm q hq) x hokx (fun p hp => hfine p (hfl ▸ hp))
  rw [hfl] at hTl
  have TD := Lib.hid (fun V => decSmall ds[j].pars V p0 (by omega))
  have hAl := itoa_two (n := ds[j].pars) p0 (by omega)
  have HRES := Lib.hid (procT_tree (ds := ds) hx)
  have hjl : (j : Int) < (ds.length : Int) := by omega
  obtain ⟨a2, q2, rfl, -, -, -⟩ := slQ_open h2
  clear hL h2 hc hcell hfl hokx hx hb hbody hfine hpar hnm hok hsg
  generalize hT : pT (ds.map De.name) x = T at *
  generalize hA : Lib.itoa ds[j].pars = A at *
  generalize procT ds ds[j] = R at *
  generalize ds[j] = d at *
  obtain ⟨M1, hM1⟩ : ∃ M, M = [112, 114, 111, 99, 32] ++ d.name := ⟨_, rfl⟩
  have k1 : (ByteArray.mk #[112, 114, 111, 99, 32] ++ ByteArray.mk d.name.toArray) = ByteArray.mk M1.toArray := by rw [hM1, catE]
  have l1 : M1.length ≤ 100 := by rw [hM1, List.length_append]; simp; omega
  rw [← hM1] at HRES
  obtain ⟨M2, hM2⟩ : ∃ M, M = M1 ++ [32] := ⟨_, rfl⟩
  have k2 : (ByteArray.mk M1.toArray ++ ByteArray.mk #[32]) = ByteArray.mk M2.toArray := by rw [hM2, catE]
  have l2 : M2.length ≤ 101 := by rw [hM2, List.length_append]; simp; omega
  rw [← hM2] at HRES
  obtain ⟨M3, hM3⟩ : ∃ M, M = M2 ++ A := ⟨_, rfl⟩
  have k3 : (ByteArray.mk M2.toArray ++ ByteArray.mk A.toArray) = ByteArray.mk M3.toArray := by rw [hM3, catE]
  have l3 : M3.length ≤ 103 := by rw [hM3, List.length_append]; omega
  rw [← hM3] at HRES
  obtain ⟨M4, hM4⟩ : ∃ M, M = M3 ++ [32, 61, 32] := ⟨_, rfl⟩
  have k4 : (ByteArray.mk M3.toArray ++ ByteArray.mk #[32, 61, 32]) = ByteArray.mk M4.toArray := by rw [hM4, catE]
  have l4 : M4.length ≤ 106 := by rw [hM4, List.length_append]; simp; omega
  rw [← hM4] at HRES
  obtain ⟨M5, hM5⟩ : ∃ M, M = M4 ++ T := ⟨_, rfl⟩
  have k5 : (ByteArray.mk M4.toArray ++ ByteArray.mk T.toArray) = ByteArray.mk M5.toArray := by rw [hM5, catE]
  rw [← hM5] at HRES
  have n1 : ¬ (9223372036854775807 < 5 + d.name.length) := by omega
  have n2 : ¬ (9223372036854775807 < M1.length + 1) := by omega
  have n3 : ¬ (9223372036854775807 < M2.length + A.length) := by omega
  have n4 : ¬ (9223372036854775807 < M3.length + 3) := by omega
  have n5 : ¬ (9223372036854775807 < M4.length + T.length) := by omega
  clear hM1 hM2 hM3 hM4 hM5 hT hA
  generalize d.name = nm at *
  generalize d.pars = P at *
  generalize d.body.length = L at *
  go_enter Tryz.func25, Tryz.ntmps25
  go_wp2_with fail
  go_region_held3 (fun w' => w'.cell? ⟨b, off + j * 3, none⟩ = some (es nm) ∧ w'.cell? ⟨b, off + j * 3 + 1, none⟩ = some (ei P) ∧ w'.cell? ⟨b, off + j * 3 + 2, none⟩ = some (.slice a2 L q2)) (go_keep)
    (first
      | (go_at_call 52; (with_reducible refine (TD.out _).mono ?_); rintro e w2 ⟨rfl, hu2⟩; have hX2 : Upd [] w w2 := Upd.trans (by repeat (first | exact Upd.refl _ _ | assumption | refine Upd.drew ?_)) hu2; have s0 := hX2.keep d0; have s1 := hX2.keep d1; have s2 := hX2.keep d2)
      | (go_at_call 53; (with_reducible refine (TP.out _ (by repeat (first | exact Upd.refl _ _ | assumption | refine Upd.drew ?_))).mono ?_); rintro e w3 ⟨rfl, hu3⟩; have hX3 : Upd [] w w3 := Upd.trans (by repeat (first | exact Upd.refl _ _ | assumption | refine Upd.drew ?_)) hu3; have r0 := hX3.keep d0; have r1 := hX3.keep d1; have r2 := hX3.keep d2))
  all_goals
    have HE := Lib.hid hX3
    clear hu2 hu3 hX2 hX3 s0 s1 s2 r0 r1 r2 TP TD
    go_wp2_with fail
    go_ret
    exact ⟨by rw [HRES.out]; rfl, HE.out⟩

set_option maxRecDepth 20000 in
set_option maxHeartbeats 4000000 in
theorem defTextAllS (v : Value) (ds : List De) (k : Int) (fd : List Nat) (w : World) (hR : R_De1 fd w [v] ds) (hF : DesFit ds) :
    Calls Tryz.prog 7 #[v, .int .i64 k] w fun e w' => e = .returned (es (defTextF ds k)) ∧ Upd [] w w' := by
  have S1 := Lib.hid (defsS v ds w fd hR hF)
  have hR' := hR
  obtain ⟨a, cap, rfl, g1, g2, -⟩ := slQ_open hR
  unfold maxLen at g2
  have HM := Lib.hid (show defTextF ds k = if (defsOk ds && inB k 0 ((ds.length : Int) - 1)) = true then ((ds[k.toNat]?).map (procT ds)).getD [] else [] from rfl)
  have HIX := Lib.hid (fun W => l00In k 0 ((ds.length : Int) - 1) W)
  have HRD := Lib.hid (fun W (hu : Upd [] w W) => R_De1k.upd hR' hu (by simp))
  clear hR hR' hF
  generalize defTextF ds k = Z at *
  cases hok : defsOk ds with
  | false =>
    rw [hok] at S1 HM
    clear hok HIX HRD
    go_enter Tryz.func7, Tryz.ntmps7
    go_wp2_with fail
    refine S1.out.mono ?_
    rintro e w1 ⟨rfl, hu⟩
    have HU := Lib.hid hu
    clear S1 hu
    go_wp2_with fail
    go_ret
    exact ⟨by rw [HM.out]; rfl, HU.out⟩
  | true =>
    rw [hok] at S1 HM
    have HOK := Lib.hid hok
    clear hok
    go_enter Tryz.func7, Tryz.ntmps7
    go_wp2_with fail
    refine S1.out.mono ?_
    rintro e w1 ⟨rfl, hu⟩
    have HU := Lib.hid hu
    have S2 := Lib.hid (HIX.out w1)
    clear S1 hu HIX
    cases hin : inB k 0 ((ds.length : Int) - 1) with
    | false =>
      rw [hin] at S2 HM
      clear hin HRD HOK
      go_wp2_with fail
      refine S2.out.mono ?_
      rintro e w2 ⟨rfl, rfl⟩
      clear S2
      go_wp2_with fail
      go_ret
      exact ⟨by rw [HM.out]; rfl, HU.out⟩
    | true =>
      rw [hin] at S2 HM
      have hkb := inB_true hin
      obtain ⟨j, rfl⟩ : ∃ j : Nat, k = j := ⟨k.toNat, by omega⟩
      have hj : j < ds.length := by omega
      have S3 := Lib.hid (procDS ds (.slice a ds.length cap) fd j w1 (HRD.out w1 HU.out) HOK.out hj)
      have HZ := Lib.hid (show Z = procT ds ds[j] by rw [HM.out, Int.toNat_natCast, List.getElem?_eq_getElem hj]; rfl)
      clear hin hkb HRD HOK HM
      generalize procT ds ds[j] = R at *
      go_wp2_with fail
      refine S2.out.mono ?_
      rintro e w2 ⟨rfl, rfl⟩
      clear S2
      go_wp2_with fail
      refine S3.out.mono ?_
      rintro e w3 ⟨rfl, hu3⟩
      have HU3 := Lib.hid (HU.out.trans hu3)
      clear S3 hu3
      go_wp2_with fail
      go_ret
      exact ⟨by rw [HZ.out]; rfl, HU3.out⟩

end Go.Proofs.YtjelcjiofcoifaaGreatDoor

/-
  What the laws' budget says of definitions.
-/
namespace Go.Proofs.YtjelcjiofcoifaaGreatDoor
open Go.RowKit

theorem sum_mem {α : Type} {F : α → Int} (h0 : ∀ x, 0 ≤ F x) : ∀ {xs : List α} {x : α}, x ∈ xs → F x ≤ (xs.map F).sum
  | [], _, h => by cases h
  | y :: ys, x, h => by
    have hs : ∀ l : List α, 0 ≤ (l.map F).sum := by
      intro l
      induction l with
      | nil => simp
      | cons z l ih => simp only [List.map_cons, List.sum_cons]; have := h0 z; omega
    simp only [List.map_cons, List.sum_cons]
    rcases List.mem_cons.1 h with rfl | h
    · have := hs ys; omega
    · have := sum_mem h0 h; have := h0 y; omega
theorem des_fit {ds : List De} (h : szF_De1 ds ≤ 1048576) : DesFit ds := by
  have h1 : 0 ≤ (ds.map szF_De).sum := szF_De1_sum ds
  unfold szF_De1 at h
  refine ⟨by omega, fun d hd => ?_⟩
  have h2 := sum_mem szF_De_nonneg hd
  have h3 : szF_De d = (d.name.length : Int) + szF_Pa1 d.body := rfl
  have h4 := szF_Pa1_nonneg d.body
  have h5 : szF_Pa1 d.body = (d.body.length : Int) + (d.body.map szF_Pa).sum := rfl
  have h6 := szF_Pa1_sum d.body
  refine ⟨by omega, by omega, fun p hp => ?_⟩
  have h7 := sum_mem szF_Pa_nonneg hp
  have h8 : szF_Pa p = (p.name.length : Int) + szF_T2 p.args := rfl
  have h9 := szF_T2_nonneg p.args
  have h10 : szF_T2 p.args = (p.args.length : Int) + (p.args.map szF_T1).sum := rfl
  have h11 := szF_T2_sum p.args
  exact ⟨by omega, by omega⟩

end Go.Proofs.YtjelcjiofcoifaaGreatDoor

/-
  The law FnExactDefinitionText: the call returns true for every input, and writes nothing that was there.
-/
namespace Go.Proofs.YtjelcjiofcoifaaGreatDoor
open Go.RowKit

set_option maxRecDepth 20000 in
set_option maxHeartbeats 4000000 in
theorem lawDefText (v : Value) (ds : List De) (k : Int) (w : World) (fp : List Nat) (hG : Glob w) (hR : R_De1 fp w [v] ds) (hS : De1Ok ds) :
    Calls Tryz.prog 3 #[v, .int .i64 k] w fun e w' => e = .returned (.bool true) ∧ Upd [] w w' := by
  have HG0 := Lib.hid hG
  have HRX := Lib.hid (fun W (hu : Upd [] w W) => R_De1k.upd hR hu (by simp))
  have S1 := Lib.hid (sz_De1 v ds 1048576 w fp (by omega) (by omega) hR hS)
  obtain ⟨a0, c0, rfl, -, -, -⟩ := slQ_open hR
  clear hR hS hG
  go_enter Tryz.func3, Tryz.ntmps3
  go_wp2_with fail
  refine S1.out.mono ?_
  rintro e w1 ⟨⟨r, rfl, hr⟩, u1⟩
  have U1 := Lib.hid u1
  clear S1 u1
  rcases hr with rfl | ⟨hr0, hr1⟩
  · go_wp2_with fail
    go_ret
    exact ⟨rfl, U1.out⟩
  · have hsz : szF_De1 ds ≤ 1048576 := by omega
    have HSZ := Lib.hid hsz
    have HF := Lib.hid (des_fit hsz)
    obtain ⟨T, hT⟩ : ∃ T, defTextF ds k = T := ⟨_, rfl⟩
    have HT := Lib.hid hT
    clear hT hsz hr1
    have hne : (T != T) = false := by simp
    have hne2 : (T == T) = true := by simp
    have S2 := Lib.hid (to_De1 _ ds w1 fp HSZ.out (HRX.out w1 U1.out))
    go_wp2_with fail
    refine S2.out.mono ?_
    rintro e w2 ⟨⟨v2, rfl, hn⟩, u2⟩
    have U2 := Lib.hid (U1.out.trans u2)
    obtain ⟨a2, c2, rfl⟩ := New.formQ hn
    obtain ⟨f2, r2, -, -⟩ := hn
    have S3 := Lib.hid (defTextAllS _ ds k f2 w2 r2 HF.out)
    rw [HT.out] at S3
    clear S2 u2 r2
    go_wp2_with fail
    refine S3.out.mono ?_
    rintro e w3 ⟨rfl, u3⟩
    have U3 := Lib.hid (U2.out.trans u3)
    have S4 := Lib.hid (to_De1 _ ds w3 fp HSZ.out (HRX.out w3 U3.out))
    clear S3 u3
    go_wp2_with fail
    refine S4.out.mono ?_
    rintro e w4 ⟨⟨v4, rfl, hn⟩, u4⟩
    have U4 := Lib.hid (U3.out.trans u4)
    obtain ⟨a4, c4, rfl⟩ := New.formQ hn
    obtain ⟨f4, r4, -, -⟩ := hn
    have S5 := Lib.hid (defTextAllI _ ds k f4 w4 (HG0.out.upd U4.out) r4 HF.out)
    rw [HT.out] at S5
    have R4 := Lib.hid r4
    clear S4 u4 r4
    go_wp2_with fail
    refine S5.out.mono ?_
    rintro e w5 ⟨rfl, u5⟩
    have U5 := Lib.hid (U4.out.trans u5)
    have R5 := Lib.hid (R_De1k.upd R4.out u5 (by simp))
    have S6 := Lib.hid (to_De1 _ ds w5 fp HSZ.out (HRX.out w5 U5.out))
    clear S5 u5
    go_wp2_with fail
    refine S6.out.mono ?_
    rintro e w6 ⟨⟨v6, rfl, hn⟩, u6⟩
    have U6 := Lib.hid (U5.out.trans u6)
    obtain ⟨a6, c6, rfl⟩ := New.formQ hn
    obtain ⟨f6, r6, -, -⟩ := hn
    have S7 := Lib.hid (eq_De1 _ _ ds w6 f4 f6 (R_De1k.upd R5.out u6 (by simp)) r6)
    clear S6 u6 r6
    go_wp2_with fail
    refine S7.out.mono ?_
    rintro e w7 ⟨rfl, u7⟩
    have U7 := Lib.hid (U6.out.trans u7)
    clear S7 u7
    go_wp2_with fail
    go_ret
    exact ⟨rfl, U7.out⟩

end Go.Proofs.YtjelcjiofcoifaaGreatDoor

/-
  The form's reading of definitions.
-/
namespace Go.Proofs.YtjelcjiofcoifaaGreatDoor
open Go.RowKit Go.ChangeShapes Go.WideShapes Go.Deep

set_option maxRecDepth 20000 in
theorem opens_Pa : Opens Tryz.prog 127 R_Pa PaOk := by
  intro H enc w fuel cs x hx
  obtain ⟨y0, y1, y2, y3, n, -, hl, h0, h1, h2, h3⟩ := Go.Joins.trod_struct4 Tryz.underlying127 hx
  rw [show Tryz.prog.cellsOf 127 = 4 by kernel_rfl] at hl
  match cs, hl with
  | [a, b, c, d], _ =>
    have c0 : Tryz.prog.cellsOf 2 = 1 := by kernel_rfl
    have c3 : Tryz.prog.cellsOf 9 = 1 := by kernel_rfl
    have c4 : Tryz.prog.cellsOf 125 = 1 := by kernel_rfl
    obtain ⟨k, e0, -, -⟩ := DataW.trod_int Tryz.underlying2 h0
    obtain ⟨m, e1, -, -⟩ := DataW.trod_int Tryz.underlying2 h1
    obtain ⟨s, e2, -, hs⟩ := DataW.trod_string Tryz.underlying9 h2
    simp [c0, c3, c4] at e0 e1 e2 h3
    obtain ⟨args, f3, r3, -⟩ := opens_T2 h3
    refine ⟨⟨k, m, s.data.toList, args⟩, f3 ++ [], ⟨d, f3, by rw [e0, e1, e2], r3, rfl⟩, ?_⟩
    show s.data.toList.length ≤ 9223372036854775807
    have : s.data.toList.length ≤ maxLen := hs
    simp only [maxLen] at this
    omega
theorem opens_Pa1 : Opens Tryz.prog 49 R_Pa1 Pa1Ok := opens_slQ Tryz.underlying49 (by kernel_rfl) (by decide) opens_Pa
set_option maxRecDepth 20000 in
theorem opens_De : Opens Tryz.prog 51 R_De DeOk := by
  intro H enc w fuel cs x hx
  obtain ⟨y0, y1, y2, n, -, hl, h0, h1, h2⟩ := trod_struct3 Tryz.underlying51 hx
  rw [show Tryz.prog.cellsOf 51 = 3 by kernel_rfl] at hl
  match cs, hl with
  | [a, b, c], _ =>
    have c0 : Tryz.prog.cellsOf 2 = 1 := by kernel_rfl
    have c3 : Tryz.prog.cellsOf 9 = 1 := by kernel_rfl
    have c4 : Tryz.prog.cellsOf 49 = 1 := by kernel_rfl
    obtain ⟨s, e0, -, hs⟩ := DataW.trod_string Tryz.underlying9 h0
    obtain ⟨m, e1, -, -⟩ := DataW.trod_int Tryz.underlying2 h1
    simp [c0, c3, c4] at e0 e1 h2
    obtain ⟨body, f2, r2, g2⟩ := opens_Pa1 h2
    refine ⟨⟨s.data.toList, m, body⟩, f2 ++ [], ⟨c, f2, by rw [e0, e1], r2, rfl⟩, ?_, g2⟩
    show s.data.toList.length ≤ 9223372036854775807
    have : s.data.toList.length ≤ maxLen := hs
    simp only [maxLen] at this
    omega
theorem opens_De1 : Opens Tryz.prog 22 R_De1 De1Ok := opens_slQ Tryz.underlying22 (by kernel_rfl) (by decide) opens_De

end Go.Proofs.YtjelcjiofcoifaaGreatDoor
