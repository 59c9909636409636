/-
  Texts joined in one file: EncL, ModSW, ModD, ModL, ModEq, LawFnModal, LabZ.
-/
import Derived.Test.YtdnjjanacbkijaaGreatDoorZM1
import Derived.Test.YtdnjjanacbkijaaGreatDoorZM2
import Derived.Test.YtdnjjanacbkijaaGreatDoorZM3
import Derived.Deep.QuietTactic
import Derived.BigQuiet
import Derived.Lib.LaidTab
import Derived.Stop.LaidErr
import Derived.HandedShaped
import Derived.Handed
import Derived.Shelf.Vars
/-
  Validity of systems: what the program's call returns.
-/
namespace Go.Proofs.YtdnjjanacbkijaaGreatDoor
open Go.RowKit

theorem inB_len (n : Nat) : inB (n : Int) 1 12 = (decide (1 ≤ n) && decide (n ≤ 12)) := by
  rw [Bool.eq_iff_iff]
  constructor
  · intro h
    have := inB_true h
    simp; omega
  · intro h
    simp at h
    exact inB_mk (by omega)

theorem labP_at (labs : List (List UInt8)) (k : Nat) (hk : k < labs.length) : labP labs k = (isLab labs[k] && ((labs[k] == tauL) == decide (k = 0)) && (!decide (1 < k) || bl (labs.getD (k - 1) []) labs[k])) := by
  unfold labP
  rw [List.getD_eq_getElem?_getD, List.getElem?_eq_getElem hk]; rfl

theorem edP_at (x : Sys) (k : Nat) (hk : k < x.eds.length) : edP x k = (inB x.eds[k].fr 0 (x.st - 1) && inB x.eds[k].to 0 (x.st - 1) && inB x.eds[k].lb 0 (x.labs.length - 1) && (decide (k = 0) || edLt (x.eds.getD (k - 1) ⟨0, 0, 0⟩) x.eds[k])) := by
  unfold edP
  rw [List.getD_eq_getElem?_getD, List.getElem?_eq_getElem hk]; rfl

set_option maxRecDepth 20000 in
set_option maxHeartbeats 4000000 in
theorem validI (x : Sys) (v1 v2 : Value) (w : World) (f1 f2 : List Nat) (h1 : RS f1 w [v1] x.labs) (h2 : R_E1 f2 w [v2] x.eds) (hp : ∀ p ∈ x.labs, p.length ≤ 2000000) (he : Env w) :
    Calls Tryz.prog 22 #[.agg #[ei x.st, ei x.ini, v1, v2]] w fun e w' => e = .returned (.bool (sysOk x)) ∧ Upd [] w w' := by
  obtain ⟨st, ini, labs, eds⟩ := x
  simp only at h1 h2 hp ⊢
  have HOK := Lib.hid (show sysOk ⟨st, ini, labs, eds⟩ = (inB st 1 40 && inB ini 0 (st - 1) && labsOk labs && decide (eds.length ≤ 300) && allF (edP ⟨st, ini, labs, eds⟩) 0 eds.length) from rfl)
  have HLO := Lib.hid (show labsOk labs = (inB (labs.length : Int) 1 12 && allF (labP labs) 0 labs.length) by rw [inB_len]; rfl)
  obtain ⟨a1, c1, rfl, hl1, hm1, -⟩ := slF1_open h1
  obtain ⟨a2, c2, rfl, hl2, hm2, -⟩ := slF3_open h2
  unfold maxLen at hm1 hm2
  have H1 := Lib.hid h1
  have H2 := Lib.hid h2
  have HP := Lib.hid hp
  have HE := Lib.hid he
  have S1 := Lib.hid (fun W : World => within st 1 40 W)
  have S3 := Lib.hid (fun W : World => within (labs.length : Int) 1 12 W)
  have HB0 := Lib.hid ((Upd.refl [] w).alloc (.cells #[ei st, ei ini, .slice a1 labs.length c1, .slice a2 eds.length c2] 27))
  have HBX := Lib.hid (fun W => fun (hu : Upd [] (w.alloc (.cells #[ei st, ei ini, .slice a1 labs.length c1, .slice a2 eds.length c2] 27)) W) => show W.cell? ⟨w.heap.size, 0, none⟩ = some (ei st) ∧ W.cell? ⟨w.heap.size, 1, none⟩ = some (ei ini) ∧ W.cell? ⟨w.heap.size, 2, none⟩ = some (.slice a1 labs.length c1) ∧ W.cell? ⟨w.heap.size, 3, none⟩ = some (.slice a2 eds.length c2) from
    ⟨hu.keep (cell_new w _ _ _ rfl 0 _ rfl), hu.keep (cell_new w _ _ _ rfl 1 _ rfl), hu.keep (cell_new w _ _ _ rfl 2 _ rfl), hu.keep (cell_new w _ _ _ rfl 3 _ rfl)⟩)
  clear h1 h2 hp he
  cases hb1 : inB st 1 40 with
  | false =>
    have HR := Lib.hid (show sysOk ⟨st, ini, labs, eds⟩ = false by rw [HOK.out, hb1]; rfl)
    rw [hb1] at S1
    clear HOK HLO hb1 S3
    go_enter Tryz.func22, Tryz.ntmps22
    go_wp2_with fail
    refine (S1.out _).mono ?_
    rintro e w1 ⟨rfl, rfl⟩
    clear S1
    go_wp2_with fail
    go_ret
    exact ⟨by rw [HR.out]; rfl, HB0.out⟩
  | true =>
    have hst := inB_true hb1
    have S2 := Lib.hid (fun W : World => isStateI st ini (.slice a1 labs.length c1) (.slice a2 eds.length c2) ini W hst.1 hst.2)
    rw [hb1] at S1 HOK
    cases hb2 : inB ini 0 (st - 1) with
    | false =>
      have HR := Lib.hid (show sysOk ⟨st, ini, labs, eds⟩ = false by rw [HOK.out, hb2]; rfl)
      rw [hb2] at S2
      clear HOK HLO hb1 hb2 S3
      go_enter Tryz.func22, Tryz.ntmps22
      go_wp2_with fail
      refine (S1.out _).mono ?_
      rintro e w1 ⟨rfl, rfl⟩
      clear S1
      go_wp2_with fail
      refine (S2.out _).mono ?_
      rintro e w2 ⟨rfl, hu2⟩
      have HU2 := Lib.hid (HB0.out.trans hu2)
      clear S2 hu2
      go_wp2_with fail
      go_ret
      exact ⟨by rw [HR.out]; rfl, HU2.out⟩
    | true =>
      rw [hb2] at S2 HOK
      cases hb3 : inB (labs.length : Int) 1 12 with
      | false =>
        have HR := Lib.hid (show sysOk ⟨st, ini, labs, eds⟩ = false by rw [HOK.out, HLO.out, hb3]; rfl)
        rw [hb3] at S3
        clear HOK HLO hb1 hb2 hb3
        go_enter Tryz.func22, Tryz.ntmps22
        go_wp2_with fail
        refine (S1.out _).mono ?_
        rintro e w1 ⟨rfl, rfl⟩
        clear S1
        go_wp2_with fail
        refine (S2.out _).mono ?_
        rintro e w2 ⟨rfl, hu2⟩
        have HU2 := Lib.hid (HB0.out.trans hu2)
        obtain ⟨x0, x1, x2, x3⟩ := HBX.out w2 hu2
        clear S2 hu2
        go_wp2_with fail
        refine (S3.out _).mono ?_
        rintro e w3 ⟨rfl, rfl⟩
        clear S3
        go_wp2_with fail
        go_ret
        exact ⟨by rw [HR.out]; rfl, HU2.out⟩
      | true =>
        have hn3 := inB_true hb3
        rw [hb3] at S3 HLO
        by_cases hel : eds.length ≤ 300
        · have HOK2 := Lib.hid (show sysOk ⟨st, ini, labs, eds⟩ = (allF (labP labs) 0 labs.length && allF (edP ⟨st, ini, labs, eds⟩) 0 eds.length) by
            rw [HOK.out, HLO.out, decide_eq_true hel]; simp)
          have he3 : ¬ (300 : Int) < (eds.length : Int) := by omega
          clear HOK HLO hb1 hb2 hb3
          go_enter Tryz.func22, Tryz.ntmps22
          go_wp2_with fail
          refine (S1.out _).mono ?_
          rintro e w1 ⟨rfl, rfl⟩
          clear S1
          go_wp2_with fail
          refine (S2.out _).mono ?_
          rintro e w2 ⟨rfl, hu2⟩
          have HU2 := Lib.hid hu2
          obtain ⟨x0, x1, x2, x3⟩ := HBX.out w2 hu2
          clear S2 hu2
          go_wp2_with fail
          refine (S3.out _).mono ?_
          rintro e w3 ⟨rfl, rfl⟩
          clear S3
          go_wp2_with fail
          obtain ⟨wb, hwb⟩ : ∃ wb, wb = w.alloc (.cells #[ei st, ei ini, .slice a1 labs.length c1, .slice a2 eds.length c2] 27) := ⟨_, rfl⟩
          rw [← hwb] at HU2 HBX HB0
          clear hwb x0 x1 x2 x3
          go_loopw [34] (fun iv wr => ∃ k : Nat, k ≤ labs.length ∧ iv = .int .i64 k ∧ Hid (allF (labP labs) k (labs.length - k) = allF (labP labs) 0 labs.length) ∧ Upd [] wb wr) (fun iv _ => labs.length - (intOf iv).toNat)
          case atStart => exact ⟨0, Nat.zero_le _, rfl, Lib.hid rfl, HU2.out⟩
          case round =>
            clear HU2
            obtain ⟨k, hk, rfl, HA, hU⟩ := hrel
            by_cases hlt : k < labs.length
            · obtain ⟨a', c', hv, -, -, hc⟩ := slF1_open (RSk.upd H1.out (HB0.out.trans hU) (by simp))
              cases hv
              obtain ⟨b1, o1, rfl, -, -, p1⟩ := hc k hlt
              have HA2 := Lib.hid (HA.out.symm.trans (allF_step (labP labs) k labs.length hlt))
              have HLP := Lib.hid (labP_at labs k hlt)
              have hsl := HP.out labs[k] (List.getElem_mem hlt)
              have hpr : 1 < k → wr.cell? ⟨b1, o1 + (k - 1), none⟩ = some (es (labs.getD (k - 1) [])) := fun h => by
                obtain ⟨b2, o2, hv2, -, -, p2⟩ := hc (k - 1) (by omega)
                cases hv2
                rw [p2, List.getD_eq_getElem?_getD, List.getElem?_eq_getElem (by omega)]; rfl
              have HPR := Lib.hid hpr
              obtain ⟨x0, x1, x2, x3⟩ := HBX.out wr hU
              have SL := Lib.hid (show Calls Tryz.prog 42 #[es labs[k]] wr fun e w' => e = .returned (.bool (isLab labs[k])) ∧ Upd [] wr w' from isLabelI _ wr hsl (HE.out.upd (HB0.out.trans hU)))
              generalize labs[k] = s at *
              have HU := Lib.hid hU
              clear hc HA hU hpr
              cases hls : isLab s with
              | false =>
                have HR := Lib.hid (show sysOk ⟨st, ini, labs, eds⟩ = false by rw [HOK2.out, HA2.out, HLP.out, hls]; rfl)
                rw [hls] at SL
                clear HOK2 HA2 HLP hls HPR
                go_wp2_with fail
                refine SL.out.mono ?_
                rintro e w4 ⟨rfl, hu4⟩
                have HU4 := Lib.hid (HB0.out.trans (HU.out.trans hu4))
                clear SL hu4
                go_wp2_with fail
                go_ret
                exact ⟨by rw [HR.out]; rfl, HU4.out⟩
              | true =>
                rw [hls] at SL HLP
                by_cases ht : s = tauL
                · by_cases k0 : k = 0
                  · have HA3 := Lib.hid (show allF (labP labs) (k + 1) (labs.length - (k + 1)) = allF (labP labs) 0 labs.length by
                      rw [HA2.out, HLP.out, ht, k0]; simp)
                    have g1 : (s == [116, 97, 117]) = true := by simpa [tauL] using ht
                    have g2 : ((k : Int) == 0) = true := by rw [k0]; rfl
                    have g3 : ¬ (1 : Int) < (k : Int) := by omega
                    have K0 := Lib.hid k0
                    clear HA2 HLP ht hls HPR k0
                    go_wp2_with fail
                    refine SL.out.mono ?_
                    rintro e w4 ⟨rfl, hu4⟩
                    have HU4 := Lib.hid (HU.out.trans hu4)
                    clear SL hu4
                    go_wp2_with fail
                    go_roundw
                    case rel => exact ⟨k + 1, by omega, by go_num, HA3, HU4.out⟩
                    case measure => simp [intOf]; omega
                  · have HR := Lib.hid (show sysOk ⟨st, ini, labs, eds⟩ = false by rw [HOK2.out, HA2.out, HLP.out, ht, decide_eq_false k0]; simp)
                    have g1 : (s == [116, 97, 117]) = true := by simpa [tauL] using ht
                    have g2 : ((k : Int) == 0) = false := by simpa using k0
                    clear HOK2 HA2 HLP ht hls HPR k0
                    go_wp2_with fail
                    refine SL.out.mono ?_
                    rintro e w4 ⟨rfl, hu4⟩
                    have HU4 := Lib.hid (HB0.out.trans (HU.out.trans hu4))
                    clear SL hu4
                    go_wp2_with fail
                    go_ret
                    exact ⟨by rw [HR.out]; rfl, HU4.out⟩
                · have g1 : (s == [116, 97, 117]) = false := by simpa [tauL] using ht
                  have hst0 : (s == tauL) = false := by simpa using ht
                  rw [hst0] at HLP
                  by_cases k0 : k = 0
                  · have HR := Lib.hid (show sysOk ⟨st, ini, labs, eds⟩ = false by rw [HOK2.out, HA2.out, HLP.out, decide_eq_true k0]; simp)
                    have g2 : ((k : Int) == 0) = true := by rw [k0]; rfl
                    clear HOK2 HA2 HLP ht hst0 hls HPR k0
                    go_wp2_with fail
                    refine SL.out.mono ?_
                    rintro e w4 ⟨rfl, hu4⟩
                    have HU4 := Lib.hid (HB0.out.trans (HU.out.trans hu4))
                    clear SL hu4
                    go_wp2_with fail
                    go_ret
                    exact ⟨by rw [HR.out]; rfl, HU4.out⟩
                  · have g2 : ((k : Int) == 0) = false := by simpa using k0
                    by_cases k1 : 1 < k
                    · have p0 := HPR.out k1
                      have hk1 : (1 : Int) < (k : Int) := by omega
                      have HLP2 := Lib.hid (show labP labs k = bl (labs.getD (k - 1) []) s by rw [HLP.out, decide_eq_false k0, decide_eq_true k1]; simp)
                      have i1 : ((k : Int) - 1).toNat = k - 1 := by omega
                      have i2 : k - 1 < labs.length := by omega
                      have i3 : (0 : Int) ≤ (k : Int) - 1 := by omega
                      have i4 : (k : Int) - 1 < (labs.length : Int) := by omega
                      generalize labs.getD (k - 1) [] = pv at *
                      have hcmp : (Op.bytesLess s pv || s == pv) = !bl pv s := bl_total s pv
                      cases hbl : bl pv s with
                      | false =>
                        rw [hbl] at HLP2 hcmp
                        have HR := Lib.hid (show sysOk ⟨st, ini, labs, eds⟩ = false by rw [HOK2.out, HA2.out, HLP2.out]; rfl)
                        clear HOK2 HA2 HLP ht hst0 hls HPR k0 HLP2 hbl
                        go_wp2_with fail
                        refine SL.out.mono ?_
                        rintro e w4 ⟨rfl, hu4⟩
                        have q0 := hu4.keep p0
                        obtain ⟨x0, x1, x2, x3⟩ := HBX.out w4 (HU.out.trans hu4)
                        have HU4 := Lib.hid (HB0.out.trans (HU.out.trans hu4))
                        clear SL hu4 p0
                        go_wp2_with fail
                        go_ret
                        exact ⟨by rw [HR.out]; rfl, HU4.out⟩
                      | true =>
                        rw [hbl] at HLP2 hcmp
                        have HA3 := Lib.hid (show allF (labP labs) (k + 1) (labs.length - (k + 1)) = allF (labP labs) 0 labs.length by
                          rw [HA2.out, HLP2.out]; simp)
                        clear HA2 HLP ht hst0 hls HPR k0 HLP2 hbl
                        go_wp2_with fail
                        refine SL.out.mono ?_
                        rintro e w4 ⟨rfl, hu4⟩
                        have q0 := hu4.keep p0
                        have HU4 := Lib.hid (HU.out.trans hu4)
                        obtain ⟨x0, x1, x2, x3⟩ := HBX.out w4 HU4.out
                        clear SL hu4 p0
                        go_wp2_with fail
                        go_roundw
                        case rel => exact ⟨k + 1, by omega, by go_num, HA3, HU4.out⟩
                        case measure => simp [intOf]; omega
                    · have HA3 := Lib.hid (show allF (labP labs) (k + 1) (labs.length - (k + 1)) = allF (labP labs) 0 labs.length by
                        rw [HA2.out, HLP.out, decide_eq_false k0, decide_eq_false k1]; simp)
                      have g3 : ¬ (1 : Int) < (k : Int) := by omega
                      clear HA2 HLP ht hst0 hls HPR k0 k1
                      go_wp2_with fail
                      refine SL.out.mono ?_
                      rintro e w4 ⟨rfl, hu4⟩
                      have HU4 := Lib.hid (HU.out.trans hu4)
                      clear SL hu4
                      go_wp2_with fail
                      go_roundw
                      case rel => exact ⟨k + 1, by omega, by go_num, HA3, HU4.out⟩
                      case measure => simp [intOf]; omega
            · obtain rfl : k = labs.length := by omega
              have HLT := Lib.hid (show allF (labP labs) 0 labs.length = true by rw [← HA.out, allF_end])
              have HOK3 := Lib.hid (show sysOk ⟨st, ini, labs, eds⟩ = allF (edP ⟨st, ini, labs, eds⟩) 0 eds.length by rw [HOK2.out, HLT.out]; rfl)
              obtain ⟨wo, rfl⟩ : ∃ wo : World, wo = wr := ⟨_, rfl⟩
              obtain ⟨x0, x1, x2, x3⟩ := HBX.out wo hU
              have HU := Lib.hid hU
              have HIS := Lib.hid (fun (n : Int) (W : World) => isStateI st ini (.slice a1 labs.length c1) (.slice a2 eds.length c2) n W hst.1 hst.2)
              have HIX := Lib.hid (fun (n : Int) (W : World) => idxI n labs.length W (by omega))
              clear HA HLT HOK2 hU H1 HP HE
              go_wp2_with fail
              clear x0 x1 x2 x3
              go_loopw [67] (fun iv wr => ∃ k : Nat, k ≤ eds.length ∧ iv = .int .i64 k ∧ Hid (allF (edP ⟨st, ini, labs, eds⟩) k (eds.length - k) = allF (edP ⟨st, ini, labs, eds⟩) 0 eds.length) ∧ Upd [] wb wr) (fun iv _ => eds.length - (intOf iv).toNat)
              case atStart => exact ⟨0, Nat.zero_le _, rfl, Lib.hid rfl, HU.out⟩
              case round =>
                clear HU
                obtain ⟨k, hk, rfl, HA, hU⟩ := hrel
                by_cases hlt : k < eds.length
                · obtain ⟨a', c', hv, -, -, hc⟩ := slF3_open (R_E1k.upd H2.out (HB0.out.trans hU) (by simp))
                  cases hv
                  obtain ⟨b1, o1, rfl, -, -, p1, p2, p3⟩ := hc k hlt
                  have HA2 := Lib.hid (HA.out.symm.trans (allF_step (edP ⟨st, ini, labs, eds⟩) k eds.length hlt))
                  have HEP := Lib.hid (edP_at ⟨st, ini, labs, eds⟩ k hlt)
                  have hpr : 0 < k → wr.cell? ⟨b1, o1 + (k - 1) * 3, none⟩ = some (ei (eds.getD (k - 1) ⟨0, 0, 0⟩).fr) ∧ wr.cell? ⟨b1, o1 + (k - 1) * 3 + 1, none⟩ = some (ei (eds.getD (k - 1) ⟨0, 0, 0⟩).lb) ∧ wr.cell? ⟨b1, o1 + (k - 1) * 3 + 2, none⟩ = some (ei (eds.getD (k - 1) ⟨0, 0, 0⟩).to) := fun h => by
                    obtain ⟨b2, o2, hv2, -, -, q1, q2, q3⟩ := hc (k - 1) (by omega)
                    cases hv2
                    rw [List.getD_eq_getElem?_getD, List.getElem?_eq_getElem (by omega)]
                    exact ⟨q1, q2, q3⟩
                  have HPR := Lib.hid hpr
                  have hx := HBX.out wr hU
                  simp only at HEP
                  generalize eds[k] = ek at *
                  generalize eds.getD (k - 1) ⟨0, 0, 0⟩ = pk at *
                  obtain ⟨fr, lb, td⟩ := ek
                  simp only at p1 p2 p3 HEP
                  have HU := Lib.hid hU
                  have SF := Lib.hid (HIS.out fr)
                  have ST := Lib.hid (HIS.out td)
                  have SI := Lib.hid (HIX.out lb)
                  have SC := Lib.hid (fun W : World => show Calls Tryz.prog 44 #[.agg #[ei pk.fr, ei pk.lb, ei pk.to], .agg #[ei fr, ei lb, ei td]] W (fun e w' => (∃ c : Int, e = .returned (.int .i64 c) ∧ decide (0 ≤ c) = !edLt pk ⟨fr, lb, td⟩) ∧ Upd [] W w') from cmpEdges pk ⟨fr, lb, td⟩ W)
                  have hbl := (HBX.out wr hU).1
                  have hbs : w.heap.size < wr.heap.size := World.block_lt_of_cell? wr ⟨w.heap.size, 0, none⟩ hbl
                  obtain ⟨x0, x1, x2, x3⟩ := hx
                  clear hc HA hU hpr hbl HIS HIX
                  go_wp2_with fail
                  obtain ⟨w5, hw5⟩ : ∃ w5, w5 = wr.alloc (.cells #[.int .i64 fr, .int .i64 lb, .int .i64 td] 63) := ⟨_, rfl⟩
                  rw [← hw5]
                  have hu5 : Upd [] wr w5 := by rw [hw5]; exact (Upd.refl _ _).alloc _
                  obtain ⟨BB, hBB⟩ : ∃ BB, BB = wr.heap.size := ⟨_, rfl⟩
                  have z0 : w5.cell? ⟨BB, 0, none⟩ = some (ei fr) := by rw [hw5]; exact cell_new wr _ _ _ hBB.symm 0 _ rfl
                  have z1 : w5.cell? ⟨BB, 1, none⟩ = some (ei lb) := by rw [hw5]; exact cell_new wr _ _ _ hBB.symm 1 _ rfl
                  have z2 : w5.cell? ⟨BB, 2, none⟩ = some (ei td) := by rw [hw5]; exact cell_new wr _ _ _ hBB.symm 2 _ rfl
                  have y0 := hu5.keep x0
                  have y1 := hu5.keep x1
                  have y2 := hu5.keep x2
                  have y3 := hu5.keep x3
                  have HPR5 := Lib.hid (fun h : 0 < k => show w5.cell? ⟨b1, o1 + (k - 1) * 3, none⟩ = some (ei pk.fr) ∧ w5.cell? ⟨b1, o1 + (k - 1) * 3 + 1, none⟩ = some (ei pk.lb) ∧ w5.cell? ⟨b1, o1 + (k - 1) * 3 + 2, none⟩ = some (ei pk.to) from ⟨hu5.keep (HPR.out h).1, hu5.keep (HPR.out h).2.1, hu5.keep (HPR.out h).2.2⟩)
                  have HU5 := Lib.hid (HU.out.trans hu5)
                  rw [← hBB]
                  clear hw5 hu5 hBB x0 x1 x2 x3 p1 p2 p3 HPR HU hbs
                  cases hf1 : inB fr 0 (st - 1) with
                  | false =>
                    rw [hf1] at SF
                    have HR := Lib.hid (show sysOk ⟨st, ini, labs, eds⟩ = false by rw [HOK3.out, HA2.out, HEP.out, hf1]; simp)
                    clear HOK3 HA2 HEP
                    clear hf1
                    refine wp_region_held_drew (S := fun w' => w'.cell? ⟨w.heap.size, 0, none⟩ = some (ei st) ∧ w'.cell? ⟨w.heap.size, 1, none⟩ = some (ei ini) ∧ w'.cell? ⟨w.heap.size, 2, none⟩ = some (.slice a1 labs.length c1) ∧ w'.cell? ⟨w.heap.size, 3, none⟩ = some (.slice (some ⟨b1, o1, none⟩) eds.length c2) ∧ w'.cell? ⟨BB, 0, none⟩ = some (ei fr) ∧ w'.cell? ⟨BB, 1, none⟩ = some (ei lb) ∧ w'.cell? ⟨BB, 2, none⟩ = some (ei td)) (by kernel_rfl) ?_ (fun hHeld => ?_)
                    · exact ⟨y0, y1, y2, y3, z0, z1, z2⟩
                    refine wpAnyH_take (i := 0) (v := ?_) rfl (by kernel_rfl) (by kernel_rfl) (by kernel_rfl) (fun _ _ _ h => h) (Or.inl ⟨by rfl, ?_⟩) (by assumption) ?_
                    rotate_left
                    · (intro w hSw; (try dsimp only at hSw); go_simp)
                      first | done | with_reducible rfl
                    simp only [Act.put, List.getElem_toArray, List.getElem_cons_zero, List.setIfInBounds_toArray, List.set_cons_zero, List.set_cons_succ]
                    refine wpAnyH_take (i := 1) (v := ?_) rfl (by kernel_rfl) (by kernel_rfl) (by kernel_rfl) (fun _ _ _ h => h) (Or.inl ⟨by rfl, ?_⟩) (by assumption) ?_
                    rotate_left
                    · (intro w hSw; (try dsimp only at hSw); go_simp)
                      first | done | with_reducible rfl
                    simp only [Act.put, List.getElem_toArray, List.getElem_cons_zero, List.getElem_cons_succ, List.setIfInBounds_toArray, List.set_cons_zero, List.set_cons_succ]
                    refine wpAnyH_take (i := 2) (v := ?_) rfl (by kernel_rfl) (by kernel_rfl) (by kernel_rfl) (fun _ _ _ h => h) (Or.inl ⟨by rfl, ?_⟩) (by assumption) ?_
                    rotate_left
                    · (intro w hSw; (try dsimp only at hSw); go_simp)
                      first | done | with_reducible rfl
                    simp only [Act.put, List.getElem_toArray, List.getElem_cons_zero, List.getElem_cons_succ, List.setIfInBounds_toArray, List.set_cons_zero, List.set_cons_succ]
                    refine wpAnyH_ready (rs := [3]) (by kernel_rfl) (by simp) ?_
                    refine AllReadyH.cons rfl (fun K hK => ?_) AllReadyH.nil
                    go_simp
                    refine (SF.out _).mono ?_
                    rintro e w3 ⟨rfl, hu1⟩
                    refine hK.out _ _ ?_ (fun hHeld => ?_)
                    · exact ⟨hu1.keep hHeld.1, hu1.keep hHeld.2.1, hu1.keep hHeld.2.2.1, hu1.keep hHeld.2.2.2.1, hu1.keep hHeld.2.2.2.2.1, hu1.keep hHeld.2.2.2.2.2.1, hu1.keep hHeld.2.2.2.2.2.2⟩
                    clear hK K
                    try simp only [Act.put, List.getElem_toArray, List.getElem_cons_zero, List.getElem_cons_succ, List.setIfInBounds_toArray, List.set_cons_zero, List.set_cons_succ]
                    refine wpAnyH_take (i := 4) (v := ?_) rfl (by kernel_rfl) (by kernel_rfl) (by kernel_rfl) (fun _ _ _ h => h) (Or.inl ⟨by rfl, ?_⟩) (by assumption) ?_
                    rotate_left
                    · (intro w hSw; (try dsimp only at hSw); go_simp)
                      first | done | with_reducible rfl
                    simp only [Act.put, List.getElem_toArray, List.getElem_cons_zero, List.getElem_cons_succ, List.setIfInBounds_toArray, List.set_cons_zero, List.set_cons_succ]
                    refine wpAnyH_take (i := 5) (v := ?_) rfl (by kernel_rfl) (by kernel_rfl) (by kernel_rfl) (fun _ _ _ h => h) (Or.inl ⟨by rfl, ?_⟩) (by assumption) ?_
                    rotate_left
                    · (intro w hSw; (try dsimp only at hSw); go_simp)
                      first | done | with_reducible rfl
                    simp only [Act.put, List.getElem_toArray, List.getElem_cons_zero, List.getElem_cons_succ, List.setIfInBounds_toArray, List.set_cons_zero, List.set_cons_succ]
                    refine wpAnyH_take (i := 6) rfl (by kernel_rfl) (by kernel_rfl) (by kernel_rfl) (fun _ _ _ h => h) (Or.inr ⟨by rfl, rfl⟩) (by assumption) ?_
                    simp only [Act.put, List.getElem_toArray, List.getElem_cons_zero, List.getElem_cons_succ, List.setIfInBounds_toArray, List.set_cons_zero, List.set_cons_succ]
                    refine wpAnyH_take (i := 7) rfl (by kernel_rfl) (by kernel_rfl) (by kernel_rfl) (fun _ _ _ h => h) (Or.inr ⟨by rfl, rfl⟩) (by assumption) ?_
                    simp only [Act.put, List.getElem_toArray, List.getElem_cons_zero, List.getElem_cons_succ, List.setIfInBounds_toArray, List.set_cons_zero, List.set_cons_succ]
                    refine wpAnyH_take (i := 8) rfl (by kernel_rfl) (by kernel_rfl) (by kernel_rfl) (fun _ _ _ h => h) (Or.inr ⟨by rfl, rfl⟩) (by assumption) ?_
                    simp only [Act.put, List.getElem_toArray, List.getElem_cons_zero, List.getElem_cons_succ, List.setIfInBounds_toArray, List.set_cons_zero, List.set_cons_succ]
                    refine wpAnyH_take (i := 9) rfl (by kernel_rfl) (by kernel_rfl) (by kernel_rfl) (fun _ _ _ h => h) (Or.inr ⟨by rfl, rfl⟩) (by assumption) ?_
                    simp only [Act.put, List.getElem_toArray, List.getElem_cons_zero, List.getElem_cons_succ, List.setIfInBounds_toArray, List.set_cons_zero, List.set_cons_succ]
                    refine wpAnyH_take (i := 10) rfl (by kernel_rfl) (by kernel_rfl) (by kernel_rfl) (fun _ _ _ h => h) (Or.inr ⟨by rfl, rfl⟩) (by assumption) ?_
                    simp only [Act.put, List.getElem_toArray, List.getElem_cons_zero, List.getElem_cons_succ, List.setIfInBounds_toArray, List.set_cons_zero, List.set_cons_succ]
                    refine wpAnyH_take (i := 11) (v := ?_) rfl (by kernel_rfl) (by kernel_rfl) (by kernel_rfl) (fun _ _ _ h => h) (Or.inl ⟨by rfl, ?_⟩) (by assumption) ?_
                    rotate_left
                    · (intro w hSw; (try dsimp only at hSw); go_simp)
                      first | done | with_reducible rfl
                    simp only [Act.put, List.getElem_toArray, List.getElem_cons_zero, List.getElem_cons_succ, List.setIfInBounds_toArray, List.set_cons_zero, List.set_cons_succ]
                    refine wpAnyH_take (i := 12) (v := ?_) rfl (by kernel_rfl) (by kernel_rfl) (by kernel_rfl) (fun _ _ _ h => h) (Or.inl ⟨by rfl, ?_⟩) (by assumption) ?_
                    rotate_left
                    · (intro w hSw; (try dsimp only at hSw); go_simp)
                      first | done | with_reducible rfl
                    simp only [Act.put, List.getElem_toArray, List.getElem_cons_zero, List.getElem_cons_succ, List.setIfInBounds_toArray, List.set_cons_zero, List.set_cons_succ]
                    refine wpAnyH_take (i := 13) rfl (by kernel_rfl) (by kernel_rfl) (by kernel_rfl) (fun _ _ _ h => h) (Or.inr ⟨by rfl, rfl⟩) (by assumption) ?_
                    simp only [Act.put, List.getElem_toArray, List.getElem_cons_zero, List.getElem_cons_succ, List.setIfInBounds_toArray, List.set_cons_zero, List.set_cons_succ]
                    refine wpAnyH_take (i := 14) rfl (by kernel_rfl) (by kernel_rfl) (by kernel_rfl) (fun _ _ _ h => h) (Or.inr ⟨by rfl, rfl⟩) (by assumption) ?_
                    simp only [Act.put, List.getElem_toArray, List.getElem_cons_zero, List.getElem_cons_succ, List.setIfInBounds_toArray, List.set_cons_zero, List.set_cons_succ]
                    refine wpAnyH_take (i := 15) rfl (by kernel_rfl) (by kernel_rfl) (by kernel_rfl) (fun _ _ _ h => h) (Or.inr ⟨by rfl, rfl⟩) (by assumption) ?_
                    simp only [Act.put, List.getElem_toArray, List.getElem_cons_zero, List.getElem_cons_succ, List.setIfInBounds_toArray, List.set_cons_zero, List.set_cons_succ]
                    refine wpAnyH_take (i := 16) rfl (by kernel_rfl) (by kernel_rfl) (by kernel_rfl) (fun _ _ _ h => h) (Or.inr ⟨by rfl, rfl⟩) (by assumption) ?_
                    simp only [Act.put, List.getElem_toArray, List.getElem_cons_zero, List.getElem_cons_succ, List.setIfInBounds_toArray, List.set_cons_zero, List.set_cons_succ]
                    refine wpAnyH_take (i := 17) rfl (by kernel_rfl) (by kernel_rfl) (by kernel_rfl) (fun _ _ _ h => h) (Or.inr ⟨by rfl, rfl⟩) (by assumption) ?_
                    simp only [Act.put, List.getElem_toArray, List.getElem_cons_zero, List.getElem_cons_succ, List.setIfInBounds_toArray, List.set_cons_zero, List.set_cons_succ]
                    refine wpAnyH_take (i := 18) rfl (by kernel_rfl) (by kernel_rfl) (by kernel_rfl) (fun _ _ _ h => h) (Or.inr ⟨by rfl, rfl⟩) (by assumption) ?_
                    simp only [Act.put, List.getElem_toArray, List.getElem_cons_zero, List.getElem_cons_succ, List.setIfInBounds_toArray, List.set_cons_zero, List.set_cons_succ]
                    refine wpAnyH_take (i := 19) rfl (by kernel_rfl) (by kernel_rfl) (by kernel_rfl) (fun _ _ _ h => h) (Or.inr ⟨by rfl, rfl⟩) (by assumption) ?_
                    simp only [Act.put, List.getElem_toArray, List.getElem_cons_zero, List.getElem_cons_succ, List.setIfInBounds_toArray, List.set_cons_zero, List.set_cons_succ]
                    refine wpAnyH_take (i := 20) (v := ?_) rfl (by kernel_rfl) (by kernel_rfl) (by kernel_rfl) (fun _ _ _ h => h) (Or.inl ⟨by rfl, ?_⟩) (by assumption) ?_
                    rotate_left
                    · (intro w hSw; (try dsimp only at hSw); go_simp)
                      first | done | with_reducible rfl
                    simp only [Act.put, List.getElem_toArray, List.getElem_cons_zero, List.getElem_cons_succ, List.setIfInBounds_toArray, List.set_cons_zero, List.set_cons_succ]
                    refine wpAnyH_take (i := 21) (v := ?_) rfl (by kernel_rfl) (by kernel_rfl) (by kernel_rfl) (fun _ _ _ h => h) (Or.inl ⟨by rfl, ?_⟩) (by assumption) ?_
                    rotate_left
                    · (intro w hSw; (try dsimp only at hSw); go_simp)
                      first | done | with_reducible rfl
                    simp only [Act.put, List.getElem_toArray, List.getElem_cons_zero, List.getElem_cons_succ, List.setIfInBounds_toArray, List.set_cons_zero, List.set_cons_succ]
                    refine wpAnyH_take (i := 22) rfl (by kernel_rfl) (by kernel_rfl) (by kernel_rfl) (fun _ _ _ h => h) (Or.inr ⟨by rfl, rfl⟩) (by assumption) ?_
                    simp only [Act.put, List.getElem_toArray, List.getElem_cons_zero, List.getElem_cons_succ, List.setIfInBounds_toArray, List.set_cons_zero, List.set_cons_succ]
                    refine wpAnyH_take (i := 23) rfl (by kernel_rfl) (by kernel_rfl) (by kernel_rfl) (fun _ _ _ h => h) (Or.inr ⟨by rfl, rfl⟩) (by assumption) ?_
                    simp only [Act.put, List.getElem_toArray, List.getElem_cons_zero, List.getElem_cons_succ, List.setIfInBounds_toArray, List.set_cons_zero, List.set_cons_succ]
                    refine wpAnyH_take (i := 24) rfl (by kernel_rfl) (by kernel_rfl) (by kernel_rfl) (fun _ _ _ h => h) (Or.inr ⟨by rfl, rfl⟩) (by assumption) ?_
                    simp only [Act.put, List.getElem_toArray, List.getElem_cons_zero, List.getElem_cons_succ, List.setIfInBounds_toArray, List.set_cons_zero, List.set_cons_succ]
                    refine wpAnyH_take (i := 25) rfl (by kernel_rfl) (by kernel_rfl) (by kernel_rfl) (fun _ _ _ h => h) (Or.inr ⟨by rfl, rfl⟩) (by assumption) ?_
                    simp only [Act.put, List.getElem_toArray, List.getElem_cons_zero, List.getElem_cons_succ, List.setIfInBounds_toArray, List.set_cons_zero, List.set_cons_succ]
                    refine wpAnyH_take (i := 26) rfl (by kernel_rfl) (by kernel_rfl) (by kernel_rfl) (fun _ _ _ h => h) (Or.inr ⟨by rfl, rfl⟩) (by assumption) ?_
                    simp only [Act.put, List.getElem_toArray, List.getElem_cons_zero, List.getElem_cons_succ, List.setIfInBounds_toArray, List.set_cons_zero, List.set_cons_succ]
                    refine wpAnyH_take (i := 27) rfl (by kernel_rfl) (by kernel_rfl) (by kernel_rfl) (fun _ _ _ h => h) (Or.inr ⟨by rfl, rfl⟩) (by assumption) ?_
                    simp only [Act.put, List.getElem_toArray, List.getElem_cons_zero, List.getElem_cons_succ, List.setIfInBounds_toArray, List.set_cons_zero, List.set_cons_succ]
                    refine wpAnyH_take (i := 28) rfl (by kernel_rfl) (by kernel_rfl) (by kernel_rfl) (fun _ _ _ h => h) (Or.inr ⟨by rfl, rfl⟩) (by assumption) ?_
                    simp only [Act.put, List.getElem_toArray, List.getElem_cons_zero, List.getElem_cons_succ, List.setIfInBounds_toArray, List.set_cons_zero, List.set_cons_succ]
                    refine wpAnyH_take (i := 29) rfl (by kernel_rfl) (by kernel_rfl) (by kernel_rfl) (fun _ _ _ h => h) (Or.inr ⟨by rfl, rfl⟩) (by assumption) ?_
                    simp only [Act.put, List.getElem_toArray, List.getElem_cons_zero, List.getElem_cons_succ, List.setIfInBounds_toArray, List.set_cons_zero, List.set_cons_succ]
                    refine wpAnyH_take (i := 30) rfl (by kernel_rfl) (by kernel_rfl) (by kernel_rfl) (fun _ _ _ h => h) (Or.inr ⟨by rfl, rfl⟩) (by assumption) ?_
                    simp only [Act.put, List.getElem_toArray, List.getElem_cons_zero, List.getElem_cons_succ, List.setIfInBounds_toArray, List.set_cons_zero, List.set_cons_succ]
                    refine wpAnyH_take (i := 31) rfl (by kernel_rfl) (by kernel_rfl) (by kernel_rfl) (fun _ _ _ h => h) (Or.inr ⟨by rfl, rfl⟩) (by assumption) ?_
                    simp only [Act.put, List.getElem_toArray, List.getElem_cons_zero, List.getElem_cons_succ, List.setIfInBounds_toArray, List.set_cons_zero, List.set_cons_succ]
                    refine wpAnyH_take (i := 32) rfl (by kernel_rfl) (by kernel_rfl) (by kernel_rfl) (fun _ _ _ h => h) (Or.inr ⟨by rfl, rfl⟩) (by assumption) ?_
                    simp only [Act.put, List.getElem_toArray, List.getElem_cons_zero, List.getElem_cons_succ, List.setIfInBounds_toArray, List.set_cons_zero, List.set_cons_succ]
                    refine wpAnyH_take (i := 33) rfl (by kernel_rfl) (by kernel_rfl) (by kernel_rfl) (fun _ _ _ h => h) (Or.inr ⟨by rfl, rfl⟩) (by assumption) ?_
                    simp only [Act.put, List.getElem_toArray, List.getElem_cons_zero, List.getElem_cons_succ, List.setIfInBounds_toArray, List.set_cons_zero, List.set_cons_succ]
                    refine wpAnyH_take (i := 34) rfl (by kernel_rfl) (by kernel_rfl) (by kernel_rfl) (fun _ _ _ h => h) (Or.inr ⟨by rfl, rfl⟩) (by assumption) ?_
                    simp only [Act.put, List.getElem_toArray, List.getElem_cons_zero, List.getElem_cons_succ, List.setIfInBounds_toArray, List.set_cons_zero, List.set_cons_succ]
                    refine wpAnyH_take (i := 35) (v := ?_) rfl (by kernel_rfl) (by kernel_rfl) (by kernel_rfl) (fun _ _ _ h => h) (Or.inl ⟨by rfl, ?_⟩) (by assumption) ?_
                    rotate_left
                    · (intro w hSw; (try dsimp only at hSw); go_simp)
                      first | done | with_reducible rfl
                    simp only [Act.put, List.getElem_toArray, List.getElem_cons_zero, List.getElem_cons_succ, List.setIfInBounds_toArray, List.set_cons_zero, List.set_cons_succ]
                    refine wpAnyH_done (by kernel_rfl) ?_ _
                    have HU9 := Lib.hid (HB0.out.trans (HU5.out.drew.trans hu1))
                    clear HU5 hHeld y0 y1 y2 y3 z0 z1 z2
                    go_wp2_with fail
                    go_ret
                    exact ⟨by rw [HR.out]; rfl, HU9.out⟩
                  | true =>
                    rw [hf1] at SF HEP
                    clear hf1
                    cases hf2 : inB td 0 (st - 1) with
                    | false =>
                      rw [hf2] at ST
                      have HR := Lib.hid (show sysOk ⟨st, ini, labs, eds⟩ = false by rw [HOK3.out, HA2.out, HEP.out, hf2]; simp)
                      clear HOK3 HA2 HEP
                      clear hf2
                      refine wp_region_held_drew (S := fun w' => w'.cell? ⟨w.heap.size, 0, none⟩ = some (ei st) ∧ w'.cell? ⟨w.heap.size, 1, none⟩ = some (ei ini) ∧ w'.cell? ⟨w.heap.size, 2, none⟩ = some (.slice a1 labs.length c1) ∧ w'.cell? ⟨w.heap.size, 3, none⟩ = some (.slice (some ⟨b1, o1, none⟩) eds.length c2) ∧ w'.cell? ⟨BB, 0, none⟩ = some (ei fr) ∧ w'.cell? ⟨BB, 1, none⟩ = some (ei lb) ∧ w'.cell? ⟨BB, 2, none⟩ = some (ei td)) (by kernel_rfl) ?_ (fun hHeld => ?_)
                      · exact ⟨y0, y1, y2, y3, z0, z1, z2⟩
                      refine wpAnyH_take (i := 0) (v := ?_) rfl (by kernel_rfl) (by kernel_rfl) (by kernel_rfl) (fun _ _ _ h => h) (Or.inl ⟨by rfl, ?_⟩) (by assumption) ?_
                      rotate_left
                      · (intro w hSw; (try dsimp only at hSw); go_simp)
                        first | done | with_reducible rfl
                      simp only [Act.put, List.getElem_toArray, List.getElem_cons_zero, List.setIfInBounds_toArray, List.set_cons_zero, List.set_cons_succ]
                      refine wpAnyH_take (i := 1) (v := ?_) rfl (by kernel_rfl) (by kernel_rfl) (by kernel_rfl) (fun _ _ _ h => h) (Or.inl ⟨by rfl, ?_⟩) (by assumption) ?_
                      rotate_left
                      · (intro w hSw; (try dsimp only at hSw); go_simp)
                        first | done | with_reducible rfl
                      simp only [Act.put, List.getElem_toArray, List.getElem_cons_zero, List.getElem_cons_succ, List.setIfInBounds_toArray, List.set_cons_zero, List.set_cons_succ]
                      refine wpAnyH_take (i := 2) (v := ?_) rfl (by kernel_rfl) (by kernel_rfl) (by kernel_rfl) (fun _ _ _ h => h) (Or.inl ⟨by rfl, ?_⟩) (by assumption) ?_
                      rotate_left
                      · (intro w hSw; (try dsimp only at hSw); go_simp)
                        first | done | with_reducible rfl
                      simp only [Act.put, List.getElem_toArray, List.getElem_cons_zero, List.getElem_cons_succ, List.setIfInBounds_toArray, List.set_cons_zero, List.set_cons_succ]
                      refine wpAnyH_ready (rs := [3]) (by kernel_rfl) (by simp) ?_
                      refine AllReadyH.cons rfl (fun K hK => ?_) AllReadyH.nil
                      go_simp
                      refine (SF.out _).mono ?_
                      rintro e w3 ⟨rfl, hu1⟩
                      refine hK.out _ _ ?_ (fun hHeld => ?_)
                      · exact ⟨hu1.keep hHeld.1, hu1.keep hHeld.2.1, hu1.keep hHeld.2.2.1, hu1.keep hHeld.2.2.2.1, hu1.keep hHeld.2.2.2.2.1, hu1.keep hHeld.2.2.2.2.2.1, hu1.keep hHeld.2.2.2.2.2.2⟩
                      clear hK K
                      try simp only [Act.put, List.getElem_toArray, List.getElem_cons_zero, List.getElem_cons_succ, List.setIfInBounds_toArray, List.set_cons_zero, List.set_cons_succ]
                      refine wpAnyH_take (i := 4) (v := ?_) rfl (by kernel_rfl) (by kernel_rfl) (by kernel_rfl) (fun _ _ _ h => h) (Or.inl ⟨by rfl, ?_⟩) (by assumption) ?_
                      rotate_left
                      · (intro w hSw; (try dsimp only at hSw); go_simp)
                        first | done | with_reducible rfl
                      simp only [Act.put, List.getElem_toArray, List.getElem_cons_zero, List.getElem_cons_succ, List.setIfInBounds_toArray, List.set_cons_zero, List.set_cons_succ]
                      refine wpAnyH_take (i := 5) (v := ?_) rfl (by kernel_rfl) (by kernel_rfl) (by kernel_rfl) (fun _ _ _ h => h) (Or.inl ⟨by rfl, ?_⟩) (by assumption) ?_
                      rotate_left
                      · (intro w hSw; (try dsimp only at hSw); go_simp)
                        first | done | with_reducible rfl
                      simp only [Act.put, List.getElem_toArray, List.getElem_cons_zero, List.getElem_cons_succ, List.setIfInBounds_toArray, List.set_cons_zero, List.set_cons_succ]
                      refine wpAnyH_take (i := 6) (v := ?_) rfl (by kernel_rfl) (by kernel_rfl) (by kernel_rfl) (fun _ _ _ h => h) (Or.inl ⟨by rfl, ?_⟩) (by assumption) ?_
                      rotate_left
                      · (intro w hSw; (try dsimp only at hSw); go_simp)
                        first | done | with_reducible rfl
                      simp only [Act.put, List.getElem_toArray, List.getElem_cons_zero, List.getElem_cons_succ, List.setIfInBounds_toArray, List.set_cons_zero, List.set_cons_succ]
                      refine wpAnyH_take (i := 7) (v := ?_) rfl (by kernel_rfl) (by kernel_rfl) (by kernel_rfl) (fun _ _ _ h => h) (Or.inl ⟨by rfl, ?_⟩) (by assumption) ?_
                      rotate_left
                      · (intro w hSw; (try dsimp only at hSw); go_simp)
                        first | done | with_reducible rfl
                      simp only [Act.put, List.getElem_toArray, List.getElem_cons_zero, List.getElem_cons_succ, List.setIfInBounds_toArray, List.set_cons_zero, List.set_cons_succ]
                      refine wpAnyH_take (i := 8) (v := ?_) rfl (by kernel_rfl) (by kernel_rfl) (by kernel_rfl) (fun _ _ _ h => h) (Or.inl ⟨by rfl, ?_⟩) (by assumption) ?_
                      rotate_left
                      · (intro w hSw; (try dsimp only at hSw); go_simp)
                        first | done | with_reducible rfl
                      simp only [Act.put, List.getElem_toArray, List.getElem_cons_zero, List.getElem_cons_succ, List.setIfInBounds_toArray, List.set_cons_zero, List.set_cons_succ]
                      refine wpAnyH_ready (rs := [9]) (by kernel_rfl) (by simp) ?_
                      refine AllReadyH.cons rfl (fun K hK => ?_) AllReadyH.nil
                      go_simp
                      refine (ST.out _).mono ?_
                      rintro e w9 ⟨rfl, hu2⟩
                      refine hK.out _ _ ?_ (fun hHeld => ?_)
                      · exact ⟨hu2.keep hHeld.1, hu2.keep hHeld.2.1, hu2.keep hHeld.2.2.1, hu2.keep hHeld.2.2.2.1, hu2.keep hHeld.2.2.2.2.1, hu2.keep hHeld.2.2.2.2.2.1, hu2.keep hHeld.2.2.2.2.2.2⟩
                      clear hK K
                      try simp only [Act.put, List.getElem_toArray, List.getElem_cons_zero, List.getElem_cons_succ, List.setIfInBounds_toArray, List.set_cons_zero, List.set_cons_succ]
                      refine wpAnyH_take (i := 10) (v := ?_) rfl (by kernel_rfl) (by kernel_rfl) (by kernel_rfl) (fun _ _ _ h => h) (Or.inl ⟨by rfl, ?_⟩) (by assumption) ?_
                      rotate_left
                      · (intro w hSw; (try dsimp only at hSw); go_simp)
                        first | done | with_reducible rfl
                      simp only [Act.put, List.getElem_toArray, List.getElem_cons_zero, List.getElem_cons_succ, List.setIfInBounds_toArray, List.set_cons_zero, List.set_cons_succ]
                      refine wpAnyH_take (i := 11) (v := ?_) rfl (by kernel_rfl) (by kernel_rfl) (by kernel_rfl) (fun _ _ _ h => h) (Or.inl ⟨by rfl, ?_⟩) (by assumption) ?_
                      rotate_left
                      · (intro w hSw; (try dsimp only at hSw); go_simp)
                        first | done | with_reducible rfl
                      simp only [Act.put, List.getElem_toArray, List.getElem_cons_zero, List.getElem_cons_succ, List.setIfInBounds_toArray, List.set_cons_zero, List.set_cons_succ]
                      refine wpAnyH_take (i := 12) (v := ?_) rfl (by kernel_rfl) (by kernel_rfl) (by kernel_rfl) (fun _ _ _ h => h) (Or.inl ⟨by rfl, ?_⟩) (by assumption) ?_
                      rotate_left
                      · (intro w hSw; (try dsimp only at hSw); go_simp)
                        first | done | with_reducible rfl
                      simp only [Act.put, List.getElem_toArray, List.getElem_cons_zero, List.getElem_cons_succ, List.setIfInBounds_toArray, List.set_cons_zero, List.set_cons_succ]
                      refine wpAnyH_take (i := 13) rfl (by kernel_rfl) (by kernel_rfl) (by kernel_rfl) (fun _ _ _ h => h) (Or.inr ⟨by rfl, rfl⟩) (by assumption) ?_
                      simp only [Act.put, List.getElem_toArray, List.getElem_cons_zero, List.getElem_cons_succ, List.setIfInBounds_toArray, List.set_cons_zero, List.set_cons_succ]
                      refine wpAnyH_take (i := 14) rfl (by kernel_rfl) (by kernel_rfl) (by kernel_rfl) (fun _ _ _ h => h) (Or.inr ⟨by rfl, rfl⟩) (by assumption) ?_
                      simp only [Act.put, List.getElem_toArray, List.getElem_cons_zero, List.getElem_cons_succ, List.setIfInBounds_toArray, List.set_cons_zero, List.set_cons_succ]
                      refine wpAnyH_take (i := 15) rfl (by kernel_rfl) (by kernel_rfl) (by kernel_rfl) (fun _ _ _ h => h) (Or.inr ⟨by rfl, rfl⟩) (by assumption) ?_
                      simp only [Act.put, List.getElem_toArray, List.getElem_cons_zero, List.getElem_cons_succ, List.setIfInBounds_toArray, List.set_cons_zero, List.set_cons_succ]
                      refine wpAnyH_take (i := 16) rfl (by kernel_rfl) (by kernel_rfl) (by kernel_rfl) (fun _ _ _ h => h) (Or.inr ⟨by rfl, rfl⟩) (by assumption) ?_
                      simp only [Act.put, List.getElem_toArray, List.getElem_cons_zero, List.getElem_cons_succ, List.setIfInBounds_toArray, List.set_cons_zero, List.set_cons_succ]
                      refine wpAnyH_take (i := 17) rfl (by kernel_rfl) (by kernel_rfl) (by kernel_rfl) (fun _ _ _ h => h) (Or.inr ⟨by rfl, rfl⟩) (by assumption) ?_
                      simp only [Act.put, List.getElem_toArray, List.getElem_cons_zero, List.getElem_cons_succ, List.setIfInBounds_toArray, List.set_cons_zero, List.set_cons_succ]
                      refine wpAnyH_take (i := 18) rfl (by kernel_rfl) (by kernel_rfl) (by kernel_rfl) (fun _ _ _ h => h) (Or.inr ⟨by rfl, rfl⟩) (by assumption) ?_
                      simp only [Act.put, List.getElem_toArray, List.getElem_cons_zero, List.getElem_cons_succ, List.setIfInBounds_toArray, List.set_cons_zero, List.set_cons_succ]
                      refine wpAnyH_take (i := 19) rfl (by kernel_rfl) (by kernel_rfl) (by kernel_rfl) (fun _ _ _ h => h) (Or.inr ⟨by rfl, rfl⟩) (by assumption) ?_
                      simp only [Act.put, List.getElem_toArray, List.getElem_cons_zero, List.getElem_cons_succ, List.setIfInBounds_toArray, List.set_cons_zero, List.set_cons_succ]
                      refine wpAnyH_take (i := 20) (v := ?_) rfl (by kernel_rfl) (by kernel_rfl) (by kernel_rfl) (fun _ _ _ h => h) (Or.inl ⟨by rfl, ?_⟩) (by assumption) ?_
                      rotate_left
                      · (intro w hSw; (try dsimp only at hSw); go_simp)
                        first | done | with_reducible rfl
                      simp only [Act.put, List.getElem_toArray, List.getElem_cons_zero, List.getElem_cons_succ, List.setIfInBounds_toArray, List.set_cons_zero, List.set_cons_succ]
                      refine wpAnyH_take (i := 21) (v := ?_) rfl (by kernel_rfl) (by kernel_rfl) (by kernel_rfl) (fun _ _ _ h => h) (Or.inl ⟨by rfl, ?_⟩) (by assumption) ?_
                      rotate_left
                      · (intro w hSw; (try dsimp only at hSw); go_simp)
                        first | done | with_reducible rfl
                      simp only [Act.put, List.getElem_toArray, List.getElem_cons_zero, List.getElem_cons_succ, List.setIfInBounds_toArray, List.set_cons_zero, List.set_cons_succ]
                      refine wpAnyH_take (i := 22) rfl (by kernel_rfl) (by kernel_rfl) (by kernel_rfl) (fun _ _ _ h => h) (Or.inr ⟨by rfl, rfl⟩) (by assumption) ?_
                      simp only [Act.put, List.getElem_toArray, List.getElem_cons_zero, List.getElem_cons_succ, List.setIfInBounds_toArray, List.set_cons_zero, List.set_cons_succ]
                      refine wpAnyH_take (i := 23) rfl (by kernel_rfl) (by kernel_rfl) (by kernel_rfl) (fun _ _ _ h => h) (Or.inr ⟨by rfl, rfl⟩) (by assumption) ?_
                      simp only [Act.put, List.getElem_toArray, List.getElem_cons_zero, List.getElem_cons_succ, List.setIfInBounds_toArray, List.set_cons_zero, List.set_cons_succ]
                      refine wpAnyH_take (i := 24) rfl (by kernel_rfl) (by kernel_rfl) (by kernel_rfl) (fun _ _ _ h => h) (Or.inr ⟨by rfl, rfl⟩) (by assumption) ?_
                      simp only [Act.put, List.getElem_toArray, List.getElem_cons_zero, List.getElem_cons_succ, List.setIfInBounds_toArray, List.set_cons_zero, List.set_cons_succ]
                      refine wpAnyH_take (i := 25) rfl (by kernel_rfl) (by kernel_rfl) (by kernel_rfl) (fun _ _ _ h => h) (Or.inr ⟨by rfl, rfl⟩) (by assumption) ?_
                      simp only [Act.put, List.getElem_toArray, List.getElem_cons_zero, List.getElem_cons_succ, List.setIfInBounds_toArray, List.set_cons_zero, List.set_cons_succ]
                      refine wpAnyH_take (i := 26) rfl (by kernel_rfl) (by kernel_rfl) (by kernel_rfl) (fun _ _ _ h => h) (Or.inr ⟨by rfl, rfl⟩) (by assumption) ?_
                      simp only [Act.put, List.getElem_toArray, List.getElem_cons_zero, List.getElem_cons_succ, List.setIfInBounds_toArray, List.set_cons_zero, List.set_cons_succ]
                      refine wpAnyH_take (i := 27) rfl (by kernel_rfl) (by kernel_rfl) (by kernel_rfl) (fun _ _ _ h => h) (Or.inr ⟨by rfl, rfl⟩) (by assumption) ?_
                      simp only [Act.put, List.getElem_toArray, List.getElem_cons_zero, List.getElem_cons_succ, List.setIfInBounds_toArray, List.set_cons_zero, List.set_cons_succ]
                      refine wpAnyH_take (i := 28) rfl (by kernel_rfl) (by kernel_rfl) (by kernel_rfl) (fun _ _ _ h => h) (Or.inr ⟨by rfl, rfl⟩) (by assumption) ?_
                      simp only [Act.put, List.getElem_toArray, List.getElem_cons_zero, List.getElem_cons_succ, List.setIfInBounds_toArray, List.set_cons_zero, List.set_cons_succ]
                      refine wpAnyH_take (i := 29) rfl (by kernel_rfl) (by kernel_rfl) (by kernel_rfl) (fun _ _ _ h => h) (Or.inr ⟨by rfl, rfl⟩) (by assumption) ?_
                      simp only [Act.put, List.getElem_toArray, List.getElem_cons_zero, List.getElem_cons_succ, List.setIfInBounds_toArray, List.set_cons_zero, List.set_cons_succ]
                      refine wpAnyH_take (i := 30) rfl (by kernel_rfl) (by kernel_rfl) (by kernel_rfl) (fun _ _ _ h => h) (Or.inr ⟨by rfl, rfl⟩) (by assumption) ?_
                      simp only [Act.put, List.getElem_toArray, List.getElem_cons_zero, List.getElem_cons_succ, List.setIfInBounds_toArray, List.set_cons_zero, List.set_cons_succ]
                      refine wpAnyH_take (i := 31) rfl (by kernel_rfl) (by kernel_rfl) (by kernel_rfl) (fun _ _ _ h => h) (Or.inr ⟨by rfl, rfl⟩) (by assumption) ?_
                      simp only [Act.put, List.getElem_toArray, List.getElem_cons_zero, List.getElem_cons_succ, List.setIfInBounds_toArray, List.set_cons_zero, List.set_cons_succ]
                      refine wpAnyH_take (i := 32) rfl (by kernel_rfl) (by kernel_rfl) (by kernel_rfl) (fun _ _ _ h => h) (Or.inr ⟨by rfl, rfl⟩) (by assumption) ?_
                      simp only [Act.put, List.getElem_toArray, List.getElem_cons_zero, List.getElem_cons_succ, List.setIfInBounds_toArray, List.set_cons_zero, List.set_cons_succ]
                      refine wpAnyH_take (i := 33) rfl (by kernel_rfl) (by kernel_rfl) (by kernel_rfl) (fun _ _ _ h => h) (Or.inr ⟨by rfl, rfl⟩) (by assumption) ?_
                      simp only [Act.put, List.getElem_toArray, List.getElem_cons_zero, List.getElem_cons_succ, List.setIfInBounds_toArray, List.set_cons_zero, List.set_cons_succ]
                      refine wpAnyH_take (i := 34) rfl (by kernel_rfl) (by kernel_rfl) (by kernel_rfl) (fun _ _ _ h => h) (Or.inr ⟨by rfl, rfl⟩) (by assumption) ?_
                      simp only [Act.put, List.getElem_toArray, List.getElem_cons_zero, List.getElem_cons_succ, List.setIfInBounds_toArray, List.set_cons_zero, List.set_cons_succ]
                      refine wpAnyH_take (i := 35) (v := ?_) rfl (by kernel_rfl) (by kernel_rfl) (by kernel_rfl) (fun _ _ _ h => h) (Or.inl ⟨by rfl, ?_⟩) (by assumption) ?_
                      rotate_left
                      · (intro w hSw; (try dsimp only at hSw); go_simp)
                        first | done | with_reducible rfl
                      simp only [Act.put, List.getElem_toArray, List.getElem_cons_zero, List.getElem_cons_succ, List.setIfInBounds_toArray, List.set_cons_zero, List.set_cons_succ]
                      refine wpAnyH_done (by kernel_rfl) ?_ _
                      have HU9 := Lib.hid (HB0.out.trans ((HU5.out.drew.trans hu1).trans hu2))
                      clear HU5 hHeld y0 y1 y2 y3 z0 z1 z2
                      go_wp2_with fail
                      go_ret
                      exact ⟨by rw [HR.out]; rfl, HU9.out⟩
                    | true =>
                      rw [hf2] at ST HEP
                      clear hf2
                      cases hf3 : inB lb 0 ((labs.length : Int) - 1) with
                      | false =>
                        rw [hf3] at SI
                        have HR := Lib.hid (show sysOk ⟨st, ini, labs, eds⟩ = false by rw [HOK3.out, HA2.out, HEP.out, hf3]; simp)
                        clear HOK3 HA2 HEP
                        clear hf3
                        refine wp_region_held_drew (S := fun w' => w'.cell? ⟨w.heap.size, 0, none⟩ = some (ei st) ∧ w'.cell? ⟨w.heap.size, 1, none⟩ = some (ei ini) ∧ w'.cell? ⟨w.heap.size, 2, none⟩ = some (.slice a1 labs.length c1) ∧ w'.cell? ⟨w.heap.size, 3, none⟩ = some (.slice (some ⟨b1, o1, none⟩) eds.length c2) ∧ w'.cell? ⟨BB, 0, none⟩ = some (ei fr) ∧ w'.cell? ⟨BB, 1, none⟩ = some (ei lb) ∧ w'.cell? ⟨BB, 2, none⟩ = some (ei td)) (by kernel_rfl) ?_ (fun hHeld => ?_)
                        · exact ⟨y0, y1, y2, y3, z0, z1, z2⟩
                        refine wpAnyH_take (i := 0) (v := ?_) rfl (by kernel_rfl) (by kernel_rfl) (by kernel_rfl) (fun _ _ _ h => h) (Or.inl ⟨by rfl, ?_⟩) (by assumption) ?_
                        rotate_left
                        · (intro w hSw; (try dsimp only at hSw); go_simp)
                          first | done | with_reducible rfl
                        simp only [Act.put, List.getElem_toArray, List.getElem_cons_zero, List.setIfInBounds_toArray, List.set_cons_zero, List.set_cons_succ]
                        refine wpAnyH_take (i := 1) (v := ?_) rfl (by kernel_rfl) (by kernel_rfl) (by kernel_rfl) (fun _ _ _ h => h) (Or.inl ⟨by rfl, ?_⟩) (by assumption) ?_
                        rotate_left
                        · (intro w hSw; (try dsimp only at hSw); go_simp)
                          first | done | with_reducible rfl
                        simp only [Act.put, List.getElem_toArray, List.getElem_cons_zero, List.getElem_cons_succ, List.setIfInBounds_toArray, List.set_cons_zero, List.set_cons_succ]
                        refine wpAnyH_take (i := 2) (v := ?_) rfl (by kernel_rfl) (by kernel_rfl) (by kernel_rfl) (fun _ _ _ h => h) (Or.inl ⟨by rfl, ?_⟩) (by assumption) ?_
                        rotate_left
                        · (intro w hSw; (try dsimp only at hSw); go_simp)
                          first | done | with_reducible rfl
                        simp only [Act.put, List.getElem_toArray, List.getElem_cons_zero, List.getElem_cons_succ, List.setIfInBounds_toArray, List.set_cons_zero, List.set_cons_succ]
                        refine wpAnyH_ready (rs := [3]) (by kernel_rfl) (by simp) ?_
                        refine AllReadyH.cons rfl (fun K hK => ?_) AllReadyH.nil
                        go_simp
                        refine (SF.out _).mono ?_
                        rintro e w3 ⟨rfl, hu1⟩
                        refine hK.out _ _ ?_ (fun hHeld => ?_)
                        · exact ⟨hu1.keep hHeld.1, hu1.keep hHeld.2.1, hu1.keep hHeld.2.2.1, hu1.keep hHeld.2.2.2.1, hu1.keep hHeld.2.2.2.2.1, hu1.keep hHeld.2.2.2.2.2.1, hu1.keep hHeld.2.2.2.2.2.2⟩
                        clear hK K
                        try simp only [Act.put, List.getElem_toArray, List.getElem_cons_zero, List.getElem_cons_succ, List.setIfInBounds_toArray, List.set_cons_zero, List.set_cons_succ]
                        refine wpAnyH_take (i := 4) (v := ?_) rfl (by kernel_rfl) (by kernel_rfl) (by kernel_rfl) (fun _ _ _ h => h) (Or.inl ⟨by rfl, ?_⟩) (by assumption) ?_
                        rotate_left
                        · (intro w hSw; (try dsimp only at hSw); go_simp)
                          first | done | with_reducible rfl
                        simp only [Act.put, List.getElem_toArray, List.getElem_cons_zero, List.getElem_cons_succ, List.setIfInBounds_toArray, List.set_cons_zero, List.set_cons_succ]
                        refine wpAnyH_take (i := 5) (v := ?_) rfl (by kernel_rfl) (by kernel_rfl) (by kernel_rfl) (fun _ _ _ h => h) (Or.inl ⟨by rfl, ?_⟩) (by assumption) ?_
                        rotate_left
                        · (intro w hSw; (try dsimp only at hSw); go_simp)
                          first | done | with_reducible rfl
                        simp only [Act.put, List.getElem_toArray, List.getElem_cons_zero, List.getElem_cons_succ, List.setIfInBounds_toArray, List.set_cons_zero, List.set_cons_succ]
                        refine wpAnyH_take (i := 6) (v := ?_) rfl (by kernel_rfl) (by kernel_rfl) (by kernel_rfl) (fun _ _ _ h => h) (Or.inl ⟨by rfl, ?_⟩) (by assumption) ?_
                        rotate_left
                        · (intro w hSw; (try dsimp only at hSw); go_simp)
                          first | done | with_reducible rfl
                        simp only [Act.put, List.getElem_toArray, List.getElem_cons_zero, List.getElem_cons_succ, List.setIfInBounds_toArray, List.set_cons_zero, List.set_cons_succ]
                        refine wpAnyH_take (i := 7) (v := ?_) rfl (by kernel_rfl) (by kernel_rfl) (by kernel_rfl) (fun _ _ _ h => h) (Or.inl ⟨by rfl, ?_⟩) (by assumption) ?_
                        rotate_left
                        · (intro w hSw; (try dsimp only at hSw); go_simp)
                          first | done | with_reducible rfl
                        simp only [Act.put, List.getElem_toArray, List.getElem_cons_zero, List.getElem_cons_succ, List.setIfInBounds_toArray, List.set_cons_zero, List.set_cons_succ]
                        refine wpAnyH_take (i := 8) (v := ?_) rfl (by kernel_rfl) (by kernel_rfl) (by kernel_rfl) (fun _ _ _ h => h) (Or.inl ⟨by rfl, ?_⟩) (by assumption) ?_
                        rotate_left
                        · (intro w hSw; (try dsimp only at hSw); go_simp)
                          first | done | with_reducible rfl
                        simp only [Act.put, List.getElem_toArray, List.getElem_cons_zero, List.getElem_cons_succ, List.setIfInBounds_toArray, List.set_cons_zero, List.set_cons_succ]
                        refine wpAnyH_ready (rs := [9]) (by kernel_rfl) (by simp) ?_
                        refine AllReadyH.cons rfl (fun K hK => ?_) AllReadyH.nil
                        go_simp
                        refine (ST.out _).mono ?_
                        rintro e w9 ⟨rfl, hu2⟩
                        refine hK.out _ _ ?_ (fun hHeld => ?_)
                        · exact ⟨hu2.keep hHeld.1, hu2.keep hHeld.2.1, hu2.keep hHeld.2.2.1, hu2.keep hHeld.2.2.2.1, hu2.keep hHeld.2.2.2.2.1, hu2.keep hHeld.2.2.2.2.2.1, hu2.keep hHeld.2.2.2.2.2.2⟩
                        clear hK K
                        try simp only [Act.put, List.getElem_toArray, List.getElem_cons_zero, List.getElem_cons_succ, List.setIfInBounds_toArray, List.set_cons_zero, List.set_cons_succ]
                        refine wpAnyH_take (i := 10) (v := ?_) rfl (by kernel_rfl) (by kernel_rfl) (by kernel_rfl) (fun _ _ _ h => h) (Or.inl ⟨by rfl, ?_⟩) (by assumption) ?_
                        rotate_left
                        · (intro w hSw; (try dsimp only at hSw); go_simp)
                          first | done | with_reducible rfl
                        simp only [Act.put, List.getElem_toArray, List.getElem_cons_zero, List.getElem_cons_succ, List.setIfInBounds_toArray, List.set_cons_zero, List.set_cons_succ]
                        refine wpAnyH_take (i := 11) (v := ?_) rfl (by kernel_rfl) (by kernel_rfl) (by kernel_rfl) (fun _ _ _ h => h) (Or.inl ⟨by rfl, ?_⟩) (by assumption) ?_
                        rotate_left
                        · (intro w hSw; (try dsimp only at hSw); go_simp)
                          first | done | with_reducible rfl
                        simp only [Act.put, List.getElem_toArray, List.getElem_cons_zero, List.getElem_cons_succ, List.setIfInBounds_toArray, List.set_cons_zero, List.set_cons_succ]
                        refine wpAnyH_take (i := 12) (v := ?_) rfl (by kernel_rfl) (by kernel_rfl) (by kernel_rfl) (fun _ _ _ h => h) (Or.inl ⟨by rfl, ?_⟩) (by assumption) ?_
                        rotate_left
                        · (intro w hSw; (try dsimp only at hSw); go_simp)
                          first | done | with_reducible rfl
                        simp only [Act.put, List.getElem_toArray, List.getElem_cons_zero, List.getElem_cons_succ, List.setIfInBounds_toArray, List.set_cons_zero, List.set_cons_succ]
                        refine wpAnyH_take (i := 13) (v := ?_) rfl (by kernel_rfl) (by kernel_rfl) (by kernel_rfl) (fun _ _ _ h => h) (Or.inl ⟨by rfl, ?_⟩) (by assumption) ?_
                        rotate_left
                        · (intro w hSw; (try dsimp only at hSw); go_simp)
                          first | done | with_reducible rfl
                        simp only [Act.put, List.getElem_toArray, List.getElem_cons_zero, List.getElem_cons_succ, List.setIfInBounds_toArray, List.set_cons_zero, List.set_cons_succ]
                        refine wpAnyH_take (i := 14) (v := ?_) rfl (by kernel_rfl) (by kernel_rfl) (by kernel_rfl) (fun _ _ _ h => h) (Or.inl ⟨by rfl, ?_⟩) (by assumption) ?_
                        rotate_left
                        · (intro w hSw; (try dsimp only at hSw); go_simp)
                          first | done | with_reducible rfl
                        simp only [Act.put, List.getElem_toArray, List.getElem_cons_zero, List.getElem_cons_succ, List.setIfInBounds_toArray, List.set_cons_zero, List.set_cons_succ]
                        refine wpAnyH_take (i := 15) (v := ?_) rfl (by kernel_rfl) (by kernel_rfl) (by kernel_rfl) (fun _ _ _ h => h) (Or.inl ⟨by rfl, ?_⟩) (by assumption) ?_
                        rotate_left
                        · (intro w hSw; (try dsimp only at hSw); go_simp)
                          first | done | with_reducible rfl
                        simp only [Act.put, List.getElem_toArray, List.getElem_cons_zero, List.getElem_cons_succ, List.setIfInBounds_toArray, List.set_cons_zero, List.set_cons_succ]
                        refine wpAnyH_take (i := 16) (v := ?_) rfl (by kernel_rfl) (by kernel_rfl) (by kernel_rfl) (fun _ _ _ h => h) (Or.inl ⟨by rfl, ?_⟩) (by assumption) ?_
                        rotate_left
                        · (intro w hSw; (try dsimp only at hSw); go_simp)
                          first | done | with_reducible rfl
                        simp only [Act.put, List.getElem_toArray, List.getElem_cons_zero, List.getElem_cons_succ, List.setIfInBounds_toArray, List.set_cons_zero, List.set_cons_succ]
                        refine wpAnyH_take (i := 17) (v := ?_) rfl (by kernel_rfl) (by kernel_rfl) (by kernel_rfl) (fun _ _ _ h => h) (Or.inl ⟨by rfl, ?_⟩) (by assumption) ?_
                        rotate_left
                        · (intro w hSw; (try dsimp only at hSw); go_simp)
                          first | done | with_reducible rfl
                        simp only [Act.put, List.getElem_toArray, List.getElem_cons_zero, List.getElem_cons_succ, List.setIfInBounds_toArray, List.set_cons_zero, List.set_cons_succ]
                        refine wpAnyH_ready (rs := [18]) (by kernel_rfl) (by simp) ?_
                        refine AllReadyH.cons rfl (fun K hK => ?_) AllReadyH.nil
                        go_simp
                        refine (SI.out _).mono ?_
                        rintro e w18 ⟨rfl, rfl⟩
                        refine hK.out _ _ ?_ (fun hHeld => ?_)
                        · exact ⟨hHeld.1, hHeld.2.1, hHeld.2.2.1, hHeld.2.2.2.1, hHeld.2.2.2.2.1, hHeld.2.2.2.2.2.1, hHeld.2.2.2.2.2.2⟩
                        clear hK K
                        try simp only [Act.put, List.getElem_toArray, List.getElem_cons_zero, List.getElem_cons_succ, List.setIfInBounds_toArray, List.set_cons_zero, List.set_cons_succ]
                        refine wpAnyH_take (i := 19) (v := ?_) rfl (by kernel_rfl) (by kernel_rfl) (by kernel_rfl) (fun _ _ _ h => h) (Or.inl ⟨by rfl, ?_⟩) (by assumption) ?_
                        rotate_left
                        · (intro w hSw; (try dsimp only at hSw); go_simp)
                          first | done | with_reducible rfl
                        simp only [Act.put, List.getElem_toArray, List.getElem_cons_zero, List.getElem_cons_succ, List.setIfInBounds_toArray, List.set_cons_zero, List.set_cons_succ]
                        refine wpAnyH_take (i := 20) (v := ?_) rfl (by kernel_rfl) (by kernel_rfl) (by kernel_rfl) (fun _ _ _ h => h) (Or.inl ⟨by rfl, ?_⟩) (by assumption) ?_
                        rotate_left
                        · (intro w hSw; (try dsimp only at hSw); go_simp)
                          first | done | with_reducible rfl
                        simp only [Act.put, List.getElem_toArray, List.getElem_cons_zero, List.getElem_cons_succ, List.setIfInBounds_toArray, List.set_cons_zero, List.set_cons_succ]
                        refine wpAnyH_take (i := 21) (v := ?_) rfl (by kernel_rfl) (by kernel_rfl) (by kernel_rfl) (fun _ _ _ h => h) (Or.inl ⟨by rfl, ?_⟩) (by assumption) ?_
                        rotate_left
                        · (intro w hSw; (try dsimp only at hSw); go_simp)
                          first | done | with_reducible rfl
                        simp only [Act.put, List.getElem_toArray, List.getElem_cons_zero, List.getElem_cons_succ, List.setIfInBounds_toArray, List.set_cons_zero, List.set_cons_succ]
                        refine wpAnyH_take (i := 22) rfl (by kernel_rfl) (by kernel_rfl) (by kernel_rfl) (fun _ _ _ h => h) (Or.inr ⟨by rfl, rfl⟩) (by assumption) ?_
                        simp only [Act.put, List.getElem_toArray, List.getElem_cons_zero, List.getElem_cons_succ, List.setIfInBounds_toArray, List.set_cons_zero, List.set_cons_succ]
                        refine wpAnyH_take (i := 23) rfl (by kernel_rfl) (by kernel_rfl) (by kernel_rfl) (fun _ _ _ h => h) (Or.inr ⟨by rfl, rfl⟩) (by assumption) ?_
                        simp only [Act.put, List.getElem_toArray, List.getElem_cons_zero, List.getElem_cons_succ, List.setIfInBounds_toArray, List.set_cons_zero, List.set_cons_succ]
                        refine wpAnyH_take (i := 24) rfl (by kernel_rfl) (by kernel_rfl) (by kernel_rfl) (fun _ _ _ h => h) (Or.inr ⟨by rfl, rfl⟩) (by assumption) ?_
                        simp only [Act.put, List.getElem_toArray, List.getElem_cons_zero, List.getElem_cons_succ, List.setIfInBounds_toArray, List.set_cons_zero, List.set_cons_succ]
                        refine wpAnyH_take (i := 25) rfl (by kernel_rfl) (by kernel_rfl) (by kernel_rfl) (fun _ _ _ h => h) (Or.inr ⟨by rfl, rfl⟩) (by assumption) ?_
                        simp only [Act.put, List.getElem_toArray, List.getElem_cons_zero, List.getElem_cons_succ, List.setIfInBounds_toArray, List.set_cons_zero, List.set_cons_succ]
                        refine wpAnyH_take (i := 26) rfl (by kernel_rfl) (by kernel_rfl) (by kernel_rfl) (fun _ _ _ h => h) (Or.inr ⟨by rfl, rfl⟩) (by assumption) ?_
                        simp only [Act.put, List.getElem_toArray, List.getElem_cons_zero, List.getElem_cons_succ, List.setIfInBounds_toArray, List.set_cons_zero, List.set_cons_succ]
                        refine wpAnyH_take (i := 27) rfl (by kernel_rfl) (by kernel_rfl) (by kernel_rfl) (fun _ _ _ h => h) (Or.inr ⟨by rfl, rfl⟩) (by assumption) ?_
                        simp only [Act.put, List.getElem_toArray, List.getElem_cons_zero, List.getElem_cons_succ, List.setIfInBounds_toArray, List.set_cons_zero, List.set_cons_succ]
                        refine wpAnyH_take (i := 28) rfl (by kernel_rfl) (by kernel_rfl) (by kernel_rfl) (fun _ _ _ h => h) (Or.inr ⟨by rfl, rfl⟩) (by assumption) ?_
                        simp only [Act.put, List.getElem_toArray, List.getElem_cons_zero, List.getElem_cons_succ, List.setIfInBounds_toArray, List.set_cons_zero, List.set_cons_succ]
                        refine wpAnyH_take (i := 29) rfl (by kernel_rfl) (by kernel_rfl) (by kernel_rfl) (fun _ _ _ h => h) (Or.inr ⟨by rfl, rfl⟩) (by assumption) ?_
                        simp only [Act.put, List.getElem_toArray, List.getElem_cons_zero, List.getElem_cons_succ, List.setIfInBounds_toArray, List.set_cons_zero, List.set_cons_succ]
                        refine wpAnyH_take (i := 30) rfl (by kernel_rfl) (by kernel_rfl) (by kernel_rfl) (fun _ _ _ h => h) (Or.inr ⟨by rfl, rfl⟩) (by assumption) ?_
                        simp only [Act.put, List.getElem_toArray, List.getElem_cons_zero, List.getElem_cons_succ, List.setIfInBounds_toArray, List.set_cons_zero, List.set_cons_succ]
                        refine wpAnyH_take (i := 31) rfl (by kernel_rfl) (by kernel_rfl) (by kernel_rfl) (fun _ _ _ h => h) (Or.inr ⟨by rfl, rfl⟩) (by assumption) ?_
                        simp only [Act.put, List.getElem_toArray, List.getElem_cons_zero, List.getElem_cons_succ, List.setIfInBounds_toArray, List.set_cons_zero, List.set_cons_succ]
                        refine wpAnyH_take (i := 32) rfl (by kernel_rfl) (by kernel_rfl) (by kernel_rfl) (fun _ _ _ h => h) (Or.inr ⟨by rfl, rfl⟩) (by assumption) ?_
                        simp only [Act.put, List.getElem_toArray, List.getElem_cons_zero, List.getElem_cons_succ, List.setIfInBounds_toArray, List.set_cons_zero, List.set_cons_succ]
                        refine wpAnyH_take (i := 33) rfl (by kernel_rfl) (by kernel_rfl) (by kernel_rfl) (fun _ _ _ h => h) (Or.inr ⟨by rfl, rfl⟩) (by assumption) ?_
                        simp only [Act.put, List.getElem_toArray, List.getElem_cons_zero, List.getElem_cons_succ, List.setIfInBounds_toArray, List.set_cons_zero, List.set_cons_succ]
                        refine wpAnyH_take (i := 34) rfl (by kernel_rfl) (by kernel_rfl) (by kernel_rfl) (fun _ _ _ h => h) (Or.inr ⟨by rfl, rfl⟩) (by assumption) ?_
                        simp only [Act.put, List.getElem_toArray, List.getElem_cons_zero, List.getElem_cons_succ, List.setIfInBounds_toArray, List.set_cons_zero, List.set_cons_succ]
                        refine wpAnyH_take (i := 35) (v := ?_) rfl (by kernel_rfl) (by kernel_rfl) (by kernel_rfl) (fun _ _ _ h => h) (Or.inl ⟨by rfl, ?_⟩) (by assumption) ?_
                        rotate_left
                        · (intro w hSw; (try dsimp only at hSw); go_simp)
                          first | done | with_reducible rfl
                        simp only [Act.put, List.getElem_toArray, List.getElem_cons_zero, List.getElem_cons_succ, List.setIfInBounds_toArray, List.set_cons_zero, List.set_cons_succ]
                        refine wpAnyH_done (by kernel_rfl) ?_ _
                        have HU9 := Lib.hid (HB0.out.trans ((HU5.out.drew.trans hu1).trans hu2))
                        clear HU5 hHeld y0 y1 y2 y3 z0 z1 z2
                        go_wp2_with fail
                        go_ret
                        exact ⟨by rw [HR.out]; rfl, HU9.out⟩
                      | true =>
                        rw [hf3] at SI HEP
                        clear hf3
                        by_cases k0 : k = 0
                        · have HA3 := Lib.hid (show allF (edP ⟨st, ini, labs, eds⟩) (k + 1) (eds.length - (k + 1)) = allF (edP ⟨st, ini, labs, eds⟩) 0 eds.length by rw [HA2.out, HEP.out, decide_eq_true k0]; simp)
                          have kk : decide (0 < k) = false := by rw [k0]; rfl
                          have kk2 : ¬ (0 : Int) < (k : Int) := by omega
                          clear HA2 HEP k0
                          refine wp_region_held_drew (S := fun w' => w'.cell? ⟨w.heap.size, 0, none⟩ = some (ei st) ∧ w'.cell? ⟨w.heap.size, 1, none⟩ = some (ei ini) ∧ w'.cell? ⟨w.heap.size, 2, none⟩ = some (.slice a1 labs.length c1) ∧ w'.cell? ⟨w.heap.size, 3, none⟩ = some (.slice (some ⟨b1, o1, none⟩) eds.length c2) ∧ w'.cell? ⟨BB, 0, none⟩ = some (ei fr) ∧ w'.cell? ⟨BB, 1, none⟩ = some (ei lb) ∧ w'.cell? ⟨BB, 2, none⟩ = some (ei td)) (by kernel_rfl) ?_ (fun hHeld => ?_)
                          · exact ⟨y0, y1, y2, y3, z0, z1, z2⟩
                          refine wpAnyH_take (i := 0) (v := ?_) rfl (by kernel_rfl) (by kernel_rfl) (by kernel_rfl) (fun _ _ _ h => h) (Or.inl ⟨by rfl, ?_⟩) (by assumption) ?_
                          rotate_left
                          · (intro w hSw; (try dsimp only at hSw); go_simp)
                            first | done | with_reducible rfl
                          simp only [Act.put, List.getElem_toArray, List.getElem_cons_zero, List.setIfInBounds_toArray, List.set_cons_zero, List.set_cons_succ]
                          refine wpAnyH_take (i := 1) (v := ?_) rfl (by kernel_rfl) (by kernel_rfl) (by kernel_rfl) (fun _ _ _ h => h) (Or.inl ⟨by rfl, ?_⟩) (by assumption) ?_
                          rotate_left
                          · (intro w hSw; (try dsimp only at hSw); go_simp)
                            first | done | with_reducible rfl
                          simp only [Act.put, List.getElem_toArray, List.getElem_cons_zero, List.getElem_cons_succ, List.setIfInBounds_toArray, List.set_cons_zero, List.set_cons_succ]
                          refine wpAnyH_take (i := 2) (v := ?_) rfl (by kernel_rfl) (by kernel_rfl) (by kernel_rfl) (fun _ _ _ h => h) (Or.inl ⟨by rfl, ?_⟩) (by assumption) ?_
                          rotate_left
                          · (intro w hSw; (try dsimp only at hSw); go_simp)
                            first | done | with_reducible rfl
                          simp only [Act.put, List.getElem_toArray, List.getElem_cons_zero, List.getElem_cons_succ, List.setIfInBounds_toArray, List.set_cons_zero, List.set_cons_succ]
                          refine wpAnyH_ready (rs := [3]) (by kernel_rfl) (by simp) ?_
                          refine AllReadyH.cons rfl (fun K hK => ?_) AllReadyH.nil
                          go_simp
                          refine (SF.out _).mono ?_
                          rintro e w3 ⟨rfl, hu1⟩
                          refine hK.out _ _ ?_ (fun hHeld => ?_)
                          · exact ⟨hu1.keep hHeld.1, hu1.keep hHeld.2.1, hu1.keep hHeld.2.2.1, hu1.keep hHeld.2.2.2.1, hu1.keep hHeld.2.2.2.2.1, hu1.keep hHeld.2.2.2.2.2.1, hu1.keep hHeld.2.2.2.2.2.2⟩
                          clear hK K
                          try simp only [Act.put, List.getElem_toArray, List.getElem_cons_zero, List.getElem_cons_succ, List.setIfInBounds_toArray, List.set_cons_zero, List.set_cons_succ]
                          refine wpAnyH_take (i := 4) (v := ?_) rfl (by kernel_rfl) (by kernel_rfl) (by kernel_rfl) (fun _ _ _ h => h) (Or.inl ⟨by rfl, ?_⟩) (by assumption) ?_
                          rotate_left
                          · (intro w hSw; (try dsimp only at hSw); go_simp)
                            first | done | with_reducible rfl
                          simp only [Act.put, List.getElem_toArray, List.getElem_cons_zero, List.getElem_cons_succ, List.setIfInBounds_toArray, List.set_cons_zero, List.set_cons_succ]
                          refine wpAnyH_take (i := 5) (v := ?_) rfl (by kernel_rfl) (by kernel_rfl) (by kernel_rfl) (fun _ _ _ h => h) (Or.inl ⟨by rfl, ?_⟩) (by assumption) ?_
                          rotate_left
                          · (intro w hSw; (try dsimp only at hSw); go_simp)
                            first | done | with_reducible rfl
                          simp only [Act.put, List.getElem_toArray, List.getElem_cons_zero, List.getElem_cons_succ, List.setIfInBounds_toArray, List.set_cons_zero, List.set_cons_succ]
                          refine wpAnyH_take (i := 6) (v := ?_) rfl (by kernel_rfl) (by kernel_rfl) (by kernel_rfl) (fun _ _ _ h => h) (Or.inl ⟨by rfl, ?_⟩) (by assumption) ?_
                          rotate_left
                          · (intro w hSw; (try dsimp only at hSw); go_simp)
                            first | done | with_reducible rfl
                          simp only [Act.put, List.getElem_toArray, List.getElem_cons_zero, List.getElem_cons_succ, List.setIfInBounds_toArray, List.set_cons_zero, List.set_cons_succ]
                          refine wpAnyH_take (i := 7) (v := ?_) rfl (by kernel_rfl) (by kernel_rfl) (by kernel_rfl) (fun _ _ _ h => h) (Or.inl ⟨by rfl, ?_⟩) (by assumption) ?_
                          rotate_left
                          · (intro w hSw; (try dsimp only at hSw); go_simp)
                            first | done | with_reducible rfl
                          simp only [Act.put, List.getElem_toArray, List.getElem_cons_zero, List.getElem_cons_succ, List.setIfInBounds_toArray, List.set_cons_zero, List.set_cons_succ]
                          refine wpAnyH_take (i := 8) (v := ?_) rfl (by kernel_rfl) (by kernel_rfl) (by kernel_rfl) (fun _ _ _ h => h) (Or.inl ⟨by rfl, ?_⟩) (by assumption) ?_
                          rotate_left
                          · (intro w hSw; (try dsimp only at hSw); go_simp)
                            first | done | with_reducible rfl
                          simp only [Act.put, List.getElem_toArray, List.getElem_cons_zero, List.getElem_cons_succ, List.setIfInBounds_toArray, List.set_cons_zero, List.set_cons_succ]
                          refine wpAnyH_ready (rs := [9]) (by kernel_rfl) (by simp) ?_
                          refine AllReadyH.cons rfl (fun K hK => ?_) AllReadyH.nil
                          go_simp
                          refine (ST.out _).mono ?_
                          rintro e w9 ⟨rfl, hu2⟩
                          refine hK.out _ _ ?_ (fun hHeld => ?_)
                          · exact ⟨hu2.keep hHeld.1, hu2.keep hHeld.2.1, hu2.keep hHeld.2.2.1, hu2.keep hHeld.2.2.2.1, hu2.keep hHeld.2.2.2.2.1, hu2.keep hHeld.2.2.2.2.2.1, hu2.keep hHeld.2.2.2.2.2.2⟩
                          clear hK K
                          try simp only [Act.put, List.getElem_toArray, List.getElem_cons_zero, List.getElem_cons_succ, List.setIfInBounds_toArray, List.set_cons_zero, List.set_cons_succ]
                          refine wpAnyH_take (i := 10) (v := ?_) rfl (by kernel_rfl) (by kernel_rfl) (by kernel_rfl) (fun _ _ _ h => h) (Or.inl ⟨by rfl, ?_⟩) (by assumption) ?_
                          rotate_left
                          · (intro w hSw; (try dsimp only at hSw); go_simp)
                            first | done | with_reducible rfl
                          simp only [Act.put, List.getElem_toArray, List.getElem_cons_zero, List.getElem_cons_succ, List.setIfInBounds_toArray, List.set_cons_zero, List.set_cons_succ]
                          refine wpAnyH_take (i := 11) (v := ?_) rfl (by kernel_rfl) (by kernel_rfl) (by kernel_rfl) (fun _ _ _ h => h) (Or.inl ⟨by rfl, ?_⟩) (by assumption) ?_
                          rotate_left
                          · (intro w hSw; (try dsimp only at hSw); go_simp)
                            first | done | with_reducible rfl
                          simp only [Act.put, List.getElem_toArray, List.getElem_cons_zero, List.getElem_cons_succ, List.setIfInBounds_toArray, List.set_cons_zero, List.set_cons_succ]
                          refine wpAnyH_take (i := 12) (v := ?_) rfl (by kernel_rfl) (by kernel_rfl) (by kernel_rfl) (fun _ _ _ h => h) (Or.inl ⟨by rfl, ?_⟩) (by assumption) ?_
                          rotate_left
                          · (intro w hSw; (try dsimp only at hSw); go_simp)
                            first | done | with_reducible rfl
                          simp only [Act.put, List.getElem_toArray, List.getElem_cons_zero, List.getElem_cons_succ, List.setIfInBounds_toArray, List.set_cons_zero, List.set_cons_succ]
                          refine wpAnyH_take (i := 13) (v := ?_) rfl (by kernel_rfl) (by kernel_rfl) (by kernel_rfl) (fun _ _ _ h => h) (Or.inl ⟨by rfl, ?_⟩) (by assumption) ?_
                          rotate_left
                          · (intro w hSw; (try dsimp only at hSw); go_simp)
                            first | done | with_reducible rfl
                          simp only [Act.put, List.getElem_toArray, List.getElem_cons_zero, List.getElem_cons_succ, List.setIfInBounds_toArray, List.set_cons_zero, List.set_cons_succ]
                          refine wpAnyH_take (i := 14) (v := ?_) rfl (by kernel_rfl) (by kernel_rfl) (by kernel_rfl) (fun _ _ _ h => h) (Or.inl ⟨by rfl, ?_⟩) (by assumption) ?_
                          rotate_left
                          · (intro w hSw; (try dsimp only at hSw); go_simp)
                            first | done | with_reducible rfl
                          simp only [Act.put, List.getElem_toArray, List.getElem_cons_zero, List.getElem_cons_succ, List.setIfInBounds_toArray, List.set_cons_zero, List.set_cons_succ]
                          refine wpAnyH_take (i := 15) (v := ?_) rfl (by kernel_rfl) (by kernel_rfl) (by kernel_rfl) (fun _ _ _ h => h) (Or.inl ⟨by rfl, ?_⟩) (by assumption) ?_
                          rotate_left
                          · (intro w hSw; (try dsimp only at hSw); go_simp)
                            first | done | with_reducible rfl
                          simp only [Act.put, List.getElem_toArray, List.getElem_cons_zero, List.getElem_cons_succ, List.setIfInBounds_toArray, List.set_cons_zero, List.set_cons_succ]
                          refine wpAnyH_take (i := 16) (v := ?_) rfl (by kernel_rfl) (by kernel_rfl) (by kernel_rfl) (fun _ _ _ h => h) (Or.inl ⟨by rfl, ?_⟩) (by assumption) ?_
                          rotate_left
                          · (intro w hSw; (try dsimp only at hSw); go_simp)
                            first | done | with_reducible rfl
                          simp only [Act.put, List.getElem_toArray, List.getElem_cons_zero, List.getElem_cons_succ, List.setIfInBounds_toArray, List.set_cons_zero, List.set_cons_succ]
                          refine wpAnyH_take (i := 17) (v := ?_) rfl (by kernel_rfl) (by kernel_rfl) (by kernel_rfl) (fun _ _ _ h => h) (Or.inl ⟨by rfl, ?_⟩) (by assumption) ?_
                          rotate_left
                          · (intro w hSw; (try dsimp only at hSw); go_simp)
                            first | done | with_reducible rfl
                          simp only [Act.put, List.getElem_toArray, List.getElem_cons_zero, List.getElem_cons_succ, List.setIfInBounds_toArray, List.set_cons_zero, List.set_cons_succ]
                          refine wpAnyH_ready (rs := [18]) (by kernel_rfl) (by simp) ?_
                          refine AllReadyH.cons rfl (fun K hK => ?_) AllReadyH.nil
                          go_simp
                          refine (SI.out _).mono ?_
                          rintro e w18 ⟨rfl, rfl⟩
                          refine hK.out _ _ ?_ (fun hHeld => ?_)
                          · exact ⟨hHeld.1, hHeld.2.1, hHeld.2.2.1, hHeld.2.2.2.1, hHeld.2.2.2.2.1, hHeld.2.2.2.2.2.1, hHeld.2.2.2.2.2.2⟩
                          clear hK K
                          try simp only [Act.put, List.getElem_toArray, List.getElem_cons_zero, List.getElem_cons_succ, List.setIfInBounds_toArray, List.set_cons_zero, List.set_cons_succ]
                          refine wpAnyH_take (i := 19) (v := ?_) rfl (by kernel_rfl) (by kernel_rfl) (by kernel_rfl) (fun _ _ _ h => h) (Or.inl ⟨by rfl, ?_⟩) (by assumption) ?_
                          rotate_left
                          · (intro w hSw; (try dsimp only at hSw); go_simp)
                            first | done | with_reducible rfl
                          simp only [Act.put, List.getElem_toArray, List.getElem_cons_zero, List.getElem_cons_succ, List.setIfInBounds_toArray, List.set_cons_zero, List.set_cons_succ]
                          refine wpAnyH_take (i := 20) (v := ?_) rfl (by kernel_rfl) (by kernel_rfl) (by kernel_rfl) (fun _ _ _ h => h) (Or.inl ⟨by rfl, ?_⟩) (by assumption) ?_
                          rotate_left
                          · (intro w hSw; (try dsimp only at hSw); go_simp)
                            first | done | with_reducible rfl
                          simp only [Act.put, List.getElem_toArray, List.getElem_cons_zero, List.getElem_cons_succ, List.setIfInBounds_toArray, List.set_cons_zero, List.set_cons_succ]
                          refine wpAnyH_take (i := 21) (v := ?_) rfl (by kernel_rfl) (by kernel_rfl) (by kernel_rfl) (fun _ _ _ h => h) (Or.inl ⟨by rfl, ?_⟩) (by assumption) ?_
                          rotate_left
                          · (intro w hSw; (try dsimp only at hSw); go_simp)
                            first | done | with_reducible rfl
                          simp only [Act.put, List.getElem_toArray, List.getElem_cons_zero, List.getElem_cons_succ, List.setIfInBounds_toArray, List.set_cons_zero, List.set_cons_succ]
                          refine wpAnyH_take (i := 22) (v := ?_) rfl (by kernel_rfl) (by kernel_rfl) (by kernel_rfl) (fun _ _ _ h => h) (Or.inl ⟨by rfl, ?_⟩) (by assumption) ?_
                          rotate_left
                          · (intro w hSw; (try dsimp only at hSw); go_simp)
                            first | done | with_reducible rfl
                          simp only [Act.put, List.getElem_toArray, List.getElem_cons_zero, List.getElem_cons_succ, List.setIfInBounds_toArray, List.set_cons_zero, List.set_cons_succ]
                          refine wpAnyH_take (i := 23) (v := ?_) rfl (by kernel_rfl) (by kernel_rfl) (by kernel_rfl) (fun _ _ _ h => h) (Or.inl ⟨by rfl, ?_⟩) (by assumption) ?_
                          rotate_left
                          · (intro w hSw; (try dsimp only at hSw); go_simp)
                            first | done | with_reducible rfl
                          simp only [Act.put, List.getElem_toArray, List.getElem_cons_zero, List.getElem_cons_succ, List.setIfInBounds_toArray, List.set_cons_zero, List.set_cons_succ]
                          try simp only [kk]
                          refine wpAnyH_take (i := 24) (v := ?_) rfl (by kernel_rfl) (by kernel_rfl) (by kernel_rfl) (fun _ _ _ h => h) (Or.inl ⟨by rfl, ?_⟩) (by assumption) ?_
                          rotate_left
                          · (intro w hSw; (try dsimp only at hSw); go_simp)
                            first | done | with_reducible rfl
                          simp only [Act.put, List.getElem_toArray, List.getElem_cons_zero, List.getElem_cons_succ, List.setIfInBounds_toArray, List.set_cons_zero, List.set_cons_succ]
                          refine wpAnyH_take (i := 25) rfl (by kernel_rfl) (by kernel_rfl) (by kernel_rfl) (fun _ _ _ h => h) (Or.inr ⟨by rfl, rfl⟩) (by assumption) ?_
                          simp only [Act.put, List.getElem_toArray, List.getElem_cons_zero, List.getElem_cons_succ, List.setIfInBounds_toArray, List.set_cons_zero, List.set_cons_succ]
                          refine wpAnyH_take (i := 26) rfl (by kernel_rfl) (by kernel_rfl) (by kernel_rfl) (fun _ _ _ h => h) (Or.inr ⟨by rfl, rfl⟩) (by assumption) ?_
                          simp only [Act.put, List.getElem_toArray, List.getElem_cons_zero, List.getElem_cons_succ, List.setIfInBounds_toArray, List.set_cons_zero, List.set_cons_succ]
                          refine wpAnyH_take (i := 27) rfl (by kernel_rfl) (by kernel_rfl) (by kernel_rfl) (fun _ _ _ h => h) (Or.inr ⟨by rfl, rfl⟩) (by assumption) ?_
                          simp only [Act.put, List.getElem_toArray, List.getElem_cons_zero, List.getElem_cons_succ, List.setIfInBounds_toArray, List.set_cons_zero, List.set_cons_succ]
                          refine wpAnyH_take (i := 28) rfl (by kernel_rfl) (by kernel_rfl) (by kernel_rfl) (fun _ _ _ h => h) (Or.inr ⟨by rfl, rfl⟩) (by assumption) ?_
                          simp only [Act.put, List.getElem_toArray, List.getElem_cons_zero, List.getElem_cons_succ, List.setIfInBounds_toArray, List.set_cons_zero, List.set_cons_succ]
                          refine wpAnyH_take (i := 29) rfl (by kernel_rfl) (by kernel_rfl) (by kernel_rfl) (fun _ _ _ h => h) (Or.inr ⟨by rfl, rfl⟩) (by assumption) ?_
                          simp only [Act.put, List.getElem_toArray, List.getElem_cons_zero, List.getElem_cons_succ, List.setIfInBounds_toArray, List.set_cons_zero, List.set_cons_succ]
                          refine wpAnyH_take (i := 30) rfl (by kernel_rfl) (by kernel_rfl) (by kernel_rfl) (fun _ _ _ h => h) (Or.inr ⟨by rfl, rfl⟩) (by assumption) ?_
                          simp only [Act.put, List.getElem_toArray, List.getElem_cons_zero, List.getElem_cons_succ, List.setIfInBounds_toArray, List.set_cons_zero, List.set_cons_succ]
                          refine wpAnyH_take (i := 31) rfl (by kernel_rfl) (by kernel_rfl) (by kernel_rfl) (fun _ _ _ h => h) (Or.inr ⟨by rfl, rfl⟩) (by assumption) ?_
                          simp only [Act.put, List.getElem_toArray, List.getElem_cons_zero, List.getElem_cons_succ, List.setIfInBounds_toArray, List.set_cons_zero, List.set_cons_succ]
                          refine wpAnyH_take (i := 32) rfl (by kernel_rfl) (by kernel_rfl) (by kernel_rfl) (fun _ _ _ h => h) (Or.inr ⟨by rfl, rfl⟩) (by assumption) ?_
                          simp only [Act.put, List.getElem_toArray, List.getElem_cons_zero, List.getElem_cons_succ, List.setIfInBounds_toArray, List.set_cons_zero, List.set_cons_succ]
                          refine wpAnyH_take (i := 33) rfl (by kernel_rfl) (by kernel_rfl) (by kernel_rfl) (fun _ _ _ h => h) (Or.inr ⟨by rfl, rfl⟩) (by assumption) ?_
                          simp only [Act.put, List.getElem_toArray, List.getElem_cons_zero, List.getElem_cons_succ, List.setIfInBounds_toArray, List.set_cons_zero, List.set_cons_succ]
                          refine wpAnyH_take (i := 34) (v := ?_) rfl (by kernel_rfl) (by kernel_rfl) (by kernel_rfl) (fun _ _ _ h => h) (Or.inl ⟨by rfl, ?_⟩) (by assumption) ?_
                          rotate_left
                          · (intro w hSw; (try dsimp only at hSw); go_simp)
                            first | done | with_reducible rfl
                          simp only [Act.put, List.getElem_toArray, List.getElem_cons_zero, List.getElem_cons_succ, List.setIfInBounds_toArray, List.set_cons_zero, List.set_cons_succ]
                          refine wpAnyH_take (i := 35) (v := ?_) rfl (by kernel_rfl) (by kernel_rfl) (by kernel_rfl) (fun _ _ _ h => h) (Or.inl ⟨by rfl, ?_⟩) (by assumption) ?_
                          rotate_left
                          · (intro w hSw; (try dsimp only at hSw); go_simp)
                            first | done | with_reducible rfl
                          simp only [Act.put, List.getElem_toArray, List.getElem_cons_zero, List.getElem_cons_succ, List.setIfInBounds_toArray, List.set_cons_zero, List.set_cons_succ]
                          refine wpAnyH_done (by kernel_rfl) ?_ _
                          have HU9 := Lib.hid ((HU5.out.drew.trans hu1).trans hu2)
                          clear HU5 hHeld y0 y1 y2 y3 z0 z1 z2
                          go_wp2_with fail
                          go_roundw
                          case rel => exact ⟨k + 1, by omega, by go_num, HA3, HU9.out⟩
                          case measure => simp [intOf]; omega
                        · obtain ⟨q0, q1, q2⟩ := HPR5.out (by omega)
                          have kk : (0 : Int) < (k : Int) := by omega
                          have kkT : decide (0 < k) = true := decide_eq_true (by omega)
                          have i0 : IntKind.i64.wrap ((k : Int) - 1) = (k : Int) - 1 := IntWalk.i64_in _ (by omega)
                          have i1 : ((k : Int) - 1).toNat = k - 1 := by omega
                          have i3 : (0 : Int) ≤ (k : Int) - 1 := by omega
                          have i5 : (1 : Int) ≤ (k : Int) := by omega
                          have i4 : (k : Int) - 1 < (eds.length : Int) := by omega
                          cases hlt9 : edLt pk ⟨fr, lb, td⟩ with
                          | false =>
                            rw [hlt9] at SC
                            have HR := Lib.hid (show sysOk ⟨st, ini, labs, eds⟩ = false by rw [HOK3.out, HA2.out, HEP.out, hlt9, decide_eq_false k0]; simp)
                            clear HOK3 HA2 HEP
                            clear hlt9 k0 HPR5
                            refine wp_region_held_drew (S := fun w' => w'.cell? ⟨w.heap.size, 0, none⟩ = some (ei st) ∧ w'.cell? ⟨w.heap.size, 1, none⟩ = some (ei ini) ∧ w'.cell? ⟨w.heap.size, 2, none⟩ = some (.slice a1 labs.length c1) ∧ w'.cell? ⟨w.heap.size, 3, none⟩ = some (.slice (some ⟨b1, o1, none⟩) eds.length c2) ∧ w'.cell? ⟨BB, 0, none⟩ = some (ei fr) ∧ w'.cell? ⟨BB, 1, none⟩ = some (ei lb) ∧ w'.cell? ⟨BB, 2, none⟩ = some (ei td) ∧ w'.cell? ⟨b1, o1 + (k - 1) * 3, none⟩ = some (ei pk.fr) ∧ w'.cell? ⟨b1, o1 + (k - 1) * 3 + 1, none⟩ = some (ei pk.lb) ∧ w'.cell? ⟨b1, o1 + (k - 1) * 3 + 2, none⟩ = some (ei pk.to)) (by kernel_rfl) ?_ (fun hHeld => ?_)
                            · exact ⟨y0, y1, y2, y3, z0, z1, z2, q0, q1, q2⟩
                            refine wpAnyH_take (i := 0) (v := ?_) rfl (by kernel_rfl) (by kernel_rfl) (by kernel_rfl) (fun _ _ _ h => h) (Or.inl ⟨by rfl, ?_⟩) (by assumption) ?_
                            rotate_left
                            · (intro w hSw; (try dsimp only at hSw); go_simp)
                              first | done | with_reducible rfl
                            simp only [Act.put, List.getElem_toArray, List.getElem_cons_zero, List.setIfInBounds_toArray, List.set_cons_zero, List.set_cons_succ]
                            refine wpAnyH_take (i := 1) (v := ?_) rfl (by kernel_rfl) (by kernel_rfl) (by kernel_rfl) (fun _ _ _ h => h) (Or.inl ⟨by rfl, ?_⟩) (by assumption) ?_
                            rotate_left
                            · (intro w hSw; (try dsimp only at hSw); go_simp)
                              first | done | with_reducible rfl
                            simp only [Act.put, List.getElem_toArray, List.getElem_cons_zero, List.getElem_cons_succ, List.setIfInBounds_toArray, List.set_cons_zero, List.set_cons_succ]
                            refine wpAnyH_take (i := 2) (v := ?_) rfl (by kernel_rfl) (by kernel_rfl) (by kernel_rfl) (fun _ _ _ h => h) (Or.inl ⟨by rfl, ?_⟩) (by assumption) ?_
                            rotate_left
                            · (intro w hSw; (try dsimp only at hSw); go_simp)
                              first | done | with_reducible rfl
                            simp only [Act.put, List.getElem_toArray, List.getElem_cons_zero, List.getElem_cons_succ, List.setIfInBounds_toArray, List.set_cons_zero, List.set_cons_succ]
                            refine wpAnyH_ready (rs := [3]) (by kernel_rfl) (by simp) ?_
                            refine AllReadyH.cons rfl (fun K hK => ?_) AllReadyH.nil
                            go_simp
                            refine (SF.out _).mono ?_
                            rintro e w3 ⟨rfl, hu1⟩
                            refine hK.out _ _ ?_ (fun hHeld => ?_)
                            · exact ⟨hu1.keep hHeld.1, hu1.keep hHeld.2.1, hu1.keep hHeld.2.2.1, hu1.keep hHeld.2.2.2.1, hu1.keep hHeld.2.2.2.2.1, hu1.keep hHeld.2.2.2.2.2.1, hu1.keep hHeld.2.2.2.2.2.2.1, hu1.keep hHeld.2.2.2.2.2.2.2.1, hu1.keep hHeld.2.2.2.2.2.2.2.2.1, hu1.keep hHeld.2.2.2.2.2.2.2.2.2⟩
                            clear hK K
                            try simp only [Act.put, List.getElem_toArray, List.getElem_cons_zero, List.getElem_cons_succ, List.setIfInBounds_toArray, List.set_cons_zero, List.set_cons_succ]
                            refine wpAnyH_take (i := 4) (v := ?_) rfl (by kernel_rfl) (by kernel_rfl) (by kernel_rfl) (fun _ _ _ h => h) (Or.inl ⟨by rfl, ?_⟩) (by assumption) ?_
                            rotate_left
                            · (intro w hSw; (try dsimp only at hSw); go_simp)
                              first | done | with_reducible rfl
                            simp only [Act.put, List.getElem_toArray, List.getElem_cons_zero, List.getElem_cons_succ, List.setIfInBounds_toArray, List.set_cons_zero, List.set_cons_succ]
                            refine wpAnyH_take (i := 5) (v := ?_) rfl (by kernel_rfl) (by kernel_rfl) (by kernel_rfl) (fun _ _ _ h => h) (Or.inl ⟨by rfl, ?_⟩) (by assumption) ?_
                            rotate_left
                            · (intro w hSw; (try dsimp only at hSw); go_simp)
                              first | done | with_reducible rfl
                            simp only [Act.put, List.getElem_toArray, List.getElem_cons_zero, List.getElem_cons_succ, List.setIfInBounds_toArray, List.set_cons_zero, List.set_cons_succ]
                            refine wpAnyH_take (i := 6) (v := ?_) rfl (by kernel_rfl) (by kernel_rfl) (by kernel_rfl) (fun _ _ _ h => h) (Or.inl ⟨by rfl, ?_⟩) (by assumption) ?_
                            rotate_left
                            · (intro w hSw; (try dsimp only at hSw); go_simp)
                              first | done | with_reducible rfl
                            simp only [Act.put, List.getElem_toArray, List.getElem_cons_zero, List.getElem_cons_succ, List.setIfInBounds_toArray, List.set_cons_zero, List.set_cons_succ]
                            refine wpAnyH_take (i := 7) (v := ?_) rfl (by kernel_rfl) (by kernel_rfl) (by kernel_rfl) (fun _ _ _ h => h) (Or.inl ⟨by rfl, ?_⟩) (by assumption) ?_
                            rotate_left
                            · (intro w hSw; (try dsimp only at hSw); go_simp)
                              first | done | with_reducible rfl
                            simp only [Act.put, List.getElem_toArray, List.getElem_cons_zero, List.getElem_cons_succ, List.setIfInBounds_toArray, List.set_cons_zero, List.set_cons_succ]
                            refine wpAnyH_take (i := 8) (v := ?_) rfl (by kernel_rfl) (by kernel_rfl) (by kernel_rfl) (fun _ _ _ h => h) (Or.inl ⟨by rfl, ?_⟩) (by assumption) ?_
                            rotate_left
                            · (intro w hSw; (try dsimp only at hSw); go_simp)
                              first | done | with_reducible rfl
                            simp only [Act.put, List.getElem_toArray, List.getElem_cons_zero, List.getElem_cons_succ, List.setIfInBounds_toArray, List.set_cons_zero, List.set_cons_succ]
                            refine wpAnyH_ready (rs := [9]) (by kernel_rfl) (by simp) ?_
                            refine AllReadyH.cons rfl (fun K hK => ?_) AllReadyH.nil
                            go_simp
                            refine (ST.out _).mono ?_
                            rintro e w9 ⟨rfl, hu2⟩
                            refine hK.out _ _ ?_ (fun hHeld => ?_)
                            · exact ⟨hu2.keep hHeld.1, hu2.keep hHeld.2.1, hu2.keep hHeld.2.2.1, hu2.keep hHeld.2.2.2.1, hu2.keep hHeld.2.2.2.2.1, hu2.keep hHeld.2.2.2.2.2.1, hu2.keep hHeld.2.2.2.2.2.2.1, hu2.keep hHeld.2.2.2.2.2.2.2.1, hu2.keep hHeld.2.2.2.2.2.2.2.2.1, hu2.keep hHeld.2.2.2.2.2.2.2.2.2⟩
                            clear hK K
                            try simp only [Act.put, List.getElem_toArray, List.getElem_cons_zero, List.getElem_cons_succ, List.setIfInBounds_toArray, List.set_cons_zero, List.set_cons_succ]
                            refine wpAnyH_take (i := 10) (v := ?_) rfl (by kernel_rfl) (by kernel_rfl) (by kernel_rfl) (fun _ _ _ h => h) (Or.inl ⟨by rfl, ?_⟩) (by assumption) ?_
                            rotate_left
                            · (intro w hSw; (try dsimp only at hSw); go_simp)
                              first | done | with_reducible rfl
                            simp only [Act.put, List.getElem_toArray, List.getElem_cons_zero, List.getElem_cons_succ, List.setIfInBounds_toArray, List.set_cons_zero, List.set_cons_succ]
                            refine wpAnyH_take (i := 11) (v := ?_) rfl (by kernel_rfl) (by kernel_rfl) (by kernel_rfl) (fun _ _ _ h => h) (Or.inl ⟨by rfl, ?_⟩) (by assumption) ?_
                            rotate_left
                            · (intro w hSw; (try dsimp only at hSw); go_simp)
                              first | done | with_reducible rfl
                            simp only [Act.put, List.getElem_toArray, List.getElem_cons_zero, List.getElem_cons_succ, List.setIfInBounds_toArray, List.set_cons_zero, List.set_cons_succ]
                            refine wpAnyH_take (i := 12) (v := ?_) rfl (by kernel_rfl) (by kernel_rfl) (by kernel_rfl) (fun _ _ _ h => h) (Or.inl ⟨by rfl, ?_⟩) (by assumption) ?_
                            rotate_left
                            · (intro w hSw; (try dsimp only at hSw); go_simp)
                              first | done | with_reducible rfl
                            simp only [Act.put, List.getElem_toArray, List.getElem_cons_zero, List.getElem_cons_succ, List.setIfInBounds_toArray, List.set_cons_zero, List.set_cons_succ]
                            refine wpAnyH_take (i := 13) (v := ?_) rfl (by kernel_rfl) (by kernel_rfl) (by kernel_rfl) (fun _ _ _ h => h) (Or.inl ⟨by rfl, ?_⟩) (by assumption) ?_
                            rotate_left
                            · (intro w hSw; (try dsimp only at hSw); go_simp)
                              first | done | with_reducible rfl
                            simp only [Act.put, List.getElem_toArray, List.getElem_cons_zero, List.getElem_cons_succ, List.setIfInBounds_toArray, List.set_cons_zero, List.set_cons_succ]
                            refine wpAnyH_take (i := 14) (v := ?_) rfl (by kernel_rfl) (by kernel_rfl) (by kernel_rfl) (fun _ _ _ h => h) (Or.inl ⟨by rfl, ?_⟩) (by assumption) ?_
                            rotate_left
                            · (intro w hSw; (try dsimp only at hSw); go_simp)
                              first | done | with_reducible rfl
                            simp only [Act.put, List.getElem_toArray, List.getElem_cons_zero, List.getElem_cons_succ, List.setIfInBounds_toArray, List.set_cons_zero, List.set_cons_succ]
                            refine wpAnyH_take (i := 15) (v := ?_) rfl (by kernel_rfl) (by kernel_rfl) (by kernel_rfl) (fun _ _ _ h => h) (Or.inl ⟨by rfl, ?_⟩) (by assumption) ?_
                            rotate_left
                            · (intro w hSw; (try dsimp only at hSw); go_simp)
                              first | done | with_reducible rfl
                            simp only [Act.put, List.getElem_toArray, List.getElem_cons_zero, List.getElem_cons_succ, List.setIfInBounds_toArray, List.set_cons_zero, List.set_cons_succ]
                            refine wpAnyH_take (i := 16) (v := ?_) rfl (by kernel_rfl) (by kernel_rfl) (by kernel_rfl) (fun _ _ _ h => h) (Or.inl ⟨by rfl, ?_⟩) (by assumption) ?_
                            rotate_left
                            · (intro w hSw; (try dsimp only at hSw); go_simp)
                              first | done | with_reducible rfl
                            simp only [Act.put, List.getElem_toArray, List.getElem_cons_zero, List.getElem_cons_succ, List.setIfInBounds_toArray, List.set_cons_zero, List.set_cons_succ]
                            refine wpAnyH_take (i := 17) (v := ?_) rfl (by kernel_rfl) (by kernel_rfl) (by kernel_rfl) (fun _ _ _ h => h) (Or.inl ⟨by rfl, ?_⟩) (by assumption) ?_
                            rotate_left
                            · (intro w hSw; (try dsimp only at hSw); go_simp)
                              first | done | with_reducible rfl
                            simp only [Act.put, List.getElem_toArray, List.getElem_cons_zero, List.getElem_cons_succ, List.setIfInBounds_toArray, List.set_cons_zero, List.set_cons_succ]
                            refine wpAnyH_ready (rs := [18]) (by kernel_rfl) (by simp) ?_
                            refine AllReadyH.cons rfl (fun K hK => ?_) AllReadyH.nil
                            go_simp
                            refine (SI.out _).mono ?_
                            rintro e w18 ⟨rfl, rfl⟩
                            refine hK.out _ _ ?_ (fun hHeld => ?_)
                            · exact ⟨hHeld.1, hHeld.2.1, hHeld.2.2.1, hHeld.2.2.2.1, hHeld.2.2.2.2.1, hHeld.2.2.2.2.2.1, hHeld.2.2.2.2.2.2.1, hHeld.2.2.2.2.2.2.2.1, hHeld.2.2.2.2.2.2.2.2.1, hHeld.2.2.2.2.2.2.2.2.2⟩
                            clear hK K
                            try simp only [Act.put, List.getElem_toArray, List.getElem_cons_zero, List.getElem_cons_succ, List.setIfInBounds_toArray, List.set_cons_zero, List.set_cons_succ]
                            refine wpAnyH_take (i := 19) (v := ?_) rfl (by kernel_rfl) (by kernel_rfl) (by kernel_rfl) (fun _ _ _ h => h) (Or.inl ⟨by rfl, ?_⟩) (by assumption) ?_
                            rotate_left
                            · (intro w hSw; (try dsimp only at hSw); go_simp)
                              first | done | with_reducible rfl
                            simp only [Act.put, List.getElem_toArray, List.getElem_cons_zero, List.getElem_cons_succ, List.setIfInBounds_toArray, List.set_cons_zero, List.set_cons_succ]
                            refine wpAnyH_take (i := 20) (v := ?_) rfl (by kernel_rfl) (by kernel_rfl) (by kernel_rfl) (fun _ _ _ h => h) (Or.inl ⟨by rfl, ?_⟩) (by assumption) ?_
                            rotate_left
                            · (intro w hSw; (try dsimp only at hSw); go_simp)
                              first | done | with_reducible rfl
                            simp only [Act.put, List.getElem_toArray, List.getElem_cons_zero, List.getElem_cons_succ, List.setIfInBounds_toArray, List.set_cons_zero, List.set_cons_succ]
                            refine wpAnyH_take (i := 21) (v := ?_) rfl (by kernel_rfl) (by kernel_rfl) (by kernel_rfl) (fun _ _ _ h => h) (Or.inl ⟨by rfl, ?_⟩) (by assumption) ?_
                            rotate_left
                            · (intro w hSw; (try dsimp only at hSw); go_simp)
                              first | done | with_reducible rfl
                            simp only [Act.put, List.getElem_toArray, List.getElem_cons_zero, List.getElem_cons_succ, List.setIfInBounds_toArray, List.set_cons_zero, List.set_cons_succ]
                            refine wpAnyH_take (i := 22) (v := ?_) rfl (by kernel_rfl) (by kernel_rfl) (by kernel_rfl) (fun _ _ _ h => h) (Or.inl ⟨by rfl, ?_⟩) (by assumption) ?_
                            rotate_left
                            · (intro w hSw; (try dsimp only at hSw); go_simp)
                              first | done | with_reducible rfl
                            simp only [Act.put, List.getElem_toArray, List.getElem_cons_zero, List.getElem_cons_succ, List.setIfInBounds_toArray, List.set_cons_zero, List.set_cons_succ]
                            refine wpAnyH_take (i := 23) (v := ?_) rfl (by kernel_rfl) (by kernel_rfl) (by kernel_rfl) (fun _ _ _ h => h) (Or.inl ⟨by rfl, ?_⟩) (by assumption) ?_
                            rotate_left
                            · (intro w hSw; (try dsimp only at hSw); go_simp)
                              first | done | with_reducible rfl
                            simp only [Act.put, List.getElem_toArray, List.getElem_cons_zero, List.getElem_cons_succ, List.setIfInBounds_toArray, List.set_cons_zero, List.set_cons_succ]
                            try simp only [kkT]
                            refine wpAnyH_take (i := 24) (v := ?_) rfl (by kernel_rfl) (by kernel_rfl) (by kernel_rfl) (fun _ _ _ h => h) (Or.inl ⟨by rfl, ?_⟩) (by assumption) ?_
                            rotate_left
                            · (intro w hSw; (try dsimp only at hSw); go_simp)
                              first | done | with_reducible rfl
                            simp only [Act.put, List.getElem_toArray, List.getElem_cons_zero, List.getElem_cons_succ, List.setIfInBounds_toArray, List.set_cons_zero, List.set_cons_succ]
                            refine wpAnyH_take (i := 25) (v := ?_) rfl (by kernel_rfl) (by kernel_rfl) (by kernel_rfl) (fun _ _ _ h => h) (Or.inl ⟨by rfl, ?_⟩) (by assumption) ?_
                            rotate_left
                            · (intro w hSw; (try dsimp only at hSw); go_simp)
                              first | done | with_reducible rfl
                            simp only [Act.put, List.getElem_toArray, List.getElem_cons_zero, List.getElem_cons_succ, List.setIfInBounds_toArray, List.set_cons_zero, List.set_cons_succ]
                            refine wpAnyH_take (i := 26) (v := ?_) rfl (by kernel_rfl) (by kernel_rfl) (by kernel_rfl) (fun _ _ _ h => h) (Or.inl ⟨by rfl, ?_⟩) (by assumption) ?_
                            rotate_left
                            · (intro w hSw; (try dsimp only at hSw); go_simp)
                              first | done | with_reducible rfl
                            simp only [Act.put, List.getElem_toArray, List.getElem_cons_zero, List.getElem_cons_succ, List.setIfInBounds_toArray, List.set_cons_zero, List.set_cons_succ]
                            refine wpAnyH_take (i := 27) (v := ?_) rfl (by kernel_rfl) (by kernel_rfl) (by kernel_rfl) (fun _ _ _ h => h) (Or.inl ⟨by rfl, ?_⟩) (by assumption) ?_
                            rotate_left
                            · (intro w hSw; (try dsimp only at hSw); go_simp)
                              first | done | with_reducible rfl
                            simp only [Act.put, List.getElem_toArray, List.getElem_cons_zero, List.getElem_cons_succ, List.setIfInBounds_toArray, List.set_cons_zero, List.set_cons_succ]
                            refine wpAnyH_take (i := 28) (v := ?_) rfl (by kernel_rfl) (by kernel_rfl) (by kernel_rfl) (fun _ _ _ h => h) (Or.inl ⟨by rfl, ?_⟩) (by assumption) ?_
                            rotate_left
                            · (intro w hSw; (try dsimp only at hSw); go_simp)
                              first | done | with_reducible rfl
                            simp only [Act.put, List.getElem_toArray, List.getElem_cons_zero, List.getElem_cons_succ, List.setIfInBounds_toArray, List.set_cons_zero, List.set_cons_succ]
                            try simp only [i0]
                            refine wpAnyH_take (i := 29) (v := ?_) rfl (by kernel_rfl) (by kernel_rfl) (by kernel_rfl) (fun _ _ _ h => h) (Or.inl ⟨by rfl, ?_⟩) (by assumption) ?_
                            rotate_left
                            · (intro w hSw; (try dsimp only at hSw); go_simp)
                              first | done | with_reducible rfl
                            simp only [Act.put, List.getElem_toArray, List.getElem_cons_zero, List.getElem_cons_succ, List.setIfInBounds_toArray, List.set_cons_zero, List.set_cons_succ]
                            try simp only [i1]
                            refine wpAnyH_take (i := 30) (v := ?_) rfl (by kernel_rfl) (by kernel_rfl) (by kernel_rfl) (fun _ _ _ h => h) (Or.inl ⟨by rfl, ?_⟩) (by assumption) ?_
                            rotate_left
                            · (intro w hSw; (try dsimp only at hSw); go_simp)
                              first | done | with_reducible rfl
                            simp only [Act.put, List.getElem_toArray, List.getElem_cons_zero, List.getElem_cons_succ, List.setIfInBounds_toArray, List.set_cons_zero, List.set_cons_succ]
                            refine wpAnyH_take (i := 31) (v := ?_) rfl (by kernel_rfl) (by kernel_rfl) (by kernel_rfl) (fun _ _ _ h => h) (Or.inl ⟨by rfl, ?_⟩) (by assumption) ?_
                            rotate_left
                            · (intro w hSw; (try dsimp only at hSw); go_simp)
                              first | done | with_reducible rfl
                            simp only [Act.put, List.getElem_toArray, List.getElem_cons_zero, List.getElem_cons_succ, List.setIfInBounds_toArray, List.set_cons_zero, List.set_cons_succ]
                            refine wpAnyH_ready (rs := [32]) (by kernel_rfl) (by simp) ?_
                            refine AllReadyH.cons rfl (fun K hK => ?_) AllReadyH.nil
                            go_simp
                            refine (SC.out _).mono ?_
                            rintro e w32 ⟨⟨cc, rfl, hcc⟩, hu4⟩
                            have hc9 : (0 : Int) ≤ cc := by simpa using hcc
                            clear hcc
                            refine hK.out _ _ ?_ (fun hHeld => ?_)
                            · exact ⟨hu4.keep hHeld.1, hu4.keep hHeld.2.1, hu4.keep hHeld.2.2.1, hu4.keep hHeld.2.2.2.1, hu4.keep hHeld.2.2.2.2.1, hu4.keep hHeld.2.2.2.2.2.1, hu4.keep hHeld.2.2.2.2.2.2.1, hu4.keep hHeld.2.2.2.2.2.2.2.1, hu4.keep hHeld.2.2.2.2.2.2.2.2.1, hu4.keep hHeld.2.2.2.2.2.2.2.2.2⟩
                            clear hK K
                            try simp only [Act.put, List.getElem_toArray, List.getElem_cons_zero, List.getElem_cons_succ, List.setIfInBounds_toArray, List.set_cons_zero, List.set_cons_succ]
                            refine wpAnyH_take (i := 33) (v := ?_) rfl (by kernel_rfl) (by kernel_rfl) (by kernel_rfl) (fun _ _ _ h => h) (Or.inl ⟨by rfl, ?_⟩) (by assumption) ?_
                            rotate_left
                            · (intro w hSw; (try dsimp only at hSw); go_simp)
                              first | done | with_reducible rfl
                            simp only [Act.put, List.getElem_toArray, List.getElem_cons_zero, List.getElem_cons_succ, List.setIfInBounds_toArray, List.set_cons_zero, List.set_cons_succ]
                            refine wpAnyH_take (i := 34) (v := ?_) rfl (by kernel_rfl) (by kernel_rfl) (by kernel_rfl) (fun _ _ _ h => h) (Or.inl ⟨by rfl, ?_⟩) (by assumption) ?_
                            rotate_left
                            · (intro w hSw; (try dsimp only at hSw); go_simp)
                              first | done | with_reducible rfl
                            simp only [Act.put, List.getElem_toArray, List.getElem_cons_zero, List.getElem_cons_succ, List.setIfInBounds_toArray, List.set_cons_zero, List.set_cons_succ]
                            refine wpAnyH_take (i := 35) (v := ?_) rfl (by kernel_rfl) (by kernel_rfl) (by kernel_rfl) (fun _ _ _ h => h) (Or.inl ⟨by rfl, ?_⟩) (by assumption) ?_
                            rotate_left
                            · (intro w hSw; (try dsimp only at hSw); go_simp)
                              first | done | with_reducible rfl
                            simp only [Act.put, List.getElem_toArray, List.getElem_cons_zero, List.getElem_cons_succ, List.setIfInBounds_toArray, List.set_cons_zero, List.set_cons_succ]
                            refine wpAnyH_done (by kernel_rfl) ?_ _
                            have HU9 := Lib.hid (HB0.out.trans (((HU5.out.drew.trans hu1).trans hu2).trans hu4))
                            clear q0 q1 q2 HU5 hHeld y0 y1 y2 y3 z0 z1 z2
                            go_wp2_with fail
                            go_ret
                            exact ⟨by rw [HR.out]; rfl, HU9.out⟩
                          | true =>
                            rw [hlt9] at SC
                            have HA3 := Lib.hid (show allF (edP ⟨st, ini, labs, eds⟩) (k + 1) (eds.length - (k + 1)) = allF (edP ⟨st, ini, labs, eds⟩) 0 eds.length by rw [HA2.out, HEP.out, hlt9]; simp)
                            clear HA2 HEP hlt9 k0 HPR5
                            refine wp_region_held_drew (S := fun w' => w'.cell? ⟨w.heap.size, 0, none⟩ = some (ei st) ∧ w'.cell? ⟨w.heap.size, 1, none⟩ = some (ei ini) ∧ w'.cell? ⟨w.heap.size, 2, none⟩ = some (.slice a1 labs.length c1) ∧ w'.cell? ⟨w.heap.size, 3, none⟩ = some (.slice (some ⟨b1, o1, none⟩) eds.length c2) ∧ w'.cell? ⟨BB, 0, none⟩ = some (ei fr) ∧ w'.cell? ⟨BB, 1, none⟩ = some (ei lb) ∧ w'.cell? ⟨BB, 2, none⟩ = some (ei td) ∧ w'.cell? ⟨b1, o1 + (k - 1) * 3, none⟩ = some (ei pk.fr) ∧ w'.cell? ⟨b1, o1 + (k - 1) * 3 + 1, none⟩ = some (ei pk.lb) ∧ w'.cell? ⟨b1, o1 + (k - 1) * 3 + 2, none⟩ = some (ei pk.to)) (by kernel_rfl) ?_ (fun hHeld => ?_)
                            · exact ⟨y0, y1, y2, y3, z0, z1, z2, q0, q1, q2⟩
                            refine wpAnyH_take (i := 0) (v := ?_) rfl (by kernel_rfl) (by kernel_rfl) (by kernel_rfl) (fun _ _ _ h => h) (Or.inl ⟨by rfl, ?_⟩) (by assumption) ?_
                            rotate_left
                            · (intro w hSw; (try dsimp only at hSw); go_simp)
                              first | done | with_reducible rfl
                            simp only [Act.put, List.getElem_toArray, List.getElem_cons_zero, List.setIfInBounds_toArray, List.set_cons_zero, List.set_cons_succ]
                            refine wpAnyH_take (i := 1) (v := ?_) rfl (by kernel_rfl) (by kernel_rfl) (by kernel_rfl) (fun _ _ _ h => h) (Or.inl ⟨by rfl, ?_⟩) (by assumption) ?_
                            rotate_left
                            · (intro w hSw; (try dsimp only at hSw); go_simp)
                              first | done | with_reducible rfl
                            simp only [Act.put, List.getElem_toArray, List.getElem_cons_zero, List.getElem_cons_succ, List.setIfInBounds_toArray, List.set_cons_zero, List.set_cons_succ]
                            refine wpAnyH_take (i := 2) (v := ?_) rfl (by kernel_rfl) (by kernel_rfl) (by kernel_rfl) (fun _ _ _ h => h) (Or.inl ⟨by rfl, ?_⟩) (by assumption) ?_
                            rotate_left
                            · (intro w hSw; (try dsimp only at hSw); go_simp)
                              first | done | with_reducible rfl
                            simp only [Act.put, List.getElem_toArray, List.getElem_cons_zero, List.getElem_cons_succ, List.setIfInBounds_toArray, List.set_cons_zero, List.set_cons_succ]
                            refine wpAnyH_ready (rs := [3]) (by kernel_rfl) (by simp) ?_
                            refine AllReadyH.cons rfl (fun K hK => ?_) AllReadyH.nil
                            go_simp
                            refine (SF.out _).mono ?_
                            rintro e w3 ⟨rfl, hu1⟩
                            refine hK.out _ _ ?_ (fun hHeld => ?_)
                            · exact ⟨hu1.keep hHeld.1, hu1.keep hHeld.2.1, hu1.keep hHeld.2.2.1, hu1.keep hHeld.2.2.2.1, hu1.keep hHeld.2.2.2.2.1, hu1.keep hHeld.2.2.2.2.2.1, hu1.keep hHeld.2.2.2.2.2.2.1, hu1.keep hHeld.2.2.2.2.2.2.2.1, hu1.keep hHeld.2.2.2.2.2.2.2.2.1, hu1.keep hHeld.2.2.2.2.2.2.2.2.2⟩
                            clear hK K
                            try simp only [Act.put, List.getElem_toArray, List.getElem_cons_zero, List.getElem_cons_succ, List.setIfInBounds_toArray, List.set_cons_zero, List.set_cons_succ]
                            refine wpAnyH_take (i := 4) (v := ?_) rfl (by kernel_rfl) (by kernel_rfl) (by kernel_rfl) (fun _ _ _ h => h) (Or.inl ⟨by rfl, ?_⟩) (by assumption) ?_
                            rotate_left
                            · (intro w hSw; (try dsimp only at hSw); go_simp)
                              first | done | with_reducible rfl
                            simp only [Act.put, List.getElem_toArray, List.getElem_cons_zero, List.getElem_cons_succ, List.setIfInBounds_toArray, List.set_cons_zero, List.set_cons_succ]
                            refine wpAnyH_take (i := 5) (v := ?_) rfl (by kernel_rfl) (by kernel_rfl) (by kernel_rfl) (fun _ _ _ h => h) (Or.inl ⟨by rfl, ?_⟩) (by assumption) ?_
                            rotate_left
                            · (intro w hSw; (try dsimp only at hSw); go_simp)
                              first | done | with_reducible rfl
                            simp only [Act.put, List.getElem_toArray, List.getElem_cons_zero, List.getElem_cons_succ, List.setIfInBounds_toArray, List.set_cons_zero, List.set_cons_succ]
                            refine wpAnyH_take (i := 6) (v := ?_) rfl (by kernel_rfl) (by kernel_rfl) (by kernel_rfl) (fun _ _ _ h => h) (Or.inl ⟨by rfl, ?_⟩) (by assumption) ?_
                            rotate_left
                            · (intro w hSw; (try dsimp only at hSw); go_simp)
                              first | done | with_reducible rfl
                            simp only [Act.put, List.getElem_toArray, List.getElem_cons_zero, List.getElem_cons_succ, List.setIfInBounds_toArray, List.set_cons_zero, List.set_cons_succ]
                            refine wpAnyH_take (i := 7) (v := ?_) rfl (by kernel_rfl) (by kernel_rfl) (by kernel_rfl) (fun _ _ _ h => h) (Or.inl ⟨by rfl, ?_⟩) (by assumption) ?_
                            rotate_left
                            · (intro w hSw; (try dsimp only at hSw); go_simp)
                              first | done | with_reducible rfl
                            simp only [Act.put, List.getElem_toArray, List.getElem_cons_zero, List.getElem_cons_succ, List.setIfInBounds_toArray, List.set_cons_zero, List.set_cons_succ]
                            refine wpAnyH_take (i := 8) (v := ?_) rfl (by kernel_rfl) (by kernel_rfl) (by kernel_rfl) (fun _ _ _ h => h) (Or.inl ⟨by rfl, ?_⟩) (by assumption) ?_
                            rotate_left
                            · (intro w hSw; (try dsimp only at hSw); go_simp)
                              first | done | with_reducible rfl
                            simp only [Act.put, List.getElem_toArray, List.getElem_cons_zero, List.getElem_cons_succ, List.setIfInBounds_toArray, List.set_cons_zero, List.set_cons_succ]
                            refine wpAnyH_ready (rs := [9]) (by kernel_rfl) (by simp) ?_
                            refine AllReadyH.cons rfl (fun K hK => ?_) AllReadyH.nil
                            go_simp
                            refine (ST.out _).mono ?_
                            rintro e w9 ⟨rfl, hu2⟩
                            refine hK.out _ _ ?_ (fun hHeld => ?_)
                            · exact ⟨hu2.keep hHeld.1, hu2.keep hHeld.2.1, hu2.keep hHeld.2.2.1, hu2.keep hHeld.2.2.2.1, hu2.keep hHeld.2.2.2.2.1, hu2.keep hHeld.2.2.2.2.2.1, hu2.keep hHeld.2.2.2.2.2.2.1, hu2.keep hHeld.2.2.2.2.2.2.2.1, hu2.keep hHeld.2.2.2.2.2.2.2.2.1, hu2.keep hHeld.2.2.2.2.2.2.2.2.2⟩
                            clear hK K
                            try simp only [Act.put, List.getElem_toArray, List.getElem_cons_zero, List.getElem_cons_succ, List.setIfInBounds_toArray, List.set_cons_zero, List.set_cons_succ]
                            refine wpAnyH_take (i := 10) (v := ?_) rfl (by kernel_rfl) (by kernel_rfl) (by kernel_rfl) (fun _ _ _ h => h) (Or.inl ⟨by rfl, ?_⟩) (by assumption) ?_
                            rotate_left
                            · (intro w hSw; (try dsimp only at hSw); go_simp)
                              first | done | with_reducible rfl
                            simp only [Act.put, List.getElem_toArray, List.getElem_cons_zero, List.getElem_cons_succ, List.setIfInBounds_toArray, List.set_cons_zero, List.set_cons_succ]
                            refine wpAnyH_take (i := 11) (v := ?_) rfl (by kernel_rfl) (by kernel_rfl) (by kernel_rfl) (fun _ _ _ h => h) (Or.inl ⟨by rfl, ?_⟩) (by assumption) ?_
                            rotate_left
                            · (intro w hSw; (try dsimp only at hSw); go_simp)
                              first | done | with_reducible rfl
                            simp only [Act.put, List.getElem_toArray, List.getElem_cons_zero, List.getElem_cons_succ, List.setIfInBounds_toArray, List.set_cons_zero, List.set_cons_succ]
                            refine wpAnyH_take (i := 12) (v := ?_) rfl (by kernel_rfl) (by kernel_rfl) (by kernel_rfl) (fun _ _ _ h => h) (Or.inl ⟨by rfl, ?_⟩) (by assumption) ?_
                            rotate_left
                            · (intro w hSw; (try dsimp only at hSw); go_simp)
                              first | done | with_reducible rfl
                            simp only [Act.put, List.getElem_toArray, List.getElem_cons_zero, List.getElem_cons_succ, List.setIfInBounds_toArray, List.set_cons_zero, List.set_cons_succ]
                            refine wpAnyH_take (i := 13) (v := ?_) rfl (by kernel_rfl) (by kernel_rfl) (by kernel_rfl) (fun _ _ _ h => h) (Or.inl ⟨by rfl, ?_⟩) (by assumption) ?_
                            rotate_left
                            · (intro w hSw; (try dsimp only at hSw); go_simp)
                              first | done | with_reducible rfl
                            simp only [Act.put, List.getElem_toArray, List.getElem_cons_zero, List.getElem_cons_succ, List.setIfInBounds_toArray, List.set_cons_zero, List.set_cons_succ]
                            refine wpAnyH_take (i := 14) (v := ?_) rfl (by kernel_rfl) (by kernel_rfl) (by kernel_rfl) (fun _ _ _ h => h) (Or.inl ⟨by rfl, ?_⟩) (by assumption) ?_
                            rotate_left
                            · (intro w hSw; (try dsimp only at hSw); go_simp)
                              first | done | with_reducible rfl
                            simp only [Act.put, List.getElem_toArray, List.getElem_cons_zero, List.getElem_cons_succ, List.setIfInBounds_toArray, List.set_cons_zero, List.set_cons_succ]
                            refine wpAnyH_take (i := 15) (v := ?_) rfl (by kernel_rfl) (by kernel_rfl) (by kernel_rfl) (fun _ _ _ h => h) (Or.inl ⟨by rfl, ?_⟩) (by assumption) ?_
                            rotate_left
                            · (intro w hSw; (try dsimp only at hSw); go_simp)
                              first | done | with_reducible rfl
                            simp only [Act.put, List.getElem_toArray, List.getElem_cons_zero, List.getElem_cons_succ, List.setIfInBounds_toArray, List.set_cons_zero, List.set_cons_succ]
                            refine wpAnyH_take (i := 16) (v := ?_) rfl (by kernel_rfl) (by kernel_rfl) (by kernel_rfl) (fun _ _ _ h => h) (Or.inl ⟨by rfl, ?_⟩) (by assumption) ?_
                            rotate_left
                            · (intro w hSw; (try dsimp only at hSw); go_simp)
                              first | done | with_reducible rfl
                            simp only [Act.put, List.getElem_toArray, List.getElem_cons_zero, List.getElem_cons_succ, List.setIfInBounds_toArray, List.set_cons_zero, List.set_cons_succ]
                            refine wpAnyH_take (i := 17) (v := ?_) rfl (by kernel_rfl) (by kernel_rfl) (by kernel_rfl) (fun _ _ _ h => h) (Or.inl ⟨by rfl, ?_⟩) (by assumption) ?_
                            rotate_left
                            · (intro w hSw; (try dsimp only at hSw); go_simp)
                              first | done | with_reducible rfl
                            simp only [Act.put, List.getElem_toArray, List.getElem_cons_zero, List.getElem_cons_succ, List.setIfInBounds_toArray, List.set_cons_zero, List.set_cons_succ]
                            refine wpAnyH_ready (rs := [18]) (by kernel_rfl) (by simp) ?_
                            refine AllReadyH.cons rfl (fun K hK => ?_) AllReadyH.nil
                            go_simp
                            refine (SI.out _).mono ?_
                            rintro e w18 ⟨rfl, rfl⟩
                            refine hK.out _ _ ?_ (fun hHeld => ?_)
                            · exact ⟨hHeld.1, hHeld.2.1, hHeld.2.2.1, hHeld.2.2.2.1, hHeld.2.2.2.2.1, hHeld.2.2.2.2.2.1, hHeld.2.2.2.2.2.2.1, hHeld.2.2.2.2.2.2.2.1, hHeld.2.2.2.2.2.2.2.2.1, hHeld.2.2.2.2.2.2.2.2.2⟩
                            clear hK K
                            try simp only [Act.put, List.getElem_toArray, List.getElem_cons_zero, List.getElem_cons_succ, List.setIfInBounds_toArray, List.set_cons_zero, List.set_cons_succ]
                            refine wpAnyH_take (i := 19) (v := ?_) rfl (by kernel_rfl) (by kernel_rfl) (by kernel_rfl) (fun _ _ _ h => h) (Or.inl ⟨by rfl, ?_⟩) (by assumption) ?_
                            rotate_left
                            · (intro w hSw; (try dsimp only at hSw); go_simp)
                              first | done | with_reducible rfl
                            simp only [Act.put, List.getElem_toArray, List.getElem_cons_zero, List.getElem_cons_succ, List.setIfInBounds_toArray, List.set_cons_zero, List.set_cons_succ]
                            refine wpAnyH_take (i := 20) (v := ?_) rfl (by kernel_rfl) (by kernel_rfl) (by kernel_rfl) (fun _ _ _ h => h) (Or.inl ⟨by rfl, ?_⟩) (by assumption) ?_
                            rotate_left
                            · (intro w hSw; (try dsimp only at hSw); go_simp)
                              first | done | with_reducible rfl
                            simp only [Act.put, List.getElem_toArray, List.getElem_cons_zero, List.getElem_cons_succ, List.setIfInBounds_toArray, List.set_cons_zero, List.set_cons_succ]
                            refine wpAnyH_take (i := 21) (v := ?_) rfl (by kernel_rfl) (by kernel_rfl) (by kernel_rfl) (fun _ _ _ h => h) (Or.inl ⟨by rfl, ?_⟩) (by assumption) ?_
                            rotate_left
                            · (intro w hSw; (try dsimp only at hSw); go_simp)
                              first | done | with_reducible rfl
                            simp only [Act.put, List.getElem_toArray, List.getElem_cons_zero, List.getElem_cons_succ, List.setIfInBounds_toArray, List.set_cons_zero, List.set_cons_succ]
                            refine wpAnyH_take (i := 22) (v := ?_) rfl (by kernel_rfl) (by kernel_rfl) (by kernel_rfl) (fun _ _ _ h => h) (Or.inl ⟨by rfl, ?_⟩) (by assumption) ?_
                            rotate_left
                            · (intro w hSw; (try dsimp only at hSw); go_simp)
                              first | done | with_reducible rfl
                            simp only [Act.put, List.getElem_toArray, List.getElem_cons_zero, List.getElem_cons_succ, List.setIfInBounds_toArray, List.set_cons_zero, List.set_cons_succ]
                            refine wpAnyH_take (i := 23) (v := ?_) rfl (by kernel_rfl) (by kernel_rfl) (by kernel_rfl) (fun _ _ _ h => h) (Or.inl ⟨by rfl, ?_⟩) (by assumption) ?_
                            rotate_left
                            · (intro w hSw; (try dsimp only at hSw); go_simp)
                              first | done | with_reducible rfl
                            simp only [Act.put, List.getElem_toArray, List.getElem_cons_zero, List.getElem_cons_succ, List.setIfInBounds_toArray, List.set_cons_zero, List.set_cons_succ]
                            try simp only [kkT]
                            refine wpAnyH_take (i := 24) (v := ?_) rfl (by kernel_rfl) (by kernel_rfl) (by kernel_rfl) (fun _ _ _ h => h) (Or.inl ⟨by rfl, ?_⟩) (by assumption) ?_
                            rotate_left
                            · (intro w hSw; (try dsimp only at hSw); go_simp)
                              first | done | with_reducible rfl
                            simp only [Act.put, List.getElem_toArray, List.getElem_cons_zero, List.getElem_cons_succ, List.setIfInBounds_toArray, List.set_cons_zero, List.set_cons_succ]
                            refine wpAnyH_take (i := 25) (v := ?_) rfl (by kernel_rfl) (by kernel_rfl) (by kernel_rfl) (fun _ _ _ h => h) (Or.inl ⟨by rfl, ?_⟩) (by assumption) ?_
                            rotate_left
                            · (intro w hSw; (try dsimp only at hSw); go_simp)
                              first | done | with_reducible rfl
                            simp only [Act.put, List.getElem_toArray, List.getElem_cons_zero, List.getElem_cons_succ, List.setIfInBounds_toArray, List.set_cons_zero, List.set_cons_succ]
                            refine wpAnyH_take (i := 26) (v := ?_) rfl (by kernel_rfl) (by kernel_rfl) (by kernel_rfl) (fun _ _ _ h => h) (Or.inl ⟨by rfl, ?_⟩) (by assumption) ?_
                            rotate_left
                            · (intro w hSw; (try dsimp only at hSw); go_simp)
                              first | done | with_reducible rfl
                            simp only [Act.put, List.getElem_toArray, List.getElem_cons_zero, List.getElem_cons_succ, List.setIfInBounds_toArray, List.set_cons_zero, List.set_cons_succ]
                            refine wpAnyH_take (i := 27) (v := ?_) rfl (by kernel_rfl) (by kernel_rfl) (by kernel_rfl) (fun _ _ _ h => h) (Or.inl ⟨by rfl, ?_⟩) (by assumption) ?_
                            rotate_left
                            · (intro w hSw; (try dsimp only at hSw); go_simp)
                              first | done | with_reducible rfl
                            simp only [Act.put, List.getElem_toArray, List.getElem_cons_zero, List.getElem_cons_succ, List.setIfInBounds_toArray, List.set_cons_zero, List.set_cons_succ]
                            refine wpAnyH_take (i := 28) (v := ?_) rfl (by kernel_rfl) (by kernel_rfl) (by kernel_rfl) (fun _ _ _ h => h) (Or.inl ⟨by rfl, ?_⟩) (by assumption) ?_
                            rotate_left
                            · (intro w hSw; (try dsimp only at hSw); go_simp)
                              first | done | with_reducible rfl
                            simp only [Act.put, List.getElem_toArray, List.getElem_cons_zero, List.getElem_cons_succ, List.setIfInBounds_toArray, List.set_cons_zero, List.set_cons_succ]
                            try simp only [i0]
                            refine wpAnyH_take (i := 29) (v := ?_) rfl (by kernel_rfl) (by kernel_rfl) (by kernel_rfl) (fun _ _ _ h => h) (Or.inl ⟨by rfl, ?_⟩) (by assumption) ?_
                            rotate_left
                            · (intro w hSw; (try dsimp only at hSw); go_simp)
                              first | done | with_reducible rfl
                            simp only [Act.put, List.getElem_toArray, List.getElem_cons_zero, List.getElem_cons_succ, List.setIfInBounds_toArray, List.set_cons_zero, List.set_cons_succ]
                            try simp only [i1]
                            refine wpAnyH_take (i := 30) (v := ?_) rfl (by kernel_rfl) (by kernel_rfl) (by kernel_rfl) (fun _ _ _ h => h) (Or.inl ⟨by rfl, ?_⟩) (by assumption) ?_
                            rotate_left
                            · (intro w hSw; (try dsimp only at hSw); go_simp)
                              first | done | with_reducible rfl
                            simp only [Act.put, List.getElem_toArray, List.getElem_cons_zero, List.getElem_cons_succ, List.setIfInBounds_toArray, List.set_cons_zero, List.set_cons_succ]
                            refine wpAnyH_take (i := 31) (v := ?_) rfl (by kernel_rfl) (by kernel_rfl) (by kernel_rfl) (fun _ _ _ h => h) (Or.inl ⟨by rfl, ?_⟩) (by assumption) ?_
                            rotate_left
                            · (intro w hSw; (try dsimp only at hSw); go_simp)
                              first | done | with_reducible rfl
                            simp only [Act.put, List.getElem_toArray, List.getElem_cons_zero, List.getElem_cons_succ, List.setIfInBounds_toArray, List.set_cons_zero, List.set_cons_succ]
                            refine wpAnyH_ready (rs := [32]) (by kernel_rfl) (by simp) ?_
                            refine AllReadyH.cons rfl (fun K hK => ?_) AllReadyH.nil
                            go_simp
                            refine (SC.out _).mono ?_
                            rintro e w32 ⟨⟨cc, rfl, hcc⟩, hu4⟩
                            have hc9 : ¬ (0 : Int) ≤ cc := by simpa using hcc
                            clear hcc
                            refine hK.out _ _ ?_ (fun hHeld => ?_)
                            · exact ⟨hu4.keep hHeld.1, hu4.keep hHeld.2.1, hu4.keep hHeld.2.2.1, hu4.keep hHeld.2.2.2.1, hu4.keep hHeld.2.2.2.2.1, hu4.keep hHeld.2.2.2.2.2.1, hu4.keep hHeld.2.2.2.2.2.2.1, hu4.keep hHeld.2.2.2.2.2.2.2.1, hu4.keep hHeld.2.2.2.2.2.2.2.2.1, hu4.keep hHeld.2.2.2.2.2.2.2.2.2⟩
                            clear hK K
                            try simp only [Act.put, List.getElem_toArray, List.getElem_cons_zero, List.getElem_cons_succ, List.setIfInBounds_toArray, List.set_cons_zero, List.set_cons_succ]
                            refine wpAnyH_take (i := 33) (v := ?_) rfl (by kernel_rfl) (by kernel_rfl) (by kernel_rfl) (fun _ _ _ h => h) (Or.inl ⟨by rfl, ?_⟩) (by assumption) ?_
                            rotate_left
                            · (intro w hSw; (try dsimp only at hSw); go_simp)
                              first | done | with_reducible rfl
                            simp only [Act.put, List.getElem_toArray, List.getElem_cons_zero, List.getElem_cons_succ, List.setIfInBounds_toArray, List.set_cons_zero, List.set_cons_succ]
                            refine wpAnyH_take (i := 34) (v := ?_) rfl (by kernel_rfl) (by kernel_rfl) (by kernel_rfl) (fun _ _ _ h => h) (Or.inl ⟨by rfl, ?_⟩) (by assumption) ?_
                            rotate_left
                            · (intro w hSw; (try dsimp only at hSw); go_simp)
                              first | done | with_reducible rfl
                            simp only [Act.put, List.getElem_toArray, List.getElem_cons_zero, List.getElem_cons_succ, List.setIfInBounds_toArray, List.set_cons_zero, List.set_cons_succ]
                            refine wpAnyH_take (i := 35) (v := ?_) rfl (by kernel_rfl) (by kernel_rfl) (by kernel_rfl) (fun _ _ _ h => h) (Or.inl ⟨by rfl, ?_⟩) (by assumption) ?_
                            rotate_left
                            · (intro w hSw; (try dsimp only at hSw); go_simp)
                              first | done | with_reducible rfl
                            simp only [Act.put, List.getElem_toArray, List.getElem_cons_zero, List.getElem_cons_succ, List.setIfInBounds_toArray, List.set_cons_zero, List.set_cons_succ]
                            refine wpAnyH_done (by kernel_rfl) ?_ _
                            have HU9 := Lib.hid (((HU5.out.drew.trans hu1).trans hu2).trans hu4)
                            clear q0 q1 q2 HU5 hHeld y0 y1 y2 y3 z0 z1 z2
                            go_wp2_with fail
                            go_roundw
                            case rel => exact ⟨k + 1, by omega, by go_num, HA3, HU9.out⟩
                            case measure => simp [intOf]; omega
                · have HR := Lib.hid (show sysOk ⟨st, ini, labs, eds⟩ = true by rw [HOK3.out, ← HA.out, show k = eds.length by omega, allF_end])
                  have HU := Lib.hid (HB0.out.trans hU)
                  clear HA hU
                  go_wp2_with fail
                  go_ret
                  exact ⟨by rw [HR.out]; rfl, HU.out⟩
        · have HR := Lib.hid (show sysOk ⟨st, ini, labs, eds⟩ = false by rw [HOK.out, decide_eq_false hel]; simp)
          have he3 : (300 : Int) < (eds.length : Int) := by omega
          clear HOK HLO hb1 hb2 hb3 hel
          go_enter Tryz.func22, Tryz.ntmps22
          go_wp2_with fail
          refine (S1.out _).mono ?_
          rintro e w1 ⟨rfl, rfl⟩
          clear S1
          go_wp2_with fail
          refine (S2.out _).mono ?_
          rintro e w2 ⟨rfl, hu2⟩
          have HU2 := Lib.hid (HB0.out.trans hu2)
          obtain ⟨x0, x1, x2, x3⟩ := HBX.out w2 hu2
          clear S2 hu2
          go_wp2_with fail
          refine (S3.out _).mono ?_
          rintro e w3 ⟨rfl, rfl⟩
          clear S3
          go_wp2_with fail
          go_ret
          exact ⟨by rw [HR.out]; rfl, HU2.out⟩

end Go.Proofs.YtdnjjanacbkijaaGreatDoor

/-
  Modal formulas, the program: StatesWhere.
-/
namespace Go.Proofs.YtdnjjanacbkijaaGreatDoor
open Go.RowKit

theorem tAt_congr {f g : Nat → Bool} {n : Nat} (h : ∀ s, s < n → f s = g s) : tAt f n = tAt g n := by
  unfold tAt
  rw [List.filter_congr fun s hs => h s (List.mem_range.1 hs)]

set_option maxRecDepth 20000 in
set_option maxHeartbeats 4000000 in
theorem statesI (v : Value) (x : Tr Nd) (S : Sys) (v1 v2 : Value) (w : World) (fp f1 f2 : List Nat) (hl : (flatT x).length ≤ 1000) (hMX : MX x) (hs : ∀ nd ∈ flatT x, nd.lb.length ≤ 1000) (hok : modOk (flatT x) = true)
    (hS : DrSys2 S) (hlab : ∀ l ∈ S.labs, l.length ≤ 1000) (he : Env w) (hR : R_F1 fp w [v] (flatT x)) (h1 : R_S1 f1 w [v1] S.labs) (h2 : R_E1 f2 w [v2] S.eds) :
    Calls Tryz.prog 10 #[v, .agg #[ei S.st, ei S.ini, v1, v2]] w fun e w' => (∃ v', e = .returned (.tuple #[v', .int .i64 0]) ∧ New R_I1 w w' v' (tAt (hT (selS S) S x) S.st.toNat)) ∧ Upd [] w w' := by
  have hx := (mx_ok hMX).1
  have S1 := Lib.hid (fun W (hu : Upd [] w W) => validMI v (flatT x) W fp (R_F1k.upd hR hu (by simp)) (by omega) (fun n hn => by have := hs n hn; omega) (he.upd hu))
  rw [hok] at S1
  obtain ⟨m, hm⟩ : ∃ m : Nat, S.st = m := ⟨S.st.toNat, by have := hS.st0; omega⟩
  have hm1 : 1 ≤ m ∧ m ≤ 40 := by have := hS.st0; have := hS.st1; omega
  have S2 := Lib.hid (fun W (hu : Upd [] w W) => validI S v1 v2 W f1 f2 (RSk.upd h1 hu (by simp)) (R_E1k.upd h2 hu (by simp)) (fun p hp => by have := hlab p hp; omega) (he.upd hu))
  rw [hS.ok] at S2
  have S4 := Lib.hid (fun W (hu : Upd [] w W) => formOf x W v fp hx hl (R_F1k.upd hR hu (by simp)))
  have S5 := Lib.hid (fun W b0 f' (hu : Upd [] w W) (hr : R_X f' W [.pointer (some ⟨b0, 0, none⟩)] x) => whereI S m v1 v2 f1 f2 hm hm1 (by have := hS.len; omega) (fun e he => by have := hS.each e he; unfold EdIn at this; rw [hm] at this; simpa using this) hlab _ x W _ f' (Nat.le_refl _) hMX hs hr (RSk.upd h1 hu (by simp)) (R_E1k.upd h2 hu (by simp)) (he.upd hu))
  have S6 := Lib.hid (fun W r (hB : BlkB r W (HL S m x)) => trueI r m _ W (HL_len S m x) hm1.2 hB)
  have HT := Lib.hid (show tAt (fun s => (HL S m x).getD s false) m = tAt (hT (selS S) S x) S.st.toNat from by
    rw [hm, Int.toNat_natCast]
    exact tAt_congr fun s hs => HL_get S m x s hs)
  rw [hm] at S2 ⊢
  generalize tAt (fun s => (HL S m x).getD s false) m = T1 at *
  rw [hm] at HT
  clear hR h1 h2 he hs hok hx hl hS hlab hm hMX hm1
  have HB0 := Lib.hid (fun W T (hW : w.alloc (.cells #[ei (m : Int), ei S.ini, v1, v2] T) = W) => show Upd [] w W ∧ RowAt W w.heap.size T [ei (m : Int), ei S.ini, v1, v2] from by
    subst hW
    exact ⟨(Upd.refl _ _).alloc _, RowAt.new w T _⟩)
  rw [← HT.out]
  clear HT
  go_enter Tryz.func10, Tryz.ntmps10
  go_upto_region 1 with (fail)
  obtain ⟨wA, hwA⟩ : ∃ wA, w.alloc (.cells #[ei (m : Int), ei S.ini, v1, v2] 27) = wA := ⟨_, rfl⟩
  obtain ⟨uA, rA⟩ := HB0.out wA _ hwA
  rw [hwA]
  have HUA := Lib.hid uA
  have HRA := Lib.hid rA
  clear hwA uA rA HB0
  have T1' := Lib.hid (S1.out wA HUA.out)
  clear S1
  go_wp2_with fail
  refine T1'.out.mono ?_
  rintro _ w1 ⟨rfl, hu1⟩
  have HU1 := Lib.hid (HUA.out.trans hu1)
  have HR1 := Lib.hid (HRA.out.upd hu1 (by simp))
  have e0 := HR1.out.cell 0 _ rfl
  have e1 := HR1.out.cell 1 _ rfl
  have e2 := HR1.out.cell 2 _ rfl
  have e3 := HR1.out.cell 3 _ rfl
  have T2 := Lib.hid (S2.out w1 HU1.out)
  clear T1' S2 hu1 HRA HUA
  go_wp2_with fail
  refine T2.out.mono ?_
  rintro _ w2 ⟨rfl, hu2⟩
  have HU2 := Lib.hid (HU1.out.trans hu2)
  have e0 := hu2.keep e0
  have e1 := hu2.keep e1
  have e2 := hu2.keep e2
  have e3 := hu2.keep e3
  have T4 := Lib.hid (S4.out w2.drew HU2.out.drew)
  clear T2 S4 hu2 HR1 HU1
  go_upto_region 3 with (fail)
  go_region_held3 (fun w' => w'.cell? ⟨w.heap.size, 0, none⟩ = some (ei (m : Int)) ∧ w'.cell? ⟨w.heap.size, 1, none⟩ = some (ei S.ini) ∧ w'.cell? ⟨w.heap.size, 2, none⟩ = some v1 ∧ w'.cell? ⟨w.heap.size, 3, none⟩ = some v2) (go_keep)
    (first
      | ((with_reducible refine T4.out.mono ?_); rintro e w3 ⟨⟨v', rfl, f', hr, -, -⟩, hu3⟩; obtain ⟨b0, rfl⟩ := R_T_form hr; have t0 := hu3.keep e0; have t1 := hu3.keep e1; have t2 := hu3.keep e2; have t3 := hu3.keep e3)
      | ((with_reducible refine (S5.out w3 b0 f' (HU2.out.drew.trans hu3) hr).mono ?_); rintro e w4 ⟨⟨r, rfl, hbr, hr9⟩, hu4⟩; have t0 := hu4.keep t0; have t1 := hu4.keep t1; have t2 := hu4.keep t2; have t3 := hu4.keep t3)
      | ((with_reducible refine (S6.out w4 r hbr).mono ?_); rintro e w5 ⟨⟨v9, rfl, hn⟩, hu5⟩; have t0 := hu5.keep t0; have t1 := hu5.keep t1; have t2 := hu5.keep t2; have t3 := hu5.keep t3))
  all_goals
    have HF := Lib.hid (And.intro (hn.mono ((HU2.out.drew.trans hu3).trans hu4).size) (((HU2.out.drew.trans hu3).trans hu4).trans hu5))
    clear T4 S5 S6 hn hr hbr
    go_wp2_with fail
    go_ret2
    exact ⟨⟨_, rfl, HF.out.1⟩, HF.out.2⟩

end Go.Proofs.YtdnjjanacbkijaaGreatDoor

/-
  Modal formulas, the program: DualModal, ModalDepth.
-/
namespace Go.Proofs.YtdnjjanacbkijaaGreatDoor
open Go.RowKit

def nR (l : List Nd) : List Value := l.flatMap encN
theorem nR_len (l : List Nd) : (nR l).length = l.length * 4 := by
  induction l with
  | nil => rfl
  | cons a l ih => simp only [nR, List.flatMap_cons, List.length_append, List.length_cons, List.length_nil] at *; omega
theorem nR_split {l : List Nd} {i : Nat} (h : i < l.length) : nR l = nR (l.take i) ++ (ei l[i].kd :: ([ei l[i].vr, es l[i].lb, .bool l[i].nt] ++ nR (l.drop (i + 1)))) ∧ (nR (l.take i)).length = i * 4 := by
  refine ⟨?_, by rw [nR_len, List.length_take, Nat.min_eq_left (by omega)]⟩
  have e : l = l.take i ++ l[i] :: l.drop (i + 1) := by rw [← List.drop_eq_getElem_cons h, List.take_append_drop]
  conv => lhs; rw [e]
  simp only [nR, List.flatMap_append, List.flatMap_cons]
  rfl
theorem nR_get {l : List Nd} {i : Nat} (h : i < l.length) : (nR l)[i * 4]? = some (ei l[i].kd) := by
  obtain ⟨h1, h2⟩ := nR_split h
  rw [h1, List.getElem?_append_right (by omega), h2, Nat.sub_self]; rfl
theorem nR_set {l : List Nd} {i : Nat} (h : i < l.length) (k : Int) : (nR l).set (i * 4) (ei k) = nR (l.set i { l[i] with kd := k }) := by
  obtain ⟨h1, h2⟩ := nR_split h
  rw [h1, List.set_append_right _ _ (by omega), h2, Nat.sub_self, List.set_cons_zero, List.set_eq_take_append_cons_drop, if_pos h]
  simp only [nR, List.flatMap_append, List.flatMap_cons]
  rfl
theorem dual_step {l : List Nd} {i : Nat} (h : i < l.length) : ((l.take i).map dualN ++ l.drop i).set i { l[i] with kd := dkF l[i].kd } = (l.take (i + 1)).map dualN ++ l.drop (i + 1) := by
  have hl : ((l.take i).map dualN).length = i := by rw [List.length_map, List.length_take]; omega
  rw [List.set_append_right _ _ (by omega), hl, Nat.sub_self, List.drop_eq_getElem_cons h, List.set_cons_zero, List.take_succ_eq_append_getElem h, List.map_append, List.append_assoc]
  rfl
theorem dual_get {l : List Nd} {i : Nat} (h : i < l.length) : ∃ h2 : i < ((l.take i).map dualN ++ l.drop i).length, ((l.take i).map dualN ++ l.drop i)[i] = l[i] := by
  have hl : ((l.take i).map dualN).length = i := by rw [List.length_map, List.length_take]; omega
  refine ⟨by rw [List.length_append, hl, List.length_drop]; omega, ?_⟩
  rw [List.getElem_append_right (by omega), List.getElem_drop]
  have e : i + (i - ((l.take i).map dualN).length) = i := by omega
  simp only [e]

set_option maxRecDepth 20000 in
set_option maxHeartbeats 4000000 in
theorem dualI (v : Value) (xs : List Nd) (w : World) (fp : List Nat) (hl : xs.length ≤ 1000) (h0 : 0 < xs.length) (hk : ∀ n ∈ xs, KdM n) (hR : R_F1 fp w [v] xs) :
    Calls Tryz.prog 18 #[v] w fun e w' => (∃ v', e = .returned v' ∧ New R_F1 w w' v' (xs.map dualN)) ∧ Upd [] w w' := by
  have S1 := Lib.hid (cloneNI v xs w fp (by omega) h0 hR)
  have HK := Lib.hid (fun i (hi : i < xs.length) W => dualKindI xs[i].kd W (hk _ (List.getElem_mem hi)).1 (hk _ (List.getElem_mem hi)).2)
  clear hR hk
  go_enter Tryz.func18, Tryz.ntmps18
  go_wp2_with fail
  refine S1.out.mono ?_
  rintro _ w1 ⟨⟨v1, rfl, hown⟩, hu1⟩
  obtain ⟨g, cap, rfl, hg9, hcp⟩ : ∃ g cap, v1 = .slice (some ⟨g, 0, none⟩) xs.length cap ∧ w.heap.size ≤ g ∧ xs.length ≤ cap ∧ cap ≤ 9223372036854775807 := by
    rcases hown.2 with ⟨h1, -⟩ | ⟨g, cap, cur, hv, hb, -, h3, h4, -⟩
    · obtain ⟨a, c, e⟩ := ownsRow_form hown
      rw [h1] at e
      injection e with e1 e2 e3
      omega
    · unfold maxLen at h4; exact ⟨g, cap, hv, hb, h3, by omega⟩
  have HO := Lib.hid (show w1.ownsRow w.heap.size 53 4 (.slice (some ⟨g, 0, none⟩) xs.length cap) xs.length (nR ((xs.take 0).map dualN ++ xs.drop 0)) from by simpa [nR] using hown)
  have HU := Lib.hid hu1
  clear S1 hown hu1
  go_wp2_with fail
  go_loopw [9] (fun iv wr => ∃ i : Nat, i ≤ xs.length ∧ iv = .int .i64 i ∧ Hid (wr.ownsRow w.heap.size 53 4 (.slice (some ⟨g, 0, none⟩) xs.length cap) xs.length (nR ((xs.take i).map dualN ++ xs.drop i))) ∧ Hid (Upd [] w wr)) (fun iv _ => xs.length - (intOf iv).toNat)
  case atStart => exact ⟨0, Nat.zero_le _, rfl, HO, HU⟩
  case round =>
    clear HO HU
    obtain ⟨wo, rfl⟩ : ∃ wo : World, wo = wr := ⟨_, rfl⟩
    obtain ⟨i, hi, rfl, HO, HU⟩ := hrel
    by_cases hlt : i < xs.length
    · obtain ⟨g2, g3⟩ := dual_get hlt
      have hML : ((xs.take i).map dualN ++ xs.drop i).length = xs.length := by rw [List.length_append, List.length_map, List.length_take, List.length_drop]; omega
      have hcell : wo.cell? ⟨g, i * 4, none⟩ = some (ei xs[i].kd) := by
        rw [HO.out.cellAt (i * 4) (by omega), nR_get g2, g3]
      have hfz : wo.frozen? ⟨g, i * 4, none⟩ = false := HO.out.frozenAt _
      have HST := Lib.hid (show (wo.setCell ⟨g, i * 4, none⟩ (ei (dkF xs[i].kd))).ownsRow w.heap.size 53 4 (.slice (some ⟨g, 0, none⟩) xs.length cap) xs.length (nR ((xs.take (i + 1)).map dualN ++ xs.drop (i + 1))) from by
        have h1 := (HO.out.stored (i * 4) (ei (dkF xs[i].kd))).1
        rw [nR_set g2] at h1
        rw [show ({ ((xs.take i).map dualN ++ xs.drop i)[i] with kd := dkF xs[i].kd } : Nd) = { xs[i] with kd := dkF xs[i].kd } by rw [g3], dual_step hlt] at h1
        exact h1)
      have HU2 := Lib.hid (HU.out.setCell (p := ⟨g, i * 4, none⟩) (Or.inl hg9) (ei (dkF xs[i].kd)))
      have D1 := Lib.hid (HK.out i hlt wo)
      generalize xs[i].kd = k at *
      generalize dkF k = k' at *
      clear g2 g3 HO HU hML
      go_wp2_with fail
      refine D1.out.mono ?_
      rintro _ w2 ⟨rfl, rfl⟩
      clear D1
      go_wp2_with fail
      go_roundw
      case rel => exact ⟨i + 1, by omega, by go_num, HST, HU2⟩
      case measure => simp [intOf]; omega
    · have hki : ¬ (i : Int) < (xs.length : Int) := by omega
      have HF := Lib.hid (show New R_F1 w wo (.slice (some ⟨g, 0, none⟩) xs.length cap) (xs.map dualN) from by
        have h1 := HO.out
        rw [List.take_of_length_le (by omega), List.drop_of_length_le (by omega), List.append_nil] at h1
        obtain ⟨fp, q1, q2, q3, -⟩ := Flat.ofOwns h1
        exact ⟨fp, ⟨_, rfl, by simpa [nR] using q1⟩, q2, q3⟩)
      clear HO
      go_wp2_with fail
      go_ret
      exact ⟨⟨_, rfl, HF.out⟩, HU.out⟩

set_option maxRecDepth 20000 in
set_option maxHeartbeats 4000000 in
theorem dualModalI (v : Value) (xs : List Nd) (w : World) (fp : List Nat) (hl : xs.length ≤ 1000) (h0 : 0 < xs.length) (hk : ∀ n ∈ xs, KdM n) (hs : ∀ n ∈ xs, n.lb.length ≤ 2000000) (hok : modOk xs = true) (he : Env w) (hR : R_F1 fp w [v] xs) :
    Calls Tryz.prog 7 #[v] w fun e w' => (∃ v', e = .returned (.tuple #[v', .int .i64 0]) ∧ New R_F1 w w' v' (xs.map dualN)) ∧ Upd [] w w' := by
  have S1 := Lib.hid (validMI v xs w fp hR (by omega) hs he)
  rw [hok] at S1
  have S2 := Lib.hid (fun W (hu : Upd [] w W) => dualI v xs W fp hl h0 hk (R_F1k.upd hR hu (by simp)))
  clear hR he hk hs hok
  go_enter Tryz.func7, Tryz.ntmps7
  go_wp2_with fail
  refine S1.out.mono ?_
  rintro _ w1 ⟨rfl, hu1⟩
  have S3 := Lib.hid (S2.out w1 hu1)
  have HU1 := Lib.hid hu1
  clear S1 S2 hu1
  go_wp2_with fail
  refine S3.out.mono ?_
  rintro _ w2 ⟨⟨v', rfl, hn⟩, hu2⟩
  have HF := Lib.hid (And.intro (hn.mono HU1.out.size) (HU1.out.trans hu2))
  clear S3 hn hu2
  go_wp2_with fail
  go_ret2
  exact ⟨⟨_, rfl, HF.out.1⟩, HF.out.2⟩

set_option maxRecDepth 20000 in
set_option maxHeartbeats 4000000 in
theorem modalDepthI (v : Value) (x : Tr Nd) (w : World) (fp : List Nat) (hl : (flatT x).length ≤ 1000) (hx : okT arN x = true) (hs : ∀ n ∈ flatT x, n.lb.length ≤ 2000000) (hok : modOk (flatT x) = true) (he : Env w) (hR : R_F1 fp w [v] (flatT x)) :
    Calls Tryz.prog 13 #[v] w fun e w' => e = .returned (.tuple #[.int .i64 (dpT x), .int .i64 0]) ∧ Upd [] w w' := by
  have S1 := Lib.hid (validMI v (flatT x) w fp hR (by omega) hs he)
  rw [hok] at S1
  have S2 := Lib.hid (fun W (hu : Upd [] w W) => formOf x W v fp hx hl (R_F1k.upd hR hu (by simp)))
  have S3 := Lib.hid (fun W v' f' (hr : R_X f' W [v'] x) => depthI _ x W v' f' (Nat.le_refl _) hl hr)
  clear hR he hs hok hx hl
  obtain ⟨D, hD⟩ : ∃ D : Nat, dpT x = D := ⟨_, rfl⟩
  rw [hD] at S3 ⊢
  clear hD
  go_enter Tryz.func13, Tryz.ntmps13
  go_wp2_with fail
  refine S1.out.mono ?_
  rintro _ w1 ⟨rfl, hu1⟩
  have S4 := Lib.hid (S2.out w1 hu1)
  have HU1 := Lib.hid hu1
  clear S1 S2 hu1
  go_wp2_with fail
  refine S4.out.mono ?_
  rintro _ w2 ⟨⟨v', rfl, f', hr, -, -⟩, hu2⟩
  have S5 := Lib.hid (S3.out w2 v' f' hr)
  have HU2 := Lib.hid (HU1.out.trans hu2)
  obtain ⟨t, args⟩ := x
  obtain ⟨b0, s, fa, rfl, -⟩ := R_X_open hr
  clear S4 S3 hr hu2
  go_wp2_with fail
  refine S5.out.mono ?_
  rintro _ w3 ⟨rfl, hu3⟩
  have HU3 := Lib.hid (HU2.out.trans hu3)
  clear S5 hu3
  go_wp2_with fail
  go_ret2
  exact ⟨rfl, HU3.out⟩

end Go.Proofs.YtdnjjanacbkijaaGreatDoor

/-
  Modal formulas: the dual and the simplified formula, plainly, for the law.
-/
namespace Go.Proofs.YtdnjjanacbkijaaGreatDoor
open Go.RowKit

theorem dualN_dualN {n : Nd} (h : KdM n) : dualN (dualN n) = n := by
  obtain ⟨k, v, l, t⟩ := n
  have := (dkF_in h.1 h.2).2.2.1
  simp only [dualN] at *
  rw [this]
theorem dualN_NdD {n : Nd} (h : NdD n) : NdD (dualN n) := by
  obtain ⟨h1, h2, h3, h4⟩ := h
  have hk := dkF_in h1.1 h1.2
  refine ⟨⟨hk.1, hk.2.1⟩, h2, h3, fun h => h4 ?_⟩
  have h9 : dkF n.kd < 4 := h
  have := h1.1
  have := h1.2
  unfold dkF at h9
  split at h9
  · omega
  · split at h9 <;> omega
/-- what a drawn formula fulfils. -/
def MdX (x : Tr Nd) : Prop := MX x ∧ (∀ n ∈ flatT x, NdD n) ∧ (flatT x).length ≤ 15
theorem MdX.ok {x : Tr Nd} (h : MdX x) : modOk (flatT x) = true := modOk_of h.1 h.2.1 (by have := h.2.2; omega)
theorem MdX.dual {x : Tr Nd} (h : MdX x) : MdX (dualX x) := by
  obtain ⟨h1, h2, h3⟩ := h
  obtain ⟨g1, g2⟩ := mx_ok h1
  have hn : ∀ n ∈ flatT (dualX x), NdD n := fun n hn => by
    rw [dual_flat] at hn
    obtain ⟨a, ha, rfl⟩ := List.mem_map.1 hn
    exact dualN_NdD (h2 a ha)
  exact ⟨mx_of _ (dual_ok x g1 g2) fun n h => (hn n h).1, hn, by rw [dual_flat, List.length_map]; exact h3⟩
theorem dual_back {x : Tr Nd} (h : ∀ n ∈ flatT x, NdD n) : ((flatT x).map dualN).map dualN = flatT x := by
  rw [List.map_map]
  conv => rhs; rw [← List.map_id (flatT x)]
  exact List.map_congr_left fun n hn => dualN_dualN (h n hn).1
theorem smF_tree {x : Tr Nd} (h : MdX x) : smF (flatT x) = (flatT (simpX x), 0) := by
  obtain ⟨y, h1, h2, h3⟩ := mod_tree h.ok
  have hy : y = x := flatT_inj h2 (mx_ok h.1).1 h3
  subst hy
  unfold smF
  rw [if_pos h.ok, h1]
  rfl
theorem MdX.simp {x : Tr Nd} (h : MdX x) : MdX (simpX x) := by
  obtain ⟨g1, g2⟩ := mx_ok h.1
  obtain ⟨-, q2, q3⟩ := simpX_good (Q := NdD) x g1 h.2.1
  exact ⟨simp_mx h.1, q2, by have := h.2.2; omega⟩
theorem MdX.lb {x : Tr Nd} (h : MdX x) : ∀ n ∈ flatT x, n.lb.length ≤ 1000 := fun n hn => by
  have h9 := (h.2.1 n hn).2.2.1
  have : ∀ p ∈ patDr, p.length ≤ 1000 := by decide
  exact this _ h9
theorem NamL.short {L : List (List UInt8)} (h : NamL L) : ∀ l ∈ L, l.length ≤ 1000 := fun l hl => by
  rcases h.mem l hl with rfl | h
  · decide
  · have : ∀ p ∈ lst5, p.length ≤ 1000 := by decide
    exact this _ h
/-- where a formula, its dual and the simplified one hold. -/
theorem md_tAt {x : Tr Nd} (h : MdX x) (S : Sys) (m : Nat) : (tAt (hT (selS S) S x) m).length + (tAt (hT (selS S) S (dualX x)) m).length = m ∧ tAt (hT (selS S) S (simpX x)) m = tAt (hT (selS S) S x) m ∧ ∀ a ∈ tAt (hT (selS S) S x) m, a ∉ tAt (hT (selS S) S (dualX x)) m := by
  have hd : tAt (hT (selS S) S (dualX x)) m = tAt (fun s => !hT (selS S) S x s) m := tAt_congr fun s _ => dual_h (selS_ok S) S h.1 s
  refine ⟨?_, tAt_congr fun s _ => simp_h S h.1 s, fun a ha hb => ?_⟩
  · rw [hd]; exact tAt_len _ _
  · rw [hd] at hb
    obtain ⟨s, e, -, h1⟩ := tAt_mem.1 ha
    obtain ⟨t, e2, -, h2⟩ := tAt_mem.1 hb
    have : s = t := by omega
    subst this
    simp [h1] at h2

end Go.Proofs.YtdnjjanacbkijaaGreatDoor

/-
  Rows compared: numbers, nodes, and whether a number is among others.
-/
namespace Go.Proofs.YtdnjjanacbkijaaGreatDoor
open Go.RowKit

set_option maxRecDepth 20000 in
set_option maxHeartbeats 1000000 in
theorem b10Nums_eq (v1 v2 : Value) (xs : List Int) (w : World) (f1 f2 : List Nat) (h1 : R_I1 f1 w [v1] xs) (h2 : R_I1 f2 w [v2] xs) :
    Calls Tryz.prog 11 #[v1, v2] w fun e w' => e = .returned (.bool true) ∧ ∃ n, w' = w.drewN n := by
  obtain ⟨a1, c1, rfl, hl1, hm1, hc1⟩ := slF1_open h1
  obtain ⟨a2, c2, rfl, hl2, hm2, hc2⟩ := slF1_open h2
  unfold maxLen at hm1 hm2
  clear h1 h2
  go_enter Tryz.func11, Tryz.ntmps11
  go_wp2_with fail
  go_loopw [5] (fun i wr => ∃ k n : Nat, k ≤ xs.length ∧ i = .int .i64 k ∧ wr = w.drewN n) (fun i _ => xs.length - (intOf i).toNat)
  case atStart => exact ⟨0, 0, Nat.zero_le _, rfl, rfl⟩
  case round =>
    obtain ⟨k, n, hk, rfl, hw⟩ := hrel
    have HW := Lib.hid hw
    by_cases hlt : k < xs.length
    · obtain ⟨b1, o1, rfl, -, -, p1⟩ := hc1 k hlt
      obtain ⟨b2, o2, rfl, -, -, q1⟩ := hc2 k hlt
      generalize xs[k] = x at *
      have p1' : wr.cell? ⟨b1, o1 + k, none⟩ = some (ei x) := by rw [hw]; exact p1
      have q1' : wr.cell? ⟨b2, o2 + k, none⟩ = some (ei x) := by rw [hw]; exact q1
      clear hc1 hc2 p1 q1 hw
      go_wp2_with fail
      go_quiet (fail)
      go_wp2_with fail
      go_roundw
      case rel => exact ⟨k + 1, _, by omega, by go_num, by rw [HW.out, drewN_add]⟩
      case measure => simp [intOf]; omega
    · clear hc1 hc2 hw
      go_wp2_with fail
      go_ret
      exact ⟨rfl, _, HW.out⟩

set_option maxRecDepth 20000 in
set_option maxHeartbeats 1000000 in
theorem b10Nodes_eq (v1 v2 : Value) (xs : List Nd) (w : World) (f1 f2 : List Nat) (h1 : R_F1 f1 w [v1] xs) (h2 : R_F1 f2 w [v2] xs) :
    Calls Tryz.prog 9 #[v1, v2] w fun e w' => e = .returned (.bool true) ∧ ∃ n, w' = w.drewN n := by
  obtain ⟨a1, c1, rfl, hl1, hm1, hc1⟩ := slF4_open h1
  obtain ⟨a2, c2, rfl, hl2, hm2, hc2⟩ := slF4_open h2
  unfold maxLen at hm1 hm2
  clear h1 h2
  go_enter Tryz.func9, Tryz.ntmps9
  go_wp2_with fail
  go_loopw [5] (fun i wr => ∃ k n : Nat, k ≤ xs.length ∧ i = .int .i64 k ∧ wr = w.drewN n) (fun i _ => xs.length - (intOf i).toNat)
  case atStart => exact ⟨0, 0, Nat.zero_le _, rfl, rfl⟩
  case round =>
    obtain ⟨k, n, hk, rfl, hw⟩ := hrel
    have HW := Lib.hid hw
    by_cases hlt : k < xs.length
    · obtain ⟨b1, o1, rfl, -, -, p1, p2, p3, p4⟩ := hc1 k hlt
      obtain ⟨b2, o2, rfl, -, -, q1, q2, q3, q4⟩ := hc2 k hlt
      generalize xs[k] = x at *
      obtain ⟨x1, x2, x3, x4⟩ := x
      have p1' : wr.cell? ⟨b1, o1 + k * 4, none⟩ = some (ei x1) := by rw [hw]; exact p1
      have p2' : wr.cell? ⟨b1, o1 + k * 4 + 1, none⟩ = some (ei x2) := by rw [hw]; exact p2
      have p3' : wr.cell? ⟨b1, o1 + k * 4 + 2, none⟩ = some (es x3) := by rw [hw]; exact p3
      have p4' : wr.cell? ⟨b1, o1 + k * 4 + 3, none⟩ = some (.bool x4) := by rw [hw]; exact p4
      have q1' : wr.cell? ⟨b2, o2 + k * 4, none⟩ = some (ei x1) := by rw [hw]; exact q1
      have q2' : wr.cell? ⟨b2, o2 + k * 4 + 1, none⟩ = some (ei x2) := by rw [hw]; exact q2
      have q3' : wr.cell? ⟨b2, o2 + k * 4 + 2, none⟩ = some (es x3) := by rw [hw]; exact q3
      have q4' : wr.cell? ⟨b2, o2 + k * 4 + 3, none⟩ = some (.bool x4) := by rw [hw]; exact q4
      clear hc1 hc2 p1 p2 p3 p4 q1 q2 q3 q4 hw
      go_wp2_with fail
      go_quiet (fail)
      go_wp2_with fail
      go_roundw
      case rel => exact ⟨k + 1, _, by omega, by go_num, by rw [HW.out, drewN_add]⟩
      case measure => simp [intOf]; omega
    · clear hc1 hc2 hw
      go_wp2_with fail
      go_ret
      exact ⟨rfl, _, HW.out⟩

set_option maxRecDepth 20000 in
set_option maxHeartbeats 1000000 in
theorem b10Has_not (v : Value) (xs : List Int) (a : Int) (w : World) (f : List Nat) (h : R_I1 f w [v] xs) (ha : a ∉ xs) :
    Calls Tryz.prog 12 #[v, ei a] w fun e w' => e = .returned (.bool false) ∧ w' = w := by
  obtain ⟨a1, c1, rfl, hl1, hm1, hc1⟩ := slF1_open h
  unfold maxLen at hm1
  have HNE := Lib.hid (fun k (hk : k < xs.length) => show (xs[k] == a) = false from beq_eq_false_iff_ne.2 fun h => ha (h ▸ List.getElem_mem hk))
  clear h ha
  go_enter Tryz.func12, Tryz.ntmps12
  go_wp2_with fail
  go_loopw [5] (fun i wr => ∃ k : Nat, k ≤ xs.length ∧ i = .int .i64 k ∧ wr = w) (fun i _ => xs.length - (intOf i).toNat)
  case atStart => exact ⟨0, Nat.zero_le _, rfl, by first | rfl | trivial⟩
  case round =>
    obtain ⟨k, hk, rfl, rfl⟩ := hrel
    by_cases hlt : k < xs.length
    · obtain ⟨b1, o1, rfl, -, -, p1⟩ := hc1 k hlt
      have hne := HNE.out k hlt
      generalize xs[k] = x at *
      clear hc1
      go_wp2_with fail
      go_roundw
      case rel => exact ⟨k + 1, by omega, by go_num, by first | rfl | trivial⟩
      case measure => simp [intOf]; omega
    · clear hc1
      go_wp2_with fail
      go_ret
      exact ⟨rfl, by first | rfl | trivial⟩

end Go.Proofs.YtdnjjanacbkijaaGreatDoor

/-
  The law FnModal: the call returns true for every input, and writes nothing that was there.
-/
namespace Go.Proofs.YtdnjjanacbkijaaGreatDoor
open Go.RowKit

theorem dualC (x : Tr Nd) (v : Value) (w : World) (fp : List Nat) (hx : MdX x) (he : Env w) (hR : R_F1 fp w [v] (flatT x)) :
    Calls Tryz.prog 7 #[v] w fun e w' => (∃ v', e = .returned (.tuple #[v', .int .i64 0]) ∧ New R_F1 w w' v' (flatT (dualX x))) ∧ Upd [] w w' := by
  have hpos := flatT_pos x
  have hl := hx.2.2
  rw [dual_flat]
  exact dualModalI v (flatT x) w fp (by omega) (by omega) (fun n hn => (hx.2.1 n hn).1) (fun n hn => by have := hx.lb n hn; omega) hx.ok he hR
theorem simpC (x : Tr Nd) (v : Value) (w : World) (fp : List Nat) (hx : MdX x) (he : Env w) (hR : R_F1 fp w [v] (flatT x)) :
    Calls Tryz.prog 8 #[v] w fun e w' => (∃ v', e = .returned (.tuple #[v', .int .i64 0]) ∧ New R_F1 w w' v' (flatT (simpX x))) ∧ Upd [] w w' := by
  have hl := hx.2.2
  have h := smI v (flatT x) w fp hR (by omega) (fun n hn => by have := hx.lb n hn; omega) he
  rw [smF_tree hx] at h
  exact h
theorem statesC (x : Tr Nd) (S : Sys) (v v1 v2 : Value) (w : World) (fp f1 f2 : List Nat) (hx : MdX x) (hS : DrSys2 S) (he : Env w) (hR : R_F1 fp w [v] (flatT x)) (h1 : R_S1 f1 w [v1] S.labs) (h2 : R_E1 f2 w [v2] S.eds) :
    Calls Tryz.prog 10 #[v, .agg #[ei S.st, ei S.ini, v1, v2]] w fun e w' => (∃ v', e = .returned (.tuple #[v', .int .i64 0]) ∧ New R_I1 w w' v' (tAt (hT (selS S) S x) S.st.toNat)) ∧ Upd [] w w' :=
  statesI v x S v1 v2 w fp f1 f2 (by have := hx.2.2; omega) hx.1 hx.lb hx.ok hS hS.labs.short he hR h1 h2
theorem depthC (x : Tr Nd) (v : Value) (w : World) (fp : List Nat) (hx : MdX x) (he : Env w) (hR : R_F1 fp w [v] (flatT x)) :
    Calls Tryz.prog 13 #[v] w fun e w' => e = .returned (.tuple #[.int .i64 (dpT x), .int .i64 0]) ∧ Upd [] w w' :=
  modalDepthI v x w fp (by have := hx.2.2; omega) (mx_ok hx.1).1 (fun n hn => by have := hx.lb n hn; omega) hx.ok he hR

set_option maxRecDepth 40000 in
set_option maxHeartbeats 8000000 in
theorem lawFnModal (c1 c2 : List Int) (v1 v2 : Value) (g1 g2 : List Nat) (w : World) (hE : Env w) (hR1 : R_B g1 w [v1] c1) (hR2 : R_B g2 w [v2] c2) (hb1 : bytesOk c1) (hb2 : bytesOk c2) :
    Calls Tryz.prog 3 #[v1, v2] w fun e w' => e = .returned (.bool true) ∧ Upd [] w w' := by
  have S0 := Lib.hid (b10Long v1 c1 w g1 hR1)
  have S0' := Lib.hid (b10Long v2 c2 w g2 hR2)
  have HE := Lib.hid (fun W (hu : Upd [] w W) => hE.upd hu)
  have HR2 := Lib.hid (fun W (hu : Upd [] w W) => R_Bk.upd hR2 hu (by simp))
  have HL1 := Lib.hid (fun (h : c1.length ≤ 1048576) => b10Lts v1 c1 w g1 hR1 hb1 h)
  clear hR1 hR2 hE
  obtain ⟨q1, hq1⟩ : ∃ q, decide (1048576 < (c1.length : Int)) = q := ⟨_, rfl⟩
  obtain ⟨q2, hq2⟩ : ∃ q, decide (1048576 < (c2.length : Int)) = q := ⟨_, rfl⟩
  rw [hq1] at S0
  rw [hq2] at S0'
  cases q1 with
  | true =>
    clear hq1 hq2 HL1 HR2 HE hb1 hb2
    go_enter Tryz.func3, Tryz.ntmps3
    go_wp2_with fail
    refine S0.out.mono ?_
    rintro e w1 ⟨rfl, rfl⟩
    go_wp2_with fail
    go_ret
    exact ⟨rfl, Upd.refl _ _⟩
  | false =>
    cases q2 with
    | true =>
      clear hq1 hq2 HL1 HR2 HE hb1 hb2
      go_enter Tryz.func3, Tryz.ntmps3
      go_wp2_with fail
      refine S0.out.mono ?_
      rintro e w1 ⟨rfl, rfl⟩
      go_wp2_with fail
      refine S0'.out.mono ?_
      rintro e w1 ⟨rfl, rfl⟩
      go_wp2_with fail
      go_ret
      exact ⟨rfl, Upd.refl _ _⟩
    | false =>
      have hl1 : c1.length ≤ 1048576 := by have := of_decide_eq_false hq1; omega
      have hl2 : c2.length ≤ 1048576 := by have := of_decide_eq_false hq2; omega
      have S1 := Lib.hid (HL1.out hl1)
      have HL2 := Lib.hid hl2
      have HB2 := Lib.hid hb2
      clear hq1 hq2 HL1 hl1 hl2 hb1 hb2
      go_enter Tryz.func3, Tryz.ntmps3
      go_wp2_with fail
      refine S0.out.mono ?_
      rintro e w0 ⟨rfl, rfl⟩
      go_wp2_with fail
      refine S0'.out.mono ?_
      rintro e w0 ⟨rfl, rfl⟩
      clear S0 S0'
      go_wp2_with fail
      refine S1.out.mono ?_
      rintro e w1 ⟨⟨S, ⟨u1, u2, f1, f2, rfl, h1, h2, -, -, -, -, -⟩, hS⟩, hu1⟩
      obtain ⟨a1, k1, rfl, -⟩ := slF1_open h1
      obtain ⟨a2, k2, rfl, -⟩ := slF3_open h2
      clear S1
      have HW := Lib.hid (fun W T (hW : w1.alloc (.cells #[ei S.st, ei S.ini, .slice a1 S.labs.length k1, .slice a2 S.eds.length k2] T) = W) => show Upd [] w1 W ∧ RowAt W w1.heap.size T [ei S.st, ei S.ini, .slice a1 S.labs.length k1, .slice a2 S.eds.length k2] from by
        subst hW
        exact ⟨(Upd.refl _ _).alloc _, RowAt.new w1 T _⟩)
      have HF := Lib.hid (And.intro hu1 (And.intro h1 (And.intro h2 hS)))
      clear h1 h2 hu1 hS
      go_upto_region 4 with (fail)
      obtain ⟨wA, hwA⟩ : ∃ wA, w1.alloc (.cells #[ei S.st, ei S.ini, .slice a1 S.labs.length k1, .slice a2 S.eds.length k2] 27) = wA := ⟨_, rfl⟩
      obtain ⟨uA, rA⟩ := HW.out wA _ hwA
      rw [hwA]
      have HUA := Lib.hid (HF.out.1.trans uA)
      have HRA := Lib.hid rA
      have H1 := Lib.hid (fun W (hu : Upd [] wA W) => R_S1k.upd HF.out.2.1 (uA.trans hu) (by simp))
      have H2 := Lib.hid (fun W (hu : Upd [] wA W) => R_E1k.upd HF.out.2.2.1 (uA.trans hu) (by simp))
      have HS := Lib.hid HF.out.2.2.2
      have HRW := Lib.hid (fun W (hu : Upd [] wA W) => show W.cell? ⟨w1.heap.size, 0, none⟩ = some (ei S.st) ∧ W.cell? ⟨w1.heap.size, 1, none⟩ = some (ei S.ini) ∧ W.cell? ⟨w1.heap.size, 2, none⟩ = some (.slice a1 S.labs.length k1) ∧ W.cell? ⟨w1.heap.size, 3, none⟩ = some (.slice a2 S.eds.length k2) from
        ⟨hu.keep (rA.cell 0 _ rfl), hu.keep (rA.cell 1 _ rfl), hu.keep (rA.cell 2 _ rfl), hu.keep (rA.cell 3 _ rfl)⟩)
      have S2 := Lib.hid (b10Modal v2 c2 S.labs S.st S.ini (.slice a1 S.labs.length k1) (.slice a2 S.eds.length k2) wA g2 f1 (HR2.out wA HUA.out) HB2.out HL2.out (H1.out wA (Upd.refl _ _)) HS.out.labs)
      obtain ⟨z0, z1, z2, z3⟩ := HRW.out wA (Upd.refl _ _)
      clear hwA uA rA HW HF HRA HR2 HL2 HB2
      go_wp2_with fail
      refine S2.out.mono ?_
      rintro e w2 ⟨⟨vx, x, rfl, hmx, hnd, hlx, hnx⟩, hu2⟩
      have HX := Lib.hid (show MdX x from ⟨hmx, hnd, hlx⟩)
      obtain ⟨ax, kx, rfl⟩ := hnx.form
      obtain ⟨fx, hrx, -, -⟩ := hnx
      have FX2 := Lib.hid hrx
      have HC2 := Lib.hid hu2
      clear S2 hmx hnd hlx hrx hu2 z0 z1 z2 z3
      have T3 := Lib.hid (dualC x _ w2 fx HX.out (HE.out _ (HUA.out.trans HC2.out)) FX2.out)
      go_wp2_with fail
      refine T3.out.mono ?_
      rintro e w3 ⟨⟨vd, rfl, hnd⟩, hu3⟩
      have FX3 := Lib.hid (R_F1k.upd FX2.out hu3 (by simp))
      obtain ⟨ad, kd, rfl⟩ := hnd.form
      obtain ⟨fd, hrd, -, -⟩ := hnd
      have FD3 := Lib.hid hrd
      have HC3 := Lib.hid (HC2.out.trans hu3)
      clear T3 hu3 HC2 FX2  hrd
      have T4 := Lib.hid (simpC x _ w3 fx HX.out (HE.out _ (HUA.out.trans HC3.out)) FX3.out)
      go_wp2_with fail
      refine T4.out.mono ?_
      rintro e w4 ⟨⟨vs, rfl, hns⟩, hu4⟩
      have FX4 := Lib.hid (R_F1k.upd FX3.out hu4 (by simp))
      have FD4 := Lib.hid (R_F1k.upd FD3.out hu4 (by simp))
      obtain ⟨as1, ks, rfl⟩ := hns.form
      obtain ⟨fs, hrs, -, -⟩ := hns
      have FS4 := Lib.hid hrs
      have HC4 := Lib.hid (HC3.out.trans hu4)
      clear T4 hu4 HC3 FX3 FD3  hrs
      have T5 := Lib.hid (dualC (dualX x) _ w4 fd HX.out.dual (HE.out _ (HUA.out.trans HC4.out)) FD4.out)
      go_wp2_with fail
      refine T5.out.mono ?_
      rintro e w5 ⟨⟨ve, rfl, hne⟩, hu5⟩
      have FX5 := Lib.hid (R_F1k.upd FX4.out hu5 (by simp))
      have FD5 := Lib.hid (R_F1k.upd FD4.out hu5 (by simp))
      have FS5 := Lib.hid (R_F1k.upd FS4.out hu5 (by simp))
      rw [dual_flat, dual_flat, dual_back HX.out.2.1] at hne
      obtain ⟨ae, ke, rfl⟩ := hne.form
      obtain ⟨fe, hre, -, -⟩ := hne
      have FE5 := Lib.hid hre
      have HC5 := Lib.hid (HC4.out.trans hu5)
      clear T5 hu5 HC4 FX4 FD4 FS4  hre
      have T6 := Lib.hid (b10Nodes_eq _ _ (flatT x) w5 fe fx FE5.out FX5.out)
      go_wp2_with fail
      refine T6.out.mono ?_
      rintro e w6 ⟨rfl, n6, rfl⟩
      have hu6 : Upd [] w5 (w5.drewN n6) := (Upd.refl _ _).drewN n6
      obtain ⟨w6, hw6⟩ : ∃ z, w5.drewN n6 = z := ⟨_, rfl⟩
      rw [hw6] at hu6 ⊢
      have FX6 := Lib.hid (R_F1k.upd FX5.out hu6 (by simp))
      have FD6 := Lib.hid (R_F1k.upd FD5.out hu6 (by simp))
      have FS6 := Lib.hid (R_F1k.upd FS5.out hu6 (by simp))
      have FE6 := Lib.hid (R_F1k.upd FE5.out hu6 (by simp))
      have HC6 := Lib.hid (HC5.out.trans hu6)
      clear T6 hu6 HC5 FX5 FD5 FS5 FE5 hw6 
      obtain ⟨z0, z1, z2, z3⟩ := HRW.out w6 HC6.out
      have T7 := Lib.hid (statesC (x) S _ _ _ w6 fx f1 f2 HX.out HS.out (HE.out _ (HUA.out.trans HC6.out)) FX6.out (H1.out _ HC6.out) (H2.out _ HC6.out))
      go_wp2_with fail
      refine T7.out.mono ?_
      rintro e w7 ⟨⟨vp, rfl, hnp⟩, hu7⟩
      have FX7 := Lib.hid (R_F1k.upd FX6.out hu7 (by simp))
      have FD7 := Lib.hid (R_F1k.upd FD6.out hu7 (by simp))
      have FS7 := Lib.hid (R_F1k.upd FS6.out hu7 (by simp))
      have FE7 := Lib.hid (R_F1k.upd FE6.out hu7 (by simp))
      obtain ⟨ap, kp, rfl⟩ := hnp.form
      obtain ⟨fp, hrp, -, -⟩ := hnp
      have FP7 := Lib.hid hrp
      have HC7 := Lib.hid (HC6.out.trans hu7)
      clear T7 hu7 HC6 FX6 FD6 FS6 FE6  hrp z0 z1 z2 z3
      obtain ⟨z0, z1, z2, z3⟩ := HRW.out w7 HC7.out
      have T8 := Lib.hid (statesC (dualX x) S _ _ _ w7 fd f1 f2 HX.out.dual HS.out (HE.out _ (HUA.out.trans HC7.out)) FD7.out (H1.out _ HC7.out) (H2.out _ HC7.out))
      go_wp2_with fail
      refine T8.out.mono ?_
      rintro e w8 ⟨⟨vq, rfl, hnq⟩, hu8⟩
      have FX8 := Lib.hid (R_F1k.upd FX7.out hu8 (by simp))
      have FD8 := Lib.hid (R_F1k.upd FD7.out hu8 (by simp))
      have FS8 := Lib.hid (R_F1k.upd FS7.out hu8 (by simp))
      have FE8 := Lib.hid (R_F1k.upd FE7.out hu8 (by simp))
      have FP8 := Lib.hid (R_I1k.upd FP7.out hu8 (by simp))
      obtain ⟨aq, kq, rfl⟩ := hnq.form
      obtain ⟨fq, hrq, -, -⟩ := hnq
      have FQ8 := Lib.hid hrq
      have HC8 := Lib.hid (HC7.out.trans hu8)
      clear T8 hu8 HC7 FX7 FD7 FS7 FE7 FP7  hrq z0 z1 z2 z3
      obtain ⟨z0, z1, z2, z3⟩ := HRW.out w8 HC8.out
      have T9 := Lib.hid (statesC (simpX x) S _ _ _ w8 fs f1 f2 HX.out.simp HS.out (HE.out _ (HUA.out.trans HC8.out)) FS8.out (H1.out _ HC8.out) (H2.out _ HC8.out))
      go_wp2_with fail
      refine T9.out.mono ?_
      rintro e w9 ⟨⟨vr, rfl, hnr⟩, hu9⟩
      have FX9 := Lib.hid (R_F1k.upd FX8.out hu9 (by simp))
      have FD9 := Lib.hid (R_F1k.upd FD8.out hu9 (by simp))
      have FS9 := Lib.hid (R_F1k.upd FS8.out hu9 (by simp))
      have FE9 := Lib.hid (R_F1k.upd FE8.out hu9 (by simp))
      have FP9 := Lib.hid (R_I1k.upd FP8.out hu9 (by simp))
      have FQ9 := Lib.hid (R_I1k.upd FQ8.out hu9 (by simp))
      obtain ⟨ar, kr, rfl⟩ := hnr.form
      obtain ⟨fr, hrr, -, -⟩ := hnr
      have FR9 := Lib.hid hrr
      have HC9 := Lib.hid (HC8.out.trans hu9)
      clear T9 hu9 HC8 FX8 FD8 FS8 FE8 FP8 FQ8  hrr z0 z1 z2 z3
      have HT := Lib.hid (md_tAt HX.out S S.st.toNat)
      have hst : (S.st.toNat : Int) = S.st := by have := HS.out.st0; omega
      have hst6 : S.st ≤ 6 := HS.out.st1
      rw [HT.out.2.1] at FR9 ⊢
      have hl1 := HT.out.1
      have HNO := Lib.hid HT.out.2.2
      have HDP := Lib.hid (simp_dp HX.out.1)
      clear HT
      generalize tAt (hT (selS S) S x) S.st.toNat = P at *
      generalize tAt (hT (selS S) S (dualX x)) S.st.toNat = Q at *
      have hsum : ((P.length : Int) + (Q.length : Int)) = S.st := by omega
      have hneq : ((P.length : Int) + (Q.length : Int) != S.st) = false := by rw [hsum]; simp
      obtain ⟨z0, z1, z2, z3⟩ := HRW.out w9 HC9.out
      have T10 := Lib.hid (b10Nums_eq _ _ P w9 fp fr FP9.out FR9.out)
      go_wp2_with fail
      refine T10.out.mono ?_
      rintro e w10 ⟨rfl, n10, rfl⟩
      have hu10 : Upd [] w9 (w9.drewN n10) := (Upd.refl _ _).drewN n10
      obtain ⟨w10, hw10⟩ : ∃ z, w9.drewN n10 = z := ⟨_, rfl⟩
      rw [hw10] at hu10 ⊢
      have FX10 := Lib.hid (R_F1k.upd FX9.out hu10 (by simp))
      have FS10 := Lib.hid (R_F1k.upd FS9.out hu10 (by simp))
      have FP10 := R_I1k.upd FP9.out hu10 (by simp)
      have FQ10 := Lib.hid (R_I1k.upd FQ9.out hu10 (by simp))
      have HC10 := Lib.hid (HC9.out.trans hu10)
      obtain ⟨a9, c9, heq, -, -, hcP⟩ := slF1_open FP10
      cases heq
      have HCP := Lib.hid hcP
      have hP6 : P.length ≤ 6 := by omega
      clear z0 z1 z2 z3 T10 hu10 HC9 FX9 FD9 FS9 FE9 FP9 FQ9 FR9 hw10 FP10 hcP hneq hsum hl1
      go_wp2_with fail
      go_loopw [19] (fun iv wr => ∃ k : Nat, k ≤ P.length ∧ iv = .int .i64 k ∧ Hid (Upd [] w10 wr)) (fun iv _ => P.length - (intOf iv).toNat)
      case atStart => exact ⟨0, Nat.zero_le _, rfl, Lib.hid (Upd.refl _ _)⟩
      case round =>
        obtain ⟨wo, rfl⟩ : ∃ wo : World, wo = wr := ⟨_, rfl⟩
        obtain ⟨k, hk, rfl, HU⟩ := hrel
        by_cases hlt : k < P.length
        · obtain ⟨b, off, rfl, -, -, hcell⟩ := HCP.out k hlt
          have hcell := HU.out.keep hcell
          have B1 := Lib.hid (b10Has_not _ Q P[k] wo fq (R_I1k.upd FQ10.out HU.out (by simp)) (HNO.out _ (List.getElem_mem hlt)))
          have hki : (k : Int) < (P.length : Int) := by omega
          generalize P[k] = pk at *
          go_wp2_with fail
          refine B1.out.mono ?_
          rintro e w11 ⟨rfl, rfl⟩
          clear B1
          go_wp2_with fail
          go_roundw
          case rel => exact ⟨k + 1, by omega, by go_num, HU⟩
          case measure => simp [intOf]; omega
        · have hki : ¬ (k : Int) < (P.length : Int) := by omega
          have T11 := Lib.hid (depthC x _ wo fx HX.out (HE.out _ (HUA.out.trans (HC10.out.trans HU.out))) (R_F1k.upd FX10.out HU.out (by simp)))
          go_wp2_with fail
          refine T11.out.mono ?_
          rintro e w11 ⟨rfl, hu11⟩
          have T12 := Lib.hid (depthC (simpX x) _ w11 fs HX.out.simp (HE.out _ (HUA.out.trans ((HC10.out.trans HU.out).trans hu11))) (R_F1k.upd FS10.out (HU.out.trans hu11) (by simp)))
          have HU11 := Lib.hid (HUA.out.trans ((HC10.out.trans HU.out).trans hu11))
          clear T11 hu11
          go_wp2_with fail
          refine T12.out.mono ?_
          rintro e w12 ⟨rfl, hu12⟩
          have HU12 := Lib.hid (HU11.out.trans hu12)
          have hle : ((dpT (simpX x) : Nat) : Int) ≤ ((dpT x : Nat) : Int) := by have := HDP.out; omega
          clear T12 hu12 HU11
          go_wp2_with fail
          go_ret
          exact ⟨rfl, HU12.out⟩

end Go.Proofs.YtdnjjanacbkijaaGreatDoor

/-
  What the listed variables and the world's shape give the walks of labels.
-/
namespace Go.Proofs.YtdnjjanacbkijaaGreatDoor
open Go.RowKit Go.ChangeShapes

theorem errStar : "*" ++ "errors.errorString" = "*errors.errorString" := by decide
theorem errRow (u : TypeId) (h : Tryz.prog.typeName? 3 u = some "*errors.errorString") : u = 174 :=
  typeName_ptr_named (nm := "errors.errorString") (by rw [errStar]; kernel_rfl) (by kernel_rfl) (by decide) u (by rw [errStar]; exact h)

theorem env_of {W : World} {r1 r2 r3 : List (String × DataW Unit)} {d : DataW Unit} {x1 x2 : List UInt8} (hd : d = Lib.tabData .u64 Lib.pow10Tab)
    (h1 : laidMet Tryz.prog (("internal/strconv.uint64pow10", d) :: r1) W)
    (h2 : laidMet Tryz.prog (("strconv.ErrRange", .iface "*errors.errorString" (.ptr (.agg [.lit (.string x1)]))) :: r2) W)
    (h3 : laidMet Tryz.prog (("strconv.ErrSyntax", .iface "*errors.errorString" (.ptr (.agg [.lit (.string x2)]))) :: r3) W)
    (hs : W.ShapedOpen Tryz.prog) : Env W := by
  subst hd
  refine ⟨?_, ?_, ?_, ?_⟩
  · exact cell_of_shapedOpen_int (g := 0) (zero := #[.int .i64 0]) (t := 3) hs (of_decide_eq_true (by kernel_rfl)) (by kernel_rfl) rfl (by kernel_rfl) (by kernel_rfl) Tryz.underlying3
  · exact Lib.tabIs_of_head (g := 5) (t := 178) (e := 59) (n := 20) (by kernel_rfl) (by kernel_rfl) Tryz.underlying178 Tryz.underlying59 (by kernel_rfl) (by kernel_rfl) h1
  · obtain ⟨a, s, hv, -⟩ := laid_sentinel (g := 1) (ti := 128) (tp := 174) (te := 176) (ts := 9) h3 (by kernel_rfl) (by kernel_rfl) Tryz.underlying128 errRow Tryz.underlying174 Tryz.underlying176 rfl rfl Tryz.underlying9 (by kernel_rfl) (by kernel_rfl)
    exact ⟨_, _, hv⟩
  · obtain ⟨a, s, hv, -⟩ := laid_sentinel (g := 2) (ti := 128) (tp := 174) (te := 176) (ts := 9) h2 (by kernel_rfl) (by kernel_rfl) Tryz.underlying128 errRow Tryz.underlying174 Tryz.underlying176 rfl rfl Tryz.underlying9 (by kernel_rfl) (by kernel_rfl)
    exact ⟨_, _, hv⟩

/-- the wrap with a condition on the world, the world's shape kept. -/
theorem handed_and_shaped {H : Type} {enc : TypeId × Value → H} {a : Assume} {C : Checked} {os : Os} {f : FuncId} {fn : Func} {s : ChangeSpec} {conds : List PathCond} {apart fresh handsOn twice : Bool} {X : World → Array Value → Prop}
    (hX : ∀ (w w' : World) (args : Array Value), w.heap = w'.heap → X w args → X w' args)
    (own : ownKnob C.prog.godebug = none) (started : os.Started) (noInit : C.prog.inits.idxOf? f = none) (hfn : C.prog.funcs[f]? = some fn)
    (witness : ∃ (w : World) (tape : Tape) (i : Input), w.os = os ∧ (w.forCall tape i).Shaped C.prog ∧ i.vars = [] ∧ Input.okWide C.prog (w.forCall tape i) .any w.heap.size f i ∧
      ((s.pre enc C.prog fn conds apart (w.forCall tape i).memory i.args ∧ X (w.forCall tape i).memory i.args) ∧ sizedMet enc C.prog fn (OpenSpec.ofChange s) apart (w.forCall tape i).memory i.args) ∧ a.holds C.prog (lone (Frame.enter C.prog f i.args CallKind.normal) [] (w.forCall tape i)))
    (contract : ∀ (W : World) (base : Nat) (args : Array Value) (ds gs : List (DataW H)) (before : List MemPlace),
      (∀ (j : Nat) t v, fn.params[j]? = some t → args[j]? = some v → Value.okWide C.prog W .any base t v) →
      DataW.Whole enc C.prog fn.params.toList s.vars apart W args.toList ds gs before →
      conds.all (PathCond.test C.prog ⟨fn.params.toList, ds, s.plain.varTypes C.prog, gs⟩) = true → X W args →
      W.ShapedOpen C.prog →
      Calls C.prog f args W fun e W' => ∃ v, e = .returned v ∧ s.post enc C.prog fn apart fresh handsOn twice W args v W') :
    ReturnsInHanded a C os f .any (fun w args => (s.pre enc C.prog fn conds apart w args ∧ X w args) ∧ sizedMet enc C.prog fn (OpenSpec.ofChange s) apart w args) (s.post enc C.prog fn apart fresh handsOn twice) := by
  refine returnsInHanded_of_calls own started noInit witness ?_
  intro w tape i _ hsh _ hok hpre _
  obtain ⟨_, _, _, fn', hfn', _, _, _, _, hval⟩ := hok
  have e : fn' = fn := Option.some.inj (hfn'.symm.trans hfn)
  subst e
  obtain ⟨⟨⟨ds, gs, before, hw, hc⟩, hx⟩, hz⟩ := hpre
  have hw' := DataW.Whole.of_heap (w' := w.forCall tape i) (by rfl) hw
  refine (contract (w.forCall tape i) w.heap.size i.args ds gs before hval hw' hc (hX _ _ _ (by rfl) hx) hsh).mono fun e W' ⟨v, he, hp⟩ => ?_
  subst he
  exact ChangeSpec.post_blind hp

end Go.Proofs.YtdnjjanacbkijaaGreatDoor
