/-
  Texts joined in one file: DfY, SyS, MeS, SyF, DfB, DfSt, SyK, SyL, SyNew, FitD, FitSy, LawSysLines, OpenDe, OpenSy.
-/
import Derived.Test.YtijmkcnipflpbaaGreatDoorZL2
import Derived.Test.YtijmkcnipflpbaaGreatDoorZL3
import Derived.Test.YtijmkcnipflpbaaGreatDoorZL4
import Derived.Deep.RegionLaw
import Derived.Deep.RegionHeld3
import Derived.Deep.AppendLies
import Derived.Lib.SmallJoins
import Derived.Deep.Strs
/-
  The reference's check of a list of definitions: what the call returns.
-/
namespace Go.Proofs.YtijmkcnipflpbaaGreatDoor
open Go.RowKit

set_option maxRecDepth 20000 in
set_option maxHeartbeats 16000000 in
theorem defsS (v : Value) (ds : List De) (w : World) (fp : List Nat) (hR : R_De1 fp w [v] ds) (hF : DesFit ds) :
    Calls Tryz.prog 60 #[v] w fun e w' => e = .returned (.bool (defsOk ds)) ∧ Upd [] w w' := by
  have hR' := hR
  obtain ⟨a, cap, rfl, g1, g2, hc⟩ := slQ_open hR
  unfold maxLen at g2
  have HLEN := Lib.hid (fun (h : inB (ds.length : Int) 1 4 = false) => defsOk_len h)
  have HNN := Lib.hid (fun k (hk : k < ds.length) (h : nameF ds[k].name = false) => defsOk_noname hk h)
  have HNP := Lib.hid (fun k (hk : k < ds.length) (h : inB ds[k].pars 0 3 = false) => defsOk_nopars hk h)
  have HND := Lib.hid (fun j k (hj : j < k) (hk : k < ds.length) (h : (ds[j].name == ds[k].name) = true) => defsOk_nodup hj hk h)
  have HNF := Lib.hid (fun k (hk : k < ds.length) (h : (faultP ds ds[k]).2 ≠ 0) => defsOk_nofault hk h)
  have HALL := Lib.hid (fun (hs : inB (ds.length : Int) 1 4 = true) h1 h2 => defsOk_all (ds := ds) hs h1 h2)
  have HC := Lib.hid hc
  have HRD := Lib.hid (fun W (hu : Upd [] w W) => R_De1k.upd hR' hu (by simp))
  have HFT := Lib.hid hF
  clear hR hR' hc hF
  generalize hZ : defsOk ds = Z at *
  clear hZ
  by_cases h0 : ds.length = 0
  · have HZ := Lib.hid (HLEN.out (inB_no (by omega)))
    have hb : ((ds.length : Int) == 0) = true := by rw [h0]; rfl
    clear h0 HLEN HNN HNP HND HNF HALL HC HRD HFT
    go_enter Tryz.func60, Tryz.ntmps60
    go_wp2_with fail
    go_ret
    exact ⟨by rw [HZ.out]; rfl, Upd.refl _ _⟩
  · have hb : ((ds.length : Int) == 0) = false := by simp; intro h; exact h0 (by rw [h]; rfl)
    by_cases h4 : 4 < ds.length
    · have HZ := Lib.hid (HLEN.out (inB_no (by omega)))
      have hb2 : (4 : Int) < (ds.length : Int) := by omega
      clear h0 h4 HLEN HNN HNP HND HNF HALL HC HRD HFT
      go_enter Tryz.func60, Tryz.ntmps60
      go_wp2_with fail
      go_ret
      exact ⟨by rw [HZ.out]; rfl, Upd.refl _ _⟩
    · have hb2 : ¬ (4 : Int) < (ds.length : Int) := by omega
      have hl4 : ds.length ≤ 4 := by omega
      have HAL := Lib.hid (HALL.out (inB_mk (by omega)))
      clear h0 h4 HLEN HALL
      go_enter Tryz.func60, Tryz.ntmps60
      go_wp2_with fail
      go_loopw [3] (fun iv wr => ∃ k : Nat, k ≤ ds.length ∧ iv = .int .i64 k ∧ Hid (∀ j (_ : j < k) (hj : j < ds.length), headD ds j ds[j] = true) ∧ Hid (Upd [] w wr)) (fun iv _ => ds.length - (intOf iv).toNat)
      case atStart => exact ⟨0, Nat.zero_le _, rfl, Lib.hid (fun j hj => absurd hj (Nat.not_lt_zero _)), Lib.hid (Upd.refl _ _)⟩
      case round =>
        obtain ⟨wo, rfl⟩ : ∃ wo : World, wo = wr := ⟨_, rfl⟩
        obtain ⟨k, hk, rfl, HG, HU⟩ := hrel
        by_cases hlt : k < ds.length
        · obtain ⟨bb, off, u, f', rfl, -, -, -, hcell, -, hr⟩ := HC.out k hlt
          obtain ⟨v2, f2, rfl, -, -⟩ := hr
          have s0 := HU.out.keep (hcell 0 _ rfl)
          have s1 := HU.out.keep (hcell 1 _ rfl)
          simp only [Nat.add_zero] at s0
          have hfk := HFT.out.2 ds[k] (List.getElem_mem hlt)
          have S1 := Lib.hid (nameS ds[k].name wo hfk.1)
          have S2 := Lib.hid (l00In ds[k].pars 0 3 wo)
          have HN1 := Lib.hid (HNN.out k hlt)
          have HN2 := Lib.hid (HNP.out k hlt)
          have hkl : (k : Int) < (ds.length : Int) := by omega
          clear hfk hcell
          obtain ⟨q1, h1⟩ : ∃ q, nameF ds[k].name = q := ⟨_, rfl⟩
          obtain ⟨q2, h2⟩ : ∃ q, inB ds[k].pars 0 3 = q := ⟨_, rfl⟩
          rw [h1] at S1
          rw [h2] at S2
          go_wp2_with fail
          refine S1.out.mono ?_
          rintro e wq ⟨rfl, rfl⟩
          clear S1
          cases q1 with
          | false =>
            have HZ := Lib.hid (HN1.out h1)
            clear HN1 HN2 S2 h1 h2
            go_wp2_with fail
            go_ret
            exact ⟨by rw [HZ.out]; rfl, HU.out⟩
          | true =>
            go_wp2_with fail
            refine S2.out.mono ?_
            rintro e wq ⟨rfl, rfl⟩
            clear S2
            cases q2 with
            | false =>
              have HZ := Lib.hid (HN2.out h2)
              clear HN1 HN2 h1 h2
              go_wp2_with fail
              go_ret
              exact ⟨by rw [HZ.out]; rfl, HU.out⟩
            | true =>
              have HH := Lib.hid (And.intro h1 h2)
              clear HN1 HN2 h1 h2 s1
              go_wp2_with fail
              go_loopw [4] (fun jv wr => ∃ j : Nat, j ≤ k ∧ jv = .int .i64 j ∧ Hid (∀ i (_ : i < j) (hi : i < ds.length), (ds[i].name == ds[k].name) = false) ∧ Hid (Upd [] wo wr)) (fun jv _ => k - (intOf jv).toNat)
              case atStart => exact ⟨0, Nat.zero_le _, rfl, Lib.hid (fun i hi => absurd hi (Nat.not_lt_zero _)), Lib.hid (Upd.refl _ _)⟩
              case round =>
                obtain ⟨wi, rfl⟩ : ∃ wi : World, wi = wr := ⟨_, rfl⟩
                obtain ⟨j, hj, rfl, HE, HUi⟩ := hrel
                by_cases hjk : j < k
                · have hjl : j < ds.length := by omega
                  obtain ⟨bb', off', u', f'', he, -, -, -, hcell', -, hr'⟩ := HC.out j hjl
                  simp only [Option.some.injEq, Addr.mk.injEq, and_true] at he
                  obtain ⟨rfl, rfl⟩ := he
                  obtain ⟨v4, f4, rfl, -, -⟩ := hr'
                  have t0 := (HU.out.trans HUi.out).keep (hcell' 0 _ rfl)
                  simp only [Nat.add_zero] at t0
                  have s0' := HUi.out.keep s0
                  have hjki : (j : Int) < (k : Int) := by omega
                  have hjli : (j : Int) < (ds.length : Int) := by omega
                  have HDU := Lib.hid (HND.out j k hjk hlt)
                  have HEN := Lib.hid (fun (h : (ds[j].name == ds[k].name) = false) i (hij : i < j + 1) (hi : i < ds.length) => (show (ds[i].name == ds[k].name) = false by
                    by_cases e : i = j
                    · subst e; exact h
                    · exact HE.out i (by omega) hi))
                  clear hcell' HE
                  obtain ⟨qe, hqe⟩ : ∃ q, (ds[j].name == ds[k].name) = q := ⟨_, rfl⟩
                  rw [hqe] at HDU HEN
                  generalize ds[j].name = nj at *
                  generalize hnk : ds[k].name = nk at *
                  clear hnk
                  cases qe with
                  | true =>
                    have HZ := Lib.hid (HDU.out rfl)
                    clear HDU HEN
                    go_wp2_with fail
                    go_quiet (fail)
                    go_wp2_with fail
                    go_ret
                    exact ⟨by rw [HZ.out]; rfl, HU.out.trans (HUi.out.drewN nq)⟩
                  | false =>
                    have HE2 := Lib.hid (HEN.out rfl)
                    clear HDU HEN
                    go_wp2_with fail
                    go_quiet (fail)
                    go_wp2_with fail
                    go_roundw
                    case rel => exact ⟨j + 1, by omega, by go_num, HE2, Lib.hid (HUi.out.drewN nq)⟩
                    case measure => simp [intOf]; omega
                · have hjki : ¬ (j : Int) < (k : Int) := by omega
                  have HK := Lib.hid (show ∀ i (_ : i < k + 1) (hi : i < ds.length), headD ds i ds[i] = true from fun i hi hil => by
                    by_cases e : i = k
                    · subst e
                      unfold headD
                      rw [HH.out.1, HH.out.2]
                      simp only [Bool.true_and, Bool.not_eq_true']
                      rw [List.any_eq_false]
                      intro o ho
                      obtain ⟨m, hm, rfl⟩ := List.mem_iff_getElem.1 ho
                      simp only [List.length_take] at hm
                      rw [List.getElem_take, HE.out m (by omega) (by omega)]; simp
                    · exact HG.out i (by omega) hil)
                  have HUU := Lib.hid (HU.out.trans HUi.out)
                  clear HE HG HH
                  go_wp2_with fail
                  go_roundw
                  case rel => exact ⟨k + 1, by omega, by go_num, HK, HUU⟩
                  case measure => simp [intOf]; omega
        · have hkl : ¬ (k : Int) < (ds.length : Int) := by omega
          have HH := Lib.hid (fun j (hj : j < ds.length) => HG.out j (by omega) hj)
          have HPA := Lib.hid (fun j (hj : j < ds.length) => (show 0 ≤ ds[j].pars ∧ ds[j].pars ≤ 3 from by
            have := HH.out j hj
            unfold headD at this
            simp only [Bool.and_eq_true] at this
            exact inB_true this.1.2))
          clear HG HNN HNP HND
          go_wp2_with fail
          go_loopw [5] (fun iv wr => ∃ m : Nat, m ≤ ds.length ∧ iv = .int .i64 m ∧ Hid (∀ j (_ : j < m) (hj : j < ds.length), (faultP ds ds[j]).2 = 0) ∧ Hid (Upd [] wo wr)) (fun iv _ => ds.length - (intOf iv).toNat)
          case atStart => exact ⟨0, Nat.zero_le _, rfl, Lib.hid (fun j hj => absurd hj (Nat.not_lt_zero _)), Lib.hid (Upd.refl _ _)⟩
          case round =>
            obtain ⟨wi, rfl⟩ : ∃ wi : World, wi = wr := ⟨_, rfl⟩
            obtain ⟨m, hm, rfl, HE, HUi⟩ := hrel
            by_cases hml : m < ds.length
            · obtain ⟨bb, off, u, f', rfl, -, -, -, hcell, -, hr⟩ := HC.out m hml
              have UU := Lib.hid (HU.out.trans HUi.out)
              obtain ⟨f9, hDA⟩ := DeAt.of (w := w) (o := off + m * 3) (fun j c hj => hcell j c hj) hr
              have hfm := HFT.out.2 ds[m] (List.getElem_mem hml)
              have hpm := HPA.out m hml
              have S3 := Lib.hid (bodyS ds (.slice (some ⟨bb, off, none⟩) ds.length cap) fp bb (off + m * 3) f9 ds[m] wi (HRD.out wi UU.out) (hDA.upd UU.out) (by omega) ⟨hfm.2.1, hfm.2.2⟩ hpm.1 hpm.2)
              have HNO := Lib.hid (HNF.out m hml)
              have HEN := Lib.hid (fun (h : (faultP ds ds[m]).2 = 0) i (him : i < m + 1) (hi : i < ds.length) => (show (faultP ds ds[i]).2 = 0 by
                by_cases e : i = m
                · subst e; exact h
                · exact HE.out i (by omega) hi))
              have hmi : (m : Int) < (ds.length : Int) := by omega
              have hfn : 0 ≤ (faultP ds ds[m]).2 := by
                have : ∀ (l : List Pa) (i : Nat), 0 ≤ (faultFrom ds ds[m] ds[m].body i l).2 := by
                  intro l
                  induction l with
                  | nil => intro i; simp [faultFrom]
                  | cons p l ih =>
                    intro i
                    rw [faultFrom]
                    split
                    · exact ih (i + 1)
                    · exact (reasonP_nn ds p _ _).1
                unfold faultP
                split
                · exact this _ _
                · simp
              clear hcell hr hDA hfm hpm HE
              generalize faultP ds ds[m] = fl at *
              obtain ⟨f0, f1⟩ := fl
              simp only at hfn HNO HEN S3
              go_wp2_with fail
              refine S3.out.mono ?_
              rintro e w6 ⟨rfl, hu6⟩
              have HU6 := Lib.hid (HUi.out.trans hu6)
              clear hu6 S3 UU
              by_cases hz : f1 = 0
              · have hzb : ¬ (0 : Int) < f1 := by omega
                have HE2 := Lib.hid (HEN.out hz)
                clear HNO HEN hz
                go_wp2_with fail
                go_roundw
                case rel => exact ⟨m + 1, by omega, by go_num, HE2, HU6⟩
                case measure => simp [intOf]; omega
              · have hzb : (0 : Int) < f1 := by omega
                have HZ := Lib.hid (HNO.out hz)
                clear HNO HEN hz
                go_wp2_with fail
                go_ret
                exact ⟨by rw [HZ.out]; rfl, HU.out.trans HU6.out⟩
            · have hmi : ¬ (m : Int) < (ds.length : Int) := by omega
              have HZ := Lib.hid (HAL.out HH.out (fun j hj => HE.out j (by omega) hj))
              clear HE HH HAL HNF
              go_wp2_with fail
              go_ret
              exact ⟨by rw [HZ.out]; rfl, HU.out.trans HUi.out⟩

end Go.Proofs.YtijmkcnipflpbaaGreatDoor

/-
  Components: what the reference's check returns.
-/
namespace Go.Proofs.YtijmkcnipflpbaaGreatDoor
open Go.RowKit

/-- a system lies at a block's beginning. -/
structure SyAt (B : Nat) (cs : List Value) (fp : List Nat) (w : World) (s : Sy) : Prop where
  r : R_Sy fp w cs s
  c : ∀ (j : Nat) v, cs[j]? = some v → w.cell? ⟨B, j, none⟩ = some v
theorem SyAt.upd {B : Nat} {cs : List Value} {fp : List Nat} {w w' : World} {s : Sy} (h : SyAt B cs fp w s) (hu : Upd [] w w') : SyAt B cs fp w' s :=
  ⟨R_Syk.upd h.r hu (by simp), fun j v hj => hu.keep (h.c j v hj)⟩

theorem compsOk_len {ds : List De} {l : List Co} (h : inB (l.length : Int) 1 3 = false) : compsOk ds l = false := by unfold compsOk; rw [h]; rfl
theorem compsOk_no {ds : List De} {l : List Co} {k : Nat} (hk : k < l.length) (h : compOk ds l[k] = false) : compsOk ds l = false := by
  unfold compsOk
  rw [show l.all (compOk ds) = false from by rw [List.all_eq_false]; exact ⟨_, List.getElem_mem hk, by simp [h]⟩]
  simp
theorem compsOk_yes {ds : List De} {l : List Co} (hs : inB (l.length : Int) 1 3 = true) (h : ∀ j (hj : j < l.length), compOk ds l[j] = true) : compsOk ds l = true := by
  unfold compsOk
  rw [hs, List.all_eq_true.2 (fun c hc => by obtain ⟨j, hj, rfl⟩ := List.mem_iff_getElem.1 hc; exact h j hj)]; rfl

set_option maxRecDepth 20000 in
set_option maxHeartbeats 8000000 in
theorem componentsS (B : Nat) (cs : List Value) (fp : List Nat) (s : Sy) (w : World) (hA : SyAt B cs fp w s) (hdl : s.defs.length ≤ 1000000) :
    Calls Tryz.prog 61 #[.pointer (some ⟨B, 0, none⟩)] w fun e w' => e = .returned (.bool (compsOk s.defs s.comps)) ∧ Upd [] w w' := by
  obtain ⟨⟨v0, v1, v2, v3, v4, f0, f1, f2, f3, f4, rfl, h0, h1, -, -, -, -⟩, hcc⟩ := hA
  have c0 : w.cell? ⟨B, 0, none⟩ = some v0 := hcc 0 _ rfl
  have c1 : w.cell? ⟨B, 1, none⟩ = some v1 := hcc 1 _ rfl
  have h0' := h0
  have h1' := h1
  obtain ⟨a0, q0, rfl, d1, d2, hd⟩ := slQ_open h0
  obtain ⟨a1, q1, rfl, l1, l2, hl⟩ := slQ_open h1
  unfold maxLen at d2 l2
  have HNL := Lib.hid (fun (h : inB (s.comps.length : Int) 1 3 = false) => compsOk_len (ds := s.defs) h)
  have HNO := Lib.hid (fun k (hk : k < s.comps.length) (h : compOk s.defs s.comps[k] = false) => compsOk_no (ds := s.defs) hk h)
  have HYE := Lib.hid (fun (hs : inB (s.comps.length : Int) 1 3 = true) h => compsOk_yes (ds := s.defs) (l := s.comps) hs h)
  have HDC := Lib.hid hd
  have HLC := Lib.hid hl
  have HCC := Lib.hid (fun W (hu : Upd [] w W) => And.intro (hu.keep c0) (hu.keep c1))
  clear hcc h0 h0' h1 h1' hd hl
  generalize hZ : compsOk s.defs s.comps = Z at *
  clear hZ
  generalize s.defs = ds at *
  generalize s.comps = l at *
  by_cases hz : l.length = 0
  · have HZ := Lib.hid (HNL.out (inB_no (by omega)))
    have hb : ((l.length : Int) == 0) = true := by rw [hz]; rfl
    clear hz HNL HNO HYE
    go_enter Tryz.func61, Tryz.ntmps61
    go_wp2_with fail
    go_ret
    exact ⟨by rw [HZ.out]; rfl, Upd.refl _ _⟩
  · have hb : ((l.length : Int) == 0) = false := by simp; intro h; exact hz (by rw [h]; rfl)
    by_cases h3 : 3 < l.length
    · have HZ := Lib.hid (HNL.out (inB_no (by omega)))
      have hb2 : (3 : Int) < (l.length : Int) := by omega
      clear hz h3 HNL HNO HYE
      go_enter Tryz.func61, Tryz.ntmps61
      go_wp2_with fail
      go_ret
      exact ⟨by rw [HZ.out]; rfl, Upd.refl _ _⟩
    · have hb2 : ¬ (3 : Int) < (l.length : Int) := by omega
      have HYE := Lib.hid (HYE.out (inB_mk (by omega)))
      clear hz HNL
      go_enter Tryz.func61, Tryz.ntmps61
      go_wp2_with fail
      go_loopw [3] (fun iv wr => ∃ k : Nat, k ≤ l.length ∧ iv = .int .i64 k ∧ Hid (Upd [] w wr) ∧ Hid (∀ j (_ : j < k) (hj : j < l.length), compOk ds l[j] = true)) (fun iv _ => l.length - (intOf iv).toNat)
      case atStart => exact ⟨0, Nat.zero_le _, rfl, Lib.hid (Upd.refl _ _), Lib.hid (fun j hj => absurd hj (Nat.not_lt_zero _))⟩
      case round =>
        clear c0 c1
        obtain ⟨wo, rfl⟩ : ∃ wo : World, wo = wr := ⟨_, rfl⟩
        obtain ⟨k, hk, rfl, HU, HG⟩ := hrel
        obtain ⟨c0, c1⟩ := HCC.out wo HU.out
        by_cases hlt : k < l.length
        · obtain ⟨bb, off, u, f', rfl, -, -, -, hcell, -, hr⟩ := HLC.out k hlt
          obtain ⟨v5, f5, rfl, hv, -⟩ := hr
          have hv' := R_I1k.upd hv HU.out (by simp)
          obtain ⟨a5, q5, rfl, g1, g2, -⟩ := slF1_open hv
          unfold maxLen at g2
          have s0 := HU.out.keep (hcell 0 _ rfl)
          have s1 := HU.out.keep (hcell 1 _ rfl)
          simp only [Nat.add_zero] at s0
          have HNK := Lib.hid (HNO.out k hlt)
          have HGK := Lib.hid (fun (h : compOk ds l[k] = true) j (hjk : j < k + 1) (hj : j < l.length) => (show compOk ds l[j] = true by
            by_cases e : j = k
            · subst e; exact h
            · exact HG.out j (by omega) hj))
          have HGD := Lib.hid (show compOk ds l[k] = (inB l[k].dfn 0 ((ds.length : Int) - 1) && ((l[k].vals.length : Int) == (ds.map De.pars).getD l[k].dfn.toNat 0) && l[k].vals.all isV) from rfl)
          have hkl : (k : Int) < (l.length : Int) := by omega
          clear hcell HG hv
          generalize compOk ds l[k] = gz at *
          generalize l[k] = c at *
          obtain ⟨dfn, vals⟩ := c
          simp only at *
          obtain ⟨wP, hwP⟩ : ∃ q, q = wo.alloc (.cells #[ei dfn, .slice a5 vals.length q5] 80) := ⟨_, rfl⟩
          obtain ⟨BP, hBP⟩ : ∃ q, q = wo.heap.size := ⟨_, rfl⟩
          have uP : Upd [] wo wP := by rw [hwP]; exact (Upd.refl _ _).alloc _
          have x0 : wP.cell? ⟨BP, 0, none⟩ = some (ei dfn) := by rw [hwP, hBP]; exact cell_new wo _ _ _ rfl 0 _ rfl
          have x1 : wP.cell? ⟨BP, 1, none⟩ = some (.slice a5 vals.length q5) := by rw [hwP, hBP]; exact cell_new wo _ _ _ rfl 1 _ rfl
          have y0 := uP.keep c0
          have UP := Lib.hid uP
          have SI := Lib.hid (fun n => Calls.quiet_of_same (n := n) ((l00In dfn 0 ((ds.length : Int) - 1) (wP.drewN n)).mono (fun e w' h => ⟨h.1, h.2.symm⟩)))
          have SV := Lib.hid (fun n m => Calls.quiet_of_same (n := m) ((dataS (.slice a5 vals.length q5) vals ((wP.drewN n).drewN m) f5 (R_I1k.drewN (R_I1k.drewN (R_I1k.upd hv' uP (by simp)) n) m)).mono (fun e w' h => ⟨h.1, h.2.symm⟩)))
          obtain ⟨qi, hqi⟩ : ∃ q, inB dfn 0 ((ds.length : Int) - 1) = q := ⟨_, rfl⟩
          rw [hqi] at SI HGD
          generalize vals.all isV = qv at *
          generalize vals.length = n at *
          go_upto_region 7 with (fail)
          rw [← hwP, ← hBP]
          clear hwP hBP s0 s1 c0 c1 hv'
          cases qi with
          | false =>
            have HZ := Lib.hid (HNK.out (by rw [HGD.out]; rfl))
            clear HNK HGK HGD SV
            go_quiet ((go_at_call 84; with_reducible exact SI.out _))
            have HU9 := Lib.hid (HU.out.trans (UP.out.drewN nq))
            go_wp2_with fail
            go_ret
            exact ⟨by rw [HZ.out]; rfl, HU9.out⟩
          | true =>
            have hbd := inB_true hqi
            obtain ⟨j, rfl⟩ : ∃ j : Nat, dfn = j := ⟨dfn.toNat, by omega⟩
            have hj : j < ds.length := by omega
            obtain ⟨b9, o9, u9, f9, rfl, -, -, -, hc9, -, hr9⟩ := HDC.out j hj
            obtain ⟨v9, f8, rfl, -, -⟩ := hr9
            have p9 := uP.keep (HU.out.keep (hc9 1 _ rfl))
            have hz9 : (ds.map De.pars).getD (Int.toNat (j : Int)) 0 = ds[j].pars := by
              rw [Int.toNat_natCast, List.getD_eq_getElem?_getD, List.getElem?_map, List.getElem?_eq_getElem hj]; rfl
            rw [hz9] at HGD
            have hjl : (j : Int) < (ds.length : Int) := by omega
            clear hc9 hz9 hbd hqi uP
            generalize ds[j].pars = P at *
            obtain ⟨q2, hq2⟩ : ∃ q, ((n : Int) == P) = q := ⟨_, rfl⟩
            rw [hq2] at HGD
            go_quiet ((go_at_call 84; with_reducible exact SI.out _))
            obtain ⟨wq, hwq⟩ : ∃ wq, wP.drewN nq = wq := ⟨_, rfl⟩
            have HUq := Lib.hid (show Upd [] wo wq by rw [← hwq]; exact UP.out.drewN nq)
            have k0 : wq.cell? ⟨BP, 0, none⟩ = some (ei j) := by rw [← hwq]; exact x0
            have k1 : wq.cell? ⟨BP, 1, none⟩ = some (.slice a5 n q5) := by rw [← hwq]; exact x1
            have k2 : wq.cell? ⟨B, 0, none⟩ = some (.slice (some ⟨b9, o9, none⟩) ds.length q0) := by rw [← hwq]; exact y0
            have k3 : wq.cell? ⟨b9, o9 + j * 3 + 1, none⟩ = some (ei P) := by rw [← hwq]; exact p9
            have SV := Lib.hid (fun m => SV.out nq m)
            rw [hwq] at SV ⊢
            clear hwq x0 x1 y0 p9 SI
            cases q2 with
            | false =>
              have HZ := Lib.hid (HNK.out (by rw [HGD.out]; rfl))
              have hne : ((n : Int) != P) = true := by simp [bne, hq2]
              clear HNK HGK HGD SV
              go_wp2_with fail
              go_quiet (fail)
              have HU9 := Lib.hid (HU.out.trans (HUq.out.drewN nq))
              go_wp2_with fail
              go_ret
              exact ⟨by rw [HZ.out]; rfl, HU9.out⟩
            | true =>
              have hne : ((n : Int) != P) = false := by simp [bne, hq2]
              go_wp2_with fail
              go_quiet ((go_at_call 86; with_reducible exact SV.out _))
              have HU9 := Lib.hid (HU.out.trans (HUq.out.drewN nq))
              cases qv with
              | false =>
                have HZ := Lib.hid (HNK.out (by rw [HGD.out]; rfl))
                clear HNK HGK HGD SV
                go_wp2_with fail
                go_ret
                exact ⟨by rw [HZ.out]; rfl, HU9.out⟩
              | true =>
                have HG2 := Lib.hid (HGK.out (by rw [HGD.out]; rfl))
                clear HNK HGK HGD SV
                go_wp2_with fail
                go_roundw
                case rel => exact ⟨k + 1, by omega, by go_num, HU9, HG2⟩
                case measure => simp [intOf]; omega
        · have hkk : ¬ (k : Int) < (l.length : Int) := by omega
          have HZ := Lib.hid (HYE.out (fun j hj => HG.out j (by omega) hj))
          clear HG HNO HYE
          go_wp2_with fail
          go_ret
          exact ⟨by rw [HZ.out]; rfl, HU.out⟩

end Go.Proofs.YtijmkcnipflpbaaGreatDoor

/-
  Meetings: what the reference's check returns.
-/
namespace Go.Proofs.YtijmkcnipflpbaaGreatDoor
open Go.RowKit

theorem meetsF_len {l : List Me} (h : ¬ l.length ≤ 6) : meetsF l = false := by unfold meetsF; rw [decide_eq_false h, Bool.and_false]
theorem meetsF_yes6 {l : List Me} (hs : l.length ≤ 6) (h : ∀ j (hj : j < l.length), goodM l j l[j] = true) : meetsF l = true := by
  rw [meetsF_yes h, decide_eq_true hs]

set_option maxRecDepth 20000 in
set_option maxHeartbeats 16000000 in
theorem meetingsS (v : Value) (l : List Me) (w : World) (fp : List Nat) (hR : R_Me1 fp w [v] l) (ht : ∀ m ∈ l, m.left.length ≤ 2000000 ∧ m.right.length ≤ 2000000 ∧ m.result.length ≤ 2000000) :
    Calls Tryz.prog 62 #[v] w fun e w' => e = .returned (.bool (meetsF l)) ∧ Upd [] w w' := by
  obtain ⟨a, cap, rfl, g1, g2, hc⟩ := slQ_open hR
  unfold maxLen at g2
  have HC := Lib.hid hc
  have HT := Lib.hid ht
  have HLE := Lib.hid (fun (h : ¬ l.length ≤ 6) => meetsF_len (l := l) h)
  have HNO := Lib.hid (fun k (hk : k < l.length) (h : goodM l k l[k] = false) => meetsF_no hk h)
  have HYE := Lib.hid (fun (hs : l.length ≤ 6) (h : ∀ j (hj : j < l.length), goodM l j l[j] = true) => meetsF_yes6 hs h)
  clear hR hc ht
  generalize hZ : meetsF l = Z at *
  clear hZ
  by_cases h6 : 6 < l.length
  · have HZ := Lib.hid (HLE.out (by omega))
    have hb2 : (6 : Int) < (l.length : Int) := by omega
    clear h6 HNO HYE HLE
    go_enter Tryz.func62, Tryz.ntmps62
    go_wp2_with fail
    go_ret
    exact ⟨by rw [HZ.out]; rfl, Upd.refl _ _⟩
  · have hb2 : ¬ (6 : Int) < (l.length : Int) := by omega
    have HYE := Lib.hid (HYE.out (by omega))
    clear h6 HLE
    go_enter Tryz.func62, Tryz.ntmps62
    go_wp2_with fail
    go_loopw [3] (fun iv wr => ∃ k : Nat, k ≤ l.length ∧ iv = .int .i64 k ∧ Hid (Upd [] w wr) ∧ Hid (∀ j (_ : j < k) (hj : j < l.length), goodM l j l[j] = true)) (fun iv _ => l.length - (intOf iv).toNat)
    case atStart => exact ⟨0, Nat.zero_le _, rfl, Lib.hid (Upd.refl _ _), Lib.hid (fun j hj => absurd hj (Nat.not_lt_zero _))⟩
    case round =>
      obtain ⟨wo, rfl⟩ : ∃ wo : World, wo = wr := ⟨_, rfl⟩
      obtain ⟨k, hk, rfl, HU, HG⟩ := hrel
      by_cases hlt : k < l.length
      · obtain ⟨bb, off, u, f', rfl, -, -, -, hcell, -, hr⟩ := HC.out k hlt
        obtain ⟨rfl, rfl⟩ := hr
        have s0 := HU.out.keep (hcell 0 _ rfl)
        have s1 := HU.out.keep (hcell 1 _ rfl)
        have s2 := HU.out.keep (hcell 2 _ rfl)
        simp only [Nat.add_zero] at s0
        have htk := HT.out l[k] (List.getElem_mem hlt)
        have HNK := Lib.hid (HNO.out k hlt)
        have HGK := Lib.hid (fun (h : goodM l k l[k] = true) j (hjk : j < k + 1) (hj : j < l.length) => (show goodM l j l[j] = true by
          by_cases e : j = k
          · subst e; exact h
          · exact HG.out j (by omega) hj))
        have HGD := Lib.hid (show goodM l k l[k] = ((actF l[k].left && actF l[k].right && actF l[k].result && !bl l[k].right l[k].left) && (decide (k = 0) || lessM (l.getD (k - 1) ⟨[], [], []⟩) l[k]) && l.all (fun o => !(o.left == l[k].result || o.right == l[k].result))) from rfl)
        have HPV := Lib.hid (fun i (hi : k = i + 1) => show ∃ pm : Me, l.getD (k - 1) ⟨[], [], []⟩ = pm ∧ wo.cell? ⟨bb, off + i * 3, none⟩ = some (es pm.left) ∧ wo.cell? ⟨bb, off + i * 3 + 1, none⟩ = some (es pm.right) from by
          subst hi
          have hil : i < l.length := by omega
          obtain ⟨b', o', u', f'', he, -, -, -, hc', -, hr'⟩ := HC.out i hil
          simp only [Option.some.injEq, Addr.mk.injEq, and_true] at he
          obtain ⟨rfl, rfl⟩ := he
          obtain ⟨rfl, rfl⟩ := hr'
          refine ⟨l[i], ?_, HU.out.keep (by simpa using hc' 0 _ rfl), HU.out.keep (hc' 1 _ rfl)⟩
          rw [Nat.add_sub_cancel, List.getD_eq_getElem?_getD, List.getElem?_eq_getElem hil]; rfl)
        have HLC := Lib.hid (fun i (hil : i < l.length) => show w.cell? ⟨bb, off + i * 3, none⟩ = some (es l[i].left) ∧ w.cell? ⟨bb, off + i * 3 + 1, none⟩ = some (es l[i].right) from by
          obtain ⟨b', o', u', f'', he, -, -, -, hc', -, hr'⟩ := HC.out i hil
          simp only [Option.some.injEq, Addr.mk.injEq, and_true] at he
          obtain ⟨rfl, rfl⟩ := he
          obtain ⟨rfl, rfl⟩ := hr'
          exact ⟨by simpa using hc' 0 _ rfl, hc' 1 _ rfl⟩)
        have HAN := Lib.hid (fun i (hil : i < l.length) (h : (l[i].left == l[k].result || l[i].right == l[k].result) = true) => show l.all (fun o => !(o.left == l[k].result || o.right == l[k].result)) = false by
          rw [List.all_eq_false]; exact ⟨l[i], List.getElem_mem hil, by simp [h]⟩)
        have HAY := Lib.hid (fun (h : ∀ i (hil : i < l.length), (l[i].left == l[k].result || l[i].right == l[k].result) = false) => show l.all (fun o => !(o.left == l[k].result || o.right == l[k].result)) = true by
          rw [List.all_eq_true]; intro o ho; obtain ⟨i, hil, rfl⟩ := List.mem_iff_getElem.1 ho; rw [h i hil]; rfl)
        have hkl : (k : Int) < (l.length : Int) := by omega
        clear hcell HG
        generalize goodM l k l[k] = gz at *
        generalize l[k] = m at *
        generalize l.all (fun o => !(o.left == m.result || o.right == m.result)) = qn at *
        obtain ⟨wP, hwP⟩ : ∃ q, q = wo.alloc (.cells #[es m.left, es m.right, es m.result] 82) := ⟨_, rfl⟩
        obtain ⟨BP, hBP⟩ : ∃ q, q = wo.heap.size := ⟨_, rfl⟩
        have uP : Upd [] wo wP := by rw [hwP]; exact (Upd.refl _ _).alloc _
        have x0 : wP.cell? ⟨BP, 0, none⟩ = some (es m.left) := by rw [hwP, hBP]; exact cell_new wo _ _ _ rfl 0 _ rfl
        have x1 : wP.cell? ⟨BP, 1, none⟩ = some (es m.right) := by rw [hwP, hBP]; exact cell_new wo _ _ _ rfl 1 _ rfl
        have x2 : wP.cell? ⟨BP, 2, none⟩ = some (es m.result) := by rw [hwP, hBP]; exact cell_new wo _ _ _ rfl 2 _ rfl
        have UP := Lib.hid uP
        have HUP := Lib.hid (HU.out.trans uP)
        have SA0 := Lib.hid (fun W => actionS m.left W htk.1)
        have SA1 := Lib.hid (fun W => actionS m.right W htk.2.1)
        have SA2 := Lib.hid (fun W => actionS m.result W htk.2.2)
        obtain ⟨A0, hA0⟩ : ∃ q, actF m.left = q := ⟨_, rfl⟩
        obtain ⟨A1, hA1⟩ : ∃ q, actF m.right = q := ⟨_, rfl⟩
        obtain ⟨A2, hA2⟩ : ∃ q, actF m.result = q := ⟨_, rfl⟩
        obtain ⟨gg, hgg⟩ : ∃ q, bl m.right m.left = q := ⟨_, rfl⟩
        have hgt : (Op.bytesLess m.left m.right || m.left == m.right) = !gg := by rw [← hgg]; exact bl_total m.left m.right
        rw [hA0, hA1, hA2, hgg] at HGD
        rw [hA0] at SA0
        rw [hA1] at SA1
        rw [hA2] at SA2
        clear uP htk hA0 hA1 hA2 hgg
        go_upto_region 7 with (fail)
        rw [← hwP, ← hBP]
        clear hwP hBP s0 s1 s2
        cases A0 with
        | false =>
          have HZ := Lib.hid (HNK.out (by rw [HGD.out]; rfl))
          clear HNK HGK HGD HPV HLC HAN HAY
          go_wp2_with fail
          refine (SA0.out _).mono ?_
          rintro e w1 ⟨rfl, rfl⟩
          go_wp2_with fail
          go_ret
          exact ⟨by rw [HZ.out]; rfl, HUP.out⟩
        | true =>
          cases A1 with
          | false =>
            have HZ := Lib.hid (HNK.out (by rw [HGD.out]; rfl))
            clear HNK HGK HGD HPV HLC HAN HAY
            go_wp2_with fail
            refine (SA0.out _).mono ?_
            rintro e w1 ⟨rfl, rfl⟩
            go_wp2_with fail
            refine (SA1.out _).mono ?_
            rintro e w1 ⟨rfl, rfl⟩
            go_wp2_with fail
            go_ret
            exact ⟨by rw [HZ.out]; rfl, HUP.out⟩
          | true =>
            cases A2 with
            | false =>
              have HZ := Lib.hid (HNK.out (by rw [HGD.out]; rfl))
              clear HNK HGK HGD HPV HLC HAN HAY
              go_wp2_with fail
              refine (SA0.out _).mono ?_
              rintro e w1 ⟨rfl, rfl⟩
              go_wp2_with fail
              refine (SA1.out _).mono ?_
              rintro e w1 ⟨rfl, rfl⟩
              go_wp2_with fail
              refine (SA2.out _).mono ?_
              rintro e w1 ⟨rfl, rfl⟩
              go_wp2_with fail
              go_ret
              exact ⟨by rw [HZ.out]; rfl, HUP.out⟩
            | true =>
              cases gg with
              | true =>
                have HZ := Lib.hid (HNK.out (by rw [HGD.out]; rfl))
                simp only [Bool.not_true] at hgt
                clear HNK HGK HGD HPV HLC HAN HAY
                go_wp2_with fail
                refine (SA0.out _).mono ?_
                rintro e w1 ⟨rfl, rfl⟩
                go_wp2_with fail
                refine (SA1.out _).mono ?_
                rintro e w1 ⟨rfl, rfl⟩
                go_wp2_with fail
                refine (SA2.out _).mono ?_
                rintro e w1 ⟨rfl, rfl⟩
                go_wp2_with fail
                go_ret
                exact ⟨by rw [HZ.out]; rfl, HUP.out⟩
              | false =>
                simp only [Bool.not_false] at hgt
                have HCS := Lib.hid (show (k = 0 ∧ gz = qn) ∨ (∃ (i : Nat) (pl pr : List UInt8), k = i + 1 ∧ wP.cell? ⟨bb, off + i * 3, none⟩ = some (es pl) ∧ wP.cell? ⟨bb, off + i * 3 + 1, none⟩ = some (es pr) ∧
                    ((Op.bytesLess pl m.left = true ∧ (pl == m.left) = false ∧ gz = qn) ∨ (Op.bytesLess pl m.left = false ∧ (pl == m.left) = true ∧ Op.bytesLess pr m.right = true ∧ gz = qn) ∨
                     (Op.bytesLess pl m.left = false ∧ (pl == m.left) = true ∧ Op.bytesLess pr m.right = false ∧ gz = false) ∨ (Op.bytesLess pl m.left = false ∧ (pl == m.left) = false ∧ gz = false))) from by
                  rcases Nat.eq_zero_or_pos k with h0 | h0
                  · left; exact ⟨h0, by rw [HGD.out, h0]; simp⟩
                  · right
                    obtain ⟨i, rfl⟩ : ∃ i, k = i + 1 := ⟨k - 1, by omega⟩
                    obtain ⟨pm, hpm, r0, r1⟩ := HPV.out i rfl
                    refine ⟨i, pm.left, pm.right, rfl, UP.out.keep r0, UP.out.keep r1, ?_⟩
                    rw [HGD.out, hpm]
                    unfold lessM
                    have hbl : ∀ a b : List UInt8, Op.bytesLess a b = bl a b := fun _ _ => rfl
                    rw [hbl, hbl]
                    cases ha : bl pm.left m.left with
                    | true =>
                      left
                      refine ⟨rfl, ?_, by simp⟩
                      cases he : (pm.left == m.left) with
                      | false => rfl
                      | true =>
                        have ht := bl_total m.left m.left
                        rw [beq_iff_eq.1 he] at ha
                        rw [ha] at ht; simp at ht
                    | false =>
                      right
                      cases he : (pm.left == m.left) with
                      | false => right; right; exact ⟨rfl, rfl, by simp⟩
                      | true =>
                        cases hb : bl pm.right m.right with
                        | true => left; exact ⟨rfl, rfl, rfl, by simp⟩
                        | false => right; left; exact ⟨rfl, rfl, rfl, by simp⟩)
                clear HGD HPV
                rcases HCS.out with ⟨rfl, hz⟩ | ⟨i, pl, pr, rfl, y0, y1, hcs⟩
                · clear HCS
                  have hki : ¬ (0 : Int) < ((0 : Nat) : Int) := by omega
                  go_wp2_with fail
                  refine (SA0.out _).mono ?_
                  rintro e w1 ⟨rfl, rfl⟩
                  go_wp2_with fail
                  refine (SA1.out _).mono ?_
                  rintro e w1 ⟨rfl, rfl⟩
                  go_wp2_with fail
                  refine (SA2.out _).mono ?_
                  rintro e w1 ⟨rfl, rfl⟩
                  go_wp2_with fail
                  go_quiet (fail)
                  obtain ⟨wq, hwq⟩ : ∃ wq, wP.drewN nq = wq := ⟨_, rfl⟩
                  have HUq := Lib.hid (show Upd [] w wq by rw [← hwq]; exact HUP.out.trans ((Upd.refl [] wP).drewN nq))
                  have k2 : wq.cell? ⟨BP, 2, none⟩ = some (es m.result) := by rw [← hwq]; exact x2
                  rw [hwq]
                  clear hwq x0 x1 x2 SA0 SA1 SA2
                  go_wp2_with fail
                  go_loopw [5] (fun iv wr => ∃ j : Nat, j ≤ l.length ∧ iv = .int .i64 j ∧ Hid (Upd [] wq wr) ∧ Hid (∀ i (_ : i < j) (hil : i < l.length), (l[i].left == m.result || l[i].right == m.result) = false)) (fun iv _ => l.length - (intOf iv).toNat)
                  case atStart => exact ⟨0, Nat.zero_le _, rfl, Lib.hid (Upd.refl _ _), Lib.hid (fun j hj => absurd hj (Nat.not_lt_zero _))⟩
                  case round =>
                    obtain ⟨wx, rfl⟩ : ∃ wo : World, wo = wr := ⟨_, rfl⟩
                    obtain ⟨j, hj, rfl, HV, HI⟩ := hrel
                    have z2 := HV.out.keep k2
                    by_cases hlj : j < l.length
                    · obtain ⟨d0, d1⟩ := HLC.out j hlj
                      have z0 := HV.out.keep (HUq.out.keep d0)
                      have z1 := HV.out.keep (HUq.out.keep d1)
                      have HA1 := Lib.hid (HAN.out j hlj)
                      have HI2 := Lib.hid (fun (h : (l[j].left == m.result || l[j].right == m.result) = false) i (hjk : i < j + 1) (hj : i < l.length) => (show (l[i].left == m.result || l[i].right == m.result) = false by
                        by_cases e : i = j
                        · subst e; exact h
                        · exact HI.out i (by omega) hj))
                      have hjl : (j : Int) < (l.length : Int) := by omega
                      clear d0 d1 HI
                      generalize l[j] = o at *
                      obtain ⟨q1, hq1⟩ : ∃ q, (o.left == m.result) = q := ⟨_, rfl⟩
                      obtain ⟨q2, hq2⟩ : ∃ q, (o.right == m.result) = q := ⟨_, rfl⟩
                      rw [hq1, hq2] at HA1 HI2
                      cases q1 with
                      | true =>
                        have HZ := Lib.hid (HNK.out (hz.trans (HA1.out rfl)))
                        clear HA1 HI2 HNK HGK HAN HAY
                        go_wp2_with fail
                        go_quiet (fail)
                        have HU9 := Lib.hid (HUq.out.trans (HV.out.drewN nq))
                        go_wp2_with fail
                        go_ret
                        exact ⟨by rw [HZ.out]; rfl, HU9.out⟩
                      | false =>
                        cases q2 with
                        | true =>
                          have HZ := Lib.hid (HNK.out (hz.trans (HA1.out rfl)))
                          clear HA1 HI2 HNK HGK HAN HAY
                          go_wp2_with fail
                          go_quiet (fail)
                          have HU9 := Lib.hid (HUq.out.trans (HV.out.drewN nq))
                          go_wp2_with fail
                          go_ret
                          exact ⟨by rw [HZ.out]; rfl, HU9.out⟩
                        | false =>
                          have HI3 := Lib.hid (HI2.out rfl)
                          clear HA1 HI2 HNK HGK HAN HAY
                          go_wp2_with fail
                          go_quiet (fail)
                          have HV9 := Lib.hid (HV.out.drewN nq)
                          go_wp2_with fail
                          go_roundw
                          case rel => exact ⟨j + 1, by omega, by go_num, HV9, HI3⟩
                          case measure => simp [intOf]; omega
                    · have hjj : ¬ (j : Int) < (l.length : Int) := by omega
                      have HG2 := Lib.hid (HGK.out (hz.trans (HAY.out (fun i hil => HI.out i (by omega) hil))))
                      have HU9 := Lib.hid (HUq.out.trans HV.out)
                      clear HI HAN HAY HNK HGK
                      go_wp2_with fail
                      go_roundw
                      case rel => exact ⟨0 + 1, by omega, by go_num, HU9, HG2⟩
                      case measure => simp [intOf]; omega
                · clear HCS
                  rcases hcs with ⟨e1, e2, hz⟩ | ⟨e1, e2, e3, hz⟩ | ⟨e1, e2, e3, hz⟩ | ⟨e1, e2, hz⟩
                  · have hi0 : (0 : Int) ≤ (i : Int) := by omega
                    have hi1 : (i : Int) < (l.length : Int) := by omega
                    have hw1 : IntKind.i64.wrap (((i : Int) + 1) - 1) = (i : Int) := by rw [IntKind.wrap_i64]; omega
                    have hw2 : IntKind.i64.wrap (i : Int) = (i : Int) := by rw [IntKind.wrap_i64]; omega
                    have hp0 : (0 : Int) < (i : Int) + 1 := by omega
                    go_wp2_with fail
                    refine (SA0.out _).mono ?_
                    rintro e w1 ⟨rfl, rfl⟩
                    go_wp2_with fail
                    refine (SA1.out _).mono ?_
                    rintro e w1 ⟨rfl, rfl⟩
                    go_wp2_with fail
                    refine (SA2.out _).mono ?_
                    rintro e w1 ⟨rfl, rfl⟩
                    go_wp2_with fail
                    go_quiet (fail)
                    obtain ⟨wq, hwq⟩ : ∃ wq, wP.drewN nq = wq := ⟨_, rfl⟩
                    have HUq := Lib.hid (show Upd [] w wq by rw [← hwq]; exact HUP.out.trans ((Upd.refl [] wP).drewN nq))
                    have k2 : wq.cell? ⟨BP, 2, none⟩ = some (es m.result) := by rw [← hwq]; exact x2
                    rw [hwq]
                    clear hwq x0 x1 x2 SA0 SA1 SA2
                    go_wp2_with fail
                    go_loopw [5] (fun iv wr => ∃ j : Nat, j ≤ l.length ∧ iv = .int .i64 j ∧ Hid (Upd [] wq wr) ∧ Hid (∀ i (_ : i < j) (hil : i < l.length), (l[i].left == m.result || l[i].right == m.result) = false)) (fun iv _ => l.length - (intOf iv).toNat)
                    case atStart => exact ⟨0, Nat.zero_le _, rfl, Lib.hid (Upd.refl _ _), Lib.hid (fun j hj => absurd hj (Nat.not_lt_zero _))⟩
                    case round =>
                      obtain ⟨wx, rfl⟩ : ∃ wo : World, wo = wr := ⟨_, rfl⟩
                      obtain ⟨j, hj, rfl, HV, HI⟩ := hrel
                      have z2 := HV.out.keep k2
                      by_cases hlj : j < l.length
                      · obtain ⟨d0, d1⟩ := HLC.out j hlj
                        have z0 := HV.out.keep (HUq.out.keep d0)
                        have z1 := HV.out.keep (HUq.out.keep d1)
                        have HA1 := Lib.hid (HAN.out j hlj)
                        have HI2 := Lib.hid (fun (h : (l[j].left == m.result || l[j].right == m.result) = false) i (hjk : i < j + 1) (hj : i < l.length) => (show (l[i].left == m.result || l[i].right == m.result) = false by
                          by_cases e : i = j
                          · subst e; exact h
                          · exact HI.out i (by omega) hj))
                        have hjl : (j : Int) < (l.length : Int) := by omega
                        clear d0 d1 HI
                        generalize l[j] = o at *
                        obtain ⟨q1, hq1⟩ : ∃ q, (o.left == m.result) = q := ⟨_, rfl⟩
                        obtain ⟨q2, hq2⟩ : ∃ q, (o.right == m.result) = q := ⟨_, rfl⟩
                        rw [hq1, hq2] at HA1 HI2
                        cases q1 with
                        | true =>
                          have HZ := Lib.hid (HNK.out (hz.trans (HA1.out rfl)))
                          clear HA1 HI2 HNK HGK HAN HAY
                          go_wp2_with fail
                          go_quiet (fail)
                          have HU9 := Lib.hid (HUq.out.trans (HV.out.drewN nq))
                          go_wp2_with fail
                          go_ret
                          exact ⟨by rw [HZ.out]; rfl, HU9.out⟩
                        | false =>
                          cases q2 with
                          | true =>
                            have HZ := Lib.hid (HNK.out (hz.trans (HA1.out rfl)))
                            clear HA1 HI2 HNK HGK HAN HAY
                            go_wp2_with fail
                            go_quiet (fail)
                            have HU9 := Lib.hid (HUq.out.trans (HV.out.drewN nq))
                            go_wp2_with fail
                            go_ret
                            exact ⟨by rw [HZ.out]; rfl, HU9.out⟩
                          | false =>
                            have HI3 := Lib.hid (HI2.out rfl)
                            clear HA1 HI2 HNK HGK HAN HAY
                            go_wp2_with fail
                            go_quiet (fail)
                            have HV9 := Lib.hid (HV.out.drewN nq)
                            go_wp2_with fail
                            go_roundw
                            case rel => exact ⟨j + 1, by omega, by go_num, HV9, HI3⟩
                            case measure => simp [intOf]; omega
                      · have hjj : ¬ (j : Int) < (l.length : Int) := by omega
                        have HG2 := Lib.hid (HGK.out (hz.trans (HAY.out (fun i hil => HI.out i (by omega) hil))))
                        have HU9 := Lib.hid (HUq.out.trans HV.out)
                        clear HI HAN HAY HNK HGK
                        go_wp2_with fail
                        go_roundw
                        case rel => exact ⟨(i + 1) + 1, by omega, by go_num, HU9, HG2⟩
                        case measure => simp [intOf]; omega
                  · have hi0 : (0 : Int) ≤ (i : Int) := by omega
                    have hi1 : (i : Int) < (l.length : Int) := by omega
                    have hw1 : IntKind.i64.wrap (((i : Int) + 1) - 1) = (i : Int) := by rw [IntKind.wrap_i64]; omega
                    have hw2 : IntKind.i64.wrap (i : Int) = (i : Int) := by rw [IntKind.wrap_i64]; omega
                    have hp0 : (0 : Int) < (i : Int) + 1 := by omega
                    go_wp2_with fail
                    refine (SA0.out _).mono ?_
                    rintro e w1 ⟨rfl, rfl⟩
                    go_wp2_with fail
                    refine (SA1.out _).mono ?_
                    rintro e w1 ⟨rfl, rfl⟩
                    go_wp2_with fail
                    refine (SA2.out _).mono ?_
                    rintro e w1 ⟨rfl, rfl⟩
                    go_wp2_with fail
                    go_quiet (fail)
                    obtain ⟨wq, hwq⟩ : ∃ wq, wP.drewN nq = wq := ⟨_, rfl⟩
                    have HUq := Lib.hid (show Upd [] w wq by rw [← hwq]; exact HUP.out.trans ((Upd.refl [] wP).drewN nq))
                    have k2 : wq.cell? ⟨BP, 2, none⟩ = some (es m.result) := by rw [← hwq]; exact x2
                    rw [hwq]
                    clear hwq x0 x1 x2 SA0 SA1 SA2
                    go_wp2_with fail
                    go_loopw [5] (fun iv wr => ∃ j : Nat, j ≤ l.length ∧ iv = .int .i64 j ∧ Hid (Upd [] wq wr) ∧ Hid (∀ i (_ : i < j) (hil : i < l.length), (l[i].left == m.result || l[i].right == m.result) = false)) (fun iv _ => l.length - (intOf iv).toNat)
                    case atStart => exact ⟨0, Nat.zero_le _, rfl, Lib.hid (Upd.refl _ _), Lib.hid (fun j hj => absurd hj (Nat.not_lt_zero _))⟩
                    case round =>
                      obtain ⟨wx, rfl⟩ : ∃ wo : World, wo = wr := ⟨_, rfl⟩
                      obtain ⟨j, hj, rfl, HV, HI⟩ := hrel
                      have z2 := HV.out.keep k2
                      by_cases hlj : j < l.length
                      · obtain ⟨d0, d1⟩ := HLC.out j hlj
                        have z0 := HV.out.keep (HUq.out.keep d0)
                        have z1 := HV.out.keep (HUq.out.keep d1)
                        have HA1 := Lib.hid (HAN.out j hlj)
                        have HI2 := Lib.hid (fun (h : (l[j].left == m.result || l[j].right == m.result) = false) i (hjk : i < j + 1) (hj : i < l.length) => (show (l[i].left == m.result || l[i].right == m.result) = false by
                          by_cases e : i = j
                          · subst e; exact h
                          · exact HI.out i (by omega) hj))
                        have hjl : (j : Int) < (l.length : Int) := by omega
                        clear d0 d1 HI
                        generalize l[j] = o at *
                        obtain ⟨q1, hq1⟩ : ∃ q, (o.left == m.result) = q := ⟨_, rfl⟩
                        obtain ⟨q2, hq2⟩ : ∃ q, (o.right == m.result) = q := ⟨_, rfl⟩
                        rw [hq1, hq2] at HA1 HI2
                        cases q1 with
                        | true =>
                          have HZ := Lib.hid (HNK.out (hz.trans (HA1.out rfl)))
                          clear HA1 HI2 HNK HGK HAN HAY
                          go_wp2_with fail
                          go_quiet (fail)
                          have HU9 := Lib.hid (HUq.out.trans (HV.out.drewN nq))
                          go_wp2_with fail
                          go_ret
                          exact ⟨by rw [HZ.out]; rfl, HU9.out⟩
                        | false =>
                          cases q2 with
                          | true =>
                            have HZ := Lib.hid (HNK.out (hz.trans (HA1.out rfl)))
                            clear HA1 HI2 HNK HGK HAN HAY
                            go_wp2_with fail
                            go_quiet (fail)
                            have HU9 := Lib.hid (HUq.out.trans (HV.out.drewN nq))
                            go_wp2_with fail
                            go_ret
                            exact ⟨by rw [HZ.out]; rfl, HU9.out⟩
                          | false =>
                            have HI3 := Lib.hid (HI2.out rfl)
                            clear HA1 HI2 HNK HGK HAN HAY
                            go_wp2_with fail
                            go_quiet (fail)
                            have HV9 := Lib.hid (HV.out.drewN nq)
                            go_wp2_with fail
                            go_roundw
                            case rel => exact ⟨j + 1, by omega, by go_num, HV9, HI3⟩
                            case measure => simp [intOf]; omega
                      · have hjj : ¬ (j : Int) < (l.length : Int) := by omega
                        have HG2 := Lib.hid (HGK.out (hz.trans (HAY.out (fun i hil => HI.out i (by omega) hil))))
                        have HU9 := Lib.hid (HUq.out.trans HV.out)
                        clear HI HAN HAY HNK HGK
                        go_wp2_with fail
                        go_roundw
                        case rel => exact ⟨(i + 1) + 1, by omega, by go_num, HU9, HG2⟩
                        case measure => simp [intOf]; omega
                  · have hi0 : (0 : Int) ≤ (i : Int) := by omega
                    have hi1 : (i : Int) < (l.length : Int) := by omega
                    have hw1 : IntKind.i64.wrap (((i : Int) + 1) - 1) = (i : Int) := by rw [IntKind.wrap_i64]; omega
                    have hw2 : IntKind.i64.wrap (i : Int) = (i : Int) := by rw [IntKind.wrap_i64]; omega
                    have hp0 : (0 : Int) < (i : Int) + 1 := by omega
                    have HZ := Lib.hid (HNK.out hz)
                    clear HNK HGK HLC HAN HAY
                    go_wp2_with fail
                    refine (SA0.out _).mono ?_
                    rintro e w1 ⟨rfl, rfl⟩
                    go_wp2_with fail
                    refine (SA1.out _).mono ?_
                    rintro e w1 ⟨rfl, rfl⟩
                    go_wp2_with fail
                    refine (SA2.out _).mono ?_
                    rintro e w1 ⟨rfl, rfl⟩
                    go_wp2_with fail
                    go_quiet (fail)
                    have HU9 := Lib.hid (HUP.out.trans ((Upd.refl [] wP).drewN nq))
                    go_wp2_with fail
                    go_ret
                    exact ⟨by rw [HZ.out]; rfl, HU9.out⟩
                  · have hi0 : (0 : Int) ≤ (i : Int) := by omega
                    have hi1 : (i : Int) < (l.length : Int) := by omega
                    have hw1 : IntKind.i64.wrap (((i : Int) + 1) - 1) = (i : Int) := by rw [IntKind.wrap_i64]; omega
                    have hw2 : IntKind.i64.wrap (i : Int) = (i : Int) := by rw [IntKind.wrap_i64]; omega
                    have hp0 : (0 : Int) < (i : Int) + 1 := by omega
                    have HZ := Lib.hid (HNK.out hz)
                    clear HNK HGK HLC HAN HAY
                    go_wp2_with fail
                    refine (SA0.out _).mono ?_
                    rintro e w1 ⟨rfl, rfl⟩
                    go_wp2_with fail
                    refine (SA1.out _).mono ?_
                    rintro e w1 ⟨rfl, rfl⟩
                    go_wp2_with fail
                    refine (SA2.out _).mono ?_
                    rintro e w1 ⟨rfl, rfl⟩
                    go_wp2_with fail
                    go_quiet (fail)
                    have HU9 := Lib.hid (HUP.out.trans ((Upd.refl [] wP).drewN nq))
                    go_wp2_with fail
                    go_ret
                    exact ⟨by rw [HZ.out]; rfl, HU9.out⟩
      · have hkk : ¬ (k : Int) < (l.length : Int) := by omega
        have HZ := Lib.hid (HYE.out (fun j hj => HG.out j (by omega) hj))
        clear HG HNO HYE
        go_wp2_with fail
        go_ret
        exact ⟨by rw [HZ.out]; rfl, HU.out⟩

end Go.Proofs.YtijmkcnipflpbaaGreatDoor

/-
  The reference's check of a system: what the calls return.
-/
namespace Go.Proofs.YtijmkcnipflpbaaGreatDoor
open Go.RowKit

set_option maxRecDepth 20000 in
set_option maxHeartbeats 8000000 in
theorem sysFaultS (B : Nat) (cs : List Value) (fp : List Nat) (s : Sy) (w : World) (hA : SyAt B cs fp w s) (hF : SyFit s) :
    Calls Tryz.prog 40 #[.pointer (some ⟨B, 0, none⟩)] w fun e w' => e = .returned (.int .i64 (faultSy s)) ∧ Upd [] w w' := by
  have hA0 := hA
  obtain ⟨⟨v0, v1, v2, v3, v4, f0, f1, f2, f3, f4, rfl, h0, h1, h2, h3, h4, rfl⟩, hcc⟩ := hA
  have HM := Lib.hid (show faultSy s = if !defsOk s.defs then 1 else if !compsOk s.defs s.comps then 2 else if !meetsF s.meets then 3 else if !namesF s.allow then 4 else if !namesF s.hide then 5 else 0 from rfl)
  have HC := Lib.hid (fun W (hu : Upd [] w W) => show W.cell? ⟨B, 0, none⟩ = some v0 ∧ W.cell? ⟨B, 2, none⟩ = some v2 ∧ W.cell? ⟨B, 3, none⟩ = some v3 ∧ W.cell? ⟨B, 4, none⟩ = some v4 from
    ⟨hu.keep (hcc 0 _ rfl), hu.keep (hcc 2 _ rfl), hu.keep (hcc 3 _ rfl), hu.keep (hcc 4 _ rfl)⟩)
  have S0 := Lib.hid (defsS v0 s.defs w f0 h0 hF.defs)
  have SC := Lib.hid (fun W (hu : Upd [] w W) (hdl : s.defs.length ≤ 1000000) => componentsS B _ _ s W (hA0.upd hu) hdl)
  have SM := Lib.hid (fun W (hu : Upd [] w W) => meetingsS v2 s.meets W f2 (R_Me1k.upd h2 hu (by simp)) hF.meets.2)
  have SA := Lib.hid (fun W (hu : Upd [] w W) => nameListS v3 s.allow W f3 (R_S1k.upd h3 hu (by simp)) hF.allow.1 hF.allow.2)
  have SH := Lib.hid (fun W (hu : Upd [] w W) => nameListS v4 s.hide W f4 (R_S1k.upd h4 hu (by simp)) hF.hide.1 hF.hide.2)
  have HDL := Lib.hid (fun (h : defsOk s.defs = true) => show s.defs.length ≤ 1000000 from by
    unfold defsOk at h
    simp only [Bool.and_eq_true, decide_eq_true_eq] at h
    omega)
  obtain ⟨a0, q0, rfl, -, -, -⟩ := slQ_open h0
  obtain ⟨a2, q2, rfl, -, -, -⟩ := slQ_open h2
  obtain ⟨a3, q3, rfl, -, -, -⟩ := slF1_open h3
  obtain ⟨a4, q4, rfl, -, -, -⟩ := slF1_open h4
  obtain ⟨c0, c2, c3, c4⟩ := HC.out w (Upd.refl _ _)
  clear h0 h1 h2 h3 h4 hF hA0 hcc
  generalize faultSy s = Z at *
  obtain ⟨defs, comps, meets, allow, hide⟩ := s
  simp only at *
  generalize defsOk defs = d at *
  cases d with
  | false =>
    have HZ := Lib.hid (show Z = 1 from HM.out)
    clear HM SC SM SA SH HDL HC
    go_enter Tryz.func40, Tryz.ntmps40
    go_wp2_with fail
    refine S0.out.mono ?_
    rintro e w1 ⟨rfl, hu1⟩
    have HU := Lib.hid hu1
    clear hu1 c0 c2 c3 c4
    go_wp2_with fail
    go_ret
    exact ⟨by rw [HZ.out]; rfl, HU.out⟩
  | true =>
    have hdl := HDL.out rfl
    go_enter Tryz.func40, Tryz.ntmps40
    go_wp2_with fail
    refine S0.out.mono ?_
    rintro e w1 ⟨rfl, hu1⟩
    have HU := Lib.hid hu1
    have S1 := Lib.hid (SC.out w1 hu1 hdl)
    clear hu1 c0 c2 c3 c4 SC S0 HDL hdl
    generalize compsOk defs comps = g at *
    go_wp2_with fail
    refine S1.out.mono ?_
    rintro e w2 ⟨rfl, hu2⟩
    have HU := Lib.hid (HU.out.trans hu2)
    obtain ⟨c0, c2, c3, c4⟩ := HC.out w2 HU.out
    have S2 := Lib.hid (SM.out w2 HU.out)
    clear hu2 S1 SM
    cases g with
    | false =>
      have HZ := Lib.hid (show Z = 2 from HM.out)
      clear HM SA SH HC S2
      go_wp2_with fail
      go_ret
      exact ⟨by rw [HZ.out]; rfl, HU.out⟩
    | true =>
      generalize meetsF meets = g at *
      go_wp2_with fail
      refine S2.out.mono ?_
      rintro e w3 ⟨rfl, hu2⟩
      have HU := Lib.hid (HU.out.trans hu2)
      clear c0 c2 c3 c4
      obtain ⟨c0, c2, c3, c4⟩ := HC.out w3 HU.out
      have S3 := Lib.hid (SA.out w3 HU.out)
      clear hu2 S2 SA
      cases g with
      | false =>
        have HZ := Lib.hid (show Z = 3 from HM.out)
        clear HM SH HC S3
        go_wp2_with fail
        go_ret
        exact ⟨by rw [HZ.out]; rfl, HU.out⟩
      | true =>
        generalize namesF allow = g at *
        go_wp2_with fail
        refine S3.out.mono ?_
        rintro e w4 ⟨rfl, hu2⟩
        have HU := Lib.hid (HU.out.trans hu2)
        clear c0 c2 c3 c4
        obtain ⟨c0, c2, c3, c4⟩ := HC.out w4 HU.out
        have S4 := Lib.hid (SH.out w4 HU.out)
        clear hu2 S3 SH
        cases g with
        | false =>
          have HZ := Lib.hid (show Z = 4 from HM.out)
          clear HM HC S4
          go_wp2_with fail
          go_ret
          exact ⟨by rw [HZ.out]; rfl, HU.out⟩
        | true =>
          generalize namesF hide = g at *
          go_wp2_with fail
          refine S4.out.mono ?_
          rintro e w5 ⟨rfl, hu2⟩
          have HU := Lib.hid (HU.out.trans hu2)
          clear c0 c2 c3 c4 hu2 S4
          cases g with
          | false =>
            have HZ := Lib.hid (show Z = 5 from HM.out)
            clear HM HC
            go_wp2_with fail
            go_ret
            exact ⟨by rw [HZ.out]; rfl, HU.out⟩
          | true =>
            have HZ := Lib.hid (show Z = 0 from HM.out)
            clear HM HC
            go_wp2_with fail
            go_ret
            exact ⟨by rw [HZ.out]; rfl, HU.out⟩

set_option maxRecDepth 20000 in
theorem sysIsS (B : Nat) (cs : List Value) (fp : List Nat) (s : Sy) (w : World) (hA : SyAt B cs fp w s) (hF : SyFit s) :
    Calls Tryz.prog 20 #[.pointer (some ⟨B, 0, none⟩)] w fun e w' => e = .returned (.bool (sysOk s)) ∧ Upd [] w w' := by
  have S1 := Lib.hid (sysFaultS B cs fp s w hA hF)
  have HZ := Lib.hid (faultSy_ok s)
  clear hA hF
  generalize faultSy s = z at *
  go_enter Tryz.func20, Tryz.ntmps20
  go_wp2_with fail
  refine S1.out.mono ?_
  rintro e w1 ⟨rfl, hu1⟩
  have HU := Lib.hid hu1
  clear hu1
  go_wp2_with fail
  go_ret
  exact ⟨by rw [← HZ.out]; rfl, HU.out⟩

end Go.Proofs.YtijmkcnipflpbaaGreatDoor

/-
  The text of a body: what the reference's calls return.
-/
namespace Go.Proofs.YtijmkcnipflpbaaGreatDoor
open Go.RowKit

theorem Tryz.infoStrD : (Tryz.prog.info? 9).map (fun i => (i.zero, i.size, i.bytes)) = some (some (.string ⟨#[]⟩), 1, 16) := by kernel_rfl
theorem Tryz.infoBoolD : (Tryz.prog.info? 4).map (fun i => (i.zero, i.size, i.bytes)) = some (some (.bool false), 1, 1) := by kernel_rfl
theorem nodeD_len (ns : List (List UInt8)) {ds : List De} (hn : ∀ n ∈ ns, n.length ≤ 10) (p : Pa) (hp : PaFine ds p) (c0 : Bool) (t0 t1 : List UInt8) (h0 : t0.length ≤ 40000) (h1 : t1.length ≤ 40000) : (nodeD ns p c0 t0 t1).length ≤ 90000 := by
  have ha := args_len p.args hp.three
  have hg := getD_len ns hn p.num.toNat
  have hb := par_len c0 t0
  unfold nodeD
  split
  · rename_i e
    have := hp.act e
    simp only [List.length_append, List.length_cons, List.length_nil]; omega
  split
  · simp only [List.length_append, List.length_cons, List.length_nil]; omega
  split
  · have := expT_len (p.args.getD 0 [])
    simp only [List.length_append, List.length_cons, List.length_nil]; omega
  split
  · rename_i e
    have := hp.sum e
    have := itoa_two (n := p.num) (by omega) (by omega)
    simp only [List.length_append, List.length_cons, List.length_nil]; omega
  split
  · simp only [List.length_append]; omega
  · simp only [List.length_cons, List.length_nil]; omega

/-- what stands on the reference's stacks: the forest of the parts from k on. -/
structure BdS (ns : List (List UInt8)) (w0 w : World) (tv lv : Value) (n g ct gl cl : Nat) (xs : List (Tr Pa)) : Prop where
  st : StkB (pT ns) chP w0 w tv lv xs
  tv : tv = .slice (some ⟨g, 0, none⟩) n ct
  lv : lv = .slice (some ⟨gl, 0, none⟩) n cl
  tc : n ≤ ct ∧ ct ≤ 9223372036854775807
  lc : n ≤ cl ∧ cl ≤ 9223372036854775807

set_option maxRecDepth 20000 in
set_option maxHeartbeats 16000000 in
theorem bodyDS (ds : List De) (dv : Value) (fd : List Nat) (v : Value) (f : List Pa) (x : Tr Pa) (w : World) (fp : List Nat) (ns : List (List UInt8)) (hnsd : ns = ds.map De.name) (hnn : ∀ n ∈ ns, n.length ≤ 10) (hDS : R_De1 fd w [dv] ds) (hR : R_Pa1 fp w [v] f) (hsg : shapeG folP 1 f = true) (hln : f.length ≤ 20) (hfit : ∀ n ∈ f, PaFine ds n) (hx : forestT folP f = [x]) :
    Calls Tryz.prog 80 #[dv, v] w fun e w' => e = .returned (es (pT ns x)) ∧ Upd [] w w' := by
  obtain ⟨i1, ki, kz0, kz1, kz2⟩ := info_parts Tryz.infoBoolD
  obtain ⟨i2, ji, jz0, jz1, jz2⟩ := info_parts Tryz.infoStrD
  obtain ⟨a1, c1, rfl, hl1, hm1, hc1⟩ := slQ_open hR
  obtain ⟨ad, qd, rfl, -, hqd, hcd⟩ := slQ_open hDS
  unfold maxLen at hm1 hqd
  have HST := Lib.hid (fun k hk => forestT_step folP_nn hsg k hk)
  have HFL := Lib.hid (fun k (hk : k ≤ f.length) => by
    obtain ⟨q, q0, -, q2⟩ := shapeG_drop folP_nn f 1 (by omega) hsg k hk
    exact (forestT_ok folP_nn _ q q0 q2).2.2 : ∀ k, k ≤ f.length → flatTs (forestT folP (f.drop k)) = f.drop k)
  have HFO2 := Lib.hid (fun k (hk : k ≤ f.length) => by
    obtain ⟨q, q0, -, q2⟩ := shapeG_drop folP_nn f 1 (by omega) hsg k hk
    exact (forestT_ok folP_nn _ q q0 q2).2.1 : ∀ k, k ≤ f.length → okTs folP (forestT folP (f.drop k)) = true)
  have HX0 := Lib.hid (show forestT folP (f.drop 0) = [x] from hx)
  have HXE := Lib.hid (show forestT folP (f.drop f.length) = [] by rw [List.drop_length]; rfl)
  have HFIT := Lib.hid hfit
  have HC := Lib.hid hc1
  have HCD := Lib.hid hcd
  have HNS := Lib.hid hnsd
  have HL0 := Lib.hid (fun (w : World) (T : TypeId) => World.ownsRow_lit (base := w.heap.size) (e := T) (size := 1) w #[] 0 (Nat.le_refl _) (by simp [maxLen]) (by simp))
  generalize hFO : (fun k => forestT folP (f.drop k)) = FO at *
  have HFO := Lib.hid (show ∀ k, forestT folP (f.drop k) = FO k from fun k => by rw [← hFO])
  clear hR hfit hx hsg hc1 hFO hDS hcd hnsd
  go_enter Tryz.func80, Tryz.ntmps80
  go_wp2_with fail
  go_loopw [5, 6, 7] (fun tv lv iv wr => ∃ (k n g ct gl cl : Nat), k ≤ f.length ∧ iv = .int .i64 ((k : Int) - 1) ∧ tv = .slice (some ⟨g, 0, none⟩) n ct ∧ lv = .slice (some ⟨gl, 0, none⟩) n cl ∧ n = (FO k).length ∧ Upd [] w wr ∧ Hid (BdS ns w wr tv lv n g ct gl cl (FO k))) (fun _ _ iv _ => (intOf iv + 1).toNat)
  case atStart =>
    have h0 : FO f.length = [] := by rw [← HFO.out]; exact HXE.out
    refine ⟨f.length, 0, w.heap.size, 0, w.heap.size + 1, 0, Nat.le_refl _, by go_num, rfl, rfl, by rw [h0]; rfl, ((Upd.refl _ _).alloc _).alloc _, Lib.hid ?_⟩
    rw [h0]
    refine ⟨⟨?_, ?_, ?_⟩, rfl, rfl, by omega, by omega⟩
    · simpa [txG] using ownsRow_upd (HL0.out w 9) ((Upd.refl [] _).alloc (.cells #[] 4))
    · have := World.ownsRow_lit (base := w.heap.size) (e := 4) (size := 1) (w.alloc (.cells #[] 9)) #[] 0 (by simp) (by simp [maxLen]) (by simp)
      simpa [lvB] using this
    · intro b hb hb2
      simp [Value.ownBlock] at hb hb2
      omega
  case round =>
    clear HL0
    obtain ⟨wo, rfl⟩ : ∃ wo : World, wo = wr := ⟨_, rfl⟩
    obtain ⟨k, n, g, ct, gl, cl, hk, rfl, rfl, rfl, hn, hU, hS⟩ := hrel
    obtain ⟨htc1, htc2⟩ := hS.out.tc
    obtain ⟨hlc1, hlc2⟩ := hS.out.lc
    match k, hk, hS with
    | 0, hk, hS =>
      have h0 : FO 0 = [x] := by rw [← HFO.out]; exact HX0.out
      rw [h0] at hn
      subst hn
      have hS1 := hS.out
      rw [h0] at hS1
      have hc0 : wo.cell? ⟨g, 0, none⟩ = some (es (pT ns x)) := by
        have := hS1.st.t.cellAt 0 (by simp)
        simpa [txG] using this
      have HU := Lib.hid hU
      simp only [List.length_cons, List.length_nil, Nat.zero_add] at htc1 htc2 ⊢
      clear hS hS1 hU h0
      go_wp2_with fail
      go_ret
      exact ⟨rfl, HU.out⟩
    | k + 1, hk, hS =>
      subst hn
      rw [show (((k + 1 : Nat) : Int) - 1) = (k : Int) by omega]
      obtain ⟨b1, o1, u, f', rfl, -, -, -, hcell, -, hr⟩ := HC.out k (by omega)
      obtain ⟨v3, f3, rfl, h3, rfl⟩ := hr
      have h3' := h3
      obtain ⟨a3, c3, rfl, l3, m3, -⟩ := slP_open h3
      unfold maxLen at m3
      have p0 := hU.keep (hcell 0 _ rfl)
      have p1 := hU.keep (hcell 1 _ rfl)
      have p2 := hU.keep (hcell 2 _ rfl)
      have p3 := hU.keep (hcell 3 _ rfl)
      simp only [Nat.add_zero] at p0
      obtain ⟨hstep, hle⟩ := HST.out k (by omega)
      rw [HFO.out, HFO.out] at hstep
      rw [HFO.out] at hle
      have hfit := HFIT.out f[k] (List.getElem_mem _)
      have hfl := HFL.out (k + 1) (by omega)
      rw [HFO.out] at hfl
      have hoks := HFO2.out (k + 1) (by omega)
      rw [HFO.out, okTs_all, List.all_eq_true] at hoks
      have hall : ∀ y ∈ FO (k + 1), (pT ns y).length ≤ 40000 := by
        intro y hy
        have h1 : ∀ t ∈ flatT y, PaFine ds t := fun t ht => HFIT.out t (List.mem_of_mem_drop (hfl ▸ flatTs_mem hy t ht))
        have h2 := pT_len hnn y (hoks y hy) h1
        obtain ⟨i, hi, rfl⟩ := List.getElem_of_mem hy
        have h3 := flatT_arg_le (FO (k + 1)) i hi
        rw [hfl, List.length_drop] at h3
        omega
      have hnx : (FO (k + 1)).length ≤ 20 := by
        have h1 := forestT_leD (FO (k + 1))
        rw [hfl, List.length_drop] at h1
        omega
      generalize FO (k + 1) = xs at *
      have htx := pT_node ns f[k] xs
      have hkt0 : ∀ q, chP (.mk f[k] q) = (f[k].kind == 2) := fun _ => rfl
      have hai := folP_le f[k]
      have hai0 := folP_nn f[k]
      have HRT := Lib.hid (fun W (hu : Upd [] w W) => R_T2k.upd h3' hu (by simp))
      generalize f[k] = t at *
      obtain ⟨t1, t2, t3, t4⟩ := t
      obtain ⟨a, ha⟩ : ∃ a : Nat, folP ⟨t1, t2, t3, t4⟩ = a := ⟨(folP ⟨t1, t2, t3, t4⟩).toNat, by omega⟩
      have hat : (folP (⟨t1, t2, t3, t4⟩ : Pa)).toNat = a := by omega
      rw [hat] at hle hstep htx
      simp only at p0 p1 p2 p3 htx hkt0 HRT l3
      obtain ⟨ys, hys⟩ : ∃ ys, ys = xs.drop a := ⟨_, rfl⟩
      have hmx : ys.length = xs.length - a := by rw [hys, List.length_drop]
      have hm : xs.length = ys.length + a := by omega
      have htk := ownsRow_take hS.out.st.t ys.length (by omega)
      have hlk := ownsRow_take hS.out.st.l ys.length (by omega)
      rw [hmx, txG_take, ← hmx, ← hys] at htk
      rw [hmx, lvB_take, ← hmx, ← hys] at hlk
      rw [← hys] at hstep
      have hcells : ∀ i, (hi : i < xs.length) → wo.cell? ⟨g, ys.length + a - 1 - i, none⟩ = some (es (pT ns xs[i])) ∧ wo.cell? ⟨gl, ys.length + a - 1 - i, none⟩ = some (.bool (chP xs[i])) := fun i hi => by
        have q1 := hS.out.st.t.cellAt (xs.length - 1 - i) (by omega)
        have q2 := hS.out.st.l.cellAt (xs.length - 1 - i) (by omega)
        rw [txG_at xs i hi] at q1
        rw [lvB_at xs i hi] at q2
        rw [← hm]
        exact ⟨q1, q2⟩
      have C0 := Lib.hid (show 1 ≤ a → wo.cell? ⟨g, ys.length + a - 1, none⟩ = some (es ((xs.map (pT ns)).getD 0 [])) ∧ wo.cell? ⟨gl, ys.length + a - 1, none⟩ = some (.bool ((xs.map chP).getD 0 false)) from fun h => by
        have h0 : 0 < xs.length := by omega
        rw [getD_ltD xs _ 0 _ h0, getD_ltD xs _ 0 _ h0]
        exact hcells 0 h0)
      have C1 := Lib.hid (show 2 ≤ a → wo.cell? ⟨g, ys.length + a - 2, none⟩ = some (es ((xs.map (pT ns)).getD 1 [])) from fun h => by
        have h0 : 1 < xs.length := by omega
        rw [getD_ltD xs _ 1 _ h0]
        exact (hcells 1 h0).1)
      have hT0 : ((xs.map (pT ns)).getD 0 []).length ≤ 40000 ∧ ((xs.map (pT ns)).getD 1 []).length ≤ 40000 := by
        constructor
        · by_cases h0 : 0 < xs.length
          · rw [getD_ltD xs _ 0 _ h0]; exact hall _ (List.getElem_mem h0)
          · have : xs = [] := List.eq_nil_of_length_eq_zero (by omega)
            subst this; simp
        · by_cases h0 : 1 < xs.length
          · rw [getD_ltD xs _ 1 _ h0]; exact hall _ (List.getElem_mem h0)
          · rw [List.getD_eq_getElem?_getD, List.getElem?_eq_none (by simp; omega)]; simp
      obtain ⟨tr, htr⟩ : ∃ tr, tr = Tr.mk (⟨t1, t2, t3, t4⟩ : Pa) (xs.take a) := ⟨_, rfl⟩
      rw [← htr] at hstep htx
      have hkt : chP tr = (t1 == 2) := by rw [htr]; rfl
      have HTK := Lib.hid htk
      have HLK := Lib.hid hlk
      have HFK := Lib.hid (And.intro hstep hkt)
      have HAP := Lib.hid hS.out.st.apart
      have HU := Lib.hid hU
      generalize (xs.map (pT ns)).getD 0 [] = T0 at *
      generalize (xs.map (pT ns)).getD 1 [] = T1 at *
      generalize (xs.map chP).getD 0 false = K0 at *
      have HTX := Lib.hid htx
      have hSl := nodeD_len ns hnn ⟨t1, t2, t3, t4⟩ hfit K0 T0 T1 hT0.1 hT0.2
      obtain ⟨S, hSd⟩ : ∃ S, S = nodeD ns ⟨t1, t2, t3, t4⟩ K0 T0 T1 := ⟨_, rfl⟩
      rw [← hSd] at hSl
      have HSD := Lib.hid hSd
      have HA := Lib.hid ha
      have HF := Lib.hid hfit
      have hkd := hfit.kind
      have ha2 : a ≤ 2 := by omega
      have hT0l := hT0.1
      have hT1l := hT0.2
      have hsz0 := hU.size
      have hkl : k < f.length := by omega
      have hki : (k : Int) < (f.length : Int) := by omega
      have PS := Lib.hid (show (W : World) → W = wo.alloc (.cells #[ei t1, ei t2, es t3, .slice a3 t4.length c3] 127) → Upd [] wo W ∧ W.cell? ⟨wo.heap.size, 0, none⟩ = some (ei t1) ∧ W.cell? ⟨wo.heap.size, 1, none⟩ = some (ei t2) ∧ W.cell? ⟨wo.heap.size, 2, none⟩ = some (es t3) ∧ W.cell? ⟨wo.heap.size, 3, none⟩ = some (.slice a3 t4.length c3) from fun W hW => by
        subst hW
        exact ⟨(Upd.refl _ _).alloc _, cell_new wo _ _ _ rfl 0 _ rfl, cell_new wo _ _ _ rfl 1 _ rfl, cell_new wo _ _ _ rfl 2 _ rfl, cell_new wo _ _ _ rfl 3 _ rfl⟩)
      clear hU hS htk hlk hstep hle htx hall hcells hfl hat ha hai hai0 hmx hSd hT0 hkt htr hys hkt0 hoks hfit h3 h3' hcell
      generalize xs.length = n at *
      subst hm
      simp only at hkd
      obtain ⟨wP, hwP⟩ : ∃ q, q = wo.alloc (.cells #[ei t1, ei t2, es t3, .slice a3 t4.length c3] 127) := ⟨_, rfl⟩
      obtain ⟨uP, x0, x1, x2, x3⟩ := PS.out wP hwP
      obtain ⟨BP, hBP⟩ : ∃ q, q = wo.heap.size := ⟨_, rfl⟩
      rw [← hBP] at x0 x1 x2 x3
      have hgBP : g < BP := by have := (HTK.out.lt g rfl).2; omega
      have hgw : w.heap.size ≤ g := (HTK.out.lt g rfl).1
      have HTK := Lib.hid (ownsRow_upd HTK.out uP)
      have HLK := Lib.hid (ownsRow_upd HLK.out uP)
      have C0 := Lib.hid (fun h => And.intro (uP.keep (C0.out h).1) (uP.keep (C0.out h).2))
      have C1 := Lib.hid (fun h => uP.keep (C1.out h))
      have HU := Lib.hid (HU.out.trans uP)
      have hsz0 := HU.out.size
      go_upto_region 7 with (fail)
      rw [← hwP, ← hBP]
      clear hwP hBP p0 p1 p2 p3 PS uP
      obtain ⟨wo', rfl⟩ : ∃ q, q = wo := ⟨_, rfl⟩
      obtain ⟨wo, rfl⟩ : ∃ q, q = wP := ⟨_, rfl⟩
      rcases (by omega : t1 = 0 ∨ t1 = 5 ∨ t1 = 1 ∨ t1 = 2 ∨ t1 = 3 ∨ t1 = 4) with rfl | rfl | rfl | rfl | rfl | rfl
      · obtain rfl : a = 0 := by have h := HA.out; rw [show folP _ = 0 from rfl] at h; omega
        obtain rfl : S = [48] := by rw [HSD.out]; rfl
        obtain ⟨wq, rfl⟩ : ∃ wq : World, wq = wo := ⟨_, rfl⟩
        have ht2 := HTK.out
        have hl2 := HLK.out
        have HU2 := HU
        have z1 : ys.length + 0 = ys.length := rfl
        clear C0 C1 HA HTK HLK HU x1 x2 x3
        go_wp2_with (first
          | (at_builtin; refine wpList_append_lies _ rfl _ _ 25 rfl w.heap.size 9 i2 (.string ⟨#[]⟩) 1 16 Tryz.underlying25 ji jz0 jz1 jz2 rfl (by decide) (.slice (some ⟨g, 0, none⟩) ys.length ct) ys.length (txG (pT ns) ys) rfl (ht2.alloc _) ⟨wq.heap.size, 0, none⟩ 1 1 [es ([48] : List UInt8)] rfl rfl (fun j u hj => by rw [addr_add]; exact cell_new wq #[es ([48] : List UInt8)] _ _ rfl _ _ (by simpa using hj)) (by simp [Value.oneCell']) (by decide) (by unfold maxLen; omega) (by omega) (by simp; omega) (wq.heap.size + 1) (by simp) ?_)
          | fail)
        intro g3 cap3 w3 hown3 hg3 hat3 hlt3
        obtain ⟨_, _, hv3, mm1, mm2, -, -, -⟩ := own_cellsX hown3 (by omega)
        simp only [Value.slice.injEq] at hv3
        obtain ⟨-, -, rfl⟩ := hv3
        unfold maxLen at mm2
        have hla := ownsRow_upd hl2 ((Upd.refl [] wq).alloc (.cells #[es ([48] : List UInt8)] 9))
        have hg3 : (wq.alloc (.cells #[es ([48] : List UInt8)] 9)).grownBy w3 (Value.slice (some ⟨g, 0, none⟩) ys.length ct).ownBlock := ⟨hg3.os, hg3.tape, hg3.output, hg3.size, hg3.block⟩
        have hl3 := StkB.levels (o := .cells #[.bool false] 4) (tvc := Value.slice (some ⟨g, 0, none⟩) ys.length ct) hla HAP.out hg3
        have hU3 := (HU2.out.alloc (.cells #[es ([48] : List UInt8)] 9)).grown hg3 (fun b hb => Or.inl ((ht2.lt b hb).1))
        have hsz3 := hU3.size
        have HU3 := Lib.hid hU3
        have HLA := Lib.hid hla
        have HT3 := Lib.hid (show ∀ b, (Value.slice (some ⟨g3, 0, none⟩) (ys.length + 1) cap3).ownBlock = some b → (Value.slice (some ⟨g, 0, none⟩) ys.length ct).ownBlock = some b ∨ (wq.alloc (.cells #[es ([48] : List UInt8)] 9)).heap.size ≤ b from fun b hb => by
          simp only [Value.ownBlock, Option.some.injEq] at hb
          subst hb
          rcases hat3 with h | h
          · exact Or.inl h
          · exact Or.inr (by simp; omega))
        have HO3 := Lib.hid hown3
        clear hg3 hat3 hlt3 ht2 hl2 hown3 hla hU3
        go_wp2_with (first
          | (at_builtin; refine wpList_append_lies _ rfl _ _ 154 rfl w.heap.size 4 i1 (.bool false) 1 1 Tryz.underlying154 ki kz0 kz1 kz2 rfl (by decide) (.slice (some ⟨gl, 0, none⟩) ys.length cl) ys.length (lvB chP ys) rfl hl3 ⟨w3.heap.size, 0, none⟩ 1 1 [.bool false] rfl rfl (fun j u hj => by rw [addr_add]; exact cell_new w3 #[.bool false] _ _ rfl _ _ (by simpa using hj)) (by simp [Value.oneCell']) (by decide) (by unfold maxLen; omega) (by omega) (by simp; omega) (w3.heap.size + 1) (by simp) ?_)
          | fail)
        intro g4 cap4 w4 hown4 hg4 hat4 hlt4
        obtain ⟨_, _, hv4, nn1, nn2, -, -, -⟩ := own_cellsX hown4 (by omega)
        simp only [Value.slice.injEq] at hv4
        obtain ⟨-, -, rfl⟩ := hv4
        unfold maxLen at nn2
        have hS4 : StkB (pT ns) chP w w4 (.slice (some ⟨g3, 0, none⟩) (ys.length + 1) cap3) (.slice (some ⟨g4, 0, none⟩) (ys.length + 1) cap4) (tr :: ys) := StkB.done (o := .cells #[.bool false] 4) HLA.out HAP.out (by rw [HTX.out, ← HSD.out]; exact HO3.out) HT3.out (by rw [HFK.out.2]; exact hown4) hg4 (fun b hb => by
          simp only [Value.ownBlock, Option.some.injEq] at hb
          subst hb
          rcases hat4 with h | h
          · exact Or.inl h
          · exact Or.inr (by simp; omega))
        have hU4 : Upd [] w w4 := (HU3.out.alloc (.cells #[.bool false] 4)).grown hg4 (fun b hb => Or.inl ((hl3.lt b hb).1))
        have HP := Lib.hid (And.intro hS4 hU4)
        clear hown4 hg4 hat4 hlt4 hS4 hU4 hl3 HTX HSD HLA HT3 HO3 HU3
        go_wp2_with fail
        go_roundw
        case rel => exact ⟨k, ys.length + 1, g3, cap3, g4, cap4, by omega, by go_num, rfl, rfl, by rw [HFK.out.1]; rfl, HP.out.2, Lib.hid ⟨by rw [HFK.out.1]; exact HP.out.1, rfl, rfl, ⟨mm1, mm2⟩, ⟨nn1, nn2⟩⟩⟩
        case measure => simp [intOf]
      · obtain rfl : a = 0 := by have h := HA.out; rw [show folP _ = 0 from rfl] at h; omega
        as_aux_lemma =>
          obtain ⟨e0, e1⟩ := HF.out.call rfl
          simp only at e0 e1
          obtain ⟨j, rfl⟩ : ∃ j : Nat, t2 = j := ⟨t2.toNat, by omega⟩
          have hj : j < ds.length := by omega
          obtain ⟨bl, ol, ul, fl, rfl, -, hbl, -, hcelll, -, hrl⟩ := HCD.out j hj
          obtain ⟨v5, f5, rfl, -, -⟩ := hrl
          have dl := HU.out.keep (hcelll 0 _ rfl)
          simp only [Nat.add_zero] at dl
          have hnj : ns.getD j [] = ds[j].name := by
            rw [HNS.out, List.getD_eq_getElem?_getD, List.getElem?_map, List.getElem?_eq_getElem hj]; rfl
          have hnl : ds[j].name.length ≤ 10 := hnn _ (by rw [HNS.out]; exact List.mem_map.2 ⟨_, List.getElem_mem hj, rfl⟩)
          have hAl := args_len t4 HF.out.three
          have TA := Lib.hid (fun V (hu : Upd [] wo V) => argsDS (.slice a3 t4.length c3) t4 V f3 (HRT.out V (HU.out.trans hu)) HF.out.three HF.out.exps)
          have hjl : (j : Int) < (ds.length : Int) := by omega
          obtain ⟨A, hA⟩ : ∃ A, A = argsTxt t4 := ⟨_, rfl⟩
          rw [← hA] at TA hAl
          have hc1 : (ByteArray.mk ds[j].name.toArray ++ ByteArray.mk A.toArray) = ByteArray.mk S.toArray := by rw [show S = ds[j].name ++ A by rw [HSD.out, hA, ← hnj]; simp [nodeD], catE]
          clear hcelll hnj hA
          generalize ds[j].name = nm at *
          have n1 : ¬ (9223372036854775807 < nm.length + A.length) := by omega
          have nBg : BP ∉ (Value.slice (some ⟨g, 0, none⟩) ys.length ct).ownBlock.toList := by simp [Value.ownBlock]; omega
          have nLg : bl ∉ (Value.slice (some ⟨g, 0, none⟩) ys.length ct).ownBlock.toList := by simp [Value.ownBlock]; omega
          have z1 : ys.length + 0 = ys.length := rfl
          clear C0 C1 HA x2
          go_wp2_with fail
          go_region_held3 (fun w' => w'.cell? ⟨BP, 1, none⟩ = some (ei j) ∧ w'.cell? ⟨BP, 3, none⟩ = some (.slice a3 t4.length c3) ∧ w'.cell? ⟨bl, ol + j * 3, none⟩ = some (es nm)) (go_keep)
            (first
              | (go_at_call 109; (with_reducible refine (TA.out _ (by repeat (first | exact Upd.refl _ _ | assumption | refine Upd.drew ?_))).mono ?_); rintro e wq ⟨rfl, hu1⟩; have hV1 : Upd [] wo wq := Upd.trans (by repeat (first | exact Upd.refl _ _ | assumption | refine Upd.drew ?_)) hu1; have y1 := hV1.keep x1; have y3 := hV1.keep x3; have yl := hV1.keep dl; have ht2 := ownsRow_upd HTK.out hV1; have HU2 := Lib.hid (HU.out.trans hV1); have hsz2 : w.heap.size ≤ wq.heap.size := HU2.out.size)
              | (refine step_append_lies _ (by rfl) _ _ 25 (by rfl) w.heap.size 9 i2 (.string ⟨#[]⟩) 1 16 Tryz.underlying25 ji jz0 jz1 jz2 rfl (by decide) (.slice (some ⟨g, 0, none⟩) ys.length ct) ys.length (txG (pT ns) ys) (by rfl) (ht2.alloc _) ⟨wq.heap.size, 0, none⟩ 1 1 [es S] (by rfl) (by rfl) (by intro j u hj; rw [addr_add, Nat.zero_add]; exact cell_new wq #[es S] _ _ rfl j u (by simpa using hj)) (by simp [Value.oneCell']) (by decide) (by unfold maxLen; omega) (by omega) (by simp; omega) (wq.heap.size + 1) (by simp) ?_; intro g3 cap3 w3 hown3 hg3 hat3 hlt3; have hv7 : Upd (Value.slice (some ⟨g, 0, none⟩) ys.length ct).ownBlock.toList (wq.alloc (.cells #[es S] 9)) w3 := (Upd.refl _ _).grown hg3 (fun k hk => Or.inr (by simp [hk])); have m1 := hv7.keepF nBg (((Upd.refl [] wq).alloc (.cells #[es S] 9)).keep y1); have m3 := hv7.keepF nBg (((Upd.refl [] wq).alloc (.cells #[es S] 9)).keep y3); have ml := hv7.keepF nLg (((Upd.refl [] wq).alloc (.cells #[es S] 9)).keep yl)))
          all_goals
            have hl2 := ownsRow_upd HLK.out hV1
            clear hv7 m1 m3 ml y1 y3 yl hu1 TA x0 x1 x3 dl HTK HLK HU
            obtain ⟨_, _, hv3, mm1, mm2, -, -, -⟩ := own_cellsX hown3 (by omega)
            simp only [Value.slice.injEq] at hv3
            obtain ⟨-, -, rfl⟩ := hv3
            unfold maxLen at mm2
            have hla := ownsRow_upd hl2 ((Upd.refl [] wq).alloc (.cells #[es S] 9))
            have hg3 : (wq.alloc (.cells #[es S] 9)).grownBy w3 (Value.slice (some ⟨g, 0, none⟩) ys.length ct).ownBlock := ⟨hg3.os, hg3.tape, hg3.output, hg3.size, hg3.block⟩
            have hl3 := StkB.levels (o := .cells #[.bool false] 4) (tvc := Value.slice (some ⟨g, 0, none⟩) ys.length ct) hla HAP.out hg3
            have hU3 := (HU2.out.alloc (.cells #[es S] 9)).grown hg3 (fun b hb => Or.inl ((ht2.lt b hb).1))
            have hsz3 := hU3.size
            have HU3 := Lib.hid hU3
            have HLA := Lib.hid hla
            have HT3 := Lib.hid (show ∀ b, (Value.slice (some ⟨g3, 0, none⟩) (ys.length + 1) cap3).ownBlock = some b → (Value.slice (some ⟨g, 0, none⟩) ys.length ct).ownBlock = some b ∨ (wq.alloc (.cells #[es S] 9)).heap.size ≤ b from fun b hb => by
              simp only [Value.ownBlock, Option.some.injEq] at hb
              subst hb
              rcases hat3 with h | h
              · exact Or.inl h
              · exact Or.inr (by simp; omega))
            have HO3 := Lib.hid hown3
            clear hg3 hat3 hlt3 ht2 hl2 hown3 hla hU3
            go_wp2_with (first
              | (at_builtin; refine wpList_append_lies _ rfl _ _ 154 rfl w.heap.size 4 i1 (.bool false) 1 1 Tryz.underlying154 ki kz0 kz1 kz2 rfl (by decide) (.slice (some ⟨gl, 0, none⟩) ys.length cl) ys.length (lvB chP ys) rfl hl3 ⟨w3.heap.size, 0, none⟩ 1 1 [.bool false] rfl rfl (fun j u hj => by rw [addr_add]; exact cell_new w3 #[.bool false] _ _ rfl _ _ (by simpa using hj)) (by simp [Value.oneCell']) (by decide) (by unfold maxLen; omega) (by omega) (by simp; omega) (w3.heap.size + 1) (by simp) ?_)
              | fail)
            intro g4 cap4 w4 hown4 hg4 hat4 hlt4
            obtain ⟨_, _, hv4, nn1, nn2, -, -, -⟩ := own_cellsX hown4 (by omega)
            simp only [Value.slice.injEq] at hv4
            obtain ⟨-, -, rfl⟩ := hv4
            unfold maxLen at nn2
            have hS4 : StkB (pT ns) chP w w4 (.slice (some ⟨g3, 0, none⟩) (ys.length + 1) cap3) (.slice (some ⟨g4, 0, none⟩) (ys.length + 1) cap4) (tr :: ys) := StkB.done (o := .cells #[.bool false] 4) HLA.out HAP.out (by rw [HTX.out, ← HSD.out]; exact HO3.out) HT3.out (by rw [HFK.out.2]; exact hown4) hg4 (fun b hb => by
              simp only [Value.ownBlock, Option.some.injEq] at hb
              subst hb
              rcases hat4 with h | h
              · exact Or.inl h
              · exact Or.inr (by simp; omega))
            have hU4 : Upd [] w w4 := (HU3.out.alloc (.cells #[.bool false] 4)).grown hg4 (fun b hb => Or.inl ((hl3.lt b hb).1))
            have HP := Lib.hid (And.intro hS4 hU4)
            clear hown4 hg4 hat4 hlt4 hS4 hU4 hl3 HTX HSD HLA HT3 HO3 HU3
            go_wp2_with fail
            go_roundw
            case rel => exact ⟨k, ys.length + 1, g3, cap3, g4, cap4, by omega, by go_num, rfl, rfl, by rw [HFK.out.1]; rfl, HP.out.2, Lib.hid ⟨by rw [HFK.out.1]; exact HP.out.1, rfl, rfl, ⟨mm1, mm2⟩, ⟨nn1, nn2⟩⟩⟩
            case measure => simp [intOf]
      · obtain rfl : a = 1 := by have h := HA.out; rw [show folP _ = 1 from rfl] at h; omega
        obtain ⟨d0, d1⟩ := C0.out (by omega)
        rw [Nat.add_sub_cancel] at d0 d1
        have hw1 : IntKind.i64.wrap ((ys.length : Int) + 1 - 1) = (ys.length : Int) := by rw [IntKind.wrap_i64]; omega
        have hw2 : IntKind.i64.wrap (ys.length : Int) = (ys.length : Int) := by rw [IntKind.wrap_i64]; omega
        have s1 : (0 : Int) ≤ (ys.length : Int) := by omega
        have s4 : (ys.length : Int) < (ys.length : Int) + 1 := by omega
        have s5 : ys.length < ys.length + 1 := by omega
        have s2 : (ys.length : Int) ≤ (ct : Int) := by omega
        have s3 : (ys.length : Int) ≤ (cl : Int) := by omega
        clear C0 C1 HA
        go_upto_region 21 with (fail)
        go_cut [11] (fun sx wx => sx = es S ∧ Upd [] wo wx)
        case first =>
          as_aux_lemma =>
            have hnl := HF.out.act rfl
            simp only at hnl
            have hAl := args_len t4 HF.out.three
            have TA := Lib.hid (fun V (hu : Upd [] wo V) => argsDS (.slice a3 t4.length c3) t4 V f3 (HRT.out V (HU.out.trans hu)) HF.out.three HF.out.exps)
            obtain ⟨A, hA⟩ : ∃ A, A = argsTxt t4 := ⟨_, rfl⟩
            rw [← hA] at TA hAl
            have WS := Lib.hid (fun W => wrapDS T0 K0 (by omega) W)
            have hPl := par_len K0 T0
            obtain ⟨P, hP⟩ : ∃ P, P = par K0 T0 := ⟨_, rfl⟩
            rw [← hP] at WS hPl
            obtain ⟨M1, hM1⟩ : ∃ M1, M1 = t3 ++ A := ⟨_, rfl⟩
            have hc1 : (ByteArray.mk t3.toArray ++ ByteArray.mk A.toArray) = ByteArray.mk M1.toArray := by rw [hM1, catE]
            have hm1 : M1.length ≤ 2000 := by rw [hM1, List.length_append]; omega
            obtain ⟨M2, hM2⟩ : ∃ M2, M2 = M1 ++ [46] := ⟨_, rfl⟩
            have hc2 : (ByteArray.mk M1.toArray ++ ByteArray.mk #[46]) = ByteArray.mk M2.toArray := by rw [hM2, catE]
            have hm2 : M2.length ≤ 2001 := by rw [hM2, List.length_append]; simp; omega
            have hc3 : (ByteArray.mk M2.toArray ++ ByteArray.mk P.toArray) = ByteArray.mk S.toArray := by rw [show S = M2 ++ P by rw [HSD.out, hM2, hM1, hA, hP]; simp [nodeD], catE]
            have n1 : ¬ (9223372036854775807 < t3.length + A.length) := by omega
            have n2 : ¬ (9223372036854775807 < M1.length + 1) := by omega
            have n3 : ¬ (9223372036854775807 < M2.length + P.length) := by omega
            clear hM1 hM2 hA hP HTK HLK HFK HAP HTX HU HSD
            go_wp2_with fail
            go_region_held3 (fun w' => w'.cell? ⟨BP, 2, none⟩ = some (es t3) ∧ w'.cell? ⟨BP, 3, none⟩ = some (.slice a3 t4.length c3) ∧ w'.cell? ⟨g, ys.length, none⟩ = some (es T0) ∧ w'.cell? ⟨gl, ys.length, none⟩ = some (.bool K0)) (go_keep)
              (first
                | (go_at_call 109; (with_reducible refine (TA.out _ (by repeat (first | exact Upd.refl _ _ | assumption | refine Upd.drew ?_))).mono ?_); rintro e w1 ⟨rfl, hu1⟩; have hV1 : Upd [] wo w1 := Upd.trans (by repeat (first | exact Upd.refl _ _ | assumption | refine Upd.drew ?_)) hu1; have yx2 := hV1.keep x2; have yx3 := hV1.keep x3; have yd0 := hV1.keep d0; have yd1 := hV1.keep d1)
                | (go_at_call 110; (with_reducible refine (WS.out _).mono ?_); rintro e wz ⟨rfl, rfl⟩))
            all_goals
              go_wp2_with fail
              go_meet
              exact ⟨rfl, by repeat (first | exact Upd.refl _ _ | assumption | refine Upd.drew ?_)⟩
        case rest =>
          as_aux_lemma =>
            obtain ⟨rfl, hu⟩ := hcut
            obtain ⟨wq, rfl⟩ : ∃ wq : World, wq = wc := ⟨_, rfl⟩
            have UQ := Lib.hid hu
            have ht2 := ownsRow_upd HTK.out UQ.out
            have hl2 := ownsRow_upd HLK.out UQ.out
            have HU2 := Lib.hid (HU.out.trans UQ.out)
            have hsz2 := HU2.out.size
            clear hu x0 x1 x2 x3 d0 d1
            go_wp2_with (first
              | (at_builtin; refine wpList_append_lies _ rfl _ _ 25 rfl w.heap.size 9 i2 (.string ⟨#[]⟩) 1 16 Tryz.underlying25 ji jz0 jz1 jz2 rfl (by decide) (.slice (some ⟨g, 0, none⟩) ys.length ct) ys.length (txG (pT ns) ys) rfl (ht2.alloc _) ⟨wq.heap.size, 0, none⟩ 1 1 [es S] rfl rfl (fun j u hj => by rw [addr_add]; exact cell_new wq #[es S] _ _ rfl _ _ (by simpa using hj)) (by simp [Value.oneCell']) (by decide) (by unfold maxLen; omega) (by omega) (by simp; omega) (wq.heap.size + 1) (by simp) ?_)
              | fail)
            intro g3 cap3 w3 hown3 hg3 hat3 hlt3
            obtain ⟨_, _, hv3, mm1, mm2, -, -, -⟩ := own_cellsX hown3 (by omega)
            simp only [Value.slice.injEq] at hv3
            obtain ⟨-, -, rfl⟩ := hv3
            unfold maxLen at mm2
            have hla := ownsRow_upd hl2 ((Upd.refl [] wq).alloc (.cells #[es S] 9))
            have hg3 : (wq.alloc (.cells #[es S] 9)).grownBy w3 (Value.slice (some ⟨g, 0, none⟩) ys.length ct).ownBlock := ⟨hg3.os, hg3.tape, hg3.output, hg3.size, hg3.block⟩
            have hl3 := StkB.levels (o := .cells #[.bool false] 4) (tvc := Value.slice (some ⟨g, 0, none⟩) ys.length ct) hla HAP.out hg3
            have hU3 := (HU2.out.alloc (.cells #[es S] 9)).grown hg3 (fun b hb => Or.inl ((ht2.lt b hb).1))
            have hsz3 := hU3.size
            have HU3 := Lib.hid hU3
            have HLA := Lib.hid hla
            have HT3 := Lib.hid (show ∀ b, (Value.slice (some ⟨g3, 0, none⟩) (ys.length + 1) cap3).ownBlock = some b → (Value.slice (some ⟨g, 0, none⟩) ys.length ct).ownBlock = some b ∨ (wq.alloc (.cells #[es S] 9)).heap.size ≤ b from fun b hb => by
              simp only [Value.ownBlock, Option.some.injEq] at hb
              subst hb
              rcases hat3 with h | h
              · exact Or.inl h
              · exact Or.inr (by simp; omega))
            have HO3 := Lib.hid hown3
            clear hg3 hat3 hlt3 ht2 hl2 hown3 hla hU3
            go_wp2_with (first
              | (at_builtin; refine wpList_append_lies _ rfl _ _ 154 rfl w.heap.size 4 i1 (.bool false) 1 1 Tryz.underlying154 ki kz0 kz1 kz2 rfl (by decide) (.slice (some ⟨gl, 0, none⟩) ys.length cl) ys.length (lvB chP ys) rfl hl3 ⟨w3.heap.size, 0, none⟩ 1 1 [.bool false] rfl rfl (fun j u hj => by rw [addr_add]; exact cell_new w3 #[.bool false] _ _ rfl _ _ (by simpa using hj)) (by simp [Value.oneCell']) (by decide) (by unfold maxLen; omega) (by omega) (by simp; omega) (w3.heap.size + 1) (by simp) ?_)
              | fail)
            intro g4 cap4 w4 hown4 hg4 hat4 hlt4
            obtain ⟨_, _, hv4, nn1, nn2, -, -, -⟩ := own_cellsX hown4 (by omega)
            simp only [Value.slice.injEq] at hv4
            obtain ⟨-, -, rfl⟩ := hv4
            unfold maxLen at nn2
            have hS4 : StkB (pT ns) chP w w4 (.slice (some ⟨g3, 0, none⟩) (ys.length + 1) cap3) (.slice (some ⟨g4, 0, none⟩) (ys.length + 1) cap4) (tr :: ys) := StkB.done (o := .cells #[.bool false] 4) HLA.out HAP.out (by rw [HTX.out, ← HSD.out]; exact HO3.out) HT3.out (by rw [HFK.out.2]; exact hown4) hg4 (fun b hb => by
              simp only [Value.ownBlock, Option.some.injEq] at hb
              subst hb
              rcases hat4 with h | h
              · exact Or.inl h
              · exact Or.inr (by simp; omega))
            have hU4 : Upd [] w w4 := (HU3.out.alloc (.cells #[.bool false] 4)).grown hg4 (fun b hb => Or.inl ((hl3.lt b hb).1))
            have HP := Lib.hid (And.intro hS4 hU4)
            clear hown4 hg4 hat4 hlt4 hS4 hU4 hl3 HTX HSD HLA HT3 HO3 HU3
            go_wp2_with fail
            go_roundw
            case rel => exact ⟨k, ys.length + 1, g3, cap3, g4, cap4, by omega, by go_num, rfl, rfl, by rw [HFK.out.1]; rfl, HP.out.2, Lib.hid ⟨by rw [HFK.out.1]; exact HP.out.1, rfl, rfl, ⟨mm1, mm2⟩, ⟨nn1, nn2⟩⟩⟩
            case measure => simp [intOf]
      · obtain rfl : a = 2 := by have h := HA.out; rw [show folP _ = 2 from rfl] at h; omega
        obtain ⟨d0, d1⟩ := C0.out (by omega)
        have d2 := C1.out (by omega)
        rw [show ys.length + 2 - 1 = ys.length + 1 by omega] at d0 d1
        rw [show ys.length + 2 - 2 = ys.length by omega] at d2
        have hw1 : IntKind.i64.wrap ((ys.length : Int) + 2 - 1) = (ys.length : Int) + 1 := by rw [IntKind.wrap_i64]; omega
        have hw2 : IntKind.i64.wrap ((ys.length : Int) + 1) = (ys.length : Int) + 1 := by rw [IntKind.wrap_i64]; omega
        have hw3 : IntKind.i64.wrap ((ys.length : Int) + 1 - 1) = (ys.length : Int) := by rw [IntKind.wrap_i64]; omega
        have hw4 : IntKind.i64.wrap (ys.length : Int) = (ys.length : Int) := by rw [IntKind.wrap_i64]; omega
        have hw5 : IntKind.i64.wrap ((ys.length : Int) + 2 - 1 - 1) = (ys.length : Int) := by rw [IntKind.wrap_i64]; omega
        have hn1 : ((ys.length : Int) + 1).toNat = ys.length + 1 := by omega
        have s1 : (0 : Int) ≤ (ys.length : Int) := by omega
        have s4 : (ys.length : Int) < (ys.length : Int) + 1 := by omega
        have s5 : ys.length < ys.length + 1 := by omega
        have s2 : (ys.length : Int) ≤ (ct : Int) := by omega
        have s3 : (ys.length : Int) ≤ (cl : Int) := by omega
        clear C0 C1 HA
        go_upto_region 17 with (fail)
        go_cut [10] (fun sx wx => sx = es S ∧ Upd [] wo wx)
        case first =>
          as_aux_lemma =>
            have WS := Lib.hid (fun W => wrapDS T0 K0 (by omega) W)
            have hPl := par_len K0 T0
            obtain ⟨P, hP⟩ : ∃ P, P = par K0 T0 := ⟨_, rfl⟩
            rw [← hP] at WS hPl
            have WA := Lib.hid (fun n' => Calls.quiet_of_same (n := n') ((WS.out (wo.drewN n')).mono (fun e w' h => ⟨h.1, h.2.symm⟩)))
            obtain ⟨M1, hM1⟩ : ∃ M1, M1 = P ++ [32, 43, 32] := ⟨_, rfl⟩
            have hc1 : (ByteArray.mk P.toArray ++ ByteArray.mk #[32, 43, 32]) = ByteArray.mk M1.toArray := by rw [hM1, catE]
            have hm1 : M1.length ≤ 50000 := by rw [hM1, List.length_append]; simp; omega
            have hc2 : (ByteArray.mk M1.toArray ++ ByteArray.mk T1.toArray) = ByteArray.mk S.toArray := by rw [show S = M1 ++ T1 by rw [HSD.out, hM1, hP]; simp [nodeD], catE]
            have n1 : ¬ (9223372036854775807 < P.length + 3) := by omega
            have n2 : ¬ (9223372036854775807 < M1.length + T1.length) := by omega
            clear hM1 hP HTK HLK HFK HAP HTX HU HSD WS
            go_wp2_with fail
            go_quiet ((go_at_call 110; with_reducible exact WA.out _))
            go_wp2_with fail
            go_meet
            exact ⟨rfl, (Upd.refl _ _).drewN _⟩
        case rest =>
          as_aux_lemma =>
            obtain ⟨rfl, hu⟩ := hcut
            obtain ⟨wq, rfl⟩ : ∃ wq : World, wq = wc := ⟨_, rfl⟩
            have UQ := Lib.hid hu
            have ht2 := ownsRow_upd HTK.out UQ.out
            have hl2 := ownsRow_upd HLK.out UQ.out
            have HU2 := Lib.hid (HU.out.trans UQ.out)
            have hsz2 := HU2.out.size
            clear hu x0 x1 x2 x3 d0 d1 d2
            go_wp2_with (first
              | (at_builtin; refine wpList_append_lies _ rfl _ _ 25 rfl w.heap.size 9 i2 (.string ⟨#[]⟩) 1 16 Tryz.underlying25 ji jz0 jz1 jz2 rfl (by decide) (.slice (some ⟨g, 0, none⟩) ys.length ct) ys.length (txG (pT ns) ys) rfl (ht2.alloc _) ⟨wq.heap.size, 0, none⟩ 1 1 [es S] rfl rfl (fun j u hj => by rw [addr_add]; exact cell_new wq #[es S] _ _ rfl _ _ (by simpa using hj)) (by simp [Value.oneCell']) (by decide) (by unfold maxLen; omega) (by omega) (by simp; omega) (wq.heap.size + 1) (by simp) ?_)
              | fail)
            intro g3 cap3 w3 hown3 hg3 hat3 hlt3
            obtain ⟨_, _, hv3, mm1, mm2, -, -, -⟩ := own_cellsX hown3 (by omega)
            simp only [Value.slice.injEq] at hv3
            obtain ⟨-, -, rfl⟩ := hv3
            unfold maxLen at mm2
            have hla := ownsRow_upd hl2 ((Upd.refl [] wq).alloc (.cells #[es S] 9))
            have hg3 : (wq.alloc (.cells #[es S] 9)).grownBy w3 (Value.slice (some ⟨g, 0, none⟩) ys.length ct).ownBlock := ⟨hg3.os, hg3.tape, hg3.output, hg3.size, hg3.block⟩
            have hl3 := StkB.levels (o := .cells #[.bool true] 4) (tvc := Value.slice (some ⟨g, 0, none⟩) ys.length ct) hla HAP.out hg3
            have hU3 := (HU2.out.alloc (.cells #[es S] 9)).grown hg3 (fun b hb => Or.inl ((ht2.lt b hb).1))
            have hsz3 := hU3.size
            have HU3 := Lib.hid hU3
            have HLA := Lib.hid hla
            have HT3 := Lib.hid (show ∀ b, (Value.slice (some ⟨g3, 0, none⟩) (ys.length + 1) cap3).ownBlock = some b → (Value.slice (some ⟨g, 0, none⟩) ys.length ct).ownBlock = some b ∨ (wq.alloc (.cells #[es S] 9)).heap.size ≤ b from fun b hb => by
              simp only [Value.ownBlock, Option.some.injEq] at hb
              subst hb
              rcases hat3 with h | h
              · exact Or.inl h
              · exact Or.inr (by simp; omega))
            have HO3 := Lib.hid hown3
            clear hg3 hat3 hlt3 ht2 hl2 hown3 hla hU3
            go_wp2_with (first
              | (at_builtin; refine wpList_append_lies _ rfl _ _ 154 rfl w.heap.size 4 i1 (.bool false) 1 1 Tryz.underlying154 ki kz0 kz1 kz2 rfl (by decide) (.slice (some ⟨gl, 0, none⟩) ys.length cl) ys.length (lvB chP ys) rfl hl3 ⟨w3.heap.size, 0, none⟩ 1 1 [.bool true] rfl rfl (fun j u hj => by rw [addr_add]; exact cell_new w3 #[.bool true] _ _ rfl _ _ (by simpa using hj)) (by simp [Value.oneCell']) (by decide) (by unfold maxLen; omega) (by omega) (by simp; omega) (w3.heap.size + 1) (by simp) ?_)
              | fail)
            intro g4 cap4 w4 hown4 hg4 hat4 hlt4
            obtain ⟨_, _, hv4, nn1, nn2, -, -, -⟩ := own_cellsX hown4 (by omega)
            simp only [Value.slice.injEq] at hv4
            obtain ⟨-, -, rfl⟩ := hv4
            unfold maxLen at nn2
            have hS4 : StkB (pT ns) chP w w4 (.slice (some ⟨g3, 0, none⟩) (ys.length + 1) cap3) (.slice (some ⟨g4, 0, none⟩) (ys.length + 1) cap4) (tr :: ys) := StkB.done (o := .cells #[.bool true] 4) HLA.out HAP.out (by rw [HTX.out, ← HSD.out]; exact HO3.out) HT3.out (by rw [HFK.out.2]; exact hown4) hg4 (fun b hb => by
              simp only [Value.ownBlock, Option.some.injEq] at hb
              subst hb
              rcases hat4 with h | h
              · exact Or.inl h
              · exact Or.inr (by simp; omega))
            have hU4 : Upd [] w w4 := (HU3.out.alloc (.cells #[.bool true] 4)).grown hg4 (fun b hb => Or.inl ((hl3.lt b hb).1))
            have HP := Lib.hid (And.intro hS4 hU4)
            clear hown4 hg4 hat4 hlt4 hS4 hU4 hl3 HTX HSD HLA HT3 HO3 HU3
            go_wp2_with fail
            go_roundw
            case rel => exact ⟨k, ys.length + 1, g3, cap3, g4, cap4, by omega, by go_num, rfl, rfl, by rw [HFK.out.1]; rfl, HP.out.2, Lib.hid ⟨by rw [HFK.out.1]; exact HP.out.1, rfl, rfl, ⟨mm1, mm2⟩, ⟨nn1, nn2⟩⟩⟩
            case measure => simp [intOf]
      · obtain rfl : a = 1 := by have h := HA.out; rw [show folP _ = 1 from rfl] at h; omega
        obtain ⟨d0, d1⟩ := C0.out (by omega)
        rw [Nat.add_sub_cancel] at d0 d1
        have hw1 : IntKind.i64.wrap ((ys.length : Int) + 1 - 1) = (ys.length : Int) := by rw [IntKind.wrap_i64]; omega
        have hw2 : IntKind.i64.wrap (ys.length : Int) = (ys.length : Int) := by rw [IntKind.wrap_i64]; omega
        have s1 : (0 : Int) ≤ (ys.length : Int) := by omega
        have s4 : (ys.length : Int) < (ys.length : Int) + 1 := by omega
        have s5 : ys.length < ys.length + 1 := by omega
        have s2 : (ys.length : Int) ≤ (ct : Int) := by omega
        have s3 : (ys.length : Int) ≤ (cl : Int) := by omega
        clear C0 C1 HA
        go_upto_region 25 with (fail)
        go_cut [12] (fun sx wx => sx = es S ∧ Upd [] wo wx)
        case first =>
          as_aux_lemma =>
            have ho := HF.out.one rfl
            simp only at ho
            match t4, ho with
            | [ex], _ =>
              obtain ⟨ae, ce, hve, -, -, hce⟩ := slP_open (HRT.out wo HU.out)
              obtain ⟨be, oe, ue, fe, hae, -, -, ge, -, re⟩ := hce 0 (by simp)
              simp only [Value.slice.injEq] at hve
              obtain ⟨rfl, -, -⟩ := hve
              subst hae
              have re : R_T1 fe wo [ue] ex := re
              have ge : wo.cell? ⟨be, oe, none⟩ = some ue := by simpa using ge
              have hex := HF.out.exps ex (by simp)
              have hAl := expT_len ex
              have TA := Lib.hid (fun V (hu : Upd [] wo V) => expTextS ue ex V fe hex (R_T1k.upd re hu (by simp)))
              obtain ⟨ax, cx, rfl, -, -, -⟩ := slF2_open re
              obtain ⟨A, hA⟩ : ∃ A, A = expT ex := ⟨_, rfl⟩
              rw [← hA] at TA hAl
              have WS := Lib.hid (fun W => wrapDS T0 K0 (by omega) W)
              have hPl := par_len K0 T0
              obtain ⟨P, hP⟩ : ∃ P, P = par K0 T0 := ⟨_, rfl⟩
              rw [← hP] at WS hPl
              obtain ⟨M1, hM1⟩ : ∃ M1, M1 = [91] ++ A := ⟨_, rfl⟩
              have hc1 : (ByteArray.mk #[91] ++ ByteArray.mk A.toArray) = ByteArray.mk M1.toArray := by rw [hM1, catE]
              have hm1 : M1.length ≤ 2000 := by rw [hM1, List.length_append]; simp; omega
              obtain ⟨M2, hM2⟩ : ∃ M2, M2 = M1 ++ [93] := ⟨_, rfl⟩
              have hc2 : (ByteArray.mk M1.toArray ++ ByteArray.mk #[93]) = ByteArray.mk M2.toArray := by rw [hM2, catE]
              have hm2 : M2.length ≤ 2001 := by rw [hM2, List.length_append]; simp; omega
              have hc3 : (ByteArray.mk M2.toArray ++ ByteArray.mk P.toArray) = ByteArray.mk S.toArray := by rw [show S = M2 ++ P by rw [HSD.out, hM2, hM1, hA, hP]; simp [nodeD], catE]
              have n1 : ¬ (9223372036854775807 < 1 + A.length) := by omega
              have n2 : ¬ (9223372036854775807 < M1.length + 1) := by omega
              have n3 : ¬ (9223372036854775807 < M2.length + P.length) := by omega
              clear hM1 hM2 hA hP HTK HLK HFK HAP HTX HU HSD
              clear hce re
              go_wp2_with fail
              go_region_held3 (fun w' => w'.cell? ⟨BP, 3, none⟩ = some (.slice (some ⟨be, oe, none⟩) 1 c3) ∧ w'.cell? ⟨be, oe, none⟩ = some (.slice ax ex.length cx) ∧ w'.cell? ⟨g, ys.length, none⟩ = some (es T0) ∧ w'.cell? ⟨gl, ys.length, none⟩ = some (.bool K0)) (go_keep)
                (first
                  | (go_at_call 111; (with_reducible refine (TA.out _ (by repeat (first | exact Upd.refl _ _ | assumption | refine Upd.drew ?_))).mono ?_); rintro e w1 ⟨rfl, hu1⟩; have hV1 : Upd [] wo w1 := Upd.trans (by repeat (first | exact Upd.refl _ _ | assumption | refine Upd.drew ?_)) hu1; have yx3 := hV1.keep x3; have yge := hV1.keep ge; have yd0 := hV1.keep d0; have yd1 := hV1.keep d1)
                  | (go_at_call 110; (with_reducible refine (WS.out _).mono ?_); rintro e wz ⟨rfl, rfl⟩))
              all_goals
                go_wp2_with fail
                go_meet
                exact ⟨rfl, by repeat (first | exact Upd.refl _ _ | assumption | refine Upd.drew ?_)⟩
        case rest =>
          as_aux_lemma =>
            obtain ⟨rfl, hu⟩ := hcut
            obtain ⟨wq, rfl⟩ : ∃ wq : World, wq = wc := ⟨_, rfl⟩
            have UQ := Lib.hid hu
            have ht2 := ownsRow_upd HTK.out UQ.out
            have hl2 := ownsRow_upd HLK.out UQ.out
            have HU2 := Lib.hid (HU.out.trans UQ.out)
            have hsz2 := HU2.out.size
            clear hu x0 x1 x2 x3 d0 d1
            go_wp2_with (first
              | (at_builtin; refine wpList_append_lies _ rfl _ _ 25 rfl w.heap.size 9 i2 (.string ⟨#[]⟩) 1 16 Tryz.underlying25 ji jz0 jz1 jz2 rfl (by decide) (.slice (some ⟨g, 0, none⟩) ys.length ct) ys.length (txG (pT ns) ys) rfl (ht2.alloc _) ⟨wq.heap.size, 0, none⟩ 1 1 [es S] rfl rfl (fun j u hj => by rw [addr_add]; exact cell_new wq #[es S] _ _ rfl _ _ (by simpa using hj)) (by simp [Value.oneCell']) (by decide) (by unfold maxLen; omega) (by omega) (by simp; omega) (wq.heap.size + 1) (by simp) ?_)
              | fail)
            intro g3 cap3 w3 hown3 hg3 hat3 hlt3
            obtain ⟨_, _, hv3, mm1, mm2, -, -, -⟩ := own_cellsX hown3 (by omega)
            simp only [Value.slice.injEq] at hv3
            obtain ⟨-, -, rfl⟩ := hv3
            unfold maxLen at mm2
            have hla := ownsRow_upd hl2 ((Upd.refl [] wq).alloc (.cells #[es S] 9))
            have hg3 : (wq.alloc (.cells #[es S] 9)).grownBy w3 (Value.slice (some ⟨g, 0, none⟩) ys.length ct).ownBlock := ⟨hg3.os, hg3.tape, hg3.output, hg3.size, hg3.block⟩
            have hl3 := StkB.levels (o := .cells #[.bool false] 4) (tvc := Value.slice (some ⟨g, 0, none⟩) ys.length ct) hla HAP.out hg3
            have hU3 := (HU2.out.alloc (.cells #[es S] 9)).grown hg3 (fun b hb => Or.inl ((ht2.lt b hb).1))
            have hsz3 := hU3.size
            have HU3 := Lib.hid hU3
            have HLA := Lib.hid hla
            have HT3 := Lib.hid (show ∀ b, (Value.slice (some ⟨g3, 0, none⟩) (ys.length + 1) cap3).ownBlock = some b → (Value.slice (some ⟨g, 0, none⟩) ys.length ct).ownBlock = some b ∨ (wq.alloc (.cells #[es S] 9)).heap.size ≤ b from fun b hb => by
              simp only [Value.ownBlock, Option.some.injEq] at hb
              subst hb
              rcases hat3 with h | h
              · exact Or.inl h
              · exact Or.inr (by simp; omega))
            have HO3 := Lib.hid hown3
            clear hg3 hat3 hlt3 ht2 hl2 hown3 hla hU3
            go_wp2_with (first
              | (at_builtin; refine wpList_append_lies _ rfl _ _ 154 rfl w.heap.size 4 i1 (.bool false) 1 1 Tryz.underlying154 ki kz0 kz1 kz2 rfl (by decide) (.slice (some ⟨gl, 0, none⟩) ys.length cl) ys.length (lvB chP ys) rfl hl3 ⟨w3.heap.size, 0, none⟩ 1 1 [.bool false] rfl rfl (fun j u hj => by rw [addr_add]; exact cell_new w3 #[.bool false] _ _ rfl _ _ (by simpa using hj)) (by simp [Value.oneCell']) (by decide) (by unfold maxLen; omega) (by omega) (by simp; omega) (w3.heap.size + 1) (by simp) ?_)
              | fail)
            intro g4 cap4 w4 hown4 hg4 hat4 hlt4
            obtain ⟨_, _, hv4, nn1, nn2, -, -, -⟩ := own_cellsX hown4 (by omega)
            simp only [Value.slice.injEq] at hv4
            obtain ⟨-, -, rfl⟩ := hv4
            unfold maxLen at nn2
            have hS4 : StkB (pT ns) chP w w4 (.slice (some ⟨g3, 0, none⟩) (ys.length + 1) cap3) (.slice (some ⟨g4, 0, none⟩) (ys.length + 1) cap4) (tr :: ys) := StkB.done (o := .cells #[.bool false] 4) HLA.out HAP.out (by rw [HTX.out, ← HSD.out]; exact HO3.out) HT3.out (by rw [HFK.out.2]; exact hown4) hg4 (fun b hb => by
              simp only [Value.ownBlock, Option.some.injEq] at hb
              subst hb
              rcases hat4 with h | h
              · exact Or.inl h
              · exact Or.inr (by simp; omega))
            have hU4 : Upd [] w w4 := (HU3.out.alloc (.cells #[.bool false] 4)).grown hg4 (fun b hb => Or.inl ((hl3.lt b hb).1))
            have HP := Lib.hid (And.intro hS4 hU4)
            clear hown4 hg4 hat4 hlt4 hS4 hU4 hl3 HTX HSD HLA HT3 HO3 HU3
            go_wp2_with fail
            go_roundw
            case rel => exact ⟨k, ys.length + 1, g3, cap3, g4, cap4, by omega, by go_num, rfl, rfl, by rw [HFK.out.1]; rfl, HP.out.2, Lib.hid ⟨by rw [HFK.out.1]; exact HP.out.1, rfl, rfl, ⟨mm1, mm2⟩, ⟨nn1, nn2⟩⟩⟩
            case measure => simp [intOf]
      · obtain rfl : a = 1 := by have h := HA.out; rw [show folP _ = 1 from rfl] at h; omega
        obtain ⟨d0, d1⟩ := C0.out (by omega)
        rw [Nat.add_sub_cancel] at d0 d1
        have hw1 : IntKind.i64.wrap ((ys.length : Int) + 1 - 1) = (ys.length : Int) := by rw [IntKind.wrap_i64]; omega
        have hw2 : IntKind.i64.wrap (ys.length : Int) = (ys.length : Int) := by rw [IntKind.wrap_i64]; omega
        have s1 : (0 : Int) ≤ (ys.length : Int) := by omega
        have s4 : (ys.length : Int) < (ys.length : Int) + 1 := by omega
        have s5 : ys.length < ys.length + 1 := by omega
        have s2 : (ys.length : Int) ≤ (ct : Int) := by omega
        have s3 : (ys.length : Int) ≤ (cl : Int) := by omega
        clear C0 C1 HA
        go_upto_region 29 with (fail)
        go_cut [13] (fun sx wx => sx = es S ∧ Upd [] wo wx)
        case first =>
          as_aux_lemma =>
            obtain ⟨g1', g7⟩ := HF.out.sum rfl
            simp only at g1' g7
            have hAl := itoa_two (n := t2) (by omega) (by omega)
            have TA := Lib.hid (fun V (_ : Upd [] wo V) => decSmall t2 V (by omega) (by omega))
            obtain ⟨A, hA⟩ : ∃ A, A = Lib.itoa t2 := ⟨_, rfl⟩
            rw [← hA] at TA hAl
            have WS := Lib.hid (fun W => wrapDS T0 K0 (by omega) W)
            have hPl := par_len K0 T0
            obtain ⟨P, hP⟩ : ∃ P, P = par K0 T0 := ⟨_, rfl⟩
            rw [← hP] at WS hPl
            obtain ⟨M1, hM1⟩ : ∃ M1, M1 = [115, 117, 109, 32] ++ A := ⟨_, rfl⟩
            have hc1 : (ByteArray.mk #[115, 117, 109, 32] ++ ByteArray.mk A.toArray) = ByteArray.mk M1.toArray := by rw [hM1, catE]
            have hm1 : M1.length ≤ 2000 := by rw [hM1, List.length_append]; simp; omega
            obtain ⟨M2, hM2⟩ : ∃ M2, M2 = M1 ++ [46] := ⟨_, rfl⟩
            have hc2 : (ByteArray.mk M1.toArray ++ ByteArray.mk #[46]) = ByteArray.mk M2.toArray := by rw [hM2, catE]
            have hm2 : M2.length ≤ 2001 := by rw [hM2, List.length_append]; simp; omega
            have hc3 : (ByteArray.mk M2.toArray ++ ByteArray.mk P.toArray) = ByteArray.mk S.toArray := by rw [show S = M2 ++ P by rw [HSD.out, hM2, hM1, hA, hP]; simp [nodeD], catE]
            have n1 : ¬ (9223372036854775807 < 4 + A.length) := by omega
            have n2 : ¬ (9223372036854775807 < M1.length + 1) := by omega
            have n3 : ¬ (9223372036854775807 < M2.length + P.length) := by omega
            clear hM1 hM2 hA hP HTK HLK HFK HAP HTX HU HSD
            go_wp2_with fail
            go_region_held3 (fun w' => w'.cell? ⟨BP, 1, none⟩ = some (ei t2) ∧ w'.cell? ⟨g, ys.length, none⟩ = some (es T0) ∧ w'.cell? ⟨gl, ys.length, none⟩ = some (.bool K0)) (go_keep)
              (first
                | (go_at_call 79; (with_reducible refine (TA.out _ (by repeat (first | exact Upd.refl _ _ | assumption | refine Upd.drew ?_))).mono ?_); rintro e w1 ⟨rfl, hu1⟩; have hV1 : Upd [] wo w1 := Upd.trans (by repeat (first | exact Upd.refl _ _ | assumption | refine Upd.drew ?_)) hu1; have yx1 := hV1.keep x1; have yd0 := hV1.keep d0; have yd1 := hV1.keep d1)
                | (go_at_call 110; (with_reducible refine (WS.out _).mono ?_); rintro e wz ⟨rfl, rfl⟩))
            all_goals
              go_wp2_with fail
              go_meet
              exact ⟨rfl, by repeat (first | exact Upd.refl _ _ | assumption | refine Upd.drew ?_)⟩
        case rest =>
          as_aux_lemma =>
            obtain ⟨rfl, hu⟩ := hcut
            obtain ⟨wq, rfl⟩ : ∃ wq : World, wq = wc := ⟨_, rfl⟩
            have UQ := Lib.hid hu
            have ht2 := ownsRow_upd HTK.out UQ.out
            have hl2 := ownsRow_upd HLK.out UQ.out
            have HU2 := Lib.hid (HU.out.trans UQ.out)
            have hsz2 := HU2.out.size
            clear hu x0 x1 x2 x3 d0 d1
            go_wp2_with (first
              | (at_builtin; refine wpList_append_lies _ rfl _ _ 25 rfl w.heap.size 9 i2 (.string ⟨#[]⟩) 1 16 Tryz.underlying25 ji jz0 jz1 jz2 rfl (by decide) (.slice (some ⟨g, 0, none⟩) ys.length ct) ys.length (txG (pT ns) ys) rfl (ht2.alloc _) ⟨wq.heap.size, 0, none⟩ 1 1 [es S] rfl rfl (fun j u hj => by rw [addr_add]; exact cell_new wq #[es S] _ _ rfl _ _ (by simpa using hj)) (by simp [Value.oneCell']) (by decide) (by unfold maxLen; omega) (by omega) (by simp; omega) (wq.heap.size + 1) (by simp) ?_)
              | fail)
            intro g3 cap3 w3 hown3 hg3 hat3 hlt3
            obtain ⟨_, _, hv3, mm1, mm2, -, -, -⟩ := own_cellsX hown3 (by omega)
            simp only [Value.slice.injEq] at hv3
            obtain ⟨-, -, rfl⟩ := hv3
            unfold maxLen at mm2
            have hla := ownsRow_upd hl2 ((Upd.refl [] wq).alloc (.cells #[es S] 9))
            have hg3 : (wq.alloc (.cells #[es S] 9)).grownBy w3 (Value.slice (some ⟨g, 0, none⟩) ys.length ct).ownBlock := ⟨hg3.os, hg3.tape, hg3.output, hg3.size, hg3.block⟩
            have hl3 := StkB.levels (o := .cells #[.bool false] 4) (tvc := Value.slice (some ⟨g, 0, none⟩) ys.length ct) hla HAP.out hg3
            have hU3 := (HU2.out.alloc (.cells #[es S] 9)).grown hg3 (fun b hb => Or.inl ((ht2.lt b hb).1))
            have hsz3 := hU3.size
            have HU3 := Lib.hid hU3
            have HLA := Lib.hid hla
            have HT3 := Lib.hid (show ∀ b, (Value.slice (some ⟨g3, 0, none⟩) (ys.length + 1) cap3).ownBlock = some b → (Value.slice (some ⟨g, 0, none⟩) ys.length ct).ownBlock = some b ∨ (wq.alloc (.cells #[es S] 9)).heap.size ≤ b from fun b hb => by
              simp only [Value.ownBlock, Option.some.injEq] at hb
              subst hb
              rcases hat3 with h | h
              · exact Or.inl h
              · exact Or.inr (by simp; omega))
            have HO3 := Lib.hid hown3
            clear hg3 hat3 hlt3 ht2 hl2 hown3 hla hU3
            go_wp2_with (first
              | (at_builtin; refine wpList_append_lies _ rfl _ _ 154 rfl w.heap.size 4 i1 (.bool false) 1 1 Tryz.underlying154 ki kz0 kz1 kz2 rfl (by decide) (.slice (some ⟨gl, 0, none⟩) ys.length cl) ys.length (lvB chP ys) rfl hl3 ⟨w3.heap.size, 0, none⟩ 1 1 [.bool false] rfl rfl (fun j u hj => by rw [addr_add]; exact cell_new w3 #[.bool false] _ _ rfl _ _ (by simpa using hj)) (by simp [Value.oneCell']) (by decide) (by unfold maxLen; omega) (by omega) (by simp; omega) (w3.heap.size + 1) (by simp) ?_)
              | fail)
            intro g4 cap4 w4 hown4 hg4 hat4 hlt4
            obtain ⟨_, _, hv4, nn1, nn2, -, -, -⟩ := own_cellsX hown4 (by omega)
            simp only [Value.slice.injEq] at hv4
            obtain ⟨-, -, rfl⟩ := hv4
            unfold maxLen at nn2
            have hS4 : StkB (pT ns) chP w w4 (.slice (some ⟨g3, 0, none⟩) (ys.length + 1) cap3) (.slice (some ⟨g4, 0, none⟩) (ys.length + 1) cap4) (tr :: ys) := StkB.done (o := .cells #[.bool false] 4) HLA.out HAP.out (by rw [HTX.out, ← HSD.out]; exact HO3.out) HT3.out (by rw [HFK.out.2]; exact hown4) hg4 (fun b hb => by
              simp only [Value.ownBlock, Option.some.injEq] at hb
              subst hb
              rcases hat4 with h | h
              · exact Or.inl h
              · exact Or.inr (by simp; omega))
            have hU4 : Upd [] w w4 := (HU3.out.alloc (.cells #[.bool false] 4)).grown hg4 (fun b hb => Or.inl ((hl3.lt b hb).1))
            have HP := Lib.hid (And.intro hS4 hU4)
            clear hown4 hg4 hat4 hlt4 hS4 hU4 hl3 HTX HSD HLA HT3 HO3 HU3
            go_wp2_with fail
            go_roundw
            case rel => exact ⟨k, ys.length + 1, g3, cap3, g4, cap4, by omega, by go_num, rfl, rfl, by rw [HFK.out.1]; rfl, HP.out.2, Lib.hid ⟨by rw [HFK.out.1]; exact HP.out.1, rfl, rfl, ⟨mm1, mm2⟩, ⟨nn1, nn2⟩⟩⟩
            case measure => simp [intOf]

end Go.Proofs.YtijmkcnipflpbaaGreatDoor

/-
  The text of a definition: what the reference's calls return.
-/
namespace Go.Proofs.YtijmkcnipflpbaaGreatDoor
open Go.RowKit

set_option maxRecDepth 20000 in
set_option maxHeartbeats 8000000 in
theorem procDS (ds : List De) (lv : Value) (fd : List Nat) (j : Nat) (w : World) (hL : R_De1 fd w [lv] ds) (hok : defsOk ds = true) (hj : j < ds.length) :
    Calls Tryz.prog 53 #[lv, .int .i64 j] w fun e w' => e = .returned (es (procT ds ds[j])) ∧ Upd [] w w' := by
  obtain ⟨h4, h1, hpar, hnm, hbody⟩ := defs_fine hok
  obtain ⟨hb, hl20, hfine⟩ := hbody ds[j] (List.getElem_mem hj)
  obtain ⟨x, hx, hokx, hfl⟩ := body_tree hb
  obtain ⟨p0, p1⟩ := hpar ds[j] (List.getElem_mem hj)
  have hnl := hnm ds[j] (List.getElem_mem hj)
  obtain ⟨al, ql, rfl, gl1, gl2, hc⟩ := slQ_open hL
  unfold maxLen at gl2
  obtain ⟨b, off, u, f, rfl, -, -, -, hcell, -, hr⟩ := hc j hj
  obtain ⟨v2, f2, rfl, h2, rfl⟩ := hr
  have d0 := hcell 0 _ rfl
  have d1 := hcell 1 _ rfl
  have d2 := hcell 2 _ rfl
  simp only [Nat.add_zero] at d0
  have hsg : shapeG folP 1 ds[j].body = true := by
    unfold bodyOk at hb
    simp only [Bool.and_eq_true] at hb
    exact hb.2
  have TP := Lib.hid (fun V (hu : Upd [] w V) => bodyDS ds (.slice (some ⟨b, off, none⟩) ds.length ql) fd v2 ds[j].body x V f2 (ds.map De.name) rfl (fun n hn => by obtain ⟨q, hq, rfl⟩ := List.mem_map.1 hn; exact hnm q hq) (R_De1k.upd hL hu (by simp)) (R_Pa1k.upd h2 hu (by simp)) hsg hl20 hfine hx)
  have hTl := pT_len (ds := ds) (ns := ds.map De.name) (fun n hn => by obtain ⟨q, hq, rfl⟩ := List.mem_map.1 hn; exact hnm q hq) x hokx (fun p hp => hfine p (hfl ▸ hp))
  rw [hfl] at hTl
  have TD := Lib.hid (fun V => decSmall ds[j].pars V p0 (by omega))
  have hAl := itoa_two (n := ds[j].pars) p0 (by omega)
  have HRES := Lib.hid (procT_tree (ds := ds) hx)
  have hjl : (j : Int) < (ds.length : Int) := by omega
  obtain ⟨a2, q2, rfl, -, -, -⟩ := slQ_open h2
  clear hL h2 hc hcell hfl hokx hx hb hbody hfine hpar hnm hok hsg
  generalize hT : pT (ds.map De.name) x = T at *
  generalize hA : Lib.itoa ds[j].pars = A at *
  generalize procT ds ds[j] = R at *
  generalize ds[j] = d at *
  obtain ⟨M1, hM1⟩ : ∃ M, M = [112, 114, 111, 99, 32] ++ d.name := ⟨_, rfl⟩
  have k1 : (ByteArray.mk #[112, 114, 111, 99, 32] ++ ByteArray.mk d.name.toArray) = ByteArray.mk M1.toArray := by rw [hM1, catE]
  have l1 : M1.length ≤ 100 := by rw [hM1, List.length_append]; simp; omega
  rw [← hM1] at HRES
  obtain ⟨M2, hM2⟩ : ∃ M, M = M1 ++ [32] := ⟨_, rfl⟩
  have k2 : (ByteArray.mk M1.toArray ++ ByteArray.mk #[32]) = ByteArray.mk M2.toArray := by rw [hM2, catE]
  have l2 : M2.length ≤ 101 := by rw [hM2, List.length_append]; simp; omega
  rw [← hM2] at HRES
  obtain ⟨M3, hM3⟩ : ∃ M, M = M2 ++ A := ⟨_, rfl⟩
  have k3 : (ByteArray.mk M2.toArray ++ ByteArray.mk A.toArray) = ByteArray.mk M3.toArray := by rw [hM3, catE]
  have l3 : M3.length ≤ 103 := by rw [hM3, List.length_append]; omega
  rw [← hM3] at HRES
  obtain ⟨M4, hM4⟩ : ∃ M, M = M3 ++ [32, 61, 32] := ⟨_, rfl⟩
  have k4 : (ByteArray.mk M3.toArray ++ ByteArray.mk #[32, 61, 32]) = ByteArray.mk M4.toArray := by rw [hM4, catE]
  have l4 : M4.length ≤ 106 := by rw [hM4, List.length_append]; simp; omega
  rw [← hM4] at HRES
  obtain ⟨M5, hM5⟩ : ∃ M, M = M4 ++ T := ⟨_, rfl⟩
  have k5 : (ByteArray.mk M4.toArray ++ ByteArray.mk T.toArray) = ByteArray.mk M5.toArray := by rw [hM5, catE]
  rw [← hM5] at HRES
  have n1 : ¬ (9223372036854775807 < 5 + d.name.length) := by omega
  have n2 : ¬ (9223372036854775807 < M1.length + 1) := by omega
  have n3 : ¬ (9223372036854775807 < M2.length + A.length) := by omega
  have n4 : ¬ (9223372036854775807 < M3.length + 3) := by omega
  have n5 : ¬ (9223372036854775807 < M4.length + T.length) := by omega
  clear hM1 hM2 hM3 hM4 hM5 hT hA
  generalize d.name = nm at *
  generalize d.pars = P at *
  generalize d.body.length = L at *
  go_enter Tryz.func53, Tryz.ntmps53
  go_wp2_with fail
  go_region_held3 (fun w' => w'.cell? ⟨b, off + j * 3, none⟩ = some (es nm) ∧ w'.cell? ⟨b, off + j * 3 + 1, none⟩ = some (ei P) ∧ w'.cell? ⟨b, off + j * 3 + 2, none⟩ = some (.slice a2 L q2)) (go_keep)
    (first
      | (go_at_call 79; (with_reducible refine (TD.out _).mono ?_); rintro e w2 ⟨rfl, hu2⟩; have hX2 : Upd [] w w2 := Upd.trans (by repeat (first | exact Upd.refl _ _ | assumption | refine Upd.drew ?_)) hu2; have s0 := hX2.keep d0; have s1 := hX2.keep d1; have s2 := hX2.keep d2)
      | (go_at_call 80; (with_reducible refine (TP.out _ (by repeat (first | exact Upd.refl _ _ | assumption | refine Upd.drew ?_))).mono ?_); rintro e w3 ⟨rfl, hu3⟩; have hX3 : Upd [] w w3 := Upd.trans (by repeat (first | exact Upd.refl _ _ | assumption | refine Upd.drew ?_)) hu3; have r0 := hX3.keep d0; have r1 := hX3.keep d1; have r2 := hX3.keep d2))
  all_goals
    have HE := Lib.hid hX3
    clear hu2 hu3 hX2 hX3 s0 s1 s2 r0 r1 r2 TP TD
    go_wp2_with fail
    go_ret
    exact ⟨by rw [HRES.out]; rfl, HE.out⟩

end Go.Proofs.YtijmkcnipflpbaaGreatDoor

/-
  The lines of a system: what the reference's call returns.
-/
namespace Go.Proofs.YtijmkcnipflpbaaGreatDoor
open Go.RowKit

theorem joinLib_so (sep : List UInt8) (xs : List (List UInt8)) (x : List UInt8) : Lib.join (xs ++ [x]) sep = (if xs.length = 0 then [] else Lib.join xs sep ++ sep) ++ x := by
  match xs with
  | [] => simp [Lib.join_one]
  | y :: r =>
    rw [if_neg (by simp), List.cons_append, Lib.join_cons, Lib.join_cons]
    simp [Lib.joinTail]
theorem joinLib_take {α : Type} (sep : List UInt8) (f : α → List UInt8) (l : List α) (k : Nat) (h : k < l.length) : Lib.join ((l.take (k + 1)).map f) sep = (if k = 0 then [] else Lib.join ((l.take k).map f) sep ++ sep) ++ f l[k] := by
  rw [List.take_succ_eq_append_getElem h, List.map_append, List.map_cons, List.map_nil, joinLib_so]
  congr 1
  have : ((l.take k).map f).length = k := by rw [List.length_map, List.length_take]; omega
  rw [this]

set_option maxRecDepth 20000 in
set_option maxHeartbeats 16000000 in
theorem linesS (B : Nat) (cs : List Value) (fp : List Nat) (s : Sy) (w : World) (hA : SyAt B cs fp w s) (hok : sysOk s = true) :
    Calls Tryz.prog 32 #[.pointer (some ⟨B, 0, none⟩)] w fun e w' => (∃ v, e = .returned v ∧ New RS w w' v (sysLines s)) ∧ Upd [] w w' := by
  obtain ⟨i0, hi, hz0, hz1, hz2⟩ := info_parts Tryz.info9
  have hK := SyGd.of hok
  obtain ⟨⟨v0, v1, v2, v3, v4, f0, f1, f2, f3, f4, rfl, h0, h1, h2, h3, h4, rfl⟩, hcc⟩ := hA
  have HCA := Lib.hid (fun W (hu : Upd [] w W) => show W.cell? ⟨B, 0, none⟩ = some v0 ∧ W.cell? ⟨B, 1, none⟩ = some v1 ∧ W.cell? ⟨B, 2, none⟩ = some v2 ∧ W.cell? ⟨B, 3, none⟩ = some v3 ∧ W.cell? ⟨B, 4, none⟩ = some v4 from
    ⟨hu.keep (hcc 0 _ rfl), hu.keep (hcc 1 _ rfl), hu.keep (hcc 2 _ rfl), hu.keep (hcc 3 _ rfl), hu.keep (hcc 4 _ rfl)⟩)
  have HK := Lib.hid hK
  have SD := Lib.hid (fun W (hu : Upd [] w W) j (hj : j < s.defs.length) => procDS s.defs v0 f0 j W (R_De1k.upd h0 hu (by simp)) hK.defs hj)
  obtain ⟨a0, q0, rfl, d1, d2, hd⟩ := slQ_open h0
  obtain ⟨a1, q1, rfl, l1, l2, hl⟩ := slQ_open h1
  obtain ⟨a2, q2, rfl, m1, m2, hm⟩ := slQ_open h2
  have HR3 := Lib.hid h3
  have HR4 := Lib.hid h4
  obtain ⟨a3, q3, rfl, n1, n2, -⟩ := slF1_open h3
  obtain ⟨a4, q4, rfl, o1, o2, -⟩ := slF1_open h4
  unfold maxLen at d2 l2 m2 n2 o2
  have HD := Lib.hid hd
  have HL := Lib.hid hl
  have HM := Lib.hid hm
  have HLIT := Lib.hid (World.ownsRow_lit (base := w.heap.size) (e := 9) (size := 1) w #[] 0 (Nat.le_refl _) (by simp [maxLen]) (by simp))
  have UA := Lib.hid ((Upd.refl [] w).alloc (.cells #[] 9))
  have HZ := Lib.hid (show sysLines s = ((((s.defs.map (procT s.defs)) ++ [runT s.defs s.comps]) ++ s.meets.map meetT) ++ namesT [97, 108, 108, 111, 119, 32] s.allow) ++ namesT [104, 105, 100, 101, 32] s.hide from rfl)
  clear hd hl hm h0 h1 h2 h3 h4 hok hK hcc
  generalize sysLines s = Z at *
  go_enter Tryz.func32, Tryz.ntmps32
  go_wp2_with fail
  go_loopw [3, 4] (fun sp iv wr => ∃ (k : Nat) (sv : Value), sv = sp ∧ k ≤ s.defs.length ∧ iv = .int .i64 k ∧ Hid (Upd [] w wr) ∧ Hid (wr.ownsRow w.heap.size 9 1 sv k (((s.defs.take k).map (procT s.defs)).map es))) (fun _ iv _ => s.defs.length - (intOf iv).toNat)
  case atStart => exact ⟨0, _, rfl, Nat.zero_le _, rfl, UA, Lib.hid (by simpa using HLIT.out)⟩
  case round =>
    obtain ⟨wo, rfl⟩ : ∃ wo : World, wo = wr := ⟨_, rfl⟩
    obtain ⟨k, sv, rfl, hk, rfl, HU, HA⟩ := hrel
    obtain ⟨y0, -, -, -, -⟩ := HCA.out wo HU.out
    by_cases hlt : k < s.defs.length
    · have hkl : (k : Int) < (s.defs.length : Int) := by omega
      have HTK := Lib.hid (show ((s.defs.take (k + 1)).map (procT s.defs)).map es = ((s.defs.take k).map (procT s.defs)).map es ++ [es (procT s.defs s.defs[k])] by rw [List.take_succ_eq_append_getElem hlt, List.map_append, List.map_append]; rfl)
      have S1 := Lib.hid (SD.out wo HU.out k hlt)
      have HOW := HA.out
      obtain ⟨ca, cc, rfl⟩ := ownsRow_form HOW
      clear HA
      have HA := Lib.hid HOW
      clear HOW
      generalize procT s.defs s.defs[k] = A at *
      have hk9 : k ≤ 1000 := by have := HK.out.dl; omega
      go_wp2_with fail
      refine S1.out.mono ?_
      rintro r w4 ⟨rfl, hu4⟩
      have HB4 := Lib.hid (HU.out.trans hu4)
      have hown1 := ownsRow_upd HA.out hu4
      have hsz4 : w.heap.size ≤ w4.heap.size := HB4.out.size
      have HOL := Lib.hid (fun c hc => (hown1.lt c hc).1)
      clear S1 hu4 HA y0
      go_wp2_with (first
        | (at_builtin; refine wpList_append_tight _ rfl _ _ 25 rfl w.heap.size 9 i0 (es []) 1 16 Tryz.underlying25 hi hz0 hz1 hz2 rfl (by decide) _ _ _ rfl (hown1.alloc _) ⟨w4.heap.size, 0, none⟩ 1 1 [es A] rfl rfl (fun j u hj => by rw [addr_add, Nat.zero_add]; exact cell_new w4 #[es A] _ _ rfl j u (by simpa using hj)) (by simp [Value.oneCell']) (by unfold maxLen; omega) (by omega) (by simp; omega) ?_)
        | fail)
      intro v2 w5 hown2 hg2 ht2
      have HO5 := Lib.hid (show w5.ownsRow w.heap.size 9 1 v2 (k + 1) (((s.defs.take (k + 1)).map (procT s.defs)).map es) by rw [HTK.out]; simpa using hown2)
      have HU5 := Lib.hid (show Upd [] w w5 from (HB4.out.alloc _).grown hg2 (fun c hc => Or.inl (HOL.out c hc)))
      clear hown1 hown2 hg2 ht2
      go_wp2_with fail
      go_roundw
      case rel => exact ⟨k + 1, _, rfl, by omega, by go_num, HU5, HO5⟩
      case measure => simp [intOf]; omega
    · obtain rfl : k = s.defs.length := by omega
      have hkk : ¬ ((s.defs.length : Nat) : Int) < (s.defs.length : Int) := by omega
      have ho := HA.out
      rw [List.take_length] at ho
      obtain ⟨ca, cc, rfl⟩ := ownsRow_form ho
      have HA1 := Lib.hid (fun W (hu : Upd [] wo W) => ownsRow_upd ho hu)
      obtain ⟨w1, rfl⟩ : ∃ w1 : World, w1 = wo := ⟨_, rfl⟩
      have HU1 := Lib.hid HU.out
      have HP := Lib.hid (fun k (h : k < s.comps.length) => joinLib_take [32, 124, 32] (compT s.defs) s.comps k h)
      clear ho HA HU
      go_wp2_with fail
      go_loopw [5, 6] (fun tv iv wr => ∃ (k : Nat) (A : List UInt8), k ≤ s.comps.length ∧ iv = .int .i64 k ∧ tv = es A ∧ A.length ≤ 4 + 33 * k ∧ Hid (Upd [] w1 wr) ∧ Hid (A = [114, 117, 110, 32] ++ Lib.join ((s.comps.take k).map (compT s.defs)) [32, 124, 32])) (fun _ iv _ => s.comps.length - (intOf iv).toNat)
      case atStart => exact ⟨0, [114, 117, 110, 32], Nat.zero_le _, rfl, rfl, by simp, Lib.hid (Upd.refl _ _), Lib.hid (by simp [Lib.join_nil])⟩
      case round =>
        clear y0
        obtain ⟨wo, rfl⟩ : ∃ wo : World, wo = wr := ⟨_, rfl⟩
        obtain ⟨k, A, hk, rfl, rfl, hAl, HU, HJ⟩ := hrel
        have uw : Upd [] w wo := HU1.out.trans HU.out
        obtain ⟨x0, x1, -, -, -⟩ := HCA.out wo uw
        by_cases hlt : k < s.comps.length
        · obtain ⟨bb, off, u, f', rfl, -, -, -, hcell, -, hr⟩ := HL.out k hlt
          obtain ⟨v5, f5, rfl, hv, rfl⟩ := hr
          have hv' := hv
          obtain ⟨a5, q5, rfl, -, -, -⟩ := slF1_open hv
          have s0 := uw.keep (hcell 0 _ rfl)
          have s1 := uw.keep (hcell 1 _ rfl)
          simp only [Nat.add_zero] at s0
          have hkl : (k : Int) < (s.comps.length : Int) := by omega
          obtain ⟨j, hj, hjl, hv3, hvx⟩ := HK.out.comp _ (List.getElem_mem hlt)
          obtain ⟨bd, od, ud, fd, rfl, -, -, -, hcd, -, hrd⟩ := HD.out j hjl
          obtain ⟨v6, f6, rfl, -, -⟩ := hrd
          have d0 := uw.keep (hcd 0 _ rfl)
          simp only [Nat.add_zero] at d0
          have hCT := Lib.hid (show compT s.defs s.comps[k] = s.defs[j].name ++ (if s.comps[k].vals.length = 0 then [] else ([40] ++ txtV s.comps[k].vals) ++ [41]) by
            unfold compT txtV
            rw [hj, Int.toNat_natCast, List.getD_eq_getElem?_getD, List.getElem?_map, List.getElem?_eq_getElem hjl]; rfl)
          have HCL := Lib.hid (compT_len HK.out _ (List.getElem_mem hlt))
          have hjj : (j : Int) < (s.defs.length : Int) := by omega
          rw [hj] at s0
          have SJ := Lib.hid (fun W (hu : Upd [] w W) => listTextS _ s.comps[k].vals W _ (R_I1k.upd hv' hu (by simp)) (by omega) hvx)
          have HLT := Lib.hid (fun (h : ¬ s.comps[k].vals.length = 0) => show listTxt s.comps[k].vals = txtV s.comps[k].vals by unfold listTxt; rw [if_neg h]; rfl)
          have HPK := Lib.hid (HP.out k hlt)
          have hk9 : k ≤ 3 := by have := HK.out.cl; omega
          clear hcell hv hv' hcd hj hvx
          generalize compT s.defs s.comps[k] = C at *
          generalize s.defs[j].name = nm at *
          generalize s.comps[k].vals = vl at *
          generalize s.comps[k].dfn = cd at *
          generalize listTxt vl = LT at *
          have hCl : C.length ≤ 30 := HCL.out
          obtain ⟨N, hN⟩ : ∃ N, N = (if k = 0 then A else A ++ [32, 124, 32]) := ⟨_, rfl⟩
          have HN := Lib.hid (show [114, 117, 110, 32] ++ Lib.join ((s.comps.take (k + 1)).map (compT s.defs)) [32, 124, 32] = N ++ C by
            rw [HPK.out, hN, HJ.out]
            by_cases e : k = 0
            · subst e; simp [Lib.join_nil]
            · rw [if_neg e, if_neg e]; simp)
          have hNl : N.length ≤ A.length + 3 := by rw [hN]; split <;> simp
          have HHN := Lib.hid hN
          have hnmC : nm.length ≤ C.length := by rw [hCT.out]; simp
          clear HPK HCL HJ hN
          go_upto_region 10 with (fail)
          by_cases hk0 : k = 0
          · obtain rfl : N = A := by rw [HHN.out, if_pos hk0]
            have ek : ¬ (0 : Int) < (k : Int) := by omega
            have HK0 := Lib.hid hk0
            clear hk0
            go_upto_region 13 with (fail)
            obtain ⟨A2, hA2⟩ : ∃ Q, Q = N ++ nm := ⟨_, rfl⟩
            have hcatA2 : (ByteArray.mk N.toArray ++ ByteArray.mk nm.toArray) = ByteArray.mk A2.toArray := by rw [hA2, ← catE]
            have hzA2 : ¬ (9223372036854775807 < N.length + nm.length) := by omega
            have hlA2 : A2.length = N.length + nm.length := by rw [hA2]; simp
            have HA2 := Lib.hid hA2
            clear hA2
            go_region
            obtain ⟨wq, hwq⟩ : ∃ wq, wo.drew = wq := ⟨_, rfl⟩
            have uq : Upd [] wo wq := by rw [← hwq]; exact (Upd.refl _ _).drew
            have s0q := uq.keep s0
            have s1q := uq.keep s1
            rw [hwq]
            have UQ := Lib.hid uq
            clear hwq s0 s1 d0 x0 x1 uq hcatA2 hzA2
            by_cases hv0 : vl.length = 0
            · have e0 : ¬ (0 : Int) < (vl.length : Int) := by omega
              have HEQ := Lib.hid (show A2 = N ++ C by rw [HA2.out, hCT.out, if_pos hv0, List.append_nil])
              have hm : A2.length ≤ 4 + 33 * (k + 1) := by rw [HEQ.out, List.length_append]; omega
              go_wp2_with fail
              go_roundw
              case rel => exact ⟨k + 1, A2, by omega, by go_num, rfl, hm, Lib.hid (HU.out.trans UQ.out), Lib.hid (by rw [HN.out, HEQ.out])⟩
              case measure => simp [intOf]; omega
            · have e0 : (0 : Int) < (vl.length : Int) := by omega
              have T1 := Lib.hid (SJ.out wq (HU1.out.trans (HU.out.trans UQ.out)))
              have HCC := Lib.hid (show C = nm ++ (([40] ++ LT) ++ [41]) by rw [hCT.out, if_neg hv0, ← HLT.out hv0])
              have hLl : LT.length ≤ 30 := by have h := congrArg List.length HCC.out; simp at h; omega
              clear hCT SJ HLT
              obtain ⟨A3, hA3⟩ : ∃ Q, Q = [40] ++ LT := ⟨_, rfl⟩
              obtain ⟨A4, hA4⟩ : ∃ Q, Q = A3 ++ [41] := ⟨_, rfl⟩
              obtain ⟨A5, hA5⟩ : ∃ Q, Q = A2 ++ A4 := ⟨_, rfl⟩
              have hcatA3 : (ByteArray.mk #[40] ++ ByteArray.mk LT.toArray) = ByteArray.mk A3.toArray := by rw [hA3, ← catE]
              have hlA3 : A3.length = 1 + LT.length := by rw [hA3]; simp only [List.length_append, List.length_cons, List.length_nil] <;> omega
              have hzA3 : ¬ (9223372036854775807 < 1 + LT.length) := by omega
              have hcatA4 : (ByteArray.mk A3.toArray ++ ByteArray.mk #[41]) = ByteArray.mk A4.toArray := by rw [hA4, ← catE]
              have hlA4 : A4.length = A3.length + 1 := by rw [hA4]; simp only [List.length_append, List.length_cons, List.length_nil] <;> omega
              have hzA4 : ¬ (9223372036854775807 < A3.length + 1) := by omega
              have hcatA5 : (ByteArray.mk A2.toArray ++ ByteArray.mk A4.toArray) = ByteArray.mk A5.toArray := by rw [hA5, ← catE]
              have hlA5 : A5.length = A2.length + A4.length := by rw [hA5]; simp only [List.length_append, List.length_cons, List.length_nil] <;> omega
              have hzA5 : ¬ (9223372036854775807 < A2.length + A4.length) := by omega
              have HEQ := Lib.hid (show A5 = N ++ C by rw [hA5, HA2.out, hA4, hA3, HCC.out, List.append_assoc])
              have hm : A5.length ≤ 4 + 33 * (k + 1) := by rw [HEQ.out, List.length_append]; omega
              clear hA3 hlA3 hA4 hlA4 hA5 hlA5
              go_wp2_with fail
              refine T1.out.mono ?_
              rintro r w4 ⟨rfl, hu4⟩
              have HB4 := Lib.hid (HU.out.trans (UQ.out.trans hu4))
              clear T1 hu4 s0q s1q
              go_wp2_with fail
              go_roundw
              case rel => exact ⟨k + 1, A5, by omega, by go_num, rfl, hm, HB4, Lib.hid (by rw [HN.out, HEQ.out])⟩
              case measure => simp [intOf]; omega
          · have ek : (0 : Int) < (k : Int) := by omega
            have hcatN : (ByteArray.mk A.toArray ++ ByteArray.mk #[32, 124, 32]) = ByteArray.mk N.toArray := by rw [HHN.out, if_neg hk0, ← catE]
            have hzN : ¬ (9223372036854775807 < A.length + 3) := by omega
            go_upto_region 13 with (fail)
            obtain ⟨A2, hA2⟩ : ∃ Q, Q = N ++ nm := ⟨_, rfl⟩
            have hcatA2 : (ByteArray.mk N.toArray ++ ByteArray.mk nm.toArray) = ByteArray.mk A2.toArray := by rw [hA2, ← catE]
            have hzA2 : ¬ (9223372036854775807 < N.length + nm.length) := by omega
            have hlA2 : A2.length = N.length + nm.length := by rw [hA2]; simp
            have HA2 := Lib.hid hA2
            clear hA2
            go_region
            obtain ⟨wq, hwq⟩ : ∃ wq, wo.drew = wq := ⟨_, rfl⟩
            have uq : Upd [] wo wq := by rw [← hwq]; exact (Upd.refl _ _).drew
            have s0q := uq.keep s0
            have s1q := uq.keep s1
            rw [hwq]
            have UQ := Lib.hid uq
            clear hwq s0 s1 d0 x0 x1 uq hcatA2 hzA2
            by_cases hv0 : vl.length = 0
            · have e0 : ¬ (0 : Int) < (vl.length : Int) := by omega
              have HEQ := Lib.hid (show A2 = N ++ C by rw [HA2.out, hCT.out, if_pos hv0, List.append_nil])
              have hm : A2.length ≤ 4 + 33 * (k + 1) := by rw [HEQ.out, List.length_append]; omega
              go_wp2_with fail
              go_roundw
              case rel => exact ⟨k + 1, A2, by omega, by go_num, rfl, hm, Lib.hid (HU.out.trans UQ.out), Lib.hid (by rw [HN.out, HEQ.out])⟩
              case measure => simp [intOf]; omega
            · have e0 : (0 : Int) < (vl.length : Int) := by omega
              have T1 := Lib.hid (SJ.out wq (HU1.out.trans (HU.out.trans UQ.out)))
              have HCC := Lib.hid (show C = nm ++ (([40] ++ LT) ++ [41]) by rw [hCT.out, if_neg hv0, ← HLT.out hv0])
              have hLl : LT.length ≤ 30 := by have h := congrArg List.length HCC.out; simp at h; omega
              clear hCT SJ HLT
              obtain ⟨A3, hA3⟩ : ∃ Q, Q = [40] ++ LT := ⟨_, rfl⟩
              obtain ⟨A4, hA4⟩ : ∃ Q, Q = A3 ++ [41] := ⟨_, rfl⟩
              obtain ⟨A5, hA5⟩ : ∃ Q, Q = A2 ++ A4 := ⟨_, rfl⟩
              have hcatA3 : (ByteArray.mk #[40] ++ ByteArray.mk LT.toArray) = ByteArray.mk A3.toArray := by rw [hA3, ← catE]
              have hlA3 : A3.length = 1 + LT.length := by rw [hA3]; simp only [List.length_append, List.length_cons, List.length_nil] <;> omega
              have hzA3 : ¬ (9223372036854775807 < 1 + LT.length) := by omega
              have hcatA4 : (ByteArray.mk A3.toArray ++ ByteArray.mk #[41]) = ByteArray.mk A4.toArray := by rw [hA4, ← catE]
              have hlA4 : A4.length = A3.length + 1 := by rw [hA4]; simp only [List.length_append, List.length_cons, List.length_nil] <;> omega
              have hzA4 : ¬ (9223372036854775807 < A3.length + 1) := by omega
              have hcatA5 : (ByteArray.mk A2.toArray ++ ByteArray.mk A4.toArray) = ByteArray.mk A5.toArray := by rw [hA5, ← catE]
              have hlA5 : A5.length = A2.length + A4.length := by rw [hA5]; simp only [List.length_append, List.length_cons, List.length_nil] <;> omega
              have hzA5 : ¬ (9223372036854775807 < A2.length + A4.length) := by omega
              have HEQ := Lib.hid (show A5 = N ++ C by rw [hA5, HA2.out, hA4, hA3, HCC.out, List.append_assoc])
              have hm : A5.length ≤ 4 + 33 * (k + 1) := by rw [HEQ.out, List.length_append]; omega
              clear hA3 hlA3 hA4 hlA4 hA5 hlA5
              go_wp2_with fail
              refine T1.out.mono ?_
              rintro r w4 ⟨rfl, hu4⟩
              have HB4 := Lib.hid (HU.out.trans (UQ.out.trans hu4))
              clear T1 hu4 s0q s1q
              go_wp2_with fail
              go_roundw
              case rel => exact ⟨k + 1, A5, by omega, by go_num, rfl, hm, HB4, Lib.hid (by rw [HN.out, HEQ.out])⟩
              case measure => simp [intOf]; omega
        · obtain rfl : k = s.comps.length := by omega
          have hkk : ¬ ((s.comps.length : Nat) : Int) < (s.comps.length : Int) := by omega
          have hcl1 := HK.out.cl
          have hd4 := HK.out.dl
          have HRA := Lib.hid (show runT s.defs s.comps = A by rw [HJ.out, List.take_length]; rfl)
          have hown1 := HA1.out wo HU.out
          have HOL := Lib.hid (fun c hc => (hown1.lt c hc).1)
          have hsz4 : w.heap.size ≤ wo.heap.size := uw.size
          have HB4 := Lib.hid uw
          clear HJ uw HP
          go_wp2_with (first
            | (at_builtin; refine wpList_append_tight _ rfl _ _ 25 rfl w.heap.size 9 i0 (es []) 1 16 Tryz.underlying25 hi hz0 hz1 hz2 rfl (by decide) _ _ _ rfl (hown1.alloc _) ⟨wo.heap.size, 0, none⟩ 1 1 [es A] rfl rfl (fun j u hj => by rw [addr_add, Nat.zero_add]; exact cell_new wo #[es A] _ _ rfl j u (by simpa using hj)) (by simp [Value.oneCell']) (by unfold maxLen; omega) (by omega) (by simp; omega) ?_)
            | fail)
          intro v2 w5 hown2 hg2 ht2
          obtain ⟨n0, hn0⟩ : ∃ n, n = s.defs.length + 1 := ⟨_, rfl⟩
          obtain ⟨L0, hL0⟩ : ∃ l, l = (s.defs.map (procT s.defs)).map es ++ [es A] := ⟨_, rfl⟩
          have HL0 := Lib.hid (show L0 = ((s.defs.map (procT s.defs)) ++ [runT s.defs s.comps]).map es by rw [hL0, HRA.out, List.map_append (l₁ := s.defs.map (procT s.defs))]; rfl)
          have ho5 : w5.ownsRow w.heap.size 9 1 v2 n0 L0 := by rw [hn0, hL0]; simpa using hown2
          have HU5 := Lib.hid (show Upd [] w w5 from (HB4.out.alloc _).grown hg2 (fun c hc => Or.inl (HOL.out c hc)))
          have hn9 : n0 ≤ 5 := by omega
          have HN0 := Lib.hid hn0
          obtain ⟨ca, cc, rfl⟩ := ownsRow_form ho5
          have HO5 := Lib.hid ho5
          clear hown1 hown2 hg2 ht2 hn0 hL0 ho5 HB4 HOL HRA HA1 HU HU1 hsz4 hAl x0 x1
          obtain ⟨-, -, x2, -, -⟩ := HCA.out w5 HU5.out
          go_wp2_with fail
          go_loopw [3, 8] (fun sp iv wr => ∃ (k : Nat) (sv : Value), sv = sp ∧ k ≤ s.meets.length ∧ iv = .int .i64 k ∧ Hid (Upd [] w wr) ∧ Hid (wr.ownsRow w.heap.size 9 1 sv (n0 + k) (L0 ++ ((s.meets.take k).map meetT).map es))) (fun _ iv _ => s.meets.length - (intOf iv).toNat)
          case atStart => exact ⟨0, _, rfl, Nat.zero_le _, rfl, HU5, Lib.hid (by simpa using HO5.out)⟩
          case round =>
            obtain ⟨wo, rfl⟩ : ∃ wo : World, wo = wr := ⟨_, rfl⟩
            obtain ⟨k, sv, rfl, hk, rfl, HU, HA⟩ := hrel
            clear x2
            obtain ⟨-, -, x2, -, -⟩ := HCA.out wo HU.out
            by_cases hlt : k < s.meets.length
            · obtain ⟨bb, off, u, f', rfl, -, -, -, hcell, -, hr⟩ := HM.out k hlt
              obtain ⟨rfl, -⟩ := hr
              have s0 := HU.out.keep (hcell 0 _ rfl)
              have s1 := HU.out.keep (hcell 1 _ rfl)
              have s2 := HU.out.keep (hcell 2 _ rfl)
              simp only [Nat.add_zero] at s0
              have hkl : (k : Int) < (s.meets.length : Int) := by omega
              have HTK := Lib.hid (show ((s.meets.take (k + 1)).map meetT).map es = ((s.meets.take k).map meetT).map es ++ [es (meetT s.meets[k])] by rw [List.take_succ_eq_append_getElem hlt, List.map_append, List.map_append]; rfl)
              obtain ⟨hm1, hm2, hm3⟩ := HK.out.meets.2 _ (List.getElem_mem hlt)
              have hk9 : k ≤ 1000 := by have := HK.out.meets.1; omega
              have HOW := HA.out
              obtain ⟨ca, cc, rfl⟩ := ownsRow_form HOW
              have hMT := Lib.hid (show meetT s.meets[k] = ((([109, 101, 101, 116, 32] ++ s.meets[k].left) ++ [32]) ++ s.meets[k].right) ++ [32] ++ s.meets[k].result from rfl)
              clear hcell HA
              have HA := Lib.hid HOW
              clear HOW
              generalize meetT s.meets[k] = A at *
              generalize s.meets[k].left = ml at *
              generalize s.meets[k].right = mr at *
              generalize s.meets[k].result = ms at *
              obtain ⟨wP, hwP⟩ : ∃ q, q = wo.alloc (.cells #[es ml, es mr, es ms] 82) := ⟨_, rfl⟩
              obtain ⟨BP, hBP⟩ : ∃ q, q = wo.heap.size := ⟨_, rfl⟩
              have uP : Upd [] wo wP := by rw [hwP]; exact (Upd.refl _ _).alloc _
              have p0 : wP.cell? ⟨BP, 0, none⟩ = some (es ml) := by rw [hwP, hBP]; exact cell_new wo _ _ _ rfl 0 _ rfl
              have p1 : wP.cell? ⟨BP, 1, none⟩ = some (es mr) := by rw [hwP, hBP]; exact cell_new wo _ _ _ rfl 1 _ rfl
              have p2 : wP.cell? ⟨BP, 2, none⟩ = some (es ms) := by rw [hwP, hBP]; exact cell_new wo _ _ _ rfl 2 _ rfl
              have UP := Lib.hid uP
              go_upto_region 21 with (fail)
              rw [← hwP, ← hBP]
              clear hwP hBP s0 s1 s2 uP x2
              have hown1 := ownsRow_upd HA.out UP.out
              have HOL := Lib.hid (fun c hc => (hown1.lt c hc).1)
              have hsz4 : w.heap.size ≤ wP.heap.size := (HU.out.trans UP.out).size
              clear HA
              obtain ⟨A1, hA1⟩ : ∃ Q, Q = [109, 101, 101, 116, 32] ++ ml := ⟨_, rfl⟩
              obtain ⟨A2, hA2⟩ : ∃ Q, Q = A1 ++ [32] := ⟨_, rfl⟩
              obtain ⟨A3, hA3⟩ : ∃ Q, Q = A2 ++ mr := ⟨_, rfl⟩
              obtain ⟨A4, hA4⟩ : ∃ Q, Q = A3 ++ [32] := ⟨_, rfl⟩
              obtain ⟨A5, hA5⟩ : ∃ Q, Q = A4 ++ ms := ⟨_, rfl⟩
              have hcatA1 : (ByteArray.mk #[109, 101, 101, 116, 32] ++ ByteArray.mk ml.toArray) = ByteArray.mk A1.toArray := by rw [hA1, ← catE]
              have hlA1 : A1.length = 5 + ml.length := by rw [hA1]; simp only [List.length_append, List.length_cons, List.length_nil] <;> omega
              have hzA1 : ¬ (9223372036854775807 < 5 + ml.length) := by omega
              have hcatA2 : (ByteArray.mk A1.toArray ++ ByteArray.mk #[32]) = ByteArray.mk A2.toArray := by rw [hA2, ← catE]
              have hlA2 : A2.length = A1.length + 1 := by rw [hA2]; simp only [List.length_append, List.length_cons, List.length_nil] <;> omega
              have hzA2 : ¬ (9223372036854775807 < A1.length + 1) := by omega
              have hcatA3 : (ByteArray.mk A2.toArray ++ ByteArray.mk mr.toArray) = ByteArray.mk A3.toArray := by rw [hA3, ← catE]
              have hlA3 : A3.length = A2.length + mr.length := by rw [hA3]; simp only [List.length_append, List.length_cons, List.length_nil] <;> omega
              have hzA3 : ¬ (9223372036854775807 < A2.length + mr.length) := by omega
              have hcatA4 : (ByteArray.mk A3.toArray ++ ByteArray.mk #[32]) = ByteArray.mk A4.toArray := by rw [hA4, ← catE]
              have hlA4 : A4.length = A3.length + 1 := by rw [hA4]; simp only [List.length_append, List.length_cons, List.length_nil] <;> omega
              have hzA4 : ¬ (9223372036854775807 < A3.length + 1) := by omega
              have hcatA5 : (ByteArray.mk A4.toArray ++ ByteArray.mk ms.toArray) = ByteArray.mk A5.toArray := by rw [hA5, ← catE]
              have hlA5 : A5.length = A4.length + ms.length := by rw [hA5]; simp only [List.length_append, List.length_cons, List.length_nil] <;> omega
              have hzA5 : ¬ (9223372036854775807 < A4.length + ms.length) := by omega
              have HAE := Lib.hid (show A = A5 by rw [hMT.out, hA5, hA4, hA3, hA2, hA1])
              clear hMT hA1 hlA1 hA2 hlA2 hA3 hlA3 hA4 hlA4 hA5 hlA5
              go_wp2_with (first
                | (at_builtin; refine wpList_append_tight _ rfl _ _ 25 rfl w.heap.size 9 i0 (es []) 1 16 Tryz.underlying25 hi hz0 hz1 hz2 rfl (by decide) _ _ _ rfl (hown1.alloc _) ⟨wP.heap.size, 0, none⟩ 1 1 [es A5] rfl rfl (fun j u hj => by rw [addr_add, Nat.zero_add]; exact cell_new wP #[es A5] _ _ rfl j u (by simpa using hj)) (by simp [Value.oneCell']) (by unfold maxLen; omega) (by omega) (by simp; omega) ?_)
                | fail)
              intro v2 w6 hown2 hg2 ht2
              have HO6 := Lib.hid (show w6.ownsRow w.heap.size 9 1 v2 (n0 + (k + 1)) (L0 ++ ((s.meets.take (k + 1)).map meetT).map es) by rw [HTK.out, HAE.out]; simpa [Nat.add_assoc] using hown2)
              have HU6 := Lib.hid (show Upd [] w w6 from ((HU.out.trans UP.out).alloc _).grown hg2 (fun c hc => Or.inl (HOL.out c hc)))
              clear hown1 hown2 hg2 ht2
              go_wp2_with fail
              go_roundw
              case rel => exact ⟨k + 1, _, rfl, by omega, by go_num, HU6, HO6⟩
              case measure => simp [intOf]; omega
            · obtain rfl : k = s.meets.length := by omega
              have hkk : ¬ ((s.meets.length : Nat) : Int) < (s.meets.length : Int) := by omega
              have ho := HA.out
              rw [List.take_length] at ho
              have hml := HK.out.meets.1
              obtain ⟨n1, hn1⟩ : ∃ n, n = n0 + s.meets.length := ⟨_, rfl⟩
              obtain ⟨L1, hL1⟩ : ∃ l, l = L0 ++ (s.meets.map meetT).map es := ⟨_, rfl⟩
              rw [← hn1, ← hL1] at ho
              have HL1 := Lib.hid (show L1 = (((s.defs.map (procT s.defs)) ++ [runT s.defs s.comps]) ++ s.meets.map meetT).map es by rw [hL1, HL0.out, List.map_append (l₂ := s.meets.map meetT)])
              have hn19 : n1 ≤ 11 := by omega
              have HN1 := Lib.hid (show n1 = ((((s.defs.map (procT s.defs)) ++ [runT s.defs s.comps]) ++ s.meets.map meetT)).length by rw [hn1, HN0.out]; simp; omega)
              obtain ⟨ca, cc, rfl⟩ := ownsRow_form ho
              obtain ⟨wB, rfl⟩ : ∃ wB : World, wB = wo := ⟨_, rfl⟩
              have HO1 := Lib.hid ho
              clear x2 ho HA hn1 hL1 HL0 HO5 HU5
              obtain ⟨x0, x1, x2, x3, x4⟩ := HCA.out wB HU.out
              obtain ⟨L2, n2, hL2, hn2, hn29⟩ : ∃ L2 n2, L2 = ((((s.defs.map (procT s.defs)) ++ [runT s.defs s.comps]) ++ s.meets.map meetT) ++ namesT [97, 108, 108, 111, 119, 32] s.allow) ∧ n2 = L2.length ∧ n2 ≤ 12 := ⟨_, _, rfl, rfl, by rw [List.length_append, ← HN1.out]; unfold namesT; split <;> simp <;> omega⟩
              have HL2 := Lib.hid hL2
              have HN2 := Lib.hid hn2
              clear hL2 hn2
              by_cases ha3 : s.allow.length = 0
              · have e3 : ¬ (0 : Int) < (s.allow.length : Int) := by omega
                have HO2 := Lib.hid (show wB.ownsRow w.heap.size 9 1 (.slice ca n1 cc) n2 (L2.map es) by rw [show n2 = n1 by rw [HN2.out, HL2.out, HN1.out]; simp [namesT, ha3], HL2.out, show namesT [97, 108, 108, 111, 119, 32] s.allow = [] by unfold namesT; rw [if_pos ha3], List.append_nil, ← HL1.out]; exact HO1.out)
                obtain rfl : n2 = n1 := by rw [HN2.out, HL2.out, HN1.out]; simp [namesT, ha3]
                by_cases ha4 : s.hide.length = 0
                · have e4 : ¬ (0 : Int) < (s.hide.length : Int) := by omega
                  have HF := Lib.hid (show New RS w wB (.slice ca n2 cc) Z from New.ofOwns (w := w) (e := 9) (enc := es) (xs := Z) (by rw [show Z = L2 by rw [HZ.out, HL2.out, show namesT [104, 105, 100, 101, 32] s.hide = [] by unfold namesT; rw [if_pos ha4], List.append_nil], ← HN2.out]; exact HO2.out))
                  go_wp2_with fail
                  go_ret
                  exact ⟨⟨_, rfl, HF.out⟩, HU.out⟩
                · have e4 : (0 : Int) < (s.hide.length : Int) := by omega
                  have hf4 := HK.out.hide
                  have SJ4 := Lib.hid (wordsS [104, 105, 100, 101] _ s.hide wB _ (R_S1k.upd HR4.out HU.out (by simp)) (by simp) (by omega) (fun p hp => by have := hf4.2 p hp; omega))
                  have HAE4 := Lib.hid (show namesT [104, 105, 100, 101, 32] s.hide = [wordsT [104, 105, 100, 101] s.hide] by unfold namesT; rw [if_neg ha4, wordsT_join _ _ (fun h => ha4 (by rw [h]; rfl)), ← List.append_assoc]; rfl)
                  generalize wordsT [104, 105, 100, 101] s.hide = A4 at *
                  go_wp2_with fail
                  refine SJ4.out.mono ?_
                  rintro r wC4 ⟨rfl, rfl⟩
                  have hown1 := HO2.out
                  have HOL := Lib.hid (fun c hc => (hown1.lt c hc).1)
                  have hsz4 : w.heap.size ≤ wB.heap.size := HU.out.size
                  clear SJ4 x0 x1 x2 x3 x4
                  go_wp2_with (first
                    | (at_builtin; refine wpList_append_tight _ rfl _ _ 25 rfl w.heap.size 9 i0 (es []) 1 16 Tryz.underlying25 hi hz0 hz1 hz2 rfl (by decide) _ _ _ rfl (hown1.alloc _) ⟨wB.heap.size, 0, none⟩ 1 1 [es A4] rfl rfl (fun j u hj => by rw [addr_add, Nat.zero_add]; exact cell_new wB #[es A4] _ _ rfl j u (by simpa using hj)) (by simp [Value.oneCell']) (by unfold maxLen; omega) (by omega) (by simp; omega) ?_)
                    | fail)
                  intro v2 wD4 hown2 hg2 ht2
                  have HU4 := Lib.hid (show Upd [] w wD4 from (HU.out.alloc _).grown hg2 (fun c hc => Or.inl (HOL.out c hc)))
                  have HO3 := Lib.hid hown2
                  clear hown1 hown2 hg2 ht2 HOL hsz4
                  have HF := Lib.hid (show New RS w wD4 (v2) Z from New.ofOwns (w := w) (e := 9) (enc := es) (xs := Z) (by rw [show Z = L2 ++ [A4] by rw [HZ.out, HL2.out, HAE4.out], List.length_append, ← HN2.out, List.map_append]; exact HO3.out))
                  obtain ⟨ca, cc, rfl⟩ := ownsRow_form HO3.out
                  go_wp2_with fail
                  go_ret
                  exact ⟨⟨_, rfl, HF.out⟩, HU4.out⟩
              · have e3 : (0 : Int) < (s.allow.length : Int) := by omega
                have hf3 := HK.out.allow
                have SJ3 := Lib.hid (wordsS [97, 108, 108, 111, 119] _ s.allow wB _ (R_S1k.upd HR3.out HU.out (by simp)) (by simp) (by omega) (fun p hp => by have := hf3.2 p hp; omega))
                have HAE3 := Lib.hid (show namesT [97, 108, 108, 111, 119, 32] s.allow = [wordsT [97, 108, 108, 111, 119] s.allow] by unfold namesT; rw [if_neg ha3, wordsT_join _ _ (fun h => ha3 (by rw [h]; rfl)), ← List.append_assoc]; rfl)
                generalize wordsT [97, 108, 108, 111, 119] s.allow = A3 at *
                go_wp2_with fail
                refine SJ3.out.mono ?_
                rintro r wC3 ⟨rfl, rfl⟩
                have hown1 := HO1.out
                have HOL := Lib.hid (fun c hc => (hown1.lt c hc).1)
                have hsz4 : w.heap.size ≤ wB.heap.size := HU.out.size
                clear SJ3 x0 x1 x2 x3 x4
                go_wp2_with (first
                  | (at_builtin; refine wpList_append_tight _ rfl _ _ 25 rfl w.heap.size 9 i0 (es []) 1 16 Tryz.underlying25 hi hz0 hz1 hz2 rfl (by decide) _ _ _ rfl (hown1.alloc _) ⟨wB.heap.size, 0, none⟩ 1 1 [es A3] rfl rfl (fun j u hj => by rw [addr_add, Nat.zero_add]; exact cell_new wB #[es A3] _ _ rfl j u (by simpa using hj)) (by simp [Value.oneCell']) (by unfold maxLen; omega) (by omega) (by simp; omega) ?_)
                  | fail)
                intro v2 wD3 hown2 hg2 ht2
                have HU3 := Lib.hid (show Upd [] w wD3 from (HU.out.alloc _).grown hg2 (fun c hc => Or.inl (HOL.out c hc)))
                have HO2 := Lib.hid (show wD3.ownsRow w.heap.size 9 1 v2 n2 (L2.map es) by rw [show n2 = n1 + 1 by rw [HN2.out, HL2.out, List.length_append, ← HN1.out, HAE3.out]; rfl, HL2.out, HAE3.out, List.map_append, ← HL1.out]; exact hown2)
                obtain ⟨ca, cc, rfl⟩ := ownsRow_form HO2.out
                obtain ⟨x0, x1, x2, x3, x4⟩ := HCA.out wD3 HU3.out
                clear hown1 hown2 hg2 ht2 HOL hsz4
                by_cases ha4 : s.hide.length = 0
                · have e4 : ¬ (0 : Int) < (s.hide.length : Int) := by omega
                  have HF := Lib.hid (show New RS w wD3 (.slice ca n2 cc) Z from New.ofOwns (w := w) (e := 9) (enc := es) (xs := Z) (by rw [show Z = L2 by rw [HZ.out, HL2.out, show namesT [104, 105, 100, 101, 32] s.hide = [] by unfold namesT; rw [if_pos ha4], List.append_nil], ← HN2.out]; exact HO2.out))
                  go_wp2_with fail
                  go_ret
                  exact ⟨⟨_, rfl, HF.out⟩, HU3.out⟩
                · have e4 : (0 : Int) < (s.hide.length : Int) := by omega
                  have hf4 := HK.out.hide
                  have SJ4 := Lib.hid (wordsS [104, 105, 100, 101] _ s.hide wD3 _ (R_S1k.upd HR4.out HU3.out (by simp)) (by simp) (by omega) (fun p hp => by have := hf4.2 p hp; omega))
                  have HAE4 := Lib.hid (show namesT [104, 105, 100, 101, 32] s.hide = [wordsT [104, 105, 100, 101] s.hide] by unfold namesT; rw [if_neg ha4, wordsT_join _ _ (fun h => ha4 (by rw [h]; rfl)), ← List.append_assoc]; rfl)
                  generalize wordsT [104, 105, 100, 101] s.hide = A4 at *
                  go_wp2_with fail
                  refine SJ4.out.mono ?_
                  rintro r wC4 ⟨rfl, rfl⟩
                  have hown1 := HO2.out
                  have HOL := Lib.hid (fun c hc => (hown1.lt c hc).1)
                  have hsz4 : w.heap.size ≤ wD3.heap.size := HU3.out.size
                  clear SJ4 x0 x1 x2 x3 x4
                  go_wp2_with (first
                    | (at_builtin; refine wpList_append_tight _ rfl _ _ 25 rfl w.heap.size 9 i0 (es []) 1 16 Tryz.underlying25 hi hz0 hz1 hz2 rfl (by decide) _ _ _ rfl (hown1.alloc _) ⟨wD3.heap.size, 0, none⟩ 1 1 [es A4] rfl rfl (fun j u hj => by rw [addr_add, Nat.zero_add]; exact cell_new wD3 #[es A4] _ _ rfl j u (by simpa using hj)) (by simp [Value.oneCell']) (by unfold maxLen; omega) (by omega) (by simp; omega) ?_)
                    | fail)
                  intro v2 wD4 hown2 hg2 ht2
                  have HU4 := Lib.hid (show Upd [] w wD4 from (HU3.out.alloc _).grown hg2 (fun c hc => Or.inl (HOL.out c hc)))
                  have HO3 := Lib.hid hown2
                  clear hown1 hown2 hg2 ht2 HOL hsz4
                  have HF := Lib.hid (show New RS w wD4 (v2) Z from New.ofOwns (w := w) (e := 9) (enc := es) (xs := Z) (by rw [show Z = L2 ++ [A4] by rw [HZ.out, HL2.out, HAE4.out], List.length_append, ← HN2.out, List.map_append]; exact HO3.out))
                  obtain ⟨ca, cc, rfl⟩ := ownsRow_form HO3.out
                  go_wp2_with fail
                  go_ret
                  exact ⟨⟨_, rfl, HF.out⟩, HU4.out⟩

end Go.Proofs.YtijmkcnipflpbaaGreatDoor

/-
  SystemLines and SystemText: what the calls of both sides return.
-/
namespace Go.Proofs.YtijmkcnipflpbaaGreatDoor
open Go.RowKit

theorem procT_len {ds : List De} (hok : defsOk ds = true) {d : De} (hd : d ∈ ds) : (procT ds d).length ≤ 50000 := by
  obtain ⟨h4, h1, hpar, hnm, hbody⟩ := defs_fine hok
  obtain ⟨hb, hl20, hfine⟩ := hbody d hd
  obtain ⟨x, hx, hokx, hfl⟩ := body_tree hb
  obtain ⟨p0, p1⟩ := hpar d hd
  have hnl := hnm d hd
  have hTl := pT_len (ds := ds) (ns := ds.map De.name) (fun n hn => by obtain ⟨q, hq, rfl⟩ := List.mem_map.1 hn; exact hnm q hq) x hokx (fun p hp => hfine p (hfl ▸ hp))
  rw [hfl] at hTl
  have hAl := itoa_two (n := d.pars) p0 (by omega)
  rw [procT_tree (ds := ds) hx]
  simp only [List.length_append, List.length_cons, List.length_nil]
  have : 2000 * d.body.length ≤ 2000 * 20 := Nat.mul_le_mul_left _ hl20
  omega
theorem namesT_fine {word : List UInt8} (hw : word.length ≤ 10) {l : List (List UInt8)} (h : l.length ≤ 12 ∧ ∀ p ∈ l, p.length ≤ 10) : (namesT word l).length ≤ 1 ∧ ∀ p ∈ namesT word l, p.length ≤ 50000 := by
  unfold namesT
  split
  · simp
  · refine ⟨by simp, fun p hp => ?_⟩
    rw [List.mem_singleton.1 hp]
    have h1 := joinC_le 32 10 l h.2
    simp only [List.length_append]
    omega
theorem sysLines_fine {s : Sy} (h : SyGd s) : (0 < (sysLines s).length ∧ (sysLines s).length ≤ 13) ∧ ∀ p ∈ sysLines s, p.length ≤ 50000 := by
  have hr : (runT s.defs s.comps).length ≤ 50000 := by
    have h1 := joinLib_le [32, 124, 32] 30 (s.comps.map (compT s.defs)) (fun p hp => by
      obtain ⟨c, hc, rfl⟩ := List.mem_map.1 hp
      exact compT_len h c hc)
    have h2 := h.cl
    rw [List.length_map] at h1
    unfold runT
    simp only [List.length_append, List.length_cons, List.length_nil] at h1 ⊢
    omega
  have hm : ∀ m ∈ s.meets, (meetT m).length ≤ 50000 := fun m hm => by
    obtain ⟨h1, h2, h3⟩ := h.meets.2 m hm
    unfold meetT
    simp only [List.length_append, List.length_cons, List.length_nil]
    omega
  have ha := namesT_fine (word := [97, 108, 108, 111, 119, 32]) (by simp) h.allow
  have hh := namesT_fine (word := [104, 105, 100, 101, 32]) (by simp) h.hide
  have hd := h.dl
  have hml := h.meets.1
  refine ⟨?_, fun p hp => ?_⟩
  · unfold sysLines
    simp only [List.length_append, List.length_cons, List.length_nil, List.length_map]
    omega
  · unfold sysLines at hp
    simp only [List.mem_append, List.mem_map, List.mem_singleton] at hp
    rcases hp with (((⟨d, hd, rfl⟩ | rfl) | ⟨m, hm2, rfl⟩) | hp) | hp
    · exact procT_len h.defs hd
    · exact hr
    · exact hm m hm2
    · exact ha.2 p hp
    · exact hh.2 p hp

/-- what SystemLines returns. -/
noncomputable def sysLinesF (s : Sy) : List (List UInt8) × Int := if sysOk s = true then (sysLines s, 0) else ([], 1)
theorem sysLinesF_b (s : Sy) : mkF_S1 (sysLinesF s).1 ≤ 100000000 := by
  unfold sysLinesF
  split
  · rename_i h
    have := (sysLines_fine (SyGd.of h)).1.2
    show ((sysLines s).length : Int) ≤ 100000000
    omega
  · simp [mkF_S1]
def GaveS1 (w : World) (F : List (List UInt8) × Int) (e : Ending) (w' : World) : Prop := (∃ us, e = .returned (.tuple #[us, .int .i64 F.2]) ∧ New R_S1 w w' us F.1) ∧ Upd [] w w'
theorem gaveS1_nil (w w' : World) (hu : Upd [] w w') : GaveS1 w ([], 1) (.returned (.tuple #[.slice none 0 0, .int .i64 1])) w' := ⟨⟨_, rfl, New.nilF _ _ _ _⟩, hu⟩

set_option maxRecDepth 20000 in
set_option maxHeartbeats 2000000 in
theorem sysLinesI (cs : List Value) (s : Sy) (w : World) (fp : List Nat) (hG : Glob w) (hR : R_Sy fp w cs s) (hF : SyFit s) :
    Calls Tryz.prog 11 #[.agg cs.toArray] w (GaveS1 w (sysLinesF s)) := by
  have hR' := hR
  obtain ⟨v0, v1, v2, v3, v4, f0, f1, f2, f3, f4, rfl, -, -, -, -, -, rfl⟩ := hR
  obtain ⟨wA, hwA⟩ : ∃ q, q = w.alloc (.cells #[v0, v1, v2, v3, v4] 34) := ⟨_, rfl⟩
  obtain ⟨BA, hBA⟩ : ∃ q, q = w.heap.size := ⟨_, rfl⟩
  have uA : Upd [] w wA := by rw [hwA]; exact (Upd.refl _ _).alloc _
  have qA : RowAt wA BA 34 [v0, v1, v2, v3, v4] := by rw [hwA, hBA]; exact RowAt.new _ _ _
  have HQA := Lib.hid (fun W (hu : Upd [] wA W) => qA.upd hu (by simp))
  have UA := Lib.hid uA
  have S1 := Lib.hid (validSysI _ s wA _ (R_Syk.upd hR' uA (by simp)) hF)
  have S2 := Lib.hid (fun W (hu : Upd [] wA W) (h : sysOk s = true) => linesI _ s W _ (hG.upd (uA.trans hu)) (R_Syk.upd hR' (uA.trans hu) (by simp)) h)
  have HT := Lib.hid (fun (h : sysOk s = true) => show sysLinesF s = (sysLines s, 0) by unfold sysLinesF; rw [if_pos h])
  have HF := Lib.hid (fun (h : sysOk s = false) => show sysLinesF s = ([], 1) by unfold sysLinesF; rw [if_neg (by rw [h]; simp)])
  clear hR' qA uA hG hF
  generalize sysLinesF s = Z at *
  generalize sysLines s = R at *
  go_enter Tryz.func11, Tryz.ntmps11
  go_upto_region 1 with (fail)
  rw [← hwA, ← hBA]
  have z0 := (HQA.out _ (Upd.refl _ _)).cell 0 _ rfl
  have z1 := (HQA.out _ (Upd.refl _ _)).cell 1 _ rfl
  have z2 := (HQA.out _ (Upd.refl _ _)).cell 2 _ rfl
  have z3 := (HQA.out _ (Upd.refl _ _)).cell 3 _ rfl
  have z4 := (HQA.out _ (Upd.refl _ _)).cell 4 _ rfl
  have HBA := Lib.hid hBA
  clear hwA hBA
  go_wp2_with fail
  refine S1.out.mono ?_
  rintro e w1 ⟨rfl, hu1⟩
  have U1 := Lib.hid hu1
  clear S1 z0 z1 z2 z3 z4
  obtain ⟨b, hb⟩ : ∃ b, sysOk s = b := ⟨_, rfl⟩
  have HB := Lib.hid hb
  rw [hb]
  clear hb hu1
  cases b with
  | false =>
    have HZ := Lib.hid (HF.out HB.out)
    clear HT HF S2
    have HU := Lib.hid (UA.out.trans U1.out)
    go_wp2_with fail
    go_ret2
    rw [HZ.out]
    exact gaveS1_nil _ _ HU.out
  | true =>
    have HZ := Lib.hid (HT.out HB.out)
    have S3 := Lib.hid (S2.out w1 U1.out HB.out)
    have z0 := (HQA.out _ U1.out).cell 0 _ rfl
    have z1 := (HQA.out _ U1.out).cell 1 _ rfl
    have z2 := (HQA.out _ U1.out).cell 2 _ rfl
    have z3 := (HQA.out _ U1.out).cell 3 _ rfl
    have z4 := (HQA.out _ U1.out).cell 4 _ rfl
    clear HT HF S2
    go_wp2_with fail
    refine S3.out.mono ?_
    rintro e w2 ⟨⟨v, rfl, hn⟩, hu2⟩
    have HN := Lib.hid (hn.mono (UA.out.trans U1.out).size)
    have HU := Lib.hid (UA.out.trans (U1.out.trans hu2))
    obtain ⟨p, q, rfl⟩ := hn.form
    clear S3 hu2 z0 z1 z2 z3 z4
    go_wp2_with fail
    go_ret2
    rw [HZ.out]
    exact ⟨⟨_, rfl, HN.out⟩, HU.out⟩

set_option maxRecDepth 20000 in
set_option maxHeartbeats 2000000 in
theorem sysLinesS (cs : List Value) (s : Sy) (w : World) (fp : List Nat) (hR : R_Sy fp w cs s) (hF : SyFit s) :
    Calls Tryz.prog 10 #[.agg cs.toArray] w (GaveS1 w (sysLinesF s)) := by
  have hR' := hR
  obtain ⟨v0, v1, v2, v3, v4, f0, f1, f2, f3, f4, rfl, -, -, -, -, -, rfl⟩ := hR
  obtain ⟨wA, hwA⟩ : ∃ q, q = w.alloc (.cells #[v0, v1, v2, v3, v4] 34) := ⟨_, rfl⟩
  obtain ⟨BA, hBA⟩ : ∃ q, q = w.heap.size := ⟨_, rfl⟩
  have uA : Upd [] w wA := by rw [hwA]; exact (Upd.refl _ _).alloc _
  have qA : SyAt BA [v0, v1, v2, v3, v4] _ wA s := ⟨R_Syk.upd hR' uA (by simp), fun j v hj => by rw [hwA, hBA]; exact cell_new w _ _ _ rfl j v (by simpa using hj)⟩
  have UA := Lib.hid uA
  have S1 := Lib.hid (sysIsS BA _ _ s wA qA hF)
  have S2 := Lib.hid (fun W (hu : Upd [] wA W) (h : sysOk s = true) => linesS BA _ _ s W (qA.upd hu) h)
  have HT := Lib.hid (fun (h : sysOk s = true) => show sysLinesF s = (sysLines s, 0) by unfold sysLinesF; rw [if_pos h])
  have HF := Lib.hid (fun (h : sysOk s = false) => show sysLinesF s = ([], 1) by unfold sysLinesF; rw [if_neg (by rw [h]; simp)])
  clear hR' qA uA hF
  generalize sysLinesF s = Z at *
  generalize sysLines s = R at *
  go_enter Tryz.func10, Tryz.ntmps10
  go_upto_region 1 with (fail)
  rw [← hwA, ← hBA]
  have HBA := Lib.hid hBA
  clear hwA hBA
  go_wp2_with fail
  refine S1.out.mono ?_
  rintro e w1 ⟨rfl, hu1⟩
  have U1 := Lib.hid hu1
  clear S1
  obtain ⟨b, hb⟩ : ∃ b, sysOk s = b := ⟨_, rfl⟩
  have HB := Lib.hid hb
  rw [hb]
  clear hb hu1
  cases b with
  | false =>
    have HZ := Lib.hid (HF.out HB.out)
    clear HT HF S2
    have HU := Lib.hid (UA.out.trans U1.out)
    go_wp2_with fail
    go_ret2
    rw [HZ.out]
    exact gaveS1_nil _ _ HU.out
  | true =>
    have HZ := Lib.hid (HT.out HB.out)
    have S3 := Lib.hid (S2.out w1 U1.out HB.out)
    clear HT HF S2
    go_wp2_with fail
    refine S3.out.mono ?_
    rintro e w2 ⟨⟨v, rfl, hn⟩, hu2⟩
    have HN := Lib.hid (hn.mono (UA.out.trans U1.out).size)
    have HU := Lib.hid (UA.out.trans (U1.out.trans hu2))
    obtain ⟨p, q, rfl⟩ := hn.form
    clear S3 hu2
    go_wp2_with fail
    go_ret2
    rw [HZ.out]
    exact ⟨⟨_, rfl, HN.out⟩, HU.out⟩

end Go.Proofs.YtijmkcnipflpbaaGreatDoor

/-
  The form of a system that a call has made.
-/
namespace Go.Proofs.YtijmkcnipflpbaaGreatDoor
open Go.RowKit

theorem sy_form {w w' : World} {us : List Value} {x : Sy} (h : NewQ R_Sy w w' us x) : ∃ p0 q0 p1 q1 p2 q2 p3 q3 p4 q4, us = [.slice p0 x.defs.length q0, .slice p1 x.comps.length q1, .slice p2 x.meets.length q2, .slice p3 x.allow.length q3, .slice p4 x.hide.length q4] := by
  obtain ⟨fp, ⟨v0, v1, v2, v3, v4, f0, f1, f2, f3, f4, rfl, h0, h1, h2, h3, h4, -⟩, -, -⟩ := h
  obtain ⟨a0, q0, rfl, -, -, -⟩ := slQ_open h0
  obtain ⟨a1, q1, rfl, -, -, -⟩ := slQ_open h1
  obtain ⟨a2, q2, rfl, -, -, -⟩ := slQ_open h2
  obtain ⟨a3, q3, rfl, -, -, -⟩ := slF1_open h3
  obtain ⟨a4, q4, rfl, -, -, -⟩ := slF1_open h4
  exact ⟨a0, q0, a1, q1, a2, q2, a3, q3, a4, q4, rfl⟩

end Go.Proofs.YtijmkcnipflpbaaGreatDoor

/-
  What the laws' budget says of definitions.
-/
namespace Go.Proofs.YtijmkcnipflpbaaGreatDoor
open Go.RowKit

theorem sum_mem {α : Type} {F : α → Int} (h0 : ∀ x, 0 ≤ F x) : ∀ {xs : List α} {x : α}, x ∈ xs → F x ≤ (xs.map F).sum
  | [], _, h => by cases h
  | y :: ys, x, h => by
    have hs : ∀ l : List α, 0 ≤ (l.map F).sum := by
      intro l
      induction l with
      | nil => simp
      | cons z l ih => simp only [List.map_cons, List.sum_cons]; have := h0 z; omega
    simp only [List.map_cons, List.sum_cons]
    rcases List.mem_cons.1 h with rfl | h
    · have := hs ys; omega
    · have := sum_mem h0 h; have := h0 y; omega
theorem des_fit {ds : List De} (h : szF_De1 ds ≤ 1048576) : DesFit ds := by
  have h1 : 0 ≤ (ds.map szF_De).sum := szF_De1_sum ds
  unfold szF_De1 at h
  refine ⟨by omega, fun d hd => ?_⟩
  have h2 := sum_mem szF_De_nonneg hd
  have h3 : szF_De d = (d.name.length : Int) + szF_Pa1 d.body := rfl
  have h4 := szF_Pa1_nonneg d.body
  have h5 : szF_Pa1 d.body = (d.body.length : Int) + (d.body.map szF_Pa).sum := rfl
  have h6 := szF_Pa1_sum d.body
  refine ⟨by omega, by omega, fun p hp => ?_⟩
  have h7 := sum_mem szF_Pa_nonneg hp
  have h8 : szF_Pa p = (p.name.length : Int) + szF_T2 p.args := rfl
  have h9 := szF_T2_nonneg p.args
  have h10 : szF_T2 p.args = (p.args.length : Int) + (p.args.map szF_T1).sum := rfl
  have h11 := szF_T2_sum p.args
  exact ⟨by omega, by omega⟩

end Go.Proofs.YtijmkcnipflpbaaGreatDoor

/-
  What the laws' budget says of systems.
-/
namespace Go.Proofs.YtijmkcnipflpbaaGreatDoor
open Go.RowKit

theorem S1_fit {l : List (List UInt8)} (h : szF_S1 l ≤ 1048576) : l.length ≤ 2000000 ∧ ∀ p ∈ l, p.length ≤ 2000000 := by
  have h1 : szF_S1 l = (l.length : Int) + (l.map fun p => (p.length : Int)).sum := by
    unfold szF_S1
    first | rfl | simp
  have h2 : ∀ r : List (List UInt8), 0 ≤ (r.map fun p => (p.length : Int)).sum := by
    intro r
    induction r with
    | nil => simp
    | cons z r ih => simp only [List.map_cons, List.sum_cons]; omega
  have h3 := h2 l
  refine ⟨by omega, fun p hp => ?_⟩
  have h4 : (p.length : Int) ≤ (l.map fun p => (p.length : Int)).sum := sum_mem (F := fun p : List UInt8 => (p.length : Int)) (fun x => by simp) hp
  omega
theorem sy_fit {s : Sy} (h : szF_Sy s ≤ 1048576) : SyFit s := by
  unfold szF_Sy at h
  have n0 := szF_De1_nonneg s.defs
  have n1 := szF_Co1_nonneg s.comps
  have n2 := szF_Me1_nonneg s.meets
  have n3 := szF_S1_nonneg s.allow
  have n4 := szF_S1_nonneg s.hide
  have hc : szF_Co1 s.comps = (s.comps.length : Int) + (s.comps.map szF_Co).sum := rfl
  have hc2 := szF_Co1_sum s.comps
  have hm : szF_Me1 s.meets = (s.meets.length : Int) + (s.meets.map szF_Me).sum := rfl
  have hm2 := szF_Me1_sum s.meets
  refine ⟨des_fit (by omega), by omega, ⟨by omega, fun m hm => ?_⟩, S1_fit (by omega), S1_fit (by omega)⟩
  have := sum_mem szF_Me_nonneg hm
  have h2 : szF_Me m = (m.left.length : Int) + (m.right.length : Int) + (m.result.length : Int) := by
    unfold szF_Me
    omega
  omega

end Go.Proofs.YtijmkcnipflpbaaGreatDoor

/-
  The law FnExactSystemLines: the call returns true for every input, and writes nothing that was there.
-/
namespace Go.Proofs.YtijmkcnipflpbaaGreatDoor
open Go.RowKit

set_option maxRecDepth 20000 in
set_option maxHeartbeats 4000000 in
theorem lawSysLines (cs : List Value) (x : Sy) (w : World) (fp : List Nat) (hG : Glob w) (hR : R_Sy fp w cs x) (hS : SyOk x) :
    Calls Tryz.prog 4 #[.agg cs.toArray] w fun e w' => e = .returned (.bool true) ∧ Upd [] w w' := by
  have HG0 := Lib.hid hG
  clear hG
  have hR' := hR
  obtain ⟨v0, v1, v2, v3, v4, f0, f1, f2, f3, f4, rfl, -, -, -, -, -, rfl⟩ := hR
  have HRX := Lib.hid (fun W (hu : Upd [] w W) => R_Syk.upd hR' hu (by simp))
  obtain ⟨BA, hBA⟩ : ∃ B, B = w.heap.size := ⟨_, rfl⟩
  obtain ⟨wA, hwA⟩ : ∃ wA, wA = w.alloc (.cells #[v0, v1, v2, v3, v4] 27) := ⟨_, rfl⟩
  have uA : Upd [] w wA := by rw [hwA]; exact (Upd.refl _ _).alloc _
  have UA := Lib.hid uA
  have qA : RowAt wA BA 27 [v0, v1, v2, v3, v4] := by rw [hwA, hBA]; exact RowAt.new _ _ _
  have HQA := Lib.hid (fun W (hu : Upd [] wA W) => qA.upd hu (by simp))
  have S1 := Lib.hid (sz_Sy _ x 1048576 wA _ (by omega) (by omega) (HRX.out wA uA) hS)
  clear hR' hS uA qA
  go_enter Tryz.func4, Tryz.ntmps4
  go_upto_region 1 with (fail)
  rw [← hwA, ← hBA]
  have HBA := Lib.hid hBA
  clear hwA hBA
  have u0 : Upd [] wA wA := Upd.refl _ _
  have z_A_0 := (HQA.out _ u0).cell 0 _ rfl
  have z_A_1 := (HQA.out _ u0).cell 1 _ rfl
  have z_A_2 := (HQA.out _ u0).cell 2 _ rfl
  have z_A_3 := (HQA.out _ u0).cell 3 _ rfl
  have z_A_4 := (HQA.out _ u0).cell 4 _ rfl
  go_wp2_with fail
  refine S1.out.mono ?_
  rintro e w1 ⟨⟨r, rfl, hr⟩, uu⟩
  clear S1 z_A_0 z_A_1 z_A_2 z_A_3 z_A_4
  have u1 := u0.trans uu
  clear u0 uu
  rcases hr with rfl | ⟨hr0_x, hr1_x⟩
  · have HU := Lib.hid (UA.out.trans u1)
    go_wp2_with fail
    go_ret
    exact ⟨rfl, HU.out⟩
  · have hsz : szF_Sy x ≤ 1048576 := by omega
    have HSZ := Lib.hid hsz
    have hF := sy_fit hsz
    have tn_x := mkF_Sy_nonneg x
    have hm_x := mkF_Sy_le x
    have hM0 : 1 + mkF_Sy x ≤ 100000000 := by omega
    have hMy : 1 + mkF_S1 (sysLinesF x).1 ≤ 4611686018427387904 := by have := sysLinesF_b x; omega
    have tn_y := mkF_S1_nonneg (sysLinesF x).1
    obtain ⟨⟨y, cc⟩, hG⟩ : ∃ G, sysLinesF x = G := ⟨_, rfl⟩
    rw [hG] at hMy tn_y
    simp only at hMy tn_y
    have hMk := hMy
    have HG := Lib.hid hG
    clear hG
    have hcc : ((cc : Int) != (cc : Int)) = false := by simp
    clear hsz hm_x hr1_x
    have z_A_0 := (HQA.out _ u1).cell 0 _ rfl
    have z_A_1 := (HQA.out _ u1).cell 1 _ rfl
    have z_A_2 := (HQA.out _ u1).cell 2 _ rfl
    have z_A_3 := (HQA.out _ u1).cell 3 _ rfl
    have z_A_4 := (HQA.out _ u1).cell 4 _ rfl
    have S2 := to_Sy _ x w1 _ HSZ.out (HRX.out _ (UA.out.trans u1))
    go_wp2_with fail
    refine S2.mono ?_
    clear S2 z_A_0 z_A_1 z_A_2 z_A_3 z_A_4
    rintro e w2 ⟨⟨us, rfl, -, -, hn⟩, uu⟩
    obtain ⟨p0_a_x, q0_a_x, p1_a_x, q1_a_x, p2_a_x, q2_a_x, p3_a_x, q3_a_x, p4_a_x, q4_a_x, rfl⟩ := sy_form hn
    obtain ⟨fp_a_x, rr, oo, ge_a_x⟩ := hn
    have u2 : Upd [] wA w2 := u1.trans (uu)
    have HL_a_x := Lib.hid (show ∀ b ∈ fp_a_x, wA.heap.size ≤ b from fun b hb => by have := ge_a_x b hb; have := u1.size; omega)
    have r2_a_x := rr
    have o2_a_x := oo
    clear u1 uu ge_a_x rr oo
    have S2 := sysLinesS [.slice p0_a_x (x).defs.length q0_a_x, .slice p1_a_x (x).comps.length q1_a_x, .slice p2_a_x (x).meets.length q2_a_x, .slice p3_a_x (x).allow.length q3_a_x, .slice p4_a_x (x).hide.length q4_a_x] x w2 fp_a_x r2_a_x hF
    rw [HG.out] at S2
    go_wp2_with fail
    refine S2.mono ?_
    clear S2
    rintro e w3 ⟨⟨us, rfl, hn⟩, uu⟩
    obtain ⟨p1_w0, q1_w0, rfl⟩ := hn.form
    obtain ⟨fp_w0, rr, oo, ge_w0⟩ := hn
    have lt_a_x := R_Syk.lt r2_a_x
    have u3 : Upd [] wA w3 := u2.trans (uu)
    have HL_w0 := Lib.hid (show ∀ b ∈ fp_w0, wA.heap.size ≤ b from fun b hb => by have := ge_w0 b hb; have := u2.size; omega)
    have r3_w0 := rr
    have o3_w0 := oo
    clear u2 r2_a_x o2_a_x uu ge_w0 rr oo lt_a_x
    have z_A_0 := (HQA.out _ u3).cell 0 _ rfl
    have z_A_1 := (HQA.out _ u3).cell 1 _ rfl
    have z_A_2 := (HQA.out _ u3).cell 2 _ rfl
    have z_A_3 := (HQA.out _ u3).cell 3 _ rfl
    have z_A_4 := (HQA.out _ u3).cell 4 _ rfl
    have S2 := to_Sy _ x w3 _ HSZ.out (HRX.out _ (UA.out.trans u3))
    go_wp2_with fail
    refine S2.mono ?_
    clear S2 z_A_0 z_A_1 z_A_2 z_A_3 z_A_4
    rintro e w4 ⟨⟨us, rfl, -, -, hn⟩, uu⟩
    obtain ⟨p0_x_x, q0_x_x, p1_x_x, q1_x_x, p2_x_x, q2_x_x, p3_x_x, q3_x_x, p4_x_x, q4_x_x, rfl⟩ := sy_form hn
    obtain ⟨fp_x_x, rr, oo, ge_x_x⟩ := hn
    have lt_w0 := R_S1k.lt r3_w0
    have u4 : Upd [] wA w4 := u3.trans (uu)
    have r4_w0 := R_S1k.upd r3_w0 (uu) (by simp)
    have o4_w0 := o3_w0.upd (uu) (by simp)
    have HL_x_x := Lib.hid (show ∀ b ∈ fp_x_x, wA.heap.size ≤ b from fun b hb => by have := ge_x_x b hb; have := u3.size; omega)
    have HD_w0_x_x := Lib.hid (show ∀ b ∈ fp_w0, b ∉ fp_x_x from fun b hb hm => by have := lt_w0 b hb; have := ge_x_x b hm; omega)
    have r4_x_x := rr
    have o4_x_x := oo
    clear u3 r3_w0 o3_w0 uu ge_x_x rr oo lt_w0
    obtain ⟨w5, hwB⟩ : ∃ wB, wB = w4.alloc (.cells #[.slice p0_x_x (x).defs.length q0_x_x, .slice p1_x_x (x).comps.length q1_x_x, .slice p2_x_x (x).meets.length q2_x_x, .slice p3_x_x (x).allow.length q3_x_x, .slice p4_x_x (x).hide.length q4_x_x] 34) := ⟨_, rfl⟩
    have uB : Upd [] w4 w5 := by rw [hwB]; exact (Upd.refl _ _).alloc _
    obtain ⟨B_x_x, hB⟩ : ∃ B, B = w4.heap.size := ⟨_, rfl⟩
    have qq : RowAt w5 B_x_x 34 [.slice p0_x_x (x).defs.length q0_x_x, .slice p1_x_x (x).comps.length q1_x_x, .slice p2_x_x (x).meets.length q2_x_x, .slice p3_x_x (x).allow.length q3_x_x, .slice p4_x_x (x).hide.length q4_x_x] := by rw [hwB, hB]; exact RowAt.new _ _ _
    have lt_w0 := R_S1k.lt r4_w0
    have lt_x_x := R_Syk.lt r4_x_x
    have HN_x_x_w0 := Lib.hid (show B_x_x ∉ fp_w0 from fun hm => by have := lt_w0 _ hm; omega)
    have HN_x_x_x_x := Lib.hid (show B_x_x ∉ fp_x_x from fun hm => by have := lt_x_x _ hm; omega)
    have u5 : Upd [] wA w5 := u4.trans (uB)
    have r5_w0 := R_S1k.upd r4_w0 (uB) (by simp)
    have o5_w0 := o4_w0.upd (uB) (by simp)
    have r5_x_x := R_Syk.upd r4_x_x (uB) (by simp)
    have o5_x_x := o4_x_x.upd (uB) (by simp)
    have q5_x_x := qq
    clear u4 r4_w0 o4_w0 r4_x_x o4_x_x lt_w0 lt_x_x uB qq
    go_upto_region 7 with (fail)
    rw [← hwB, ← hB]
    clear hwB hB
    have z_x_x_0 := q5_x_x.cell 0 _ rfl
    have z_x_x_1 := q5_x_x.cell 1 _ rfl
    have z_x_x_2 := q5_x_x.cell 2 _ rfl
    have z_x_x_3 := q5_x_x.cell 3 _ rfl
    have z_x_x_4 := q5_x_x.cell 4 _ rfl
    have S2 := sysLinesI [.slice p0_x_x (x).defs.length q0_x_x, .slice p1_x_x (x).comps.length q1_x_x, .slice p2_x_x (x).meets.length q2_x_x, .slice p3_x_x (x).allow.length q3_x_x, .slice p4_x_x (x).hide.length q4_x_x] x w5 fp_x_x (HG0.out.upd (UA.out.trans u5)) r5_x_x hF
    rw [HG.out] at S2
    go_wp2_with fail
    refine S2.mono ?_
    clear S2 z_x_x_0 z_x_x_1 z_x_x_2 z_x_x_3 z_x_x_4
    rintro e w6 ⟨⟨us, rfl, hn⟩, uu⟩
    obtain ⟨p1_g0, q1_g0, rfl⟩ := hn.form
    obtain ⟨fp_g0, rr, oo, ge_g0⟩ := hn
    have lt_w0 := R_S1k.lt r5_w0
    have lt_x_x := R_Syk.lt r5_x_x
    have bl_x_x := q5_x_x.lt
    have u6 : Upd [] wA w6 := u5.trans (uu)
    have r6_w0 := R_S1k.upd r5_w0 (uu) (by simp)
    have o6_w0 := o5_w0.upd (uu) (by simp)
    have r6_x_x := R_Syk.upd r5_x_x (uu) (by simp)
    have o6_x_x := o5_x_x.upd (uu) (by simp)
    have q6_x_x := q5_x_x.upd (uu) (by simp)
    have HL_g0 := Lib.hid (show ∀ b ∈ fp_g0, wA.heap.size ≤ b from fun b hb => by have := ge_g0 b hb; have := u5.size; omega)
    have HD_w0_g0 := Lib.hid (show ∀ b ∈ fp_w0, b ∉ fp_g0 from fun b hb hm => by have := lt_w0 b hb; have := ge_g0 b hm; omega)
    have HD_x_x_g0 := Lib.hid (show ∀ b ∈ fp_x_x, b ∉ fp_g0 from fun b hb hm => by have := lt_x_x b hb; have := ge_g0 b hm; omega)
    have HN_x_x_g0 := Lib.hid (show B_x_x ∉ fp_g0 from fun hm => by have := ge_g0 _ hm; omega)
    have r6_g0 := rr
    have o6_g0 := oo
    clear u5 r5_w0 o5_w0 r5_x_x o5_x_x q5_x_x uu ge_g0 rr oo lt_w0 lt_x_x bl_x_x
    have S2 := eq_S1 (.slice p1_g0 y.length q1_g0) (.slice p1_w0 y.length q1_w0) _ _ w6 _ _ r6_g0 r6_w0
    go_wp2_with fail
    refine S2.mono ?_
    clear S2
    rintro e w7 ⟨rfl, uu⟩
    rw [beq_refl_true]
    have u7 : Upd [] wA w7 := u6.trans (uu)
    have r7_w0 := R_S1k.upd r6_w0 (uu) (by simp)
    have o7_w0 := o6_w0.upd (uu) (by simp)
    have r7_x_x := R_Syk.upd r6_x_x (uu) (by simp)
    have o7_x_x := o6_x_x.upd (uu) (by simp)
    have r7_g0 := R_S1k.upd r6_g0 (uu) (by simp)
    have o7_g0 := o6_g0.upd (uu) (by simp)
    have q7_x_x := q6_x_x.upd (uu) (by simp)
    clear u6 r6_w0 o6_w0 r6_x_x o6_x_x r6_g0 o6_g0 q6_x_x uu
    have z_x_x_0 := q7_x_x.cell 0 _ rfl
    have z_x_x_1 := q7_x_x.cell 1 _ rfl
    have z_x_x_2 := q7_x_x.cell 2 _ rfl
    have z_x_x_3 := q7_x_x.cell 3 _ rfl
    have z_x_x_4 := q7_x_x.cell 4 _ rfl
    have z_A_0 := (HQA.out _ u7).cell 0 _ rfl
    have z_A_1 := (HQA.out _ u7).cell 1 _ rfl
    have z_A_2 := (HQA.out _ u7).cell 2 _ rfl
    have z_A_3 := (HQA.out _ u7).cell 3 _ rfl
    have z_A_4 := (HQA.out _ u7).cell 4 _ rfl
    have S6 := to_Sy _ x w7.drew _ HSZ.out (HRX.out _ (UA.out.trans u7).drew)
    have S7 := Lib.hid (fun W us f (hu : Upd [] w7.drew W) (h : R_Sy f W us x) => eq_Sy [.slice p0_x_x (x).defs.length q0_x_x, .slice p1_x_x (x).comps.length q1_x_x, .slice p2_x_x (x).meets.length q2_x_x, .slice p3_x_x (x).allow.length q3_x_x, .slice p4_x_x (x).hide.length q4_x_x] us x W _ f (R_Syk.upd r7_x_x ((Upd.refl [] _).drew.trans hu) (by simp)) h)
    go_wp2_with fail
    go_region_held3 (fun w' => w'.cell? ⟨B_x_x, 0, none⟩ = some (.slice p0_x_x (x).defs.length q0_x_x) ∧ w'.cell? ⟨B_x_x, 1, none⟩ = some (.slice p1_x_x (x).comps.length q1_x_x) ∧ w'.cell? ⟨B_x_x, 2, none⟩ = some (.slice p2_x_x (x).meets.length q2_x_x) ∧ w'.cell? ⟨B_x_x, 3, none⟩ = some (.slice p3_x_x (x).allow.length q3_x_x) ∧ w'.cell? ⟨B_x_x, 4, none⟩ = some (.slice p4_x_x (x).hide.length q4_x_x) ∧ w'.cell? ⟨BA, 0, none⟩ = some (v0) ∧ w'.cell? ⟨BA, 1, none⟩ = some (v1) ∧ w'.cell? ⟨BA, 2, none⟩ = some (v2) ∧ w'.cell? ⟨BA, 3, none⟩ = some (v3) ∧ w'.cell? ⟨BA, 4, none⟩ = some (v4)) (go_keep)
      (first
        | ((go_at_call 7); (refine S6.mono ?_); rintro e w6' ⟨⟨us, rfl, -, -, hn⟩, hu6⟩; obtain ⟨p0_t, q0_t, p1_t, q1_t, p2_t, q2_t, p3_t, q3_t, p4_t, q4_t, rfl⟩ := sy_form hn; obtain ⟨fp_t, rr6, -, -⟩ := hn; have y_0 := hu6.keep z_x_x_0; have y_1 := hu6.keep z_x_x_1; have y_2 := hu6.keep z_x_x_2; have y_3 := hu6.keep z_x_x_3; have y_4 := hu6.keep z_x_x_4; have y_5 := hu6.keep z_A_0; have y_6 := hu6.keep z_A_1; have y_7 := hu6.keep z_A_2; have y_8 := hu6.keep z_A_3; have y_9 := hu6.keep z_A_4)
        | ((go_at_call 9); (refine (S7.out w6' _ fp_t hu6 rr6).mono ?_); rintro e w8 ⟨rfl, hu7⟩; have t_0 := hu7.keep y_0; have t_1 := hu7.keep y_1; have t_2 := hu7.keep y_2; have t_3 := hu7.keep y_3; have t_4 := hu7.keep y_4; have t_5 := hu7.keep y_5; have t_6 := hu7.keep y_6; have t_7 := hu7.keep y_7; have t_8 := hu7.keep y_8; have t_9 := hu7.keep y_9))
    have uu : Upd [] w7 w8 := ((Upd.refl [] w7).drew.trans hu6).trans hu7
    have u8 : Upd [] wA w8 := u7.trans (uu)
    have r8_w0 := R_S1k.upd r7_w0 (uu) (by simp)
    have o8_w0 := o7_w0.upd (uu) (by simp)
    have r8_x_x := R_Syk.upd r7_x_x (uu) (by simp)
    have o8_x_x := o7_x_x.upd (uu) (by simp)
    have r8_g0 := R_S1k.upd r7_g0 (uu) (by simp)
    have o8_g0 := o7_g0.upd (uu) (by simp)
    have q8_x_x := q7_x_x.upd (uu) (by simp)
    clear u7 r7_w0 o7_w0 r7_x_x o7_x_x r7_g0 o7_g0 q7_x_x uu S6 S7 hu6 hu7 rr6 z_x_x_0 z_x_x_1 z_x_x_2 z_x_x_3 z_x_x_4 z_A_0 z_A_1 z_A_2 z_A_3 z_A_4 y_0 y_1 y_2 y_3 y_4 y_5 y_6 y_7 y_8 y_9 t_0 t_1 t_2 t_3 t_4 t_5 t_6 t_7 t_8 t_9
    have z_x_x_0 := q8_x_x.cell 0 _ rfl
    have z_x_x_1 := q8_x_x.cell 1 _ rfl
    have z_x_x_2 := q8_x_x.cell 2 _ rfl
    have z_x_x_3 := q8_x_x.cell 3 _ rfl
    have z_x_x_4 := q8_x_x.cell 4 _ rfl
    go_wp2_with fail
    refine (mark_Sy [.slice p0_x_x (x).defs.length q0_x_x, .slice p1_x_x (x).comps.length q1_x_x, .slice p2_x_x (x).meets.length q2_x_x, .slice p3_x_x (x).allow.length q3_x_x, .slice p4_x_x (x).hide.length q4_x_x] x _ _ fp_x_x (by omega) (by omega) r8_x_x o8_x_x).mono ?_
    clear z_x_x_0 z_x_x_1 z_x_x_2 z_x_x_3 z_x_x_4
    rintro e w9 ⟨rfl, r9_x_x, o9_x_x, uu⟩
    have u9 : Upd [] wA w9 := u8.fresh (uu) (fun b hb => Or.inl (HL_x_x.out b hb))
    have r9_w0 := R_S1k.upd r8_w0 (uu) HD_w0_x_x.out
    have o9_w0 := o8_w0.upd (uu) HD_w0_x_x.out
    have r9_g0 := R_S1k.upd r8_g0 (uu) (fun b hb hm => HD_x_x_g0.out b hm hb)
    have o9_g0 := o8_g0.upd (uu) (fun b hb hm => HD_x_x_g0.out b hm hb)
    have q9_x_x := q8_x_x.upd (uu) HN_x_x_x_x.out
    clear u8 r8_w0 o8_w0 r8_x_x o8_x_x r8_g0 o8_g0 q8_x_x r9_x_x o9_x_x q9_x_x uu
    have hk : 0 ≤ 1 + mkF_Sy x := by omega
    have S2 := eq_S1 (.slice p1_g0 y.length q1_g0) (.slice p1_w0 y.length q1_w0) _ _ w9 _ _ r9_g0 r9_w0
    go_wp2_with fail
    refine S2.mono ?_
    clear S2
    rintro e w10 ⟨rfl, uu⟩
    rw [beq_refl_true]
    have u10 : Upd [] wA w10 := u9.trans (uu)
    have r10_w0 := R_S1k.upd r9_w0 (uu) (by simp)
    have o10_w0 := o9_w0.upd (uu) (by simp)
    have r10_g0 := R_S1k.upd r9_g0 (uu) (by simp)
    have o10_g0 := o9_g0.upd (uu) (by simp)
    clear u9 r9_w0 o9_w0 r9_g0 o9_g0 uu
    go_wp2_with fail
    refine (mark_S1 (.slice p1_g0 y.length q1_g0) y _ _ fp_g0 (by omega) (by omega) r10_g0 o10_g0).mono ?_
    rintro e w11 ⟨rfl, r11_g0, o11_g0, uu⟩
    have u11 : Upd [] wA w11 := u10.fresh (uu) (fun b hb => Or.inl (HL_g0.out b hb))
    have r11_w0 := R_S1k.upd r10_w0 (uu) HD_w0_g0.out
    have o11_w0 := o10_w0.upd (uu) HD_w0_g0.out
    clear u10 r10_w0 o10_w0 r10_g0 o10_g0 uu
    have hk0 : 0 ≤ 1 + mkF_S1 y := by omega
    have hne : ((1 + mkF_S1 y) != (1 + mkF_S1 y)) = false := by simp
    have S2 := held_S1 (.slice p1_g0 y.length q1_g0) y 1 w11 fp_g0 (by omega) hMk r11_g0
    go_wp2_with fail
    refine S2.mono ?_
    clear S2
    rintro e w12 ⟨rfl, uu⟩
    have u12 : Upd [] wA w12 := u11.trans (uu)
    have r12_w0 := R_S1k.upd r11_w0 (uu) (by simp)
    have o12_w0 := o11_w0.upd (uu) (by simp)
    have r12_g0 := R_S1k.upd r11_g0 (uu) (by simp)
    have o12_g0 := o11_g0.upd (uu) (by simp)
    clear u11 r11_w0 o11_w0 r11_g0 o11_g0 uu
    have z_A_0 := (HQA.out _ u12).cell 0 _ rfl
    have z_A_1 := (HQA.out _ u12).cell 1 _ rfl
    have z_A_2 := (HQA.out _ u12).cell 2 _ rfl
    have z_A_3 := (HQA.out _ u12).cell 3 _ rfl
    have z_A_4 := (HQA.out _ u12).cell 4 _ rfl
    have S2 := to_Sy _ x w12 _ HSZ.out (HRX.out _ (UA.out.trans u12))
    go_wp2_with fail
    refine S2.mono ?_
    clear S2 z_A_0 z_A_1 z_A_2 z_A_3 z_A_4
    rintro e w13 ⟨⟨us, rfl, -, -, hn⟩, uu⟩
    obtain ⟨p0_c_x, q0_c_x, p1_c_x, q1_c_x, p2_c_x, q2_c_x, p3_c_x, q3_c_x, p4_c_x, q4_c_x, rfl⟩ := sy_form hn
    obtain ⟨fp_c_x, rr, oo, ge_c_x⟩ := hn
    have lt_w0 := R_S1k.lt r12_w0
    have lt_g0 := R_S1k.lt r12_g0
    have u13 : Upd [] wA w13 := u12.trans (uu)
    have r13_w0 := R_S1k.upd r12_w0 (uu) (by simp)
    have o13_w0 := o12_w0.upd (uu) (by simp)
    have r13_g0 := R_S1k.upd r12_g0 (uu) (by simp)
    have o13_g0 := o12_g0.upd (uu) (by simp)
    have HL_c_x := Lib.hid (show ∀ b ∈ fp_c_x, wA.heap.size ≤ b from fun b hb => by have := ge_c_x b hb; have := u12.size; omega)
    have HD_w0_c_x := Lib.hid (show ∀ b ∈ fp_w0, b ∉ fp_c_x from fun b hb hm => by have := lt_w0 b hb; have := ge_c_x b hm; omega)
    have HD_g0_c_x := Lib.hid (show ∀ b ∈ fp_g0, b ∉ fp_c_x from fun b hb hm => by have := lt_g0 b hb; have := ge_c_x b hm; omega)
    have r13_c_x := rr
    have o13_c_x := oo
    clear u12 r12_w0 o12_w0 r12_g0 o12_g0 uu ge_c_x rr oo lt_w0 lt_g0
    have S2 := sysLinesI [.slice p0_c_x (x).defs.length q0_c_x, .slice p1_c_x (x).comps.length q1_c_x, .slice p2_c_x (x).meets.length q2_c_x, .slice p3_c_x (x).allow.length q3_c_x, .slice p4_c_x (x).hide.length q4_c_x] x w13 fp_c_x (HG0.out.upd (UA.out.trans u13)) r13_c_x hF
    rw [HG.out] at S2
    go_wp2_with fail
    refine S2.mono ?_
    clear S2
    rintro e w14 ⟨⟨us, rfl, hn⟩, uu⟩
    obtain ⟨p1_h0, q1_h0, rfl⟩ := hn.form
    obtain ⟨fp_h0, rr, oo, ge_h0⟩ := hn
    have lt_w0 := R_S1k.lt r13_w0
    have lt_g0 := R_S1k.lt r13_g0
    have lt_c_x := R_Syk.lt r13_c_x
    have u14 : Upd [] wA w14 := u13.trans (uu)
    have r14_w0 := R_S1k.upd r13_w0 (uu) (by simp)
    have o14_w0 := o13_w0.upd (uu) (by simp)
    have r14_g0 := R_S1k.upd r13_g0 (uu) (by simp)
    have o14_g0 := o13_g0.upd (uu) (by simp)
    have HL_h0 := Lib.hid (show ∀ b ∈ fp_h0, wA.heap.size ≤ b from fun b hb => by have := ge_h0 b hb; have := u13.size; omega)
    have HD_w0_h0 := Lib.hid (show ∀ b ∈ fp_w0, b ∉ fp_h0 from fun b hb hm => by have := lt_w0 b hb; have := ge_h0 b hm; omega)
    have HD_g0_h0 := Lib.hid (show ∀ b ∈ fp_g0, b ∉ fp_h0 from fun b hb hm => by have := lt_g0 b hb; have := ge_h0 b hm; omega)
    have r14_h0 := rr
    have o14_h0 := oo
    clear u13 r13_w0 o13_w0 r13_g0 o13_g0 r13_c_x o13_c_x uu ge_h0 rr oo lt_w0 lt_g0 lt_c_x
    have S2 := eq_S1 (.slice p1_h0 y.length q1_h0) (.slice p1_w0 y.length q1_w0) _ _ w14 _ _ r14_h0 r14_w0
    go_wp2_with fail
    refine S2.mono ?_
    clear S2
    rintro e w15 ⟨rfl, uu⟩
    rw [beq_refl_true]
    have u15 : Upd [] wA w15 := u14.trans (uu)
    have r15_w0 := R_S1k.upd r14_w0 (uu) (by simp)
    have o15_w0 := o14_w0.upd (uu) (by simp)
    have r15_g0 := R_S1k.upd r14_g0 (uu) (by simp)
    have o15_g0 := o14_g0.upd (uu) (by simp)
    have r15_h0 := R_S1k.upd r14_h0 (uu) (by simp)
    have o15_h0 := o14_h0.upd (uu) (by simp)
    clear u14 r14_w0 o14_w0 r14_g0 o14_g0 r14_h0 o14_h0 uu
    have S2 := held_S1 (.slice p1_g0 y.length q1_g0) y 1 w15 fp_g0 (by omega) hMk r15_g0
    go_wp2_with fail
    refine S2.mono ?_
    clear S2
    rintro e w16 ⟨rfl, uu⟩
    have u16 : Upd [] wA w16 := u15.trans (uu)
    have r16_w0 := R_S1k.upd r15_w0 (uu) (by simp)
    have o16_w0 := o15_w0.upd (uu) (by simp)
    have r16_g0 := R_S1k.upd r15_g0 (uu) (by simp)
    have o16_g0 := o15_g0.upd (uu) (by simp)
    have r16_h0 := R_S1k.upd r15_h0 (uu) (by simp)
    have o16_h0 := o15_h0.upd (uu) (by simp)
    clear u15 r15_w0 o15_w0 r15_g0 o15_g0 r15_h0 o15_h0 uu
    have HU := Lib.hid (UA.out.trans u16)
    go_wp2_with fail
    go_ret
    exact ⟨rfl, HU.out⟩

end Go.Proofs.YtijmkcnipflpbaaGreatDoor

/-
  The form's reading of definitions.
-/
namespace Go.Proofs.YtijmkcnipflpbaaGreatDoor
open Go.RowKit Go.ChangeShapes Go.WideShapes Go.Deep

set_option maxRecDepth 20000 in
theorem opens_Pa : Opens Tryz.prog 132 R_Pa PaOk := by
  intro H enc w fuel cs x hx
  obtain ⟨y0, y1, y2, y3, n, -, hl, h0, h1, h2, h3⟩ := Go.Joins.trod_struct4 Tryz.underlying132 hx
  rw [show Tryz.prog.cellsOf 132 = 4 by kernel_rfl] at hl
  match cs, hl with
  | [a, b, c, d], _ =>
    have c0 : Tryz.prog.cellsOf 2 = 1 := by kernel_rfl
    have c3 : Tryz.prog.cellsOf 9 = 1 := by kernel_rfl
    have c4 : Tryz.prog.cellsOf 130 = 1 := by kernel_rfl
    obtain ⟨k, e0, -, -⟩ := DataW.trod_int Tryz.underlying2 h0
    obtain ⟨m, e1, -, -⟩ := DataW.trod_int Tryz.underlying2 h1
    obtain ⟨s, e2, -, hs⟩ := DataW.trod_string Tryz.underlying9 h2
    simp [c0, c3, c4] at e0 e1 e2 h3
    obtain ⟨args, f3, r3, -⟩ := opens_T2 h3
    refine ⟨⟨k, m, s.data.toList, args⟩, f3 ++ [], ⟨d, f3, by rw [e0, e1, e2], r3, rfl⟩, ?_⟩
    show s.data.toList.length ≤ 9223372036854775807
    have : s.data.toList.length ≤ maxLen := hs
    simp only [maxLen] at this
    omega
theorem opens_Pa1 : Opens Tryz.prog 65 R_Pa1 Pa1Ok := opens_slQ Tryz.underlying65 (by kernel_rfl) (by decide) opens_Pa
set_option maxRecDepth 20000 in
theorem opens_De : Opens Tryz.prog 67 R_De DeOk := by
  intro H enc w fuel cs x hx
  obtain ⟨y0, y1, y2, n, -, hl, h0, h1, h2⟩ := trod_struct3 Tryz.underlying67 hx
  rw [show Tryz.prog.cellsOf 67 = 3 by kernel_rfl] at hl
  match cs, hl with
  | [a, b, c], _ =>
    have c0 : Tryz.prog.cellsOf 2 = 1 := by kernel_rfl
    have c3 : Tryz.prog.cellsOf 9 = 1 := by kernel_rfl
    have c4 : Tryz.prog.cellsOf 65 = 1 := by kernel_rfl
    obtain ⟨s, e0, -, hs⟩ := DataW.trod_string Tryz.underlying9 h0
    obtain ⟨m, e1, -, -⟩ := DataW.trod_int Tryz.underlying2 h1
    simp [c0, c3, c4] at e0 e1 h2
    obtain ⟨body, f2, r2, g2⟩ := opens_Pa1 h2
    refine ⟨⟨s.data.toList, m, body⟩, f2 ++ [], ⟨c, f2, by rw [e0, e1], r2, rfl⟩, ?_, g2⟩
    show s.data.toList.length ≤ 9223372036854775807
    have : s.data.toList.length ≤ maxLen := hs
    simp only [maxLen] at this
    omega
theorem opens_De1 : Opens Tryz.prog 22 R_De1 De1Ok := opens_slQ Tryz.underlying22 (by kernel_rfl) (by decide) opens_De

end Go.Proofs.YtijmkcnipflpbaaGreatDoor

/-
  The form's reading of systems.
-/
namespace Go.Proofs.YtijmkcnipflpbaaGreatDoor
open Go.RowKit Go.ChangeShapes Go.WideShapes Go.Deep

set_option maxRecDepth 20000 in
theorem opens_Co : Opens Tryz.prog 71 R_Co CoOk := by
  intro H enc w fuel cs x hx
  obtain ⟨y0, y1, n, -, hl, h0, h1⟩ := trod_struct2 Tryz.underlying71 hx
  rw [show Tryz.prog.cellsOf 71 = 2 by kernel_rfl] at hl
  match cs, hl with
  | [a, b], _ =>
    have c0 : Tryz.prog.cellsOf 2 = 1 := by kernel_rfl
    have c1 : Tryz.prog.cellsOf 69 = 1 := by kernel_rfl
    obtain ⟨k, e0, -, -⟩ := DataW.trod_int Tryz.underlying2 h0
    simp [c0, c1] at e0 h1
    obtain ⟨vals, f1, r1, -⟩ := opens_I1 h1
    exact ⟨⟨k, vals⟩, f1 ++ [], ⟨b, f1, by rw [e0], r1, rfl⟩, trivial⟩
theorem opens_Co1 : Opens Tryz.prog 23 R_Co1 Co1Ok := opens_slQ Tryz.underlying23 (by kernel_rfl) (by decide) opens_Co
set_option maxRecDepth 20000 in
theorem opens_Me : Opens Tryz.prog 74 R_Me MeOk := by
  intro H enc w fuel cs x hx
  obtain ⟨y0, y1, y2, n, -, hl, h0, h1, h2⟩ := trod_struct3 Tryz.underlying74 hx
  rw [show Tryz.prog.cellsOf 74 = 3 by kernel_rfl] at hl
  match cs, hl with
  | [a, b, c], _ =>
    have c3 : Tryz.prog.cellsOf 9 = 1 := by kernel_rfl
    obtain ⟨s, e0, -, hs⟩ := DataW.trod_string Tryz.underlying9 h0
    obtain ⟨t, e1, -, ht⟩ := DataW.trod_string Tryz.underlying9 h1
    obtain ⟨u, e2, -, hu⟩ := DataW.trod_string Tryz.underlying9 h2
    simp [c3] at e0 e1 e2
    refine ⟨⟨s.data.toList, t.data.toList, u.data.toList⟩, [], ⟨by rw [e0, e1, e2], rfl⟩, ?_⟩
    show s.data.toList.length ≤ 9223372036854775807 ∧ t.data.toList.length ≤ 9223372036854775807 ∧ u.data.toList.length ≤ 9223372036854775807
    have h1 : s.data.toList.length ≤ maxLen := hs
    have h2 : t.data.toList.length ≤ maxLen := ht
    have h3 : u.data.toList.length ≤ maxLen := hu
    simp only [maxLen] at h1 h2 h3
    omega
theorem opens_Me1 : Opens Tryz.prog 24 R_Me1 Me1Ok := opens_slQ Tryz.underlying24 (by kernel_rfl) (by decide) opens_Me

set_option maxRecDepth 20000 in
theorem open_Sy {H : Type} {enc : TypeId × Value → H} {w : World} {v : Value} {d : DataW H} {ps : List MemPlace} (hv : ∃ cs, v = .agg cs ∧ cs.size = Tryz.prog.cellsOf 27)
    (hd : DataW.Trod enc Tryz.prog w 0 (fun _ => true) true 27 v d ps) : ∃ x fp cs, v = .agg cs.toArray ∧ R_Sy fp w cs x ∧ SyOk x := by
  obtain ⟨cs, rfl, hcs⟩ := hv
  rw [show Tryz.prog.cellsOf 27 = 5 by kernel_rfl] at hcs
  obtain ⟨l, rfl⟩ : ∃ l : List Value, cs = l.toArray := ⟨cs.toList, by simp⟩
  match l, hcs with
  | [a, b, c, d, e], _ =>
    obtain ⟨fuel, hf⟩ := hd
    obtain ⟨y0, y1, y2, y3, y4, n, -, h0, h1, h2, h3, h4⟩ := trod_struct5 Tryz.underlying27 hf
    have c1 : Tryz.prog.cellsOf 22 = 1 := by kernel_rfl
    have c2 : Tryz.prog.cellsOf 23 = 1 := by kernel_rfl
    have c3 : Tryz.prog.cellsOf 24 = 1 := by kernel_rfl
    have c4 : Tryz.prog.cellsOf 25 = 1 := by kernel_rfl
    simp [c1, c2, c3, c4, Value.cells] at h0 h1 h2 h3 h4
    obtain ⟨s0, f0, r0, g0⟩ := opens_De1 h0
    obtain ⟨s1, f1, r1, g1⟩ := opens_Co1 h1
    obtain ⟨s2, f2, r2, g2⟩ := opens_Me1 h2
    obtain ⟨s3, f3, r3, g3⟩ := opens_S1 h3
    obtain ⟨s4, f4, r4, g4⟩ := opens_S1 h4
    exact ⟨⟨s0, s1, s2, s3, s4⟩, f0 ++ (f1 ++ (f2 ++ (f3 ++ f4))), [a, b, c, d, e], rfl, ⟨a, b, c, d, e, f0, f1, f2, f3, f4, rfl, r0, r1, r2, r3, r4, rfl⟩, ⟨g0, g1, g2, g3, g4⟩⟩

end Go.Proofs.YtijmkcnipflpbaaGreatDoor
