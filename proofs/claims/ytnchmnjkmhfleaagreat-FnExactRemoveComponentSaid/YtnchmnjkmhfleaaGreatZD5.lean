/-
  Texts joined in one file: DfY, SyS, SyO, MeS, SyF, SyG, SyDl0, SyDl1, SyDl2, SyDl, SyDm, FitD, FitSy, LawDelC, OpenDe, OpenSy.
-/
import Derived.Test.YtnchmnjkmhfleaaGreatZD1
import Derived.Test.YtnchmnjkmhfleaaGreatZD2
import Derived.Test.YtnchmnjkmhfleaaGreatZD3
import Derived.Test.YtnchmnjkmhfleaaGreatZD4
import Derived.Lib.SliceRun
import Derived.Deep.RegionLaw
import Derived.Lib.SmallJoins
import Derived.Deep.Strs
/-
  The reference's check of a list of definitions: what the call returns.
-/
namespace Go.Proofs.YtnchmnjkmhfleaaGreat
open Go.RowKit

set_option maxRecDepth 20000 in
set_option maxHeartbeats 16000000 in
theorem defsS (v : Value) (ds : List De) (w : World) (fp : List Nat) (hR : R_De1 fp w [v] ds) (hF : DesFit ds) :
    Calls Tryz.prog 158 #[v] w fun e w' => e = .returned (.bool (defsOk ds)) ∧ Upd [] w w' := by
  have hR' := hR
  obtain ⟨a, cap, rfl, g1, g2, hc⟩ := slQ_open hR
  unfold maxLen at g2
  have HLEN := Lib.hid (fun (h : inB (ds.length : Int) 1 4 = false) => defsOk_len h)
  have HNN := Lib.hid (fun k (hk : k < ds.length) (h : nameF ds[k].name = false) => defsOk_noname hk h)
  have HNP := Lib.hid (fun k (hk : k < ds.length) (h : inB ds[k].pars 0 3 = false) => defsOk_nopars hk h)
  have HND := Lib.hid (fun j k (hj : j < k) (hk : k < ds.length) (h : (ds[j].name == ds[k].name) = true) => defsOk_nodup hj hk h)
  have HNF := Lib.hid (fun k (hk : k < ds.length) (h : (faultP ds ds[k]).2 ≠ 0) => defsOk_nofault hk h)
  have HALL := Lib.hid (fun (hs : inB (ds.length : Int) 1 4 = true) h1 h2 => defsOk_all (ds := ds) hs h1 h2)
  have HC := Lib.hid hc
  have HRD := Lib.hid (fun W (hu : Upd [] w W) => R_De1k.upd hR' hu (by simp))
  have HFT := Lib.hid hF
  clear hR hR' hc hF
  generalize hZ : defsOk ds = Z at *
  clear hZ
  by_cases h0 : ds.length = 0
  · have HZ := Lib.hid (HLEN.out (inB_no (by omega)))
    have hb : ((ds.length : Int) == 0) = true := by rw [h0]; rfl
    clear h0 HLEN HNN HNP HND HNF HALL HC HRD HFT
    go_enter Tryz.func158, Tryz.ntmps158
    go_wp2_with fail
    go_ret
    exact ⟨by rw [HZ.out]; rfl, Upd.refl _ _⟩
  · have hb : ((ds.length : Int) == 0) = false := by simp; intro h; exact h0 (by rw [h]; rfl)
    by_cases h4 : 4 < ds.length
    · have HZ := Lib.hid (HLEN.out (inB_no (by omega)))
      have hb2 : (4 : Int) < (ds.length : Int) := by omega
      clear h0 h4 HLEN HNN HNP HND HNF HALL HC HRD HFT
      go_enter Tryz.func158, Tryz.ntmps158
      go_wp2_with fail
      go_ret
      exact ⟨by rw [HZ.out]; rfl, Upd.refl _ _⟩
    · have hb2 : ¬ (4 : Int) < (ds.length : Int) := by omega
      have hl4 : ds.length ≤ 4 := by omega
      have HAL := Lib.hid (HALL.out (inB_mk (by omega)))
      clear h0 h4 HLEN HALL
      go_enter Tryz.func158, Tryz.ntmps158
      go_wp2_with fail
      go_loopw [3] (fun iv wr => ∃ k : Nat, k ≤ ds.length ∧ iv = .int .i64 k ∧ Hid (∀ j (_ : j < k) (hj : j < ds.length), headD ds j ds[j] = true) ∧ Hid (Upd [] w wr)) (fun iv _ => ds.length - (intOf iv).toNat)
      case atStart => exact ⟨0, Nat.zero_le _, rfl, Lib.hid (fun j hj => absurd hj (Nat.not_lt_zero _)), Lib.hid (Upd.refl _ _)⟩
      case round =>
        obtain ⟨wo, rfl⟩ : ∃ wo : World, wo = wr := ⟨_, rfl⟩
        obtain ⟨k, hk, rfl, HG, HU⟩ := hrel
        by_cases hlt : k < ds.length
        · obtain ⟨bb, off, u, f', rfl, -, -, -, hcell, -, hr⟩ := HC.out k hlt
          obtain ⟨v2, f2, rfl, -, -⟩ := hr
          have s0 := HU.out.keep (hcell 0 _ rfl)
          have s1 := HU.out.keep (hcell 1 _ rfl)
          simp only [Nat.add_zero] at s0
          have hfk := HFT.out.2 ds[k] (List.getElem_mem hlt)
          have S1 := Lib.hid (nameS ds[k].name wo hfk.1)
          have S2 := Lib.hid (l00In ds[k].pars 0 3 wo)
          have HN1 := Lib.hid (HNN.out k hlt)
          have HN2 := Lib.hid (HNP.out k hlt)
          have hkl : (k : Int) < (ds.length : Int) := by omega
          clear hfk hcell
          obtain ⟨q1, h1⟩ : ∃ q, nameF ds[k].name = q := ⟨_, rfl⟩
          obtain ⟨q2, h2⟩ : ∃ q, inB ds[k].pars 0 3 = q := ⟨_, rfl⟩
          rw [h1] at S1
          rw [h2] at S2
          go_wp2_with fail
          refine S1.out.mono ?_
          rintro e wq ⟨rfl, rfl⟩
          clear S1
          cases q1 with
          | false =>
            have HZ := Lib.hid (HN1.out h1)
            clear HN1 HN2 S2 h1 h2
            go_wp2_with fail
            go_ret
            exact ⟨by rw [HZ.out]; rfl, HU.out⟩
          | true =>
            go_wp2_with fail
            refine S2.out.mono ?_
            rintro e wq ⟨rfl, rfl⟩
            clear S2
            cases q2 with
            | false =>
              have HZ := Lib.hid (HN2.out h2)
              clear HN1 HN2 h1 h2
              go_wp2_with fail
              go_ret
              exact ⟨by rw [HZ.out]; rfl, HU.out⟩
            | true =>
              have HH := Lib.hid (And.intro h1 h2)
              clear HN1 HN2 h1 h2 s1
              go_wp2_with fail
              go_loopw [4] (fun jv wr => ∃ j : Nat, j ≤ k ∧ jv = .int .i64 j ∧ Hid (∀ i (_ : i < j) (hi : i < ds.length), (ds[i].name == ds[k].name) = false) ∧ Hid (Upd [] wo wr)) (fun jv _ => k - (intOf jv).toNat)
              case atStart => exact ⟨0, Nat.zero_le _, rfl, Lib.hid (fun i hi => absurd hi (Nat.not_lt_zero _)), Lib.hid (Upd.refl _ _)⟩
              case round =>
                obtain ⟨wi, rfl⟩ : ∃ wi : World, wi = wr := ⟨_, rfl⟩
                obtain ⟨j, hj, rfl, HE, HUi⟩ := hrel
                by_cases hjk : j < k
                · have hjl : j < ds.length := by omega
                  obtain ⟨bb', off', u', f'', he, -, -, -, hcell', -, hr'⟩ := HC.out j hjl
                  simp only [Option.some.injEq, Addr.mk.injEq, and_true] at he
                  obtain ⟨rfl, rfl⟩ := he
                  obtain ⟨v4, f4, rfl, -, -⟩ := hr'
                  have t0 := (HU.out.trans HUi.out).keep (hcell' 0 _ rfl)
                  simp only [Nat.add_zero] at t0
                  have s0' := HUi.out.keep s0
                  have hjki : (j : Int) < (k : Int) := by omega
                  have hjli : (j : Int) < (ds.length : Int) := by omega
                  have HDU := Lib.hid (HND.out j k hjk hlt)
                  have HEN := Lib.hid (fun (h : (ds[j].name == ds[k].name) = false) i (hij : i < j + 1) (hi : i < ds.length) => (show (ds[i].name == ds[k].name) = false by
                    by_cases e : i = j
                    · subst e; exact h
                    · exact HE.out i (by omega) hi))
                  clear hcell' HE
                  obtain ⟨qe, hqe⟩ : ∃ q, (ds[j].name == ds[k].name) = q := ⟨_, rfl⟩
                  rw [hqe] at HDU HEN
                  generalize ds[j].name = nj at *
                  generalize hnk : ds[k].name = nk at *
                  clear hnk
                  cases qe with
                  | true =>
                    have HZ := Lib.hid (HDU.out rfl)
                    clear HDU HEN
                    go_wp2_with fail
                    go_quiet (fail)
                    go_wp2_with fail
                    go_ret
                    exact ⟨by rw [HZ.out]; rfl, HU.out.trans (HUi.out.drewN nq)⟩
                  | false =>
                    have HE2 := Lib.hid (HEN.out rfl)
                    clear HDU HEN
                    go_wp2_with fail
                    go_quiet (fail)
                    go_wp2_with fail
                    go_roundw
                    case rel => exact ⟨j + 1, by omega, by go_num, HE2, Lib.hid (HUi.out.drewN nq)⟩
                    case measure => simp [intOf]; omega
                · have hjki : ¬ (j : Int) < (k : Int) := by omega
                  have HK := Lib.hid (show ∀ i (_ : i < k + 1) (hi : i < ds.length), headD ds i ds[i] = true from fun i hi hil => by
                    by_cases e : i = k
                    · subst e
                      unfold headD
                      rw [HH.out.1, HH.out.2]
                      simp only [Bool.true_and, Bool.not_eq_true']
                      rw [List.any_eq_false]
                      intro o ho
                      obtain ⟨m, hm, rfl⟩ := List.mem_iff_getElem.1 ho
                      simp only [List.length_take] at hm
                      rw [List.getElem_take, HE.out m (by omega) (by omega)]; simp
                    · exact HG.out i (by omega) hil)
                  have HUU := Lib.hid (HU.out.trans HUi.out)
                  clear HE HG HH
                  go_wp2_with fail
                  go_roundw
                  case rel => exact ⟨k + 1, by omega, by go_num, HK, HUU⟩
                  case measure => simp [intOf]; omega
        · have hkl : ¬ (k : Int) < (ds.length : Int) := by omega
          have HH := Lib.hid (fun j (hj : j < ds.length) => HG.out j (by omega) hj)
          have HPA := Lib.hid (fun j (hj : j < ds.length) => (show 0 ≤ ds[j].pars ∧ ds[j].pars ≤ 3 from by
            have := HH.out j hj
            unfold headD at this
            simp only [Bool.and_eq_true] at this
            exact inB_true this.1.2))
          clear HG HNN HNP HND
          go_wp2_with fail
          go_loopw [5] (fun iv wr => ∃ m : Nat, m ≤ ds.length ∧ iv = .int .i64 m ∧ Hid (∀ j (_ : j < m) (hj : j < ds.length), (faultP ds ds[j]).2 = 0) ∧ Hid (Upd [] wo wr)) (fun iv _ => ds.length - (intOf iv).toNat)
          case atStart => exact ⟨0, Nat.zero_le _, rfl, Lib.hid (fun j hj => absurd hj (Nat.not_lt_zero _)), Lib.hid (Upd.refl _ _)⟩
          case round =>
            obtain ⟨wi, rfl⟩ : ∃ wi : World, wi = wr := ⟨_, rfl⟩
            obtain ⟨m, hm, rfl, HE, HUi⟩ := hrel
            by_cases hml : m < ds.length
            · obtain ⟨bb, off, u, f', rfl, -, -, -, hcell, -, hr⟩ := HC.out m hml
              have UU := Lib.hid (HU.out.trans HUi.out)
              obtain ⟨f9, hDA⟩ := DeAt.of (w := w) (o := off + m * 3) (fun j c hj => hcell j c hj) hr
              have hfm := HFT.out.2 ds[m] (List.getElem_mem hml)
              have hpm := HPA.out m hml
              have S3 := Lib.hid (bodyS ds (.slice (some ⟨bb, off, none⟩) ds.length cap) fp bb (off + m * 3) f9 ds[m] wi (HRD.out wi UU.out) (hDA.upd UU.out) (by omega) ⟨hfm.2.1, hfm.2.2⟩ hpm.1 hpm.2)
              have HNO := Lib.hid (HNF.out m hml)
              have HEN := Lib.hid (fun (h : (faultP ds ds[m]).2 = 0) i (him : i < m + 1) (hi : i < ds.length) => (show (faultP ds ds[i]).2 = 0 by
                by_cases e : i = m
                · subst e; exact h
                · exact HE.out i (by omega) hi))
              have hmi : (m : Int) < (ds.length : Int) := by omega
              have hfn : 0 ≤ (faultP ds ds[m]).2 := by
                have : ∀ (l : List Pa) (i : Nat), 0 ≤ (faultFrom ds ds[m] ds[m].body i l).2 := by
                  intro l
                  induction l with
                  | nil => intro i; simp [faultFrom]
                  | cons p l ih =>
                    intro i
                    rw [faultFrom]
                    split
                    · exact ih (i + 1)
                    · exact (reasonP_nn ds p _ _).1
                unfold faultP
                split
                · exact this _ _
                · simp
              clear hcell hr hDA hfm hpm HE
              generalize faultP ds ds[m] = fl at *
              obtain ⟨f0, f1⟩ := fl
              simp only at hfn HNO HEN S3
              go_wp2_with fail
              refine S3.out.mono ?_
              rintro e w6 ⟨rfl, hu6⟩
              have HU6 := Lib.hid (HUi.out.trans hu6)
              clear hu6 S3 UU
              by_cases hz : f1 = 0
              · have hzb : ¬ (0 : Int) < f1 := by omega
                have HE2 := Lib.hid (HEN.out hz)
                clear HNO HEN hz
                go_wp2_with fail
                go_roundw
                case rel => exact ⟨m + 1, by omega, by go_num, HE2, HU6⟩
                case measure => simp [intOf]; omega
              · have hzb : (0 : Int) < f1 := by omega
                have HZ := Lib.hid (HNO.out hz)
                clear HNO HEN hz
                go_wp2_with fail
                go_ret
                exact ⟨by rw [HZ.out]; rfl, HU.out.trans HU6.out⟩
            · have hmi : ¬ (m : Int) < (ds.length : Int) := by omega
              have HZ := Lib.hid (HAL.out HH.out (fun j hj => HE.out j (by omega) hj))
              clear HE HH HAL HNF
              go_wp2_with fail
              go_ret
              exact ⟨by rw [HZ.out]; rfl, HU.out.trans HUi.out⟩

end Go.Proofs.YtnchmnjkmhfleaaGreat

/-
  Components: what the reference's check returns.
-/
namespace Go.Proofs.YtnchmnjkmhfleaaGreat
open Go.RowKit

/-- a system lies at a block's beginning. -/
structure SyAt (B : Nat) (cs : List Value) (fp : List Nat) (w : World) (s : Sy) : Prop where
  r : R_Sy fp w cs s
  c : ∀ (j : Nat) v, cs[j]? = some v → w.cell? ⟨B, j, none⟩ = some v
theorem SyAt.upd {B : Nat} {cs : List Value} {fp : List Nat} {w w' : World} {s : Sy} (h : SyAt B cs fp w s) (hu : Upd [] w w') : SyAt B cs fp w' s :=
  ⟨R_Syk.upd h.r hu (by simp), fun j v hj => hu.keep (h.c j v hj)⟩

theorem compsOk_len {ds : List De} {l : List Co} (h : inB (l.length : Int) 1 3 = false) : compsOk ds l = false := by unfold compsOk; rw [h]; rfl
theorem compsOk_no {ds : List De} {l : List Co} {k : Nat} (hk : k < l.length) (h : compOk ds l[k] = false) : compsOk ds l = false := by
  unfold compsOk
  rw [show l.all (compOk ds) = false from by rw [List.all_eq_false]; exact ⟨_, List.getElem_mem hk, by simp [h]⟩]
  simp
theorem compsOk_yes {ds : List De} {l : List Co} (hs : inB (l.length : Int) 1 3 = true) (h : ∀ j (hj : j < l.length), compOk ds l[j] = true) : compsOk ds l = true := by
  unfold compsOk
  rw [hs, List.all_eq_true.2 (fun c hc => by obtain ⟨j, hj, rfl⟩ := List.mem_iff_getElem.1 hc; exact h j hj)]; rfl

set_option maxRecDepth 20000 in
set_option maxHeartbeats 8000000 in
theorem componentsS (B : Nat) (cs : List Value) (fp : List Nat) (s : Sy) (w : World) (hA : SyAt B cs fp w s) (hdl : s.defs.length ≤ 1000000) :
    Calls Tryz.prog 159 #[.pointer (some ⟨B, 0, none⟩)] w fun e w' => e = .returned (.bool (compsOk s.defs s.comps)) ∧ Upd [] w w' := by
  obtain ⟨⟨v0, v1, v2, v3, v4, f0, f1, f2, f3, f4, rfl, h0, h1, -, -, -, -⟩, hcc⟩ := hA
  have c0 : w.cell? ⟨B, 0, none⟩ = some v0 := hcc 0 _ rfl
  have c1 : w.cell? ⟨B, 1, none⟩ = some v1 := hcc 1 _ rfl
  have h0' := h0
  have h1' := h1
  obtain ⟨a0, q0, rfl, d1, d2, hd⟩ := slQ_open h0
  obtain ⟨a1, q1, rfl, l1, l2, hl⟩ := slQ_open h1
  unfold maxLen at d2 l2
  have HNL := Lib.hid (fun (h : inB (s.comps.length : Int) 1 3 = false) => compsOk_len (ds := s.defs) h)
  have HNO := Lib.hid (fun k (hk : k < s.comps.length) (h : compOk s.defs s.comps[k] = false) => compsOk_no (ds := s.defs) hk h)
  have HYE := Lib.hid (fun (hs : inB (s.comps.length : Int) 1 3 = true) h => compsOk_yes (ds := s.defs) (l := s.comps) hs h)
  have HDC := Lib.hid hd
  have HLC := Lib.hid hl
  have HCC := Lib.hid (fun W (hu : Upd [] w W) => And.intro (hu.keep c0) (hu.keep c1))
  clear hcc h0 h0' h1 h1' hd hl
  generalize hZ : compsOk s.defs s.comps = Z at *
  clear hZ
  generalize s.defs = ds at *
  generalize s.comps = l at *
  by_cases hz : l.length = 0
  · have HZ := Lib.hid (HNL.out (inB_no (by omega)))
    have hb : ((l.length : Int) == 0) = true := by rw [hz]; rfl
    clear hz HNL HNO HYE
    go_enter Tryz.func159, Tryz.ntmps159
    go_wp2_with fail
    go_ret
    exact ⟨by rw [HZ.out]; rfl, Upd.refl _ _⟩
  · have hb : ((l.length : Int) == 0) = false := by simp; intro h; exact hz (by rw [h]; rfl)
    by_cases h3 : 3 < l.length
    · have HZ := Lib.hid (HNL.out (inB_no (by omega)))
      have hb2 : (3 : Int) < (l.length : Int) := by omega
      clear hz h3 HNL HNO HYE
      go_enter Tryz.func159, Tryz.ntmps159
      go_wp2_with fail
      go_ret
      exact ⟨by rw [HZ.out]; rfl, Upd.refl _ _⟩
    · have hb2 : ¬ (3 : Int) < (l.length : Int) := by omega
      have HYE := Lib.hid (HYE.out (inB_mk (by omega)))
      clear hz HNL
      go_enter Tryz.func159, Tryz.ntmps159
      go_wp2_with fail
      go_loopw [3] (fun iv wr => ∃ k : Nat, k ≤ l.length ∧ iv = .int .i64 k ∧ Hid (Upd [] w wr) ∧ Hid (∀ j (_ : j < k) (hj : j < l.length), compOk ds l[j] = true)) (fun iv _ => l.length - (intOf iv).toNat)
      case atStart => exact ⟨0, Nat.zero_le _, rfl, Lib.hid (Upd.refl _ _), Lib.hid (fun j hj => absurd hj (Nat.not_lt_zero _))⟩
      case round =>
        clear c0 c1
        obtain ⟨wo, rfl⟩ : ∃ wo : World, wo = wr := ⟨_, rfl⟩
        obtain ⟨k, hk, rfl, HU, HG⟩ := hrel
        obtain ⟨c0, c1⟩ := HCC.out wo HU.out
        by_cases hlt : k < l.length
        · obtain ⟨bb, off, u, f', rfl, -, -, -, hcell, -, hr⟩ := HLC.out k hlt
          obtain ⟨v5, f5, rfl, hv, -⟩ := hr
          have hv' := R_I1k.upd hv HU.out (by simp)
          obtain ⟨a5, q5, rfl, g1, g2, -⟩ := slF1_open hv
          unfold maxLen at g2
          have s0 := HU.out.keep (hcell 0 _ rfl)
          have s1 := HU.out.keep (hcell 1 _ rfl)
          simp only [Nat.add_zero] at s0
          have HNK := Lib.hid (HNO.out k hlt)
          have HGK := Lib.hid (fun (h : compOk ds l[k] = true) j (hjk : j < k + 1) (hj : j < l.length) => (show compOk ds l[j] = true by
            by_cases e : j = k
            · subst e; exact h
            · exact HG.out j (by omega) hj))
          have HGD := Lib.hid (show compOk ds l[k] = (inB l[k].dfn 0 ((ds.length : Int) - 1) && ((l[k].vals.length : Int) == (ds.map De.pars).getD l[k].dfn.toNat 0) && l[k].vals.all isV) from rfl)
          have hkl : (k : Int) < (l.length : Int) := by omega
          clear hcell HG hv
          generalize compOk ds l[k] = gz at *
          generalize l[k] = c at *
          obtain ⟨dfn, vals⟩ := c
          simp only at *
          obtain ⟨wP, hwP⟩ : ∃ q, q = wo.alloc (.cells #[ei dfn, .slice a5 vals.length q5] 38) := ⟨_, rfl⟩
          obtain ⟨BP, hBP⟩ : ∃ q, q = wo.heap.size := ⟨_, rfl⟩
          have uP : Upd [] wo wP := by rw [hwP]; exact (Upd.refl _ _).alloc _
          have x0 : wP.cell? ⟨BP, 0, none⟩ = some (ei dfn) := by rw [hwP, hBP]; exact cell_new wo _ _ _ rfl 0 _ rfl
          have x1 : wP.cell? ⟨BP, 1, none⟩ = some (.slice a5 vals.length q5) := by rw [hwP, hBP]; exact cell_new wo _ _ _ rfl 1 _ rfl
          have y0 := uP.keep c0
          have UP := Lib.hid uP
          have SI := Lib.hid (fun n => Calls.quiet_of_same (n := n) ((l00In dfn 0 ((ds.length : Int) - 1) (wP.drewN n)).mono (fun e w' h => ⟨h.1, h.2.symm⟩)))
          have SV := Lib.hid (fun n m => Calls.quiet_of_same (n := m) ((dataS (.slice a5 vals.length q5) vals ((wP.drewN n).drewN m) f5 (R_I1k.drewN (R_I1k.drewN (R_I1k.upd hv' uP (by simp)) n) m)).mono (fun e w' h => ⟨h.1, h.2.symm⟩)))
          obtain ⟨qi, hqi⟩ : ∃ q, inB dfn 0 ((ds.length : Int) - 1) = q := ⟨_, rfl⟩
          rw [hqi] at SI HGD
          generalize vals.all isV = qv at *
          generalize vals.length = n at *
          go_upto_region 7 with (fail)
          rw [← hwP, ← hBP]
          clear hwP hBP s0 s1 c0 c1 hv'
          cases qi with
          | false =>
            have HZ := Lib.hid (HNK.out (by rw [HGD.out]; rfl))
            clear HNK HGK HGD SV
            go_quiet ((go_at_call 51; with_reducible exact SI.out _))
            have HU9 := Lib.hid (HU.out.trans (UP.out.drewN nq))
            go_wp2_with fail
            go_ret
            exact ⟨by rw [HZ.out]; rfl, HU9.out⟩
          | true =>
            have hbd := inB_true hqi
            obtain ⟨j, rfl⟩ : ∃ j : Nat, dfn = j := ⟨dfn.toNat, by omega⟩
            have hj : j < ds.length := by omega
            obtain ⟨b9, o9, u9, f9, rfl, -, -, -, hc9, -, hr9⟩ := HDC.out j hj
            obtain ⟨v9, f8, rfl, -, -⟩ := hr9
            have p9 := uP.keep (HU.out.keep (hc9 1 _ rfl))
            have hz9 : (ds.map De.pars).getD (Int.toNat (j : Int)) 0 = ds[j].pars := by
              rw [Int.toNat_natCast, List.getD_eq_getElem?_getD, List.getElem?_map, List.getElem?_eq_getElem hj]; rfl
            rw [hz9] at HGD
            have hjl : (j : Int) < (ds.length : Int) := by omega
            clear hc9 hz9 hbd hqi uP
            generalize ds[j].pars = P at *
            obtain ⟨q2, hq2⟩ : ∃ q, ((n : Int) == P) = q := ⟨_, rfl⟩
            rw [hq2] at HGD
            go_quiet ((go_at_call 51; with_reducible exact SI.out _))
            obtain ⟨wq, hwq⟩ : ∃ wq, wP.drewN nq = wq := ⟨_, rfl⟩
            have HUq := Lib.hid (show Upd [] wo wq by rw [← hwq]; exact UP.out.drewN nq)
            have k0 : wq.cell? ⟨BP, 0, none⟩ = some (ei j) := by rw [← hwq]; exact x0
            have k1 : wq.cell? ⟨BP, 1, none⟩ = some (.slice a5 n q5) := by rw [← hwq]; exact x1
            have k2 : wq.cell? ⟨B, 0, none⟩ = some (.slice (some ⟨b9, o9, none⟩) ds.length q0) := by rw [← hwq]; exact y0
            have k3 : wq.cell? ⟨b9, o9 + j * 3 + 1, none⟩ = some (ei P) := by rw [← hwq]; exact p9
            have SV := Lib.hid (fun m => SV.out nq m)
            rw [hwq] at SV ⊢
            clear hwq x0 x1 y0 p9 SI
            cases q2 with
            | false =>
              have HZ := Lib.hid (HNK.out (by rw [HGD.out]; rfl))
              have hne : ((n : Int) != P) = true := by simp [bne, hq2]
              clear HNK HGK HGD SV
              go_wp2_with fail
              go_quiet (fail)
              have HU9 := Lib.hid (HU.out.trans (HUq.out.drewN nq))
              go_wp2_with fail
              go_ret
              exact ⟨by rw [HZ.out]; rfl, HU9.out⟩
            | true =>
              have hne : ((n : Int) != P) = false := by simp [bne, hq2]
              go_wp2_with fail
              go_quiet ((go_at_call 104; with_reducible exact SV.out _))
              have HU9 := Lib.hid (HU.out.trans (HUq.out.drewN nq))
              cases qv with
              | false =>
                have HZ := Lib.hid (HNK.out (by rw [HGD.out]; rfl))
                clear HNK HGK HGD SV
                go_wp2_with fail
                go_ret
                exact ⟨by rw [HZ.out]; rfl, HU9.out⟩
              | true =>
                have HG2 := Lib.hid (HGK.out (by rw [HGD.out]; rfl))
                clear HNK HGK HGD SV
                go_wp2_with fail
                go_roundw
                case rel => exact ⟨k + 1, by omega, by go_num, HU9, HG2⟩
                case measure => simp [intOf]; omega
        · have hkk : ¬ (k : Int) < (l.length : Int) := by omega
          have HZ := Lib.hid (HYE.out (fun j hj => HG.out j (by omega) hj))
          clear HG HNO HYE
          go_wp2_with fail
          go_ret
          exact ⟨by rw [HZ.out]; rfl, HU.out⟩

end Go.Proofs.YtnchmnjkmhfleaaGreat

/-
  The reference's copies of a body and of a system: what the calls return and make.
-/
namespace Go.Proofs.YtnchmnjkmhfleaaGreat
open Go.RowKit

set_option maxRecDepth 20000 in
set_option maxHeartbeats 4000000 in
theorem ownBodyS (v : Value) (xs : List Pa) (w : World) (fp : List Nat) (hl : xs.length ≤ 1000000) (hfa : ∀ p ∈ xs, p.args.length ≤ 1000000 ∧ ∀ e ∈ p.args, e.length ≤ 1000000) (hR : R_Pa1 fp w [v] xs) :
    Calls Tryz.prog 105 #[v] w fun r w' => (∃ v', r = .returned v' ∧ New R_Pa1 w w' v' xs) ∧ Upd [] w w' := by
  obtain ⟨i0, hi, hz0, hz1, hz2⟩ := info_parts Tryz.infoPa
  obtain ⟨a, cap, rfl, g1, g2, hc⟩ := slQ_open hR
  unfold maxLen at g2
  have HC := Lib.hid hc
  have HFA := Lib.hid hfa
  clear hR hc hfa
  go_enter Tryz.func105, Tryz.ntmps105
  go_wp2_with fail
  go_loopw [3, 4] (fun cv iv wr => ∃ k : Nat, k ≤ xs.length ∧ iv = .int .i64 k ∧ Hid (Upd [] w wr) ∧ w.heap.size ≤ wr.heap.size ∧ Hid (AccQ 4 R_Pa w 109 wr cv (xs.take k))) (fun _ iv _ => xs.length - (intOf iv).toNat)
  case atStart => exact ⟨0, Nat.zero_le _, rfl, Lib.hid ((Upd.refl _ _).alloc _), by simp, Lib.hid (by simpa using AccQ.lit0 4 R_Pa w 109 w (Nat.le_refl _))⟩
  case round =>
    rename_i cv iv
    obtain ⟨wo, rfl⟩ : ∃ wo : World, wo = wr := ⟨_, rfl⟩
    obtain ⟨k, hk, rfl, HU, hsz, HA⟩ := hrel
    by_cases hlt : k < xs.length
    · obtain ⟨b, off, u, f, rfl, -, -, -, hcell, -, hr⟩ := HC.out k hlt
      obtain ⟨v3, f3, rfl, hv, rfl⟩ := hr
      have s0 := HU.out.keep (hcell 0 _ rfl)
      have s1 := HU.out.keep (hcell 1 _ rfl)
      have s2 := HU.out.keep (hcell 2 _ rfl)
      have s3 := HU.out.keep (hcell 3 _ rfl)
      simp only [Nat.add_zero] at s0
      have hkl : (k : Int) < (xs.length : Int) := by omega
      obtain ⟨h1, h2⟩ := HFA.out _ (List.getElem_mem hlt)
      have HTK := Lib.hid (List.take_succ_eq_append_getElem hlt)
      have htl : (xs.take k).length = k := by rw [List.length_take]; omega
      have HTL := Lib.hid htl
      generalize xs[k] = x at *
      obtain ⟨us, hown, hrows⟩ := HA.out
      rw [htl] at hown
      have HOW := Lib.hid hown
      have HRW := Lib.hid hrows
      obtain ⟨ca, cc, rfl⟩ := ownsRow_form hown
      have S1 := Lib.hid (fun W (hu : Upd [] wo W) => ownAllS v3 x.args W f3 h1 h2 (R_T2k.upd hv (HU.out.trans hu) (by simp)))
      obtain ⟨a3, q3, rfl, -, -, -⟩ := slP_open hv
      obtain ⟨wD, hwD⟩ : ∃ q, q = wo.alloc (.cells #[ei x.kind, ei x.num, es x.name, .slice a3 x.args.length q3] 109) := ⟨_, rfl⟩
      obtain ⟨D, hD⟩ : ∃ q, q = wo.heap.size := ⟨_, rfl⟩
      have uD : Upd [] wo wD := by rw [hwD]; exact (Upd.refl _ _).alloc _
      have HRD := Lib.hid (show RowAt wD D 109 [ei x.kind, ei x.num, es x.name, .slice a3 x.args.length q3] by rw [hwD, hD]; exact RowAt.new _ _ _)
      have HDO := Lib.hid hD
      have T1 := Lib.hid (S1.out wD uD)
      have UD := Lib.hid uD
      have t3 := uD.keep s3
      go_upto_region 6 with (fail)
      rw [← hwD, ← hD]
      clear hwD hD s0 s1 s2 s3 uD hv hcell htl hown hrows HA S1 h1 h2
      go_wp2_with fail
      refine T1.out.mono ?_
      rintro e w1 ⟨⟨v', rfl, hnew⟩, hu1⟩
      obtain ⟨x3, y3, rfl⟩ := hnew.formP
      have hr1 := HRD.out.upd hu1 (by simp)
      have c3 := hr1.cell 3 _ rfl
      have z3 := hr1.fz 3
      obtain ⟨wE, hwE⟩ : ∃ q, q = w1.setCell ⟨D, 3, none⟩ (.slice x3 x.args.length y3) := ⟨_, rfl⟩
      have hrE : RowAt wE D 109 [ei x.kind, ei x.num, es x.name, .slice x3 x.args.length y3] := by rw [hwE]; exact hr1.store 3 _
      have uDE : Upd [D] w1 wE := by rw [hwE]; exact (Upd.refl _ _).setCell (Or.inr (by simp)) _
      have huo : Upd [] wo wE := by rw [hwE]; exact (UD.out.trans hu1).setCell (Or.inl (show wo.heap.size ≤ D by have := HDO.out; omega)) _
      have hDD := HRD.out.lt
      have hnq : NewQ R_Pa wo wE [ei x.kind, ei x.num, es x.name, .slice x3 x.args.length y3] x := by
        obtain ⟨fb, n1, n2, n3⟩ := hnew
        have hnD : ∀ b ∈ fb, b ∉ [D] := fun b hb hm => by have := n3 b hb; simp at hm; omega
        exact ⟨fb ++ [], ⟨_, fb, rfl, R_T2k.upd n1 uDE hnD, rfl⟩, by simpa using n2.upd uDE hnD, fun b hb => by have := n3 b (by simpa using hb); have := UD.out.size; omega⟩
      have r0 := hrE.cell 0 _ rfl
      have r1 := hrE.cell 1 _ rfl
      have r2 := hrE.cell 2 _ rfl
      have r3 := hrE.cell 3 _ rfl
      have HNQ := Lib.hid hnq
      have HUO := Lib.hid huo
      have hown1 := ownsRow_upd HOW.out huo
      have hle1 := huo.size
      go_upto_region 7 with (fail)
      rw [← hwE]
      clear hwE hrE uDE huo hnq hnew hu1 hr1 c3 z3 t3 T1
      go_wp2_with (first
        | (at_builtin; refine wpList_append_tight _ rfl _ _ 88 rfl w.heap.size 109 i0 (.agg #[.int .i64 0, .int .i64 0, .string ⟨#[]⟩, .slice none 0 0]) 4 56 Tryz.underlying88 hi hz0 hz1 hz2 rfl (by decide) _ _ _ rfl (hown1.alloc _) ⟨wE.heap.size, 0, none⟩ 1 1 [ei x.kind, ei x.num, es x.name, .slice x3 x.args.length y3] rfl rfl (fun j u hj => by rw [addr_add, Nat.zero_add]; exact cell_new wE #[ei x.kind, ei x.num, es x.name, .slice x3 x.args.length y3] _ _ rfl j u (by simpa using hj)) (by simp [Value.oneCell']) (by unfold maxLen; omega) (by omega) (by simp; omega) ?_)
        | fail)
      intro v2 w2 hown2 hg2 ht2
      have hacc := AccQ.push R_Pak (by rw [HTL.out]; exact HOW.out) HRW.out hsz HUO.out HNQ.out rfl (.cells #[ei x.kind, ei x.num, es x.name, .slice x3 x.args.length y3] 109) (by rw [HTL.out]; exact hown2) hg2 (fun b hb => by
        rcases ht2 b hb with h | h
        · exact Or.inl h
        · exact Or.inr (by simpa using h))
      rw [← HTK.out] at hacc
      have hU2 : Upd [] w w2 := ((HU.out.trans HUO.out).alloc _).grown hg2 (fun b hb => Or.inl (HOW.out.lt b hb).1)
      have HPP := Lib.hid (And.intro hacc hU2)
      clear hacc hU2 hown2 hg2 ht2 hown1 r0 r1 r2 r3
      go_wp2_with fail
      go_roundw
      case rel => exact ⟨k + 1, by omega, by go_num, Lib.hid HPP.out.2, HPP.out.2.size, Lib.hid HPP.out.1⟩
      case measure => simp [intOf]; omega
    · obtain rfl : k = xs.length := by omega
      have ha := HA.out
      rw [List.take_length] at ha
      have HN := Lib.hid ha.new
      clear ha HA
      go_wp2_with fail
      go_ret
      exact ⟨⟨_, rfl, HN.out⟩, HU.out⟩

theorem row_empty {W : World} {q base : Nat} {e : TypeId} (h : RowAt W q e []) (hb : base ≤ q) (n : Nat) : W.ownsRow base e n (.slice (some ⟨q, 0, none⟩) 0 0) 0 [] :=
  ⟨by simp, Or.inr ⟨q, 0, #[], rfl, hb, h, Nat.le_refl _, by simp [maxLen], by simp, by simp⟩⟩

set_option maxRecDepth 20000 in
set_option maxHeartbeats 16000000 in
theorem ownSyM (Bs : Nat) (cs : List Value) (fp : List Nat) (s : Sy) (w : World) (hA : SyAt Bs cs fp w s) (hF : CpFit s) :
    Calls Tryz.prog 53 #[.pointer (some ⟨Bs, 0, none⟩)] w fun e w' => (∃ us, e = .returned (.agg us.toArray) ∧ us.length = 5 ∧ us.toArray.all (·.oneCell') = true ∧ MadeSy w w' us s) ∧ Upd [] w w' := by
  obtain ⟨i0, hi, hz0, hz1, hz2⟩ := info_parts Tryz.infoDe
  obtain ⟨i1, hj, hy0, hy1, hy2⟩ := info_parts Tryz.infoCo
  obtain ⟨i2, hk2, hx0, hx1, hx2⟩ := info_parts Tryz.infoMe
  obtain ⟨i3, hk3, hw0, hw1, hw2⟩ := info_parts Tryz.info9
  obtain ⟨⟨v0, v1, v2, v3, v4, f0, f1, f2, f3, f4, rfl, h0, h1, h2, h3, h4, rfl⟩, hcc⟩ := hA
  have HM2 := Lib.hid h2
  have HM3 := Lib.hid h3
  have HM4 := Lib.hid h4
  obtain ⟨a0, q0, rfl, d1, d2, hd⟩ := slQ_open h0
  obtain ⟨a1, q1, rfl, l1, l2, hl⟩ := slQ_open h1
  obtain ⟨a2, q2, rfl, -, -, -⟩ := slQ_open h2
  obtain ⟨a3, q3, rfl, -, -, -⟩ := slF1_open h3
  obtain ⟨a4, q4, rfl, -, -, -⟩ := slF1_open h4
  unfold maxLen at d2 l2
  have HD := Lib.hid hd
  have HL := Lib.hid hl
  have HF := Lib.hid hF
  have HCA := Lib.hid (fun W (hu : Upd [] w W) => show W.cell? ⟨Bs, 0, none⟩ = some (.slice a0 s.defs.length q0) ∧ W.cell? ⟨Bs, 1, none⟩ = some (.slice a1 s.comps.length q1) ∧ W.cell? ⟨Bs, 2, none⟩ = some (.slice a2 s.meets.length q2) ∧ W.cell? ⟨Bs, 3, none⟩ = some (.slice a3 s.allow.length q3) ∧ W.cell? ⟨Bs, 4, none⟩ = some (.slice a4 s.hide.length q4) from
    ⟨hu.keep (hcc 0 _ rfl), hu.keep (hcc 1 _ rfl), hu.keep (hcc 2 _ rfl), hu.keep (hcc 3 _ rfl), hu.keep (hcc 4 _ rfl)⟩)
  obtain ⟨B, hB⟩ : ∃ B, B = w.heap.size := ⟨_, rfl⟩
  obtain ⟨wA, hwA⟩ : ∃ wA, wA = w.alloc (.cells #[.slice none 0 0, .slice none 0 0, .slice none 0 0, .slice none 0 0, .slice none 0 0] 29) := ⟨_, rfl⟩
  have uA : Upd [] w wA := by rw [hwA]; exact (Upd.refl _ _).alloc _
  have HRB := Lib.hid (show RowAt wA B 29 zerosSy by rw [hwA, hB]; exact RowAt.new _ _ _)
  have UA := Lib.hid uA
  have HBB := Lib.hid hB
  clear h0 h1 h2 h3 h4 hd hl hF hcc uA
  go_enter Tryz.func53, Tryz.ntmps53
  go_upto_region 1 with (fail)
  rw [← hwA, ← hB]
  clear hwA hB
  obtain ⟨wz, hwz⟩ : ∃ q, q = ((wA.alloc (.cells #[] 90)).alloc (.cells #[] 38)).alloc (.cells #[.slice (some ⟨wA.heap.size, 0, none⟩) 0 0, .slice (some ⟨wA.heap.size + 1, 0, none⟩) 0 0, .slice none 0 0, .slice none 0 0, .slice none 0 0] 29) := ⟨_, rfl⟩
  have hZ1 : RowAt wz wA.heap.size 90 [] := by rw [hwz]; exact (RowAt.new wA 90 []).upd (((Upd.refl [] _).alloc _).alloc _) (by simp)
  have hZ2 : RowAt wz (wA.heap.size + 1) 38 [] := by
    have h := (RowAt.new (wA.alloc (.cells #[] 90)) 38 []).upd ((Upd.refl [] _).alloc (.cells #[.slice (some ⟨wA.heap.size, 0, none⟩) 0 0, .slice (some ⟨wA.heap.size + 1, 0, none⟩) 0 0, .slice none 0 0, .slice none 0 0, .slice none 0 0] 29)) (by simp)
    rw [hwz]; simpa using h
  have hZ3 : RowAt wz (wA.heap.size + 1 + 1) 29 [.slice (some ⟨wA.heap.size, 0, none⟩) 0 0, .slice (some ⟨wA.heap.size + 1, 0, none⟩) 0 0, .slice none 0 0, .slice none 0 0, .slice none 0 0] := by
    have h := RowAt.new ((wA.alloc (.cells #[] 90)).alloc (.cells #[] 38)) 29 [.slice (some ⟨wA.heap.size, 0, none⟩) 0 0, .slice (some ⟨wA.heap.size + 1, 0, none⟩) 0 0, .slice none 0 0, .slice none 0 0, .slice none 0 0]
    rw [hwz]; simpa using h
  have uz : Upd [] wA wz := by rw [hwz]; exact (((Upd.refl _ _).alloc _).alloc _).alloc _
  go_upto_region 2 with (fail)
  rw [← hwz]
  obtain ⟨Z, hZ⟩ : ∃ q, q = wA.heap.size + 1 + 1 := ⟨_, rfl⟩
  obtain ⟨z2, hz2'⟩ : ∃ q, q = wA.heap.size + 1 := ⟨_, rfl⟩
  obtain ⟨z1, hz1'⟩ : ∃ q, q = wA.heap.size := ⟨_, rfl⟩
  have hZa : z1 < z2 ∧ z2 < Z ∧ wA.heap.size ≤ z1 := by omega
  rw [← hZ] at hZ3 ⊢
  rw [← hz2'] at hZ2 hZ3
  rw [← hz1'] at hZ1 hZ3
  clear hwz hZ hz2' hz1'
  obtain ⟨hZa1, hZa2, hZa3⟩ := hZa
  have HU0 := Lib.hid uz
  have HR0 := Lib.hid hZ3
  have HQ0 := Lib.hid hZ2
  have HAC0 := Lib.hid (show AccZ 3 R_De wA.heap.size 90 [Z, z2] wz (.slice (some ⟨z1, 0, none⟩) 0 0) ([] : List De) from AccZ.start (row_empty hZ1 hZa3 3) (by simp; omega) (by intro b hb; simp at hb; rcases hb with rfl | rfl; exact hZ3.lt; exact hZ2.lt))
  clear hZ1 hZ2 hZ3 uz
  go_wp2_with fail
  go_loopw [4] (fun iv wr => ∃ (k : Nat) (sv : Value), k ≤ s.defs.length ∧ iv = .int .i64 k ∧ Hid (Upd [] wA wr) ∧ Hid (RowAt wr Z 29 [sv, .slice (some ⟨z2, 0, none⟩) 0 0, .slice none 0 0, .slice none 0 0, .slice none 0 0]) ∧ Hid (RowAt wr z2 38 []) ∧ Hid (AccZ 3 R_De wA.heap.size 90 [Z, z2] wr sv (s.defs.take k))) (fun iv _ => s.defs.length - (intOf iv).toNat)
  case atStart => exact ⟨0, _, Nat.zero_le _, rfl, HU0, HR0, HQ0, HAC0⟩
  case round =>
    clear HU0 HR0 HQ0 HAC0
    obtain ⟨wo, rfl⟩ : ∃ wo : World, wo = wr := ⟨_, rfl⟩
    obtain ⟨k, sv, hk, rfl, HU, HRZ, HQZ, HAC⟩ := hrel
    obtain ⟨m0, -, -, -, -⟩ := HCA.out wo (UA.out.trans HU.out)
    by_cases hlt : k < s.defs.length
    · obtain ⟨bb, off, u, f', rfl, -, -, -, hcell, -, hr⟩ := HD.out k hlt
      obtain ⟨v5, f5, rfl, hv, rfl⟩ := hr
      have uw := UA.out.trans HU.out
      have s0 := uw.keep (hcell 0 _ rfl)
      have s1 := uw.keep (hcell 1 _ rfl)
      simp only [Nat.add_zero] at s0
      have hkl : (k : Int) < (s.defs.length : Int) := by omega
      have s2 := uw.keep (hcell 2 _ rfl)
      obtain ⟨⟨-, hb9⟩, hfa⟩ := HF.out.body _ (List.getElem_mem hlt)
      have hk9 : k ≤ 1000000 := by have := HF.out.dl; omega
      have HTK := Lib.hid (List.take_succ_eq_append_getElem hlt)
      have htl : (s.defs.take k).length = k := by rw [List.length_take]; omega
      have HTL := Lib.hid htl
      obtain ⟨us, hown, hrows, hvZ, hexl⟩ := HAC.out
      rw [htl] at hown
      have HOW := Lib.hid hown
      have HRW := Lib.hid hrows
      have HVZ := Lib.hid hvZ
      have HEX := Lib.hid hexl
      obtain ⟨ca, cc, rfl⟩ := ownsRow_form hown
      have hszo := HU.out.size
      generalize s.defs[k] = d at *
      have S1 := Lib.hid (fun W (hu : Upd [] wo W) => ownBodyS v5 d.body W f5 hb9 hfa (R_Pa1k.upd hv (uw.trans hu) (by simp)))
      obtain ⟨a5, q5, rfl, -, -, -⟩ := slQ_open hv
      obtain ⟨wD, hwD⟩ : ∃ q, q = wo.alloc (.cells #[es d.name, ei d.pars, .slice a5 d.body.length q5] 90) := ⟨_, rfl⟩
      obtain ⟨D, hD⟩ : ∃ q, q = wo.heap.size := ⟨_, rfl⟩
      have uD : Upd [] wo wD := by rw [hwD]; exact (Upd.refl _ _).alloc _
      have HRD := Lib.hid (show RowAt wD D 90 [es d.name, ei d.pars, .slice a5 d.body.length q5] by rw [hwD, hD]; exact RowAt.new _ _ _)
      have HDO := Lib.hid hD
      have T1 := Lib.hid (S1.out wD uD)
      have UD := Lib.hid uD
      have t5 := uD.keep s2
      have t0 := uD.keep m0
      go_upto_region 6 with (fail)
      rw [← hwD, ← hD]
      clear hwD hD s0 s1 s2 uD uw hv hcell htl hown hrows hvZ hexl HAC S1 hfa hb9
      go_wp2_with fail
      refine T1.out.mono ?_
      rintro e w1 ⟨⟨v', rfl, hnew⟩, hu1⟩
      obtain ⟨x5, y5, rfl⟩ := hnew.formQ
      have hr1 := HRD.out.upd hu1 (by simp)
      have c5 := hr1.cell 2 _ rfl
      have z5 := hr1.fz 2
      obtain ⟨wE, hwE⟩ : ∃ q, q = w1.setCell ⟨D, 2, none⟩ (.slice x5 d.body.length y5) := ⟨_, rfl⟩
      have hrE : RowAt wE D 90 [es d.name, ei d.pars, .slice x5 d.body.length y5] := by rw [hwE]; exact hr1.store 2 _
      have uDE : Upd [D] w1 wE := by rw [hwE]; exact (Upd.refl _ _).setCell (Or.inr (by simp)) _
      have huo : Upd [] wo wE := by rw [hwE]; exact (UD.out.trans hu1).setCell (Or.inl (show wo.heap.size ≤ D by have := HDO.out; omega)) _
      have hDD := HRD.out.lt
      have hnq : NewQ R_De wo wE [es d.name, ei d.pars, .slice x5 d.body.length y5] d := by
        obtain ⟨fb, n1, n2, n3⟩ := hnew
        have hnD : ∀ b ∈ fb, b ∉ [D] := fun b hb hm => by have := n3 b hb; simp at hm; omega
        exact ⟨fb ++ [], ⟨_, fb, rfl, R_Pa1k.upd n1 uDE hnD, rfl⟩, by simpa using n2.upd uDE hnD, fun b hb => by have := n3 b (by simpa using hb); have := UD.out.size; omega⟩
      have r0 := hrE.cell 0 _ rfl
      have r1 := hrE.cell 1 _ rfl
      have r2 := hrE.cell 2 _ rfl
      have hrz := HRZ.out.upd huo (by simp)
      have c0 := hrz.cell 0 _ rfl
      have HNQ := Lib.hid hnq
      have HUO := Lib.hid huo
      have HRZ2 := Lib.hid hrz
      have hown1 := ownsRow_upd HOW.out huo
      have hle1 := huo.size
      go_upto_region 7 with (fail)
      rw [← hwE]
      clear hwE hrE uDE huo hnq hnew hu1 hr1 c5 z5 t5 t0 T1 hrz
      go_wp2_with (first
        | (at_builtin; refine wpList_append_tight _ rfl _ _ 24 rfl wA.heap.size 90 i0 (.agg #[.string ⟨#[]⟩, .int .i64 0, .slice none 0 0]) 3 48 Tryz.underlying24 hi hz0 hz1 hz2 rfl (by decide) _ _ _ rfl (hown1.alloc _) ⟨wE.heap.size, 0, none⟩ 1 1 [es d.name, ei d.pars, .slice x5 d.body.length y5] rfl rfl (fun j u hj => by rw [addr_add, Nat.zero_add]; exact cell_new wE #[es d.name, ei d.pars, .slice x5 d.body.length y5] _ _ rfl j u (by simpa using hj)) (by simp [Value.oneCell']) (by unfold maxLen; omega) (by omega) (by simp; omega) ?_)
        | fail)
      intro v2 w5 hown2 hg2 ht2
      have hgg : (wE.alloc (.cells #[es d.name, ei d.pars, .slice x5 d.body.length y5] 90)).grownBy w5 (Value.slice ca k cc).ownBlock := hg2
      have hacc := AccZ.push (w := wo) (ex := [Z, z2]) R_Dek (by rw [HTL.out]; exact HOW.out) HRW.out HVZ.out HEX.out hszo HUO.out HNQ.out rfl (.cells #[es d.name, ei d.pars, .slice x5 d.body.length y5] 90) (by rw [HTL.out]; exact hown2) hgg (fun c hc => by
        rcases ht2 c hc with h | h
        · exact Or.inl h
        · exact Or.inr (by simpa using h))
      rw [← HTK.out] at hacc
      have hv5 : Upd (Value.slice ca k cc).ownBlock.toList (wE.alloc (.cells #[es d.name, ei d.pars, .slice x5 d.body.length y5] 90)) w5 := (Upd.refl _ _).grown hgg (fun k hk => Or.inr (by simp [hk]))
      have ual := (Upd.refl [] wE).alloc (.cells #[es d.name, ei d.pars, .slice x5 d.body.length y5] 90)
      have hrz5 := (HRZ2.out.upd ual (by simp)).upd hv5 (by intro hm; exact HVZ.out Z (by simpa using hm) (by simp))
      obtain ⟨cb, cd, rfl⟩ := ownsRow_form hown2
      have c5 := hrz5.cell 0 _ rfl
      have z5 := hrz5.fz 0
      have uZ : Upd [Z] w5 (w5.setCell ⟨Z, 0, none⟩ (.slice cb (k + 1) cd)) := (Upd.refl _ _).setCell (Or.inr (by simp)) _
      have HAC6 := Lib.hid (hacc.put R_Dek uZ (by simp))
      have HR6 := Lib.hid (hrz5.store 0 (.slice cb (k + 1) cd))
      have HU6 := Lib.hid (show Upd [] wA (w5.setCell ⟨Z, 0, none⟩ (.slice cb (k + 1) cd)) from (((HU.out.trans HUO.out).alloc _).grown hgg (fun c hc => Or.inl (HOW.out.lt c hc).1)).setCell (Or.inl (show wA.heap.size ≤ Z by omega)) _)
      have HX6 := Lib.hid ((((HQZ.out.upd HUO.out (by simp)).upd ual (by simp)).upd hv5 (by intro hm; exact HVZ.out z2 (by simpa using hm) (by simp))).other Z 0 (.slice cb (k + 1) cd) (by omega))
      clear hown2 hg2 ht2 hgg hacc hv5 hrz5 hown1 c0 r0 r1 r2 uZ ual
      go_wp2_with fail
      go_roundw
      case rel => exact ⟨k + 1, _, by omega, by go_num, HU6, HR6, HX6, HAC6⟩
      case measure => simp [intOf]; omega
    · obtain rfl : k = s.defs.length := by omega
      have hkk : ¬ ((s.defs.length : Nat) : Int) < (s.defs.length : Int) := by omega
      have ha := HAC.out
      rw [List.take_length] at ha
      obtain ⟨fs, hsl, hso, hsb⟩ := ha.new (w0 := wA) rfl
      obtain ⟨ca0, cc0, rfl⟩ := ha.form
      obtain ⟨wq, rfl⟩ : ∃ wq : World, wq = wo := ⟨_, rfl⟩
      have HG0 := Lib.hid (And.intro hsl hso)
      have HSB := Lib.hid (show ∀ c ∈ fs, wA.heap.size ≤ c ∧ c ≠ Z ∧ c ≠ z2 from fun c hc => ⟨(hsb c hc).1, by have := (hsb c hc).2; simp at this; exact this⟩)
      have hex : ∀ c ∈ Z :: fs, c < wq.heap.size := fun c hc => by
        rcases List.mem_cons.1 hc with rfl | hc
        · exact HRZ.out.lt
        · exact R_De1k.lt hsl c hc
      have HAC0 := Lib.hid (show AccZ 2 R_Co wA.heap.size 38 (Z :: fs) wq (.slice (some ⟨z2, 0, none⟩) 0 0) ([] : List Co) from AccZ.start (row_empty HQZ.out (by omega) 2) (by
        intro hm
        rcases List.mem_cons.1 hm with h | h
        · omega
        · exact (HSB.out z2 h).2.2 rfl) hex)
      clear ha hsl hso hsb hex HAC HQZ
      go_wp2_with fail
      clear m0
      go_loopw [6] (fun iv wr => ∃ (k : Nat) (tv : Value), k ≤ s.comps.length ∧ iv = .int .i64 k ∧ Hid (Upd [] wA wr) ∧ Hid (RowAt wr Z 29 [.slice ca0 s.defs.length cc0, tv, .slice none 0 0, .slice none 0 0, .slice none 0 0]) ∧ Hid (AccZ 2 R_Co wA.heap.size 38 (Z :: fs) wr tv (s.comps.take k)) ∧ Hid (R_De1 fs wr [.slice ca0 s.defs.length cc0] s.defs ∧ Own fs wr)) (fun iv _ => s.comps.length - (intOf iv).toNat)
      case atStart => exact ⟨0, _, Nat.zero_le _, rfl, HU, HRZ, HAC0, HG0⟩
      case round =>
        clear HU HRZ HAC0 HG0
        obtain ⟨wo, rfl⟩ : ∃ wo : World, wo = wr := ⟨_, rfl⟩
        obtain ⟨k, tv, hk, rfl, HU, HRZ, HAC, HG⟩ := hrel
        obtain ⟨-, m1, -, -, -⟩ := HCA.out wo (UA.out.trans HU.out)
        by_cases hlt : k < s.comps.length
        · obtain ⟨bb, off, u, f', rfl, -, -, -, hcell, -, hr⟩ := HL.out k hlt
          obtain ⟨v5, f5, rfl, hv, rfl⟩ := hr
          have uw := UA.out.trans HU.out
          have s0 := uw.keep (hcell 0 _ rfl)
          have s1 := uw.keep (hcell 1 _ rfl)
          simp only [Nat.add_zero] at s0
          have hkl : (k : Int) < (s.comps.length : Int) := by omega
          have hvl := HF.out.vals _ (List.getElem_mem hlt)
          have hk9 : k ≤ 1000000 := by have := HF.out.cl; omega
          have HTK := Lib.hid (List.take_succ_eq_append_getElem hlt)
          have htl : (s.comps.take k).length = k := by rw [List.length_take]; omega
          have HTL := Lib.hid htl
          obtain ⟨us, hown, hrows, hvZ, hexl⟩ := HAC.out
          rw [htl] at hown
          have HOW := Lib.hid hown
          have HRW := Lib.hid hrows
          have HVZ := Lib.hid hvZ
          have HEX := Lib.hid hexl
          obtain ⟨ca, cc, rfl⟩ := ownsRow_form hown
          have hszo := HU.out.size
          generalize s.comps[k] = c at *
          have S1 := Lib.hid (fun W (hu : Upd [] wo W) => ownIS v5 c.vals W f5 (by omega) (R_I1k.upd hv (uw.trans hu) (by simp)))
          obtain ⟨a5, q5, rfl, -, -, -⟩ := slF1_open hv
          obtain ⟨wD, hwD⟩ : ∃ q, q = wo.alloc (.cells #[ei c.dfn, .slice a5 c.vals.length q5] 38) := ⟨_, rfl⟩
          obtain ⟨D, hD⟩ : ∃ q, q = wo.heap.size := ⟨_, rfl⟩
          have uD : Upd [] wo wD := by rw [hwD]; exact (Upd.refl _ _).alloc _
          have HRD := Lib.hid (show RowAt wD D 38 [ei c.dfn, .slice a5 c.vals.length q5] by rw [hwD, hD]; exact RowAt.new _ _ _)
          have HDO := Lib.hid hD
          have T1 := Lib.hid (S1.out wD uD)
          have UD := Lib.hid uD
          have t5 := uD.keep s1
          have t0 := uD.keep m1
          go_upto_region 12 with (fail)
          rw [← hwD, ← hD]
          clear hwD hD s0 s1 uD uw hv hcell htl hown hrows hvZ hexl HAC S1 
          go_wp2_with fail
          refine T1.out.mono ?_
          rintro e w1 ⟨⟨v', rfl, hnew⟩, hu1⟩
          obtain ⟨x5, y5, rfl⟩ := hnew.form
          have hr1 := HRD.out.upd hu1 (by simp)
          have c5 := hr1.cell 1 _ rfl
          have z5 := hr1.fz 1
          obtain ⟨wE, hwE⟩ : ∃ q, q = w1.setCell ⟨D, 1, none⟩ (.slice x5 c.vals.length y5) := ⟨_, rfl⟩
          have hrE : RowAt wE D 38 [ei c.dfn, .slice x5 c.vals.length y5] := by rw [hwE]; exact hr1.store 1 _
          have uDE : Upd [D] w1 wE := by rw [hwE]; exact (Upd.refl _ _).setCell (Or.inr (by simp)) _
          have huo : Upd [] wo wE := by rw [hwE]; exact (UD.out.trans hu1).setCell (Or.inl (show wo.heap.size ≤ D by have := HDO.out; omega)) _
          have hDD := HRD.out.lt
          have hnq : NewQ R_Co wo wE [ei c.dfn, .slice x5 c.vals.length y5] c := by
            obtain ⟨fb, n1, n2, n3⟩ := hnew
            have hnD : ∀ b ∈ fb, b ∉ [D] := fun b hb hm => by have := n3 b hb; simp at hm; omega
            exact ⟨fb ++ [], ⟨_, fb, rfl, R_I1k.upd n1 uDE hnD, rfl⟩, by simpa using n2.upd uDE hnD, fun b hb => by have := n3 b (by simpa using hb); have := UD.out.size; omega⟩
          have r0 := hrE.cell 0 _ rfl
          have r1 := hrE.cell 1 _ rfl
          have hrz := HRZ.out.upd huo (by simp)
          have c0 := hrz.cell 1 _ rfl
          have HNQ := Lib.hid hnq
          have HUO := Lib.hid huo
          have HRZ2 := Lib.hid hrz
          have hown1 := ownsRow_upd HOW.out huo
          have hle1 := huo.size
          go_upto_region 13 with (fail)
          rw [← hwE]
          clear hwE hrE uDE huo hnq hnew hu1 hr1 c5 z5 t5 t0 T1 hrz
          go_wp2_with (first
            | (at_builtin; refine wpList_append_tight _ rfl _ _ 25 rfl wA.heap.size 38 i1 (.agg #[.int .i64 0, .slice none 0 0]) 2 32 Tryz.underlying25 hj hy0 hy1 hy2 rfl (by decide) _ _ _ rfl (hown1.alloc _) ⟨wE.heap.size, 0, none⟩ 1 1 [ei c.dfn, .slice x5 c.vals.length y5] rfl rfl (fun j u hj => by rw [addr_add, Nat.zero_add]; exact cell_new wE #[ei c.dfn, .slice x5 c.vals.length y5] _ _ rfl j u (by simpa using hj)) (by simp [Value.oneCell']) (by unfold maxLen; omega) (by omega) (by simp; omega) ?_)
            | fail)
          intro v2 w5 hown2 hg2 ht2
          have hgg : (wE.alloc (.cells #[ei c.dfn, .slice x5 c.vals.length y5] 38)).grownBy w5 (Value.slice ca k cc).ownBlock := hg2
          have hacc := AccZ.push (w := wo) (ex := (Z :: fs)) R_Cok (by rw [HTL.out]; exact HOW.out) HRW.out HVZ.out HEX.out hszo HUO.out HNQ.out rfl (.cells #[ei c.dfn, .slice x5 c.vals.length y5] 38) (by rw [HTL.out]; exact hown2) hgg (fun c hc => by
            rcases ht2 c hc with h | h
            · exact Or.inl h
            · exact Or.inr (by simpa using h))
          rw [← HTK.out] at hacc
          have hv5 : Upd (Value.slice ca k cc).ownBlock.toList (wE.alloc (.cells #[ei c.dfn, .slice x5 c.vals.length y5] 38)) w5 := (Upd.refl _ _).grown hgg (fun k hk => Or.inr (by simp [hk]))
          have ual := (Upd.refl [] wE).alloc (.cells #[ei c.dfn, .slice x5 c.vals.length y5] 38)
          have hrz5 := (HRZ2.out.upd ual (by simp)).upd hv5 (by intro hm; exact HVZ.out Z (by simpa using hm) (by simp))
          obtain ⟨cb, cd, rfl⟩ := ownsRow_form hown2
          have c5 := hrz5.cell 1 _ rfl
          have z5 := hrz5.fz 1
          have uZ : Upd [Z] w5 (w5.setCell ⟨Z, 1, none⟩ (.slice cb (k + 1) cd)) := (Upd.refl _ _).setCell (Or.inr (by simp)) _
          have HAC6 := Lib.hid (hacc.put R_Cok uZ (by simp))
          have HR6 := Lib.hid (hrz5.store 1 (.slice cb (k + 1) cd))
          have HU6 := Lib.hid (show Upd [] wA (w5.setCell ⟨Z, 1, none⟩ (.slice cb (k + 1) cd)) from (((HU.out.trans HUO.out).alloc _).grown hgg (fun c hc => Or.inl (HOW.out.lt c hc).1)).setCell (Or.inl (show wA.heap.size ≤ Z by omega)) _)
          have hgo : ∀ c ∈ fs, c ∉ (Value.slice ca k cc).ownBlock.toList := fun c hc hm => HVZ.out c (by simpa using hm) (by simp [hc])
          have hgz : ∀ c ∈ fs, c ∉ [Z] := fun c hc hm => (HSB.out c hc).2.1 (by simpa using hm)
          have HX6 := Lib.hid (And.intro (R_De1k.upd (R_De1k.upd (R_De1k.upd (R_De1k.upd HG.out.1 HUO.out (by simp)) ual (by simp)) hv5 hgo) uZ hgz) ((((HG.out.2.upd HUO.out (by simp)).upd ual (by simp)).upd hv5 hgo).upd uZ hgz))
          clear hgo hgz
          clear hown2 hg2 ht2 hgg hacc hv5 hrz5 hown1 c0 r0 r1 uZ ual
          go_wp2_with fail
          go_roundw
          case rel => exact ⟨k + 1, _, by omega, by go_num, HU6, HR6, HAC6, HX6⟩
          case measure => simp [intOf]; omega
        · obtain rfl : k = s.comps.length := by omega
          have hkk2 : ¬ ((s.comps.length : Nat) : Int) < (s.comps.length : Int) := by omega
          have ha := HAC.out
          rw [List.take_length] at ha
          obtain ⟨ca1, cc1, rfl⟩ := ha.form
          obtain ⟨wr0, rfl⟩ : ∃ wr0 : World, wr0 = wo := ⟨_, rfl⟩
          have HGC := Lib.hid ha
          have UW0 := Lib.hid (UA.out.trans HU.out)
          have HU0 := Lib.hid HU.out
          have HRZ0 := Lib.hid HRZ.out
          obtain ⟨-, -, m2, -, -⟩ := HCA.out wr0 UW0.out
          clear ha HAC HU HRZ
          obtain ⟨us, fb2, hul, hun, hF2, -, hr2⟩ := slQ_flat (R_Me1k.upd HM2.out UW0.out (by simp)) (by decide)
          have hr3 : ∀ i (h : i < s.meets.length) u, us[i]? = some u → ∀ W : World, R_Me [] W u s.meets[i] := fun i h u hu W => by
            obtain ⟨f, -, e, -⟩ := hr2 i h u hu
            exact ⟨e, rfl⟩
          have hO2 := one_flat (us := us) (fun u hu => by
            obtain ⟨i, hi, rfl⟩ := List.mem_iff_getElem.1 hu
            exact one_Me (hr3 i (by omega) _ (List.getElem?_eq_getElem hi) w))
          have hF := hF2.upd ((Upd.refl [] wr0).alloc (.cells #[] 70)) (by simp)
          have hlit : (wr0.alloc (.cells #[] 70)).ownsRow wr0.heap.size 70 3 (.slice (some ⟨wr0.heap.size, 0, none⟩) 0 0) 0 [] := by
            simpa using World.ownsRow_lit (base := wr0.heap.size) (e := 70) (size := 3) wr0 #[] 0 (Nat.le_refl _) (by simp [maxLen]) (by simp)
          have hml9 := HF.out.ml
          have cz := HRZ0.out
          have ma := ((Upd.refl [] wr0).alloc (.cells #[] 70)).keep m2
          go_wp2_with (first
            | (at_builtin; refine wpList_append_flat rfl _ _ 26 rfl wr0.heap.size 70 i2 (.agg #[.string ⟨#[]⟩, .string ⟨#[]⟩, .string ⟨#[]⟩]) 3 48 Tryz.underlying26 hk2 hx0 hx1 hx2 rfl (by decide) _ _ _ rfl hlit _ s.meets.length _ rfl _ hF hO2 (by unfold maxLen; omega) (by omega) (by simp) ?_)
            | fail)
          intro v2 u2 hown2 hg2 ht2
          try simp only [Nat.zero_add, List.nil_append] at hown2
          have hu2 : Upd [] wr0 u2 := ((Upd.refl [] wr0).alloc _).grown hg2 (fun k hk => Or.inl (hlit.lt k hk).1)
          obtain ⟨x2, y2, rfl⟩ := ownsRow_form hown2
          have hn2 : New R_Me1 wr0 u2 (.slice x2 s.meets.length y2) s.meets := shallow_new (e := 70) hown2 hul hun (fun i h u hu => hr3 i h u hu _)
          have hT2 := cz.upd hu2 (by simp)
          have c2 := hT2.cell 2 _ rfl
          have z2 := hT2.fz 2
          obtain ⟨W2, hW2⟩ : ∃ q, q = u2.setCell ⟨Z, 2, none⟩ (.slice x2 s.meets.length y2) := ⟨_, rfl⟩
          have HRZ1 := Lib.hid (hT2.store 2 (.slice x2 s.meets.length y2))
          rw [← hW2] at HRZ1
          have HUU2 := Lib.hid hu2
          have HN2 := Lib.hid hn2
          have HD2 := Lib.hid (show Upd [Z] u2 W2 from by rw [hW2]; exact (Upd.refl _ _).setCell (Or.inr (by simp)) _)
          have HU1 := Lib.hid (show Upd [] wA W2 from by rw [hW2]; exact (HU0.out.trans hu2).setCell (Or.inl (show wA.heap.size ≤ Z by omega)) _)
          have UW1 := Lib.hid (UA.out.trans HU1.out)
          clear hn2 hu2 hT2 hown2 hg2 ht2 hlit hF cz hml9 ma hul hun hF2 hr2 hr3 hO2
          go_upto_region 15 with (fail)
          rw [← hW2]
          clear hW2 c2 z2 m2
          obtain ⟨-, -, -, m3, -⟩ := HCA.out W2 UW1.out
          have hF := Flat.ofS1 (R_S1k.upd HM3.out (UW1.out.trans ((Upd.refl [] W2).alloc (.cells #[] 9))) (by simp))
          have hlit : (W2.alloc (.cells #[] 9)).ownsRow W2.heap.size 9 1 (.slice (some ⟨W2.heap.size, 0, none⟩) 0 0) 0 [] := by
            simpa using World.ownsRow_lit (base := W2.heap.size) (e := 9) (size := 1) W2 #[] 0 (Nat.le_refl _) (by simp [maxLen]) (by simp)
          have hml9 := HF.out.al
          have cz := HRZ1.out
          have ma := ((Upd.refl [] W2).alloc (.cells #[] 9)).keep m3
          go_wp2_with (first
            | (at_builtin; refine wpList_append_flat rfl _ _ 27 rfl W2.heap.size 9 i3 (es []) 1 16 Tryz.underlying27 hk3 hw0 hw1 hw2 rfl (by decide) _ _ _ rfl hlit _ s.allow.length _ rfl _ hF (one_S1 s.allow) (by unfold maxLen; omega) (by omega) (by simp) ?_)
            | fail)
          intro v2 u3 hown2 hg2 ht2
          try simp only [Nat.zero_add, List.nil_append] at hown2
          have hu3 : Upd [] W2 u3 := ((Upd.refl [] W2).alloc _).grown hg2 (fun k hk => Or.inl (hlit.lt k hk).1)
          obtain ⟨x3, y3, rfl⟩ := ownsRow_form hown2
          have hn3 : New R_S1 W2 u3 (.slice x3 s.allow.length y3) s.allow := New.ofOwns (e := 9) (by simpa using hown2)
          have hT3 := cz.upd hu3 (by simp)
          have c3 := hT3.cell 3 _ rfl
          have z3 := hT3.fz 3
          obtain ⟨W3, hW3⟩ : ∃ q, q = u3.setCell ⟨Z, 3, none⟩ (.slice x3 s.allow.length y3) := ⟨_, rfl⟩
          have HRZ2 := Lib.hid (hT3.store 3 (.slice x3 s.allow.length y3))
          rw [← hW3] at HRZ2
          have HUU3 := Lib.hid hu3
          have HN3 := Lib.hid hn3
          have HD3 := Lib.hid (show Upd [Z] u3 W3 from by rw [hW3]; exact (Upd.refl _ _).setCell (Or.inr (by simp)) _)
          have HU2 := Lib.hid (show Upd [] wA W3 from by rw [hW3]; exact (HU1.out.trans hu3).setCell (Or.inl (show wA.heap.size ≤ Z by omega)) _)
          have UW2 := Lib.hid (UA.out.trans HU2.out)
          clear hn3 hu3 hT3 hown2 hg2 ht2 hlit hF cz hml9 ma
          go_upto_region 16 with (fail)
          rw [← hW3]
          clear hW3 c3 z3 m3
          obtain ⟨-, -, -, -, m4⟩ := HCA.out W3 UW2.out
          have hF := Flat.ofS1 (R_S1k.upd HM4.out (UW2.out.trans ((Upd.refl [] W3).alloc (.cells #[] 9))) (by simp))
          have hlit : (W3.alloc (.cells #[] 9)).ownsRow W3.heap.size 9 1 (.slice (some ⟨W3.heap.size, 0, none⟩) 0 0) 0 [] := by
            simpa using World.ownsRow_lit (base := W3.heap.size) (e := 9) (size := 1) W3 #[] 0 (Nat.le_refl _) (by simp [maxLen]) (by simp)
          have hml9 := HF.out.hl
          have cz := HRZ2.out
          have ma := ((Upd.refl [] W3).alloc (.cells #[] 9)).keep m4
          go_wp2_with (first
            | (at_builtin; refine wpList_append_flat rfl _ _ 27 rfl W3.heap.size 9 i3 (es []) 1 16 Tryz.underlying27 hk3 hw0 hw1 hw2 rfl (by decide) _ _ _ rfl hlit _ s.hide.length _ rfl _ hF (one_S1 s.hide) (by unfold maxLen; omega) (by omega) (by simp) ?_)
            | fail)
          intro v2 u4 hown2 hg2 ht2
          try simp only [Nat.zero_add, List.nil_append] at hown2
          have hu4 : Upd [] W3 u4 := ((Upd.refl [] W3).alloc _).grown hg2 (fun k hk => Or.inl (hlit.lt k hk).1)
          obtain ⟨x4, y4, rfl⟩ := ownsRow_form hown2
          have hn4 : New R_S1 W3 u4 (.slice x4 s.hide.length y4) s.hide := New.ofOwns (e := 9) (by simpa using hown2)
          have hT4 := cz.upd hu4 (by simp)
          have c4 := hT4.cell 4 _ rfl
          have z4 := hT4.fz 4
          obtain ⟨W4, hW4⟩ : ∃ q, q = u4.setCell ⟨Z, 4, none⟩ (.slice x4 s.hide.length y4) := ⟨_, rfl⟩
          have HRZ3 := Lib.hid (hT4.store 4 (.slice x4 s.hide.length y4))
          rw [← hW4] at HRZ3
          have HUU4 := Lib.hid hu4
          have HN4 := Lib.hid hn4
          have HD4 := Lib.hid (show Upd [Z] u4 W4 from by rw [hW4]; exact (Upd.refl _ _).setCell (Or.inr (by simp)) _)
          have HU3 := Lib.hid (show Upd [] wA W4 from by rw [hW4]; exact (HU2.out.trans hu4).setCell (Or.inl (show wA.heap.size ≤ Z by omega)) _)
          have UW3 := Lib.hid (UA.out.trans HU3.out)
          clear hn4 hu4 hT4 hown2 hg2 ht2 hlit hF cz hml9 ma
          go_upto_region 17 with (fail)
          rw [← hW4]
          clear hW4 c4 z4 m4
          have hr5 := HRZ3.out
          have hres := HRB.out.upd HU3.out (by simp)
          unfold RowAt at hr5 hres
          go_wp2_with (first
            | (refine wpList_load_row rfl 29 _ rfl Z rfl 29 #[.slice ca0 s.defs.length cc0, .slice ca1 s.comps.length cc1, .slice x2 s.meets.length y2, .slice x3 s.allow.length y3, .slice x4 s.hide.length y4] (0, 0) _ hr5 Tryz.underlying29 rfl Sy_size ?_)
            | (refine wpList_store_row rfl 29 _ _ rfl B #[.slice ca0 s.defs.length cc0, .slice ca1 s.comps.length cc1, .slice x2 s.meets.length y2, .slice x3 s.allow.length y3, .slice x4 s.hide.length y4] rfl rfl 29 _ hres Sy_size rfl (by simp [Value.oneCell']) ?_)
            | fail)
          have hC := setRow_heap W4 B _ #[.slice ca0 s.defs.length cc0, .slice ca1 s.comps.length cc1, .slice x2 s.meets.length y2, .slice x3 s.allow.length y3, .slice x4 s.hide.length y4] _ _ hres
          refine bodyPost_ret (results_cell_row Tryz.results53 _ _ B 29 _ (0, 0) _ rfl hC Tryz.underlying29 rfl Sy_size) rfl ?_
          have hB := HBB.out
          have hbl := HRB.out.lt
          have hs0 := HRZ0.out.lt
          have hs2 := HUU2.out.size
          have hs3 := HUU3.out.size
          have hs4 := HUU4.out.size
          have ht2 := HD2.out.size
          have ht3 := HD3.out.size
          have ht4 := HD4.out.size
          have hsA := HU0.out.size
          have hsw := UA.out.size
          have DB : Upd [B] W4 (W4.setRow B #[.slice ca0 s.defs.length cc0, .slice ca1 s.comps.length cc1, .slice x2 s.meets.length y2, .slice x3 s.allow.length y3, .slice x4 s.hide.length y4]) := (Upd.refl _ _).row (Or.inr (by simp)) _
          have UE : Upd [] w (W4.setRow B #[.slice ca0 s.defs.length cc0, .slice ca1 s.comps.length cc1, .slice x2 s.meets.length y2, .slice x3 s.allow.length y3, .slice x4 s.hide.length y4]) := UW3.out.row (Or.inl (by omega)) _
          refine ⟨⟨[.slice ca0 s.defs.length cc0, .slice ca1 s.comps.length cc1, .slice x2 s.meets.length y2, .slice x3 s.allow.length y3, .slice x4 s.hide.length y4], rfl, rfl, by simp [Value.oneCell'], ?_⟩, UE⟩
          obtain ⟨g2, P2⟩ := Part.of R_Me1k HN2.out
          obtain ⟨g3, P3⟩ := Part.of R_S1k HN3.out
          obtain ⟨g4, P4⟩ := Part.of R_S1k HN4.out
          have P2 := ((((((P2.upd R_Me1k HD2.out (by simp; omega)).upd R_Me1k HUU3.out (by simp)).upd R_Me1k HD3.out (by simp; omega)).upd R_Me1k HUU4.out (by simp)).upd R_Me1k HD4.out (by simp; omega)).upd R_Me1k DB (by simp; omega))
          have P3 := ((((P3.upd R_S1k HD3.out (by simp; omega)).upd R_S1k HUU4.out (by simp)).upd R_S1k HD4.out (by simp; omega)).upd R_S1k DB (by simp; omega))
          have P4 := ((P4.upd R_S1k HD4.out (by simp; omega)).upd R_S1k DB (by simp; omega))
          have eZ : ∀ l : List Nat, (∀ c ∈ l, c ≠ Z) → ∀ c ∈ l, c ∉ [Z] := fun l h c hc hm => h c hc (by simpa using hm)
          have eR : ∀ l : List Nat, (∀ c ∈ l, wA.heap.size ≤ c) → ∀ c ∈ l, c ∉ [B] := fun l h c hc hm => by have := h c hc; simp at hm; omega
          have d2 := eZ fs (fun c hc => (HSB.out c hc).2.1)
          have d1 := eR fs (fun c hc => (HSB.out c hc).1)
          have r0 := R_De1k.upd (R_De1k.upd (R_De1k.upd (R_De1k.upd (R_De1k.upd (R_De1k.upd (R_De1k.upd HG.out.1 HUU2.out (by simp)) HD2.out d2) HUU3.out (by simp)) HD3.out d2) HUU4.out (by simp)) HD4.out d2) DB d1
          have o0 := ((((((HG.out.2.upd HUU2.out (by simp)).upd HD2.out d2).upd HUU3.out (by simp)).upd HD3.out d2).upd HUU4.out (by simp)).upd HD4.out d2).upd DB d1
          have lf := R_De1k.lt HG.out.1
          have UZ : Upd [Z, B] wr0 (W4.setRow B #[.slice ca0 s.defs.length cc0, .slice ca1 s.comps.length cc1, .slice x2 s.meets.length y2, .slice x3 s.allow.length y3, .slice x4 s.hide.length y4]) := (((((((Upd.refl [Z, B] wr0).fresh HUU2.out (by simp)).fresh HD2.out (by simp)).fresh HUU3.out (by simp)).fresh HD3.out (by simp)).fresh HUU4.out (by simp)).fresh HD4.out (by simp)).fresh DB (by simp)
          have e0 := R_De1k.lt r0
          have e2 := R_Me1k.lt P2.r
          have e3 := R_S1k.lt P3.r
          have e4 := R_S1k.lt P4.r
          refine ⟨_, _, _, _, _, fs, g2, g3, g4, rfl, r0, P2.r, P3.r, P4.r, own_join o0 (own_join P2.o (own_join P3.o P4.o (fun c h1 h2 => by have := P3.b c h1; have := P4.b c h2; omega)) (fun c h1 h2 => ?_)) (fun c h1 h2 => ?_), fun c hc => ?_, HGC.out.reex R_Cok UZ (fun c hc => ?_) (by omega) (fun c hc => ?_) (fun c hc => ?_)⟩
          · have := P2.b c h1
            rcases List.mem_append.1 h2 with h2 | h2
            · have := P3.b c h2; omega
            · have := P4.b c h2; omega
          · have := lf c h1
            simp only [List.mem_append] at h2
            rcases h2 with h2 | h2 | h2
            · have := P2.b c h2; omega
            · have := P3.b c h2; omega
            · have := P4.b c h2; omega
          · simp only [List.mem_append] at hc
            rcases hc with hc | hc | hc | hc
            · have := HSB.out c hc; omega
            · have := P2.b c hc; omega
            · have := P3.b c hc; omega
            · have := P4.b c hc; omega
          · simp only [List.mem_cons, List.not_mem_nil, or_false] at hc
            rcases hc with rfl | rfl
            · exact Or.inl (by simp)
            · exact Or.inr (by omega)
          · simp only [List.mem_append] at hc
            rcases hc with hc | hc | hc | hc
            · exact Or.inl (by simp [hc])
            · have := P2.b c hc; exact Or.inr (by omega)
            · have := P3.b c hc; exact Or.inr (by omega)
            · have := P4.b c hc; exact Or.inr (by omega)
          · simp only [List.mem_append] at hc
            rcases hc with hc | hc | hc | hc
            · exact e0 c hc
            · exact e2 c hc
            · exact e3 c hc
            · exact e4 c hc

end Go.Proofs.YtnchmnjkmhfleaaGreat

/-
  Meetings: what the reference's check returns.
-/
namespace Go.Proofs.YtnchmnjkmhfleaaGreat
open Go.RowKit

theorem meetsF_len {l : List Me} (h : ¬ l.length ≤ 6) : meetsF l = false := by unfold meetsF; rw [decide_eq_false h, Bool.and_false]
theorem meetsF_yes6 {l : List Me} (hs : l.length ≤ 6) (h : ∀ j (hj : j < l.length), goodM l j l[j] = true) : meetsF l = true := by
  rw [meetsF_yes h, decide_eq_true hs]

set_option maxRecDepth 20000 in
set_option maxHeartbeats 16000000 in
theorem meetingsS (v : Value) (l : List Me) (w : World) (fp : List Nat) (hR : R_Me1 fp w [v] l) (ht : ∀ m ∈ l, m.left.length ≤ 2000000 ∧ m.right.length ≤ 2000000 ∧ m.result.length ≤ 2000000) :
    Calls Tryz.prog 160 #[v] w fun e w' => e = .returned (.bool (meetsF l)) ∧ Upd [] w w' := by
  obtain ⟨a, cap, rfl, g1, g2, hc⟩ := slQ_open hR
  unfold maxLen at g2
  have HC := Lib.hid hc
  have HT := Lib.hid ht
  have HLE := Lib.hid (fun (h : ¬ l.length ≤ 6) => meetsF_len (l := l) h)
  have HNO := Lib.hid (fun k (hk : k < l.length) (h : goodM l k l[k] = false) => meetsF_no hk h)
  have HYE := Lib.hid (fun (hs : l.length ≤ 6) (h : ∀ j (hj : j < l.length), goodM l j l[j] = true) => meetsF_yes6 hs h)
  clear hR hc ht
  generalize hZ : meetsF l = Z at *
  clear hZ
  by_cases h6 : 6 < l.length
  · have HZ := Lib.hid (HLE.out (by omega))
    have hb2 : (6 : Int) < (l.length : Int) := by omega
    clear h6 HNO HYE HLE
    go_enter Tryz.func160, Tryz.ntmps160
    go_wp2_with fail
    go_ret
    exact ⟨by rw [HZ.out]; rfl, Upd.refl _ _⟩
  · have hb2 : ¬ (6 : Int) < (l.length : Int) := by omega
    have HYE := Lib.hid (HYE.out (by omega))
    clear h6 HLE
    go_enter Tryz.func160, Tryz.ntmps160
    go_wp2_with fail
    go_loopw [3] (fun iv wr => ∃ k : Nat, k ≤ l.length ∧ iv = .int .i64 k ∧ Hid (Upd [] w wr) ∧ Hid (∀ j (_ : j < k) (hj : j < l.length), goodM l j l[j] = true)) (fun iv _ => l.length - (intOf iv).toNat)
    case atStart => exact ⟨0, Nat.zero_le _, rfl, Lib.hid (Upd.refl _ _), Lib.hid (fun j hj => absurd hj (Nat.not_lt_zero _))⟩
    case round =>
      obtain ⟨wo, rfl⟩ : ∃ wo : World, wo = wr := ⟨_, rfl⟩
      obtain ⟨k, hk, rfl, HU, HG⟩ := hrel
      by_cases hlt : k < l.length
      · obtain ⟨bb, off, u, f', rfl, -, -, -, hcell, -, hr⟩ := HC.out k hlt
        obtain ⟨rfl, rfl⟩ := hr
        have s0 := HU.out.keep (hcell 0 _ rfl)
        have s1 := HU.out.keep (hcell 1 _ rfl)
        have s2 := HU.out.keep (hcell 2 _ rfl)
        simp only [Nat.add_zero] at s0
        have htk := HT.out l[k] (List.getElem_mem hlt)
        have HNK := Lib.hid (HNO.out k hlt)
        have HGK := Lib.hid (fun (h : goodM l k l[k] = true) j (hjk : j < k + 1) (hj : j < l.length) => (show goodM l j l[j] = true by
          by_cases e : j = k
          · subst e; exact h
          · exact HG.out j (by omega) hj))
        have HGD := Lib.hid (show goodM l k l[k] = ((actF l[k].left && actF l[k].right && actF l[k].result && !bl l[k].right l[k].left) && (decide (k = 0) || lessM (l.getD (k - 1) ⟨[], [], []⟩) l[k]) && l.all (fun o => !(o.left == l[k].result || o.right == l[k].result))) from rfl)
        have HPV := Lib.hid (fun i (hi : k = i + 1) => show ∃ pm : Me, l.getD (k - 1) ⟨[], [], []⟩ = pm ∧ wo.cell? ⟨bb, off + i * 3, none⟩ = some (es pm.left) ∧ wo.cell? ⟨bb, off + i * 3 + 1, none⟩ = some (es pm.right) from by
          subst hi
          have hil : i < l.length := by omega
          obtain ⟨b', o', u', f'', he, -, -, -, hc', -, hr'⟩ := HC.out i hil
          simp only [Option.some.injEq, Addr.mk.injEq, and_true] at he
          obtain ⟨rfl, rfl⟩ := he
          obtain ⟨rfl, rfl⟩ := hr'
          refine ⟨l[i], ?_, HU.out.keep (by simpa using hc' 0 _ rfl), HU.out.keep (hc' 1 _ rfl)⟩
          rw [Nat.add_sub_cancel, List.getD_eq_getElem?_getD, List.getElem?_eq_getElem hil]; rfl)
        have HLC := Lib.hid (fun i (hil : i < l.length) => show w.cell? ⟨bb, off + i * 3, none⟩ = some (es l[i].left) ∧ w.cell? ⟨bb, off + i * 3 + 1, none⟩ = some (es l[i].right) from by
          obtain ⟨b', o', u', f'', he, -, -, -, hc', -, hr'⟩ := HC.out i hil
          simp only [Option.some.injEq, Addr.mk.injEq, and_true] at he
          obtain ⟨rfl, rfl⟩ := he
          obtain ⟨rfl, rfl⟩ := hr'
          exact ⟨by simpa using hc' 0 _ rfl, hc' 1 _ rfl⟩)
        have HAN := Lib.hid (fun i (hil : i < l.length) (h : (l[i].left == l[k].result || l[i].right == l[k].result) = true) => show l.all (fun o => !(o.left == l[k].result || o.right == l[k].result)) = false by
          rw [List.all_eq_false]; exact ⟨l[i], List.getElem_mem hil, by simp [h]⟩)
        have HAY := Lib.hid (fun (h : ∀ i (hil : i < l.length), (l[i].left == l[k].result || l[i].right == l[k].result) = false) => show l.all (fun o => !(o.left == l[k].result || o.right == l[k].result)) = true by
          rw [List.all_eq_true]; intro o ho; obtain ⟨i, hil, rfl⟩ := List.mem_iff_getElem.1 ho; rw [h i hil]; rfl)
        have hkl : (k : Int) < (l.length : Int) := by omega
        clear hcell HG
        generalize goodM l k l[k] = gz at *
        generalize l[k] = m at *
        generalize l.all (fun o => !(o.left == m.result || o.right == m.result)) = qn at *
        obtain ⟨wP, hwP⟩ : ∃ q, q = wo.alloc (.cells #[es m.left, es m.right, es m.result] 70) := ⟨_, rfl⟩
        obtain ⟨BP, hBP⟩ : ∃ q, q = wo.heap.size := ⟨_, rfl⟩
        have uP : Upd [] wo wP := by rw [hwP]; exact (Upd.refl _ _).alloc _
        have x0 : wP.cell? ⟨BP, 0, none⟩ = some (es m.left) := by rw [hwP, hBP]; exact cell_new wo _ _ _ rfl 0 _ rfl
        have x1 : wP.cell? ⟨BP, 1, none⟩ = some (es m.right) := by rw [hwP, hBP]; exact cell_new wo _ _ _ rfl 1 _ rfl
        have x2 : wP.cell? ⟨BP, 2, none⟩ = some (es m.result) := by rw [hwP, hBP]; exact cell_new wo _ _ _ rfl 2 _ rfl
        have UP := Lib.hid uP
        have HUP := Lib.hid (HU.out.trans uP)
        have SA0 := Lib.hid (fun W => actionS m.left W htk.1)
        have SA1 := Lib.hid (fun W => actionS m.right W htk.2.1)
        have SA2 := Lib.hid (fun W => actionS m.result W htk.2.2)
        obtain ⟨A0, hA0⟩ : ∃ q, actF m.left = q := ⟨_, rfl⟩
        obtain ⟨A1, hA1⟩ : ∃ q, actF m.right = q := ⟨_, rfl⟩
        obtain ⟨A2, hA2⟩ : ∃ q, actF m.result = q := ⟨_, rfl⟩
        obtain ⟨gg, hgg⟩ : ∃ q, bl m.right m.left = q := ⟨_, rfl⟩
        have hgt : (Op.bytesLess m.left m.right || m.left == m.right) = !gg := by rw [← hgg]; exact bl_total m.left m.right
        rw [hA0, hA1, hA2, hgg] at HGD
        rw [hA0] at SA0
        rw [hA1] at SA1
        rw [hA2] at SA2
        clear uP htk hA0 hA1 hA2 hgg
        go_upto_region 7 with (fail)
        rw [← hwP, ← hBP]
        clear hwP hBP s0 s1 s2
        cases A0 with
        | false =>
          have HZ := Lib.hid (HNK.out (by rw [HGD.out]; rfl))
          clear HNK HGK HGD HPV HLC HAN HAY
          go_wp2_with fail
          refine (SA0.out _).mono ?_
          rintro e w1 ⟨rfl, rfl⟩
          go_wp2_with fail
          go_ret
          exact ⟨by rw [HZ.out]; rfl, HUP.out⟩
        | true =>
          cases A1 with
          | false =>
            have HZ := Lib.hid (HNK.out (by rw [HGD.out]; rfl))
            clear HNK HGK HGD HPV HLC HAN HAY
            go_wp2_with fail
            refine (SA0.out _).mono ?_
            rintro e w1 ⟨rfl, rfl⟩
            go_wp2_with fail
            refine (SA1.out _).mono ?_
            rintro e w1 ⟨rfl, rfl⟩
            go_wp2_with fail
            go_ret
            exact ⟨by rw [HZ.out]; rfl, HUP.out⟩
          | true =>
            cases A2 with
            | false =>
              have HZ := Lib.hid (HNK.out (by rw [HGD.out]; rfl))
              clear HNK HGK HGD HPV HLC HAN HAY
              go_wp2_with fail
              refine (SA0.out _).mono ?_
              rintro e w1 ⟨rfl, rfl⟩
              go_wp2_with fail
              refine (SA1.out _).mono ?_
              rintro e w1 ⟨rfl, rfl⟩
              go_wp2_with fail
              refine (SA2.out _).mono ?_
              rintro e w1 ⟨rfl, rfl⟩
              go_wp2_with fail
              go_ret
              exact ⟨by rw [HZ.out]; rfl, HUP.out⟩
            | true =>
              cases gg with
              | true =>
                have HZ := Lib.hid (HNK.out (by rw [HGD.out]; rfl))
                simp only [Bool.not_true] at hgt
                clear HNK HGK HGD HPV HLC HAN HAY
                go_wp2_with fail
                refine (SA0.out _).mono ?_
                rintro e w1 ⟨rfl, rfl⟩
                go_wp2_with fail
                refine (SA1.out _).mono ?_
                rintro e w1 ⟨rfl, rfl⟩
                go_wp2_with fail
                refine (SA2.out _).mono ?_
                rintro e w1 ⟨rfl, rfl⟩
                go_wp2_with fail
                go_ret
                exact ⟨by rw [HZ.out]; rfl, HUP.out⟩
              | false =>
                simp only [Bool.not_false] at hgt
                have HCS := Lib.hid (show (k = 0 ∧ gz = qn) ∨ (∃ (i : Nat) (pl pr : List UInt8), k = i + 1 ∧ wP.cell? ⟨bb, off + i * 3, none⟩ = some (es pl) ∧ wP.cell? ⟨bb, off + i * 3 + 1, none⟩ = some (es pr) ∧
                    ((Op.bytesLess pl m.left = true ∧ (pl == m.left) = false ∧ gz = qn) ∨ (Op.bytesLess pl m.left = false ∧ (pl == m.left) = true ∧ Op.bytesLess pr m.right = true ∧ gz = qn) ∨
                     (Op.bytesLess pl m.left = false ∧ (pl == m.left) = true ∧ Op.bytesLess pr m.right = false ∧ gz = false) ∨ (Op.bytesLess pl m.left = false ∧ (pl == m.left) = false ∧ gz = false))) from by
                  rcases Nat.eq_zero_or_pos k with h0 | h0
                  · left; exact ⟨h0, by rw [HGD.out, h0]; simp⟩
                  · right
                    obtain ⟨i, rfl⟩ : ∃ i, k = i + 1 := ⟨k - 1, by omega⟩
                    obtain ⟨pm, hpm, r0, r1⟩ := HPV.out i rfl
                    refine ⟨i, pm.left, pm.right, rfl, UP.out.keep r0, UP.out.keep r1, ?_⟩
                    rw [HGD.out, hpm]
                    unfold lessM
                    have hbl : ∀ a b : List UInt8, Op.bytesLess a b = bl a b := fun _ _ => rfl
                    rw [hbl, hbl]
                    cases ha : bl pm.left m.left with
                    | true =>
                      left
                      refine ⟨rfl, ?_, by simp⟩
                      cases he : (pm.left == m.left) with
                      | false => rfl
                      | true =>
                        have ht := bl_total m.left m.left
                        rw [beq_iff_eq.1 he] at ha
                        rw [ha] at ht; simp at ht
                    | false =>
                      right
                      cases he : (pm.left == m.left) with
                      | false => right; right; exact ⟨rfl, rfl, by simp⟩
                      | true =>
                        cases hb : bl pm.right m.right with
                        | true => left; exact ⟨rfl, rfl, rfl, by simp⟩
                        | false => right; left; exact ⟨rfl, rfl, rfl, by simp⟩)
                clear HGD HPV
                rcases HCS.out with ⟨rfl, hz⟩ | ⟨i, pl, pr, rfl, y0, y1, hcs⟩
                · clear HCS
                  have hki : ¬ (0 : Int) < ((0 : Nat) : Int) := by omega
                  go_wp2_with fail
                  refine (SA0.out _).mono ?_
                  rintro e w1 ⟨rfl, rfl⟩
                  go_wp2_with fail
                  refine (SA1.out _).mono ?_
                  rintro e w1 ⟨rfl, rfl⟩
                  go_wp2_with fail
                  refine (SA2.out _).mono ?_
                  rintro e w1 ⟨rfl, rfl⟩
                  go_wp2_with fail
                  go_quiet (fail)
                  obtain ⟨wq, hwq⟩ : ∃ wq, wP.drewN nq = wq := ⟨_, rfl⟩
                  have HUq := Lib.hid (show Upd [] w wq by rw [← hwq]; exact HUP.out.trans ((Upd.refl [] wP).drewN nq))
                  have k2 : wq.cell? ⟨BP, 2, none⟩ = some (es m.result) := by rw [← hwq]; exact x2
                  rw [hwq]
                  clear hwq x0 x1 x2 SA0 SA1 SA2
                  go_wp2_with fail
                  go_loopw [5] (fun iv wr => ∃ j : Nat, j ≤ l.length ∧ iv = .int .i64 j ∧ Hid (Upd [] wq wr) ∧ Hid (∀ i (_ : i < j) (hil : i < l.length), (l[i].left == m.result || l[i].right == m.result) = false)) (fun iv _ => l.length - (intOf iv).toNat)
                  case atStart => exact ⟨0, Nat.zero_le _, rfl, Lib.hid (Upd.refl _ _), Lib.hid (fun j hj => absurd hj (Nat.not_lt_zero _))⟩
                  case round =>
                    obtain ⟨wx, rfl⟩ : ∃ wo : World, wo = wr := ⟨_, rfl⟩
                    obtain ⟨j, hj, rfl, HV, HI⟩ := hrel
                    have z2 := HV.out.keep k2
                    by_cases hlj : j < l.length
                    · obtain ⟨d0, d1⟩ := HLC.out j hlj
                      have z0 := HV.out.keep (HUq.out.keep d0)
                      have z1 := HV.out.keep (HUq.out.keep d1)
                      have HA1 := Lib.hid (HAN.out j hlj)
                      have HI2 := Lib.hid (fun (h : (l[j].left == m.result || l[j].right == m.result) = false) i (hjk : i < j + 1) (hj : i < l.length) => (show (l[i].left == m.result || l[i].right == m.result) = false by
                        by_cases e : i = j
                        · subst e; exact h
                        · exact HI.out i (by omega) hj))
                      have hjl : (j : Int) < (l.length : Int) := by omega
                      clear d0 d1 HI
                      generalize l[j] = o at *
                      obtain ⟨q1, hq1⟩ : ∃ q, (o.left == m.result) = q := ⟨_, rfl⟩
                      obtain ⟨q2, hq2⟩ : ∃ q, (o.right == m.result) = q := ⟨_, rfl⟩
                      rw [hq1, hq2] at HA1 HI2
                      cases q1 with
                      | true =>
                        have HZ := Lib.hid (HNK.out (hz.trans (HA1.out rfl)))
                        clear HA1 HI2 HNK HGK HAN HAY
                        go_wp2_with fail
                        go_quiet (fail)
                        have HU9 := Lib.hid (HUq.out.trans (HV.out.drewN nq))
                        go_wp2_with fail
                        go_ret
                        exact ⟨by rw [HZ.out]; rfl, HU9.out⟩
                      | false =>
                        cases q2 with
                        | true =>
                          have HZ := Lib.hid (HNK.out (hz.trans (HA1.out rfl)))
                          clear HA1 HI2 HNK HGK HAN HAY
                          go_wp2_with fail
                          go_quiet (fail)
                          have HU9 := Lib.hid (HUq.out.trans (HV.out.drewN nq))
                          go_wp2_with fail
                          go_ret
                          exact ⟨by rw [HZ.out]; rfl, HU9.out⟩
                        | false =>
                          have HI3 := Lib.hid (HI2.out rfl)
                          clear HA1 HI2 HNK HGK HAN HAY
                          go_wp2_with fail
                          go_quiet (fail)
                          have HV9 := Lib.hid (HV.out.drewN nq)
                          go_wp2_with fail
                          go_roundw
                          case rel => exact ⟨j + 1, by omega, by go_num, HV9, HI3⟩
                          case measure => simp [intOf]; omega
                    · have hjj : ¬ (j : Int) < (l.length : Int) := by omega
                      have HG2 := Lib.hid (HGK.out (hz.trans (HAY.out (fun i hil => HI.out i (by omega) hil))))
                      have HU9 := Lib.hid (HUq.out.trans HV.out)
                      clear HI HAN HAY HNK HGK
                      go_wp2_with fail
                      go_roundw
                      case rel => exact ⟨0 + 1, by omega, by go_num, HU9, HG2⟩
                      case measure => simp [intOf]; omega
                · clear HCS
                  rcases hcs with ⟨e1, e2, hz⟩ | ⟨e1, e2, e3, hz⟩ | ⟨e1, e2, e3, hz⟩ | ⟨e1, e2, hz⟩
                  · have hi0 : (0 : Int) ≤ (i : Int) := by omega
                    have hi1 : (i : Int) < (l.length : Int) := by omega
                    have hw1 : IntKind.i64.wrap (((i : Int) + 1) - 1) = (i : Int) := by rw [IntKind.wrap_i64]; omega
                    have hw2 : IntKind.i64.wrap (i : Int) = (i : Int) := by rw [IntKind.wrap_i64]; omega
                    have hp0 : (0 : Int) < (i : Int) + 1 := by omega
                    go_wp2_with fail
                    refine (SA0.out _).mono ?_
                    rintro e w1 ⟨rfl, rfl⟩
                    go_wp2_with fail
                    refine (SA1.out _).mono ?_
                    rintro e w1 ⟨rfl, rfl⟩
                    go_wp2_with fail
                    refine (SA2.out _).mono ?_
                    rintro e w1 ⟨rfl, rfl⟩
                    go_wp2_with fail
                    go_quiet (fail)
                    obtain ⟨wq, hwq⟩ : ∃ wq, wP.drewN nq = wq := ⟨_, rfl⟩
                    have HUq := Lib.hid (show Upd [] w wq by rw [← hwq]; exact HUP.out.trans ((Upd.refl [] wP).drewN nq))
                    have k2 : wq.cell? ⟨BP, 2, none⟩ = some (es m.result) := by rw [← hwq]; exact x2
                    rw [hwq]
                    clear hwq x0 x1 x2 SA0 SA1 SA2
                    go_wp2_with fail
                    go_loopw [5] (fun iv wr => ∃ j : Nat, j ≤ l.length ∧ iv = .int .i64 j ∧ Hid (Upd [] wq wr) ∧ Hid (∀ i (_ : i < j) (hil : i < l.length), (l[i].left == m.result || l[i].right == m.result) = false)) (fun iv _ => l.length - (intOf iv).toNat)
                    case atStart => exact ⟨0, Nat.zero_le _, rfl, Lib.hid (Upd.refl _ _), Lib.hid (fun j hj => absurd hj (Nat.not_lt_zero _))⟩
                    case round =>
                      obtain ⟨wx, rfl⟩ : ∃ wo : World, wo = wr := ⟨_, rfl⟩
                      obtain ⟨j, hj, rfl, HV, HI⟩ := hrel
                      have z2 := HV.out.keep k2
                      by_cases hlj : j < l.length
                      · obtain ⟨d0, d1⟩ := HLC.out j hlj
                        have z0 := HV.out.keep (HUq.out.keep d0)
                        have z1 := HV.out.keep (HUq.out.keep d1)
                        have HA1 := Lib.hid (HAN.out j hlj)
                        have HI2 := Lib.hid (fun (h : (l[j].left == m.result || l[j].right == m.result) = false) i (hjk : i < j + 1) (hj : i < l.length) => (show (l[i].left == m.result || l[i].right == m.result) = false by
                          by_cases e : i = j
                          · subst e; exact h
                          · exact HI.out i (by omega) hj))
                        have hjl : (j : Int) < (l.length : Int) := by omega
                        clear d0 d1 HI
                        generalize l[j] = o at *
                        obtain ⟨q1, hq1⟩ : ∃ q, (o.left == m.result) = q := ⟨_, rfl⟩
                        obtain ⟨q2, hq2⟩ : ∃ q, (o.right == m.result) = q := ⟨_, rfl⟩
                        rw [hq1, hq2] at HA1 HI2
                        cases q1 with
                        | true =>
                          have HZ := Lib.hid (HNK.out (hz.trans (HA1.out rfl)))
                          clear HA1 HI2 HNK HGK HAN HAY
                          go_wp2_with fail
                          go_quiet (fail)
                          have HU9 := Lib.hid (HUq.out.trans (HV.out.drewN nq))
                          go_wp2_with fail
                          go_ret
                          exact ⟨by rw [HZ.out]; rfl, HU9.out⟩
                        | false =>
                          cases q2 with
                          | true =>
                            have HZ := Lib.hid (HNK.out (hz.trans (HA1.out rfl)))
                            clear HA1 HI2 HNK HGK HAN HAY
                            go_wp2_with fail
                            go_quiet (fail)
                            have HU9 := Lib.hid (HUq.out.trans (HV.out.drewN nq))
                            go_wp2_with fail
                            go_ret
                            exact ⟨by rw [HZ.out]; rfl, HU9.out⟩
                          | false =>
                            have HI3 := Lib.hid (HI2.out rfl)
                            clear HA1 HI2 HNK HGK HAN HAY
                            go_wp2_with fail
                            go_quiet (fail)
                            have HV9 := Lib.hid (HV.out.drewN nq)
                            go_wp2_with fail
                            go_roundw
                            case rel => exact ⟨j + 1, by omega, by go_num, HV9, HI3⟩
                            case measure => simp [intOf]; omega
                      · have hjj : ¬ (j : Int) < (l.length : Int) := by omega
                        have HG2 := Lib.hid (HGK.out (hz.trans (HAY.out (fun i hil => HI.out i (by omega) hil))))
                        have HU9 := Lib.hid (HUq.out.trans HV.out)
                        clear HI HAN HAY HNK HGK
                        go_wp2_with fail
                        go_roundw
                        case rel => exact ⟨(i + 1) + 1, by omega, by go_num, HU9, HG2⟩
                        case measure => simp [intOf]; omega
                  · have hi0 : (0 : Int) ≤ (i : Int) := by omega
                    have hi1 : (i : Int) < (l.length : Int) := by omega
                    have hw1 : IntKind.i64.wrap (((i : Int) + 1) - 1) = (i : Int) := by rw [IntKind.wrap_i64]; omega
                    have hw2 : IntKind.i64.wrap (i : Int) = (i : Int) := by rw [IntKind.wrap_i64]; omega
                    have hp0 : (0 : Int) < (i : Int) + 1 := by omega
                    go_wp2_with fail
                    refine (SA0.out _).mono ?_
                    rintro e w1 ⟨rfl, rfl⟩
                    go_wp2_with fail
                    refine (SA1.out _).mono ?_
                    rintro e w1 ⟨rfl, rfl⟩
                    go_wp2_with fail
                    refine (SA2.out _).mono ?_
                    rintro e w1 ⟨rfl, rfl⟩
                    go_wp2_with fail
                    go_quiet (fail)
                    obtain ⟨wq, hwq⟩ : ∃ wq, wP.drewN nq = wq := ⟨_, rfl⟩
                    have HUq := Lib.hid (show Upd [] w wq by rw [← hwq]; exact HUP.out.trans ((Upd.refl [] wP).drewN nq))
                    have k2 : wq.cell? ⟨BP, 2, none⟩ = some (es m.result) := by rw [← hwq]; exact x2
                    rw [hwq]
                    clear hwq x0 x1 x2 SA0 SA1 SA2
                    go_wp2_with fail
                    go_loopw [5] (fun iv wr => ∃ j : Nat, j ≤ l.length ∧ iv = .int .i64 j ∧ Hid (Upd [] wq wr) ∧ Hid (∀ i (_ : i < j) (hil : i < l.length), (l[i].left == m.result || l[i].right == m.result) = false)) (fun iv _ => l.length - (intOf iv).toNat)
                    case atStart => exact ⟨0, Nat.zero_le _, rfl, Lib.hid (Upd.refl _ _), Lib.hid (fun j hj => absurd hj (Nat.not_lt_zero _))⟩
                    case round =>
                      obtain ⟨wx, rfl⟩ : ∃ wo : World, wo = wr := ⟨_, rfl⟩
                      obtain ⟨j, hj, rfl, HV, HI⟩ := hrel
                      have z2 := HV.out.keep k2
                      by_cases hlj : j < l.length
                      · obtain ⟨d0, d1⟩ := HLC.out j hlj
                        have z0 := HV.out.keep (HUq.out.keep d0)
                        have z1 := HV.out.keep (HUq.out.keep d1)
                        have HA1 := Lib.hid (HAN.out j hlj)
                        have HI2 := Lib.hid (fun (h : (l[j].left == m.result || l[j].right == m.result) = false) i (hjk : i < j + 1) (hj : i < l.length) => (show (l[i].left == m.result || l[i].right == m.result) = false by
                          by_cases e : i = j
                          · subst e; exact h
                          · exact HI.out i (by omega) hj))
                        have hjl : (j : Int) < (l.length : Int) := by omega
                        clear d0 d1 HI
                        generalize l[j] = o at *
                        obtain ⟨q1, hq1⟩ : ∃ q, (o.left == m.result) = q := ⟨_, rfl⟩
                        obtain ⟨q2, hq2⟩ : ∃ q, (o.right == m.result) = q := ⟨_, rfl⟩
                        rw [hq1, hq2] at HA1 HI2
                        cases q1 with
                        | true =>
                          have HZ := Lib.hid (HNK.out (hz.trans (HA1.out rfl)))
                          clear HA1 HI2 HNK HGK HAN HAY
                          go_wp2_with fail
                          go_quiet (fail)
                          have HU9 := Lib.hid (HUq.out.trans (HV.out.drewN nq))
                          go_wp2_with fail
                          go_ret
                          exact ⟨by rw [HZ.out]; rfl, HU9.out⟩
                        | false =>
                          cases q2 with
                          | true =>
                            have HZ := Lib.hid (HNK.out (hz.trans (HA1.out rfl)))
                            clear HA1 HI2 HNK HGK HAN HAY
                            go_wp2_with fail
                            go_quiet (fail)
                            have HU9 := Lib.hid (HUq.out.trans (HV.out.drewN nq))
                            go_wp2_with fail
                            go_ret
                            exact ⟨by rw [HZ.out]; rfl, HU9.out⟩
                          | false =>
                            have HI3 := Lib.hid (HI2.out rfl)
                            clear HA1 HI2 HNK HGK HAN HAY
                            go_wp2_with fail
                            go_quiet (fail)
                            have HV9 := Lib.hid (HV.out.drewN nq)
                            go_wp2_with fail
                            go_roundw
                            case rel => exact ⟨j + 1, by omega, by go_num, HV9, HI3⟩
                            case measure => simp [intOf]; omega
                      · have hjj : ¬ (j : Int) < (l.length : Int) := by omega
                        have HG2 := Lib.hid (HGK.out (hz.trans (HAY.out (fun i hil => HI.out i (by omega) hil))))
                        have HU9 := Lib.hid (HUq.out.trans HV.out)
                        clear HI HAN HAY HNK HGK
                        go_wp2_with fail
                        go_roundw
                        case rel => exact ⟨(i + 1) + 1, by omega, by go_num, HU9, HG2⟩
                        case measure => simp [intOf]; omega
                  · have hi0 : (0 : Int) ≤ (i : Int) := by omega
                    have hi1 : (i : Int) < (l.length : Int) := by omega
                    have hw1 : IntKind.i64.wrap (((i : Int) + 1) - 1) = (i : Int) := by rw [IntKind.wrap_i64]; omega
                    have hw2 : IntKind.i64.wrap (i : Int) = (i : Int) := by rw [IntKind.wrap_i64]; omega
                    have hp0 : (0 : Int) < (i : Int) + 1 := by omega
                    have HZ := Lib.hid (HNK.out hz)
                    clear HNK HGK HLC HAN HAY
                    go_wp2_with fail
                    refine (SA0.out _).mono ?_
                    rintro e w1 ⟨rfl, rfl⟩
                    go_wp2_with fail
                    refine (SA1.out _).mono ?_
                    rintro e w1 ⟨rfl, rfl⟩
                    go_wp2_with fail
                    refine (SA2.out _).mono ?_
                    rintro e w1 ⟨rfl, rfl⟩
                    go_wp2_with fail
                    go_quiet (fail)
                    have HU9 := Lib.hid (HUP.out.trans ((Upd.refl [] wP).drewN nq))
                    go_wp2_with fail
                    go_ret
                    exact ⟨by rw [HZ.out]; rfl, HU9.out⟩
                  · have hi0 : (0 : Int) ≤ (i : Int) := by omega
                    have hi1 : (i : Int) < (l.length : Int) := by omega
                    have hw1 : IntKind.i64.wrap (((i : Int) + 1) - 1) = (i : Int) := by rw [IntKind.wrap_i64]; omega
                    have hw2 : IntKind.i64.wrap (i : Int) = (i : Int) := by rw [IntKind.wrap_i64]; omega
                    have hp0 : (0 : Int) < (i : Int) + 1 := by omega
                    have HZ := Lib.hid (HNK.out hz)
                    clear HNK HGK HLC HAN HAY
                    go_wp2_with fail
                    refine (SA0.out _).mono ?_
                    rintro e w1 ⟨rfl, rfl⟩
                    go_wp2_with fail
                    refine (SA1.out _).mono ?_
                    rintro e w1 ⟨rfl, rfl⟩
                    go_wp2_with fail
                    refine (SA2.out _).mono ?_
                    rintro e w1 ⟨rfl, rfl⟩
                    go_wp2_with fail
                    go_quiet (fail)
                    have HU9 := Lib.hid (HUP.out.trans ((Upd.refl [] wP).drewN nq))
                    go_wp2_with fail
                    go_ret
                    exact ⟨by rw [HZ.out]; rfl, HU9.out⟩
      · have hkk : ¬ (k : Int) < (l.length : Int) := by omega
        have HZ := Lib.hid (HYE.out (fun j hj => HG.out j (by omega) hj))
        clear HG HNO HYE
        go_wp2_with fail
        go_ret
        exact ⟨by rw [HZ.out]; rfl, HU.out⟩

end Go.Proofs.YtnchmnjkmhfleaaGreat

/-
  The reference's check of a system: what the calls return.
-/
namespace Go.Proofs.YtnchmnjkmhfleaaGreat
open Go.RowKit

set_option maxRecDepth 20000 in
set_option maxHeartbeats 8000000 in
theorem sysFaultS (B : Nat) (cs : List Value) (fp : List Nat) (s : Sy) (w : World) (hA : SyAt B cs fp w s) (hF : SyFit s) :
    Calls Tryz.prog 103 #[.pointer (some ⟨B, 0, none⟩)] w fun e w' => e = .returned (.int .i64 (faultSy s)) ∧ Upd [] w w' := by
  have hA0 := hA
  obtain ⟨⟨v0, v1, v2, v3, v4, f0, f1, f2, f3, f4, rfl, h0, h1, h2, h3, h4, rfl⟩, hcc⟩ := hA
  have HM := Lib.hid (show faultSy s = if !defsOk s.defs then 1 else if !compsOk s.defs s.comps then 2 else if !meetsF s.meets then 3 else if !namesF s.allow then 4 else if !namesF s.hide then 5 else 0 from rfl)
  have HC := Lib.hid (fun W (hu : Upd [] w W) => show W.cell? ⟨B, 0, none⟩ = some v0 ∧ W.cell? ⟨B, 2, none⟩ = some v2 ∧ W.cell? ⟨B, 3, none⟩ = some v3 ∧ W.cell? ⟨B, 4, none⟩ = some v4 from
    ⟨hu.keep (hcc 0 _ rfl), hu.keep (hcc 2 _ rfl), hu.keep (hcc 3 _ rfl), hu.keep (hcc 4 _ rfl)⟩)
  have S0 := Lib.hid (defsS v0 s.defs w f0 h0 hF.defs)
  have SC := Lib.hid (fun W (hu : Upd [] w W) (hdl : s.defs.length ≤ 1000000) => componentsS B _ _ s W (hA0.upd hu) hdl)
  have SM := Lib.hid (fun W (hu : Upd [] w W) => meetingsS v2 s.meets W f2 (R_Me1k.upd h2 hu (by simp)) hF.meets.2)
  have SA := Lib.hid (fun W (hu : Upd [] w W) => nameListS v3 s.allow W f3 (R_S1k.upd h3 hu (by simp)) hF.allow.1 hF.allow.2)
  have SH := Lib.hid (fun W (hu : Upd [] w W) => nameListS v4 s.hide W f4 (R_S1k.upd h4 hu (by simp)) hF.hide.1 hF.hide.2)
  have HDL := Lib.hid (fun (h : defsOk s.defs = true) => show s.defs.length ≤ 1000000 from by
    unfold defsOk at h
    simp only [Bool.and_eq_true, decide_eq_true_eq] at h
    omega)
  obtain ⟨a0, q0, rfl, -, -, -⟩ := slQ_open h0
  obtain ⟨a2, q2, rfl, -, -, -⟩ := slQ_open h2
  obtain ⟨a3, q3, rfl, -, -, -⟩ := slF1_open h3
  obtain ⟨a4, q4, rfl, -, -, -⟩ := slF1_open h4
  obtain ⟨c0, c2, c3, c4⟩ := HC.out w (Upd.refl _ _)
  clear h0 h1 h2 h3 h4 hF hA0 hcc
  generalize faultSy s = Z at *
  obtain ⟨defs, comps, meets, allow, hide⟩ := s
  simp only at *
  generalize defsOk defs = d at *
  cases d with
  | false =>
    have HZ := Lib.hid (show Z = 1 from HM.out)
    clear HM SC SM SA SH HDL HC
    go_enter Tryz.func103, Tryz.ntmps103
    go_wp2_with fail
    refine S0.out.mono ?_
    rintro e w1 ⟨rfl, hu1⟩
    have HU := Lib.hid hu1
    clear hu1 c0 c2 c3 c4
    go_wp2_with fail
    go_ret
    exact ⟨by rw [HZ.out]; rfl, HU.out⟩
  | true =>
    have hdl := HDL.out rfl
    go_enter Tryz.func103, Tryz.ntmps103
    go_wp2_with fail
    refine S0.out.mono ?_
    rintro e w1 ⟨rfl, hu1⟩
    have HU := Lib.hid hu1
    have S1 := Lib.hid (SC.out w1 hu1 hdl)
    clear hu1 c0 c2 c3 c4 SC S0 HDL hdl
    generalize compsOk defs comps = g at *
    go_wp2_with fail
    refine S1.out.mono ?_
    rintro e w2 ⟨rfl, hu2⟩
    have HU := Lib.hid (HU.out.trans hu2)
    obtain ⟨c0, c2, c3, c4⟩ := HC.out w2 HU.out
    have S2 := Lib.hid (SM.out w2 HU.out)
    clear hu2 S1 SM
    cases g with
    | false =>
      have HZ := Lib.hid (show Z = 2 from HM.out)
      clear HM SA SH HC S2
      go_wp2_with fail
      go_ret
      exact ⟨by rw [HZ.out]; rfl, HU.out⟩
    | true =>
      generalize meetsF meets = g at *
      go_wp2_with fail
      refine S2.out.mono ?_
      rintro e w3 ⟨rfl, hu2⟩
      have HU := Lib.hid (HU.out.trans hu2)
      clear c0 c2 c3 c4
      obtain ⟨c0, c2, c3, c4⟩ := HC.out w3 HU.out
      have S3 := Lib.hid (SA.out w3 HU.out)
      clear hu2 S2 SA
      cases g with
      | false =>
        have HZ := Lib.hid (show Z = 3 from HM.out)
        clear HM SH HC S3
        go_wp2_with fail
        go_ret
        exact ⟨by rw [HZ.out]; rfl, HU.out⟩
      | true =>
        generalize namesF allow = g at *
        go_wp2_with fail
        refine S3.out.mono ?_
        rintro e w4 ⟨rfl, hu2⟩
        have HU := Lib.hid (HU.out.trans hu2)
        clear c0 c2 c3 c4
        obtain ⟨c0, c2, c3, c4⟩ := HC.out w4 HU.out
        have S4 := Lib.hid (SH.out w4 HU.out)
        clear hu2 S3 SH
        cases g with
        | false =>
          have HZ := Lib.hid (show Z = 4 from HM.out)
          clear HM HC S4
          go_wp2_with fail
          go_ret
          exact ⟨by rw [HZ.out]; rfl, HU.out⟩
        | true =>
          generalize namesF hide = g at *
          go_wp2_with fail
          refine S4.out.mono ?_
          rintro e w5 ⟨rfl, hu2⟩
          have HU := Lib.hid (HU.out.trans hu2)
          clear c0 c2 c3 c4 hu2 S4
          cases g with
          | false =>
            have HZ := Lib.hid (show Z = 5 from HM.out)
            clear HM HC
            go_wp2_with fail
            go_ret
            exact ⟨by rw [HZ.out]; rfl, HU.out⟩
          | true =>
            have HZ := Lib.hid (show Z = 0 from HM.out)
            clear HM HC
            go_wp2_with fail
            go_ret
            exact ⟨by rw [HZ.out]; rfl, HU.out⟩

set_option maxRecDepth 20000 in
theorem sysIsS (B : Nat) (cs : List Value) (fp : List Nat) (s : Sy) (w : World) (hA : SyAt B cs fp w s) (hF : SyFit s) :
    Calls Tryz.prog 50 #[.pointer (some ⟨B, 0, none⟩)] w fun e w' => e = .returned (.bool (sysOk s)) ∧ Upd [] w w' := by
  have S1 := Lib.hid (sysFaultS B cs fp s w hA hF)
  have HZ := Lib.hid (faultSy_ok s)
  clear hA hF
  generalize faultSy s = z at *
  go_enter Tryz.func50, Tryz.ntmps50
  go_wp2_with fail
  refine S1.out.mono ?_
  rintro e w1 ⟨rfl, hu1⟩
  have HU := Lib.hid hu1
  clear hu1
  go_wp2_with fail
  go_ret
  exact ⟨by rw [← HZ.out]; rfl, HU.out⟩

end Go.Proofs.YtnchmnjkmhfleaaGreat

/-
  Systems that are changed: names of definitions, and what the calls give.
-/
namespace Go.Proofs.YtnchmnjkmhfleaaGreat
open Go.RowKit

def zeroSy : Sy := ⟨[], [], [], [], []⟩
theorem sy_zero (w w' : World) : NewQ R_Sy w w' zerosSy zeroSy :=
  ⟨[] ++ ([] ++ ([] ++ ([] ++ []))), ⟨_, _, _, _, _, [], [], [], [], [], rfl, ⟨none, 0, [], [], [], rfl, Nat.le_refl _, by simp [maxLen], rfl, by simp, rfl, rfl, Or.inl ⟨rfl, rfl⟩, by simp [zeroSy]⟩, ⟨none, 0, [], [], [], rfl, Nat.le_refl _, by simp [maxLen], rfl, by simp, rfl, rfl, Or.inl ⟨rfl, rfl⟩, by simp [zeroSy]⟩, ⟨none, 0, [], [], [], rfl, Nat.le_refl _, by simp [maxLen], rfl, by simp, rfl, rfl, Or.inl ⟨rfl, rfl⟩, by simp [zeroSy]⟩, ⟨_, rfl, none, 0, rfl, Nat.le_refl _, by simp [maxLen], by simp [zeroSy], Or.inl ⟨rfl, rfl⟩⟩, ⟨_, rfl, none, 0, rfl, Nat.le_refl _, by simp [maxLen], by simp [zeroSy], Or.inl ⟨rfl, rfl⟩⟩, rfl⟩, by simpa using Own.nil w', by simp⟩
/-- what a call returns and makes that gives a system and a number. -/
def GaveSy (w : World) (F : Sy × Int) (e : Ending) (w' : World) : Prop := (∃ us, e = .returned (.tuple #[.agg us.toArray, .int .i64 F.2]) ∧ us.length = 5 ∧ us.toArray.all (·.oneCell') = true ∧ NewQ R_Sy w w' us F.1) ∧ Upd [] w w'
theorem gaveSy_zero (w w' : World) (c : Int) (hu : Upd [] w w') : GaveSy w (zeroSy, c) (.returned (.tuple #[.agg #[.slice none 0 0, .slice none 0 0, .slice none 0 0, .slice none 0 0, .slice none 0 0], .int .i64 c])) w' :=
  ⟨⟨zerosSy, rfl, rfl, by simp [Value.oneCell'], sy_zero w w'⟩, hu⟩
theorem NewQ.upd {α : Type} {R : Rp α} (K : Kept R) {w w1 w2 : World} {us : List Value} {x : α} (h : NewQ R w w1 us x) {f : List Nat} (hu : Upd f w1 w2) (hf : ∀ b ∈ f, b < w.heap.size ∨ w1.heap.size ≤ b) : NewQ R w w2 us x := by
  obtain ⟨fp, h1, h2, h3⟩ := h
  have hlt := K.lt h1
  have hd : ∀ b ∈ fp, b ∉ f := fun b hb hm => by have := h3 b hb; have := hlt b hb; rcases hf b hm with h | h <;> omega
  exact ⟨fp, K.upd h1 hu hd, h2.upd hu hd, h3⟩
theorem NewQ.mono {α : Type} {R : Rp α} {w0 w w' : World} {us : List Value} {x : α} (h : NewQ R w w' us x) (hs : w0.heap.size ≤ w.heap.size) : NewQ R w0 w' us x := by
  obtain ⟨fp, h1, h2, h3⟩ := h
  exact ⟨fp, h1, h2, fun b hb => Nat.le_trans hs (h3 b hb)⟩
theorem gaveSy {w W wo : World} {B : Nat} {us : List Value} {x : Sy} (h1 : NewQ R_Sy W wo us x) (hl : us.length = 5) (hc : us.toArray.all (·.oneCell') = true) (hu : Upd [] w wo) (hB : w.heap.size ≤ B) (hBW : B < W.heap.size) (hW : w.heap.size ≤ W.heap.size) :
    GaveSy w (x, 0) (.returned (.tuple #[.agg us.toArray, .int .i64 0])) (wo.setRow B us.toArray) := by
  have D : Upd [B] wo (wo.setRow B us.toArray) := (Upd.refl _ _).row (Or.inr (by simp)) _
  exact ⟨⟨us, rfl, hl, hc, (h1.upd R_Syk D (fun b hb => by simp at hb; left; omega)).mono hW⟩, hu.row (Or.inl hB) _⟩

/-- what bounds the copy of a valid system. -/
theorem CpFit.of {s : Sy} (hok : sysOk s = true) (_hF : SyFit s) : CpFit s := by
  have hK := SyGd.of hok
  obtain ⟨h4, h1, hpar, hnm, hbody⟩ := defs_fine hK.defs
  refine ⟨by omega, fun d hd => ?_, by have := hK.cl; omega, fun c hc => ?_, by have := hK.meets.1; omega, by have := hK.allow.1; omega, by have := hK.hide.1; omega⟩
  · obtain ⟨hb, hl20, hfine⟩ := hbody d hd
    obtain ⟨x, hx, hokx, hfl⟩ := body_tree hb
    have hpos := flatT_pos x
    rw [hfl] at hpos
    refine ⟨⟨hpos, by omega⟩, fun p hp => ?_⟩
    have hf := hfine p hp
    refine ⟨by have := hf.three; omega, fun e he => by have := eOk_len (hf.exps e he); omega⟩
  · obtain ⟨j, -, -, h3, -⟩ := hK.comp c hc
    omega

end Go.Proofs.YtnchmnjkmhfleaaGreat

/-
  slices.Delete of one component, in place: the call's contract, and the row behind it.
-/
namespace Go.Proofs.YtnchmnjkmhfleaaGreat
open Go.RowKit

/-- a system without one of its components. -/
def lessCo (s : Sy) (n : Nat) : Sy := ⟨s.defs, s.comps.eraseIdx n, s.meets, s.allow, s.hide⟩
noncomputable def delF (s : Sy) (k : Int) : Sy × Int :=
  if sysOk s = true then
    if inB k 0 ((s.comps.length : Int) - 1) = true then
      if s.comps.length = 1 then (zeroSy, 6) else (lessCo s k.toNat, 0)
    else (zeroSy, 2)
  else (zeroSy, 1)
theorem delF_b (s : Sy) (k : Int) (h : 1 + mkF_Sy s ≤ 100000000) : 1 + mkF_Sy (delF s k).1 ≤ 4611686018427387904 := by
  have h0 : mkF_Sy zeroSy = 0 := rfl
  unfold delF
  split
  · split
    · split
      · show 1 + mkF_Sy zeroSy ≤ _; omega
      · have h2 : mkF_Sy (lessCo s k.toNat) = mkF_De1 s.defs + mkF_Co1 (s.comps.eraseIdx k.toNat) + mkF_Me1 s.meets + mkF_S1 s.allow + mkF_S1 s.hide := rfl
        have h3 : mkF_Sy s = mkF_De1 s.defs + mkF_Co1 s.comps + mkF_Me1 s.meets + mkF_S1 s.allow + mkF_S1 s.hide := rfl
        have h4 : mkF_Co1 (s.comps.eraseIdx k.toNat) ≤ mkF_Co1 s.comps := by
          have hp : ∀ c : Co, 0 ≤ mkF_Co c := fun c => mkF_Co_nonneg c
          have : ∀ (l : List Co) (n : Nat), ((l.eraseIdx n).map mkF_Co).sum ≤ (l.map mkF_Co).sum := by
            intro l
            induction l with
            | nil => intro n; simp
            | cons a l ih =>
              intro n
              have := hp a
              cases n with
              | zero => simp; omega
              | succ n => have := ih n; simp; omega
          exact this _ _
        show 1 + mkF_Sy (lessCo s k.toNat) ≤ _
        omega
    · show 1 + mkF_Sy zeroSy ≤ _; omega
  · show 1 + mkF_Sy zeroSy ≤ _; omega

theorem setCells_list (b : Nat) : ∀ (vs : List Value) (o : Nat) (w : World) (cur : Array Value) (ty : TypeId), w.heap[b]? = some (.cells cur ty (0, 0)) → o + vs.length ≤ cur.size →
    ∃ cur', (w.setCells b o vs).heap[b]? = some (.cells cur' ty (0, 0)) ∧ cur'.toList = cur.toList.take o ++ (vs ++ cur.toList.drop (o + vs.length))
  | [], o, w, cur, ty, h, _ => ⟨cur, h, by simp⟩
  | v :: r, o, w, cur, ty, h, hl => by
    have hl' : o + (r.length + 1) ≤ cur.size := by simpa using hl
    have h1 : (w.setCell ⟨b, o, none⟩ v).heap[b]? = some (.cells (cur.setIfInBounds o v) ty (0, 0)) := by simp [World.setCell, Array.getElem?_modify, h]
    obtain ⟨cur', q1, q2⟩ := setCells_list b r (o + 1) (w.setCell ⟨b, o, none⟩ v) _ ty h1 (by simp; omega)
    refine ⟨cur', q1, ?_⟩
    rw [q2]
    have e : (cur.setIfInBounds o v).toList = cur.toList.take o ++ (v :: cur.toList.drop (o + 1)) := by
      rw [Array.toList_setIfInBounds, List.set_eq_take_append_cons_drop, if_pos (by simp; omega)]
    have lt : (cur.toList.take o).length = o := by simp; omega
    rw [e, List.take_append, List.drop_append, lt, List.take_of_length_le (by omega), List.drop_eq_nil_of_le (by omega : (cur.toList.take o).length ≤ o + 1 + r.length), show o + 1 - o = 1 by omega, show o + 1 + r.length - o = 1 + r.length by omega]
    simp [List.drop_drop, Nat.add_comm, Nat.add_left_comm]

theorem setCells_upd (b : Nat) : ∀ (vs : List Value) (o : Nat) (w : World), Upd [b] w (w.setCells b o vs)
  | [], _, w => Upd.refl _ _
  | v :: r, o, w => ((Upd.refl [b] w).setCell (Or.inr (by simp)) v).trans (setCells_upd b r (o + 1) (w.setCell ⟨b, o, none⟩ v))

/-- A row behind the removal of one element: those behind it laid one further to the front, and the last place filled with whatever. -/
theorem ownsRow_erase {w : World} {base : Nat} {e : TypeId} {g n cap : Nat} {us : List (List Value)} (h : w.ownsRow base e 2 (.slice (some ⟨g, 0, none⟩) n cap) n us.flatten) (hl : us.length = n) (h2 : ∀ u ∈ us, u.length = 2) {k : Nat} (hk : k < n) {zs : List Value} (hz : zs.length = 2) :
    ((w.drew.setCells g (k * 2) (us.drop (k + 1)).flatten).setCells g ((n - 1) * 2) zs).ownsRow base e 2 (.slice (some ⟨g, 0, none⟩) (n - 1) cap) (n - 1) (us.eraseIdx k).flatten := by
  have he : us.eraseIdx k = us.take k ++ us.drop (k + 1) := List.eraseIdx_eq_take_drop_succ us k
  have l1 : (us.take k).flatten.length = k * 2 := by rw [flat_len (n := 2) (fun u hu => h2 u (List.mem_of_mem_take hu))]; simp; omega
  have l2 : (us.drop (k + 1)).flatten.length = (n - 1 - k) * 2 := by rw [flat_len (n := 2) (fun u hu => h2 u (List.mem_of_mem_drop hu))]; simp; omega
  obtain ⟨q0, ⟨q1, -⟩ | ⟨g', cap', cur, hv, hb, hh, r1, r2, r3, r4⟩⟩ := h
  · cases q1
  · cases hv
    have hh' : w.drew.heap[g]? = some (.cells cur e (0, 0)) := hh
    obtain ⟨c1, a1, a2⟩ := setCells_list g (us.drop (k + 1)).flatten (k * 2) w.drew cur e hh' (by omega)
    have s1 : c1.size = cap * 2 := by
      have := congrArg List.length a2
      simp only [Array.length_toList, List.length_append, List.length_take, List.length_drop] at this
      omega
    obtain ⟨c2, b1, b2⟩ := setCells_list g zs ((n - 1) * 2) _ c1 e a1 (by omega)
    have s2 : c2.size = cap * 2 := by
      have := congrArg List.length b2
      simp only [Array.length_toList, List.length_append, List.length_take, List.length_drop] at this
      omega
    have t0 : cur.toList.take (k * 2) = (us.take k).flatten := by
      have : us.flatten = (us.take k).flatten ++ (us.drop k).flatten := by rw [← List.flatten_append, List.take_append_drop]
      have h3 : (cur.toList.take (n * 2)).take (k * 2) = (us.take k).flatten := by rw [r4, this, List.take_append, l1, Nat.sub_self, List.take_zero, List.append_nil, List.take_of_length_le (by omega)]
      rw [← h3, List.take_take, Nat.min_eq_left (by omega)]
    refine ⟨by rw [he, List.flatten_append, List.length_append, l1, l2]; omega, Or.inr ⟨g, cap, c2, rfl, hb, b1, by omega, r2, s2, ?_⟩⟩
    rw [b2, List.take_append, List.length_take, List.take_of_length_le (by rw [List.length_take]; omega), Array.length_toList, show (n - 1) * 2 - min ((n - 1) * 2) c1.size = 0 by omega, List.take_zero, List.append_nil, a2, ← List.append_assoc, List.take_append, t0, List.length_append, l1, l2, show (n - 1) * 2 - (k * 2 + (n - 1 - k) * 2) = 0 by omega, List.take_zero, List.append_nil, List.take_of_length_le (by rw [List.length_append, l1, l2]; omega), he, List.flatten_append]

theorem flatten_erase {β : Type} (l : List (List β)) (k : Nat) : (l.eraseIdx k).flatten.Sublist l.flatten := by
  rw [List.eraseIdx_eq_take_drop_succ, List.flatten_append]
  conv => rhs; rw [← List.take_append_drop k l, List.flatten_append]
  refine List.Sublist.append (List.Sublist.refl _) ?_
  have e : l.drop (k + 1) = (l.drop k).drop 1 := by rw [List.drop_drop]
  rw [e]
  cases l.drop k with
  | nil => simp
  | cons a r => simp
theorem RowsQ.erase {α : Type} {n : Nat} {R : Rp α} {base : Nat} {ob : List Nat} {w : World} {us : List (List Value)} {xs : List α} (h : RowsQ n R base ob w us xs) (k : Nat) : RowsQ n R base ob w (us.eraseIdx k) (xs.eraseIdx k) := by
  obtain ⟨fps, h1, h2, h6, h3, h4, h5⟩ := h
  have hs := flatten_erase fps k
  refine ⟨fps.eraseIdx k, by rw [List.length_eraseIdx, List.length_eraseIdx, h1], by rw [List.length_eraseIdx, List.length_eraseIdx, h2], fun u hu => h6 u (List.mem_of_mem_eraseIdx hu), ⟨h3.1.sublist hs, fun b hb => h3.2 b (hs.subset hb)⟩, fun b hb => h4 b (hs.subset hb), fun i hi u f hu hf => ?_⟩
  rw [List.getElem?_eraseIdx] at hu hf
  have hl := List.length_eraseIdx_le xs k
  by_cases hik : i < k
  · rw [if_pos hik] at hu hf
    rw [List.getElem_eraseIdx, dif_pos hik]
    exact h5 i (by omega) u f hu hf
  · rw [if_neg hik] at hu hf
    rw [List.getElem_eraseIdx, dif_neg hik]
    exact h5 (i + 1) (by
      have := (List.getElem?_eq_some_iff.1 hu).1
      omega) u f hu hf

/-- clear(s) at one element of two cells. -/
theorem run_clear_two (w : World) (t e ty : TypeId) (z : Value) (z0 z1 : Value) (ht : Tryz.prog.underlying t = some (.slice e)) (hv : ∀ w, (zeroValue e).run Tryz.prog w = .ok z w) (hz : z.cells = #[z0, z1]) (h0 : z0.oneCell' = true) (h1 : z1.oneCell' = true) (b o c : Nat)
    (hc : ∀ j, j < 2 → (w.cell? ⟨b, o + j, none⟩).isSome = true) (hf : ∀ j, j < 2 → w.frozen? ⟨b, o + j, none⟩ = false) :
    (Builtin.clear_ #[t] ty #[.slice (some ⟨b, o, none⟩) 1 c]).run Tryz.prog w = .ok (.tuple #[]) (w.setCells b o [z0, z1]) := by
  have hzc : (Builtin.zeroCells z.cells 1).toList = [z0, z1] := by
    rw [hz]; simp [Builtin.zeroCells, List.range_succ]
  have hst := run_storeCells_cells (P := Tryz.prog) b o [z0, z1] 0 w (by simpa using hc) (by simpa using hf) (by intro v hv'; simp at hv'; rcases hv' with rfl | rfl <;> assumption)
  simp only [Nat.add_zero] at hst
  simp [Builtin.clear_, run_underlying ht, hv, hzc, hst]

end Go.Proofs.YtnchmnjkmhfleaaGreat

/-
  slices.Delete of one component: the contract of the library's function at components.
-/
namespace Go.Proofs.YtnchmnjkmhfleaaGreat
open Go.RowKit

set_option maxRecDepth 20000 in
set_option maxHeartbeats 8000000 in
theorem delRow (g cap k n : Nat) (us : List (List Value)) (w : World) (base : Nat) (h : w.ownsRow base 38 2 (.slice (some ⟨g, 0, none⟩) n cap) n us.flatten) (hl : us.length = n) (h2 : ∀ u ∈ us, u.length = 2) (h1 : ∀ u ∈ us.flatten, u.oneCell' = true) (hk : k < n) (hn : n ≤ 1000) :
    Calls Tryz.prog 44 #[.slice (some ⟨g, 0, none⟩) n cap, .int .i64 k, .int .i64 ((k : Int) + 1)] w fun x w' => x = .returned (.slice (some ⟨g, 0, none⟩) (n - 1) cap) ∧ w'.ownsRow base 38 2 (.slice (some ⟨g, 0, none⟩) (n - 1) cap) (n - 1) (us.eraseIdx k).flatten ∧ Upd [g] w w' := by
  obtain ⟨i0, hi0, hz0, hz1, hz2⟩ := info_parts Tryz.infoCo
  have HRES := Lib.hid (ownsRow_erase h hl h2 hk (zs := [ei 0, .slice none 0 0]) rfl)
  obtain ⟨hfl, ⟨q1, -⟩ | ⟨g', cap', cur, hv, hb, hh, r1, r2, r3, r4⟩⟩ := h
  · cases q1
  cases hv
  unfold maxLen at r2
  obtain ⟨news, hnews⟩ : ∃ news, news = (us.drop (k + 1)).flatten := ⟨_, rfl⟩
  have hlen : news.length = (n - (k + 1)) * 2 := by rw [hnews, flat_len (n := 2) (fun u hu => h2 u (List.mem_of_mem_drop hu))]; simp; omega
  have hcell : ∀ o u, us.flatten[o]? = some u → w.cell? ⟨g, o, none⟩ = some u := by
    intro o u hu
    have hlt : o < n * 2 := by have := (List.getElem?_eq_some_iff.1 hu).1; omega
    have h4 : cur[o]? = some u := by
      rw [← r4, List.getElem?_take, if_pos hlt, Array.getElem?_toList] at hu; exact hu
    simp [World.cell?, hh, h4]
  have hin : ∀ o, o < cap * 2 → (w.cell? ⟨g, o, none⟩).isSome = true ∧ w.frozen? ⟨g, o, none⟩ = false := by
    intro o ho
    have : o < cur.size := by omega
    simp [World.cell?, World.frozen?, hh, this]
  have hget : ∀ t u, news[t]? = some u → us.flatten[(k + 1) * 2 + t]? = some u := by
    intro t u hu
    have e : us.flatten = (us.take (k + 1)).flatten ++ news := by rw [hnews, ← List.flatten_append, List.take_append_drop]
    have el : (us.take (k + 1)).flatten.length = (k + 1) * 2 := by rw [flat_len (n := 2) (fun u hu => h2 u (List.mem_of_mem_take hu))]; simp; omega
    rw [e, List.getElem?_append_right (by omega), el, show (k + 1) * 2 + t - (k + 1) * 2 = t by omega]; exact hu
  obtain ⟨A, hA, hsrc⟩ : ∃ A : Addr, (if cap = k + 1 then (some ⟨g, 0, none⟩ : Option Addr) else some ⟨g, (k + 1) * 2, none⟩) = some A ∧ Hid (∀ t u, news[t]? = some u → w.drew.cell? (A.add t) = some u) := by
    by_cases h : cap = k + 1
    · refine ⟨⟨g, 0, none⟩, by simp [h], Lib.hid (fun t u hu => ?_)⟩
      have h0 : news.length = 0 := by rw [hlen]; omega
      rw [List.length_eq_zero_iff.1 h0] at hu
      simp at hu
    · refine ⟨⟨g, (k + 1) * 2, none⟩, by simp [h], Lib.hid (fun t u hu => ?_)⟩
      rw [addr_add]
      exact hcell _ _ (hget t u hu)
  have s1 := Lib.hid (show news.length = (n - (k + 1)) * 2 from hlen)
  have s2 := Lib.hid (show ∀ u ∈ news, u.oneCell' = true from fun u hu => by
    rw [hnews] at hu
    obtain ⟨x, hx, hm⟩ := List.mem_flatten.1 hu
    exact h1 u (List.mem_flatten.2 ⟨x, List.mem_of_mem_drop hx, hm⟩))
  have s3 := Lib.hid (show ∀ t, t < news.length → (w.drew.cell? ⟨g, 0 + k * 2 + t, none⟩).isSome = true ∧ w.drew.frozen? ⟨g, 0 + k * 2 + t, none⟩ = false from fun t ht => hin _ (by omega))
  obtain ⟨W1, hW1⟩ : ∃ W1, W1 = w.drew.setCells g (0 + k * 2) news := ⟨_, rfl⟩
  have hW1c : ∀ o, o < cap * 2 → (W1.cell? ⟨g, o, none⟩).isSome = true ∧ W1.frozen? ⟨g, o, none⟩ = false := by
    intro o ho
    rw [hW1]
    exact ⟨World.isSome_setCells g news _ _ _ (hin o ho).1, by rw [World.frozen?_setCells]; exact (hin o ho).2⟩
  have hcl : ∀ ty, (Builtin.clear_ #[25] ty #[.slice (some ⟨g, (n - 1) * 2, none⟩) 1 (cap - (n - 1))]).run Tryz.prog W1 = .ok (.tuple #[]) (W1.setCells g ((n - 1) * 2) [ei 0, .slice none 0 0]) :=
    fun ty => run_clear_two W1 _ 38 ty (.agg #[.int .i64 0, .slice none 0 0]) (ei 0) (.slice none 0 0) Tryz.underlying25 (fun w => by go_simp) rfl rfl rfl g _ _ (fun j hj => (hW1c _ (by omega)).1) (fun j hj => (hW1c _ (by omega)).2)
  have HW := Lib.hid hW1
  have HNW := Lib.hid hnews
  have hkn : (k : Int) < (n : Int) := by omega
  have hkc : k + 1 ≤ cap := by omega
  have hkc0 : k ≤ cap := by omega
  have hkc1 : (k : Int) ≤ (cap : Int) := by omega
  have hkc2 : (k : Int) + 1 ≤ (cap : Int) := by omega
  have hkn1 : (k : Int) + 1 ≤ (n : Int) := by omega
  have hk0 : (0 : Int) ≤ (k : Int) + 1 := by omega
  have hkt : ((k : Int) + 1).toNat = k + 1 := by omega
  have hne : ((k : Int) == (k : Int) + 1) = false := by rw [beq_eq_false_iff_ne]; omega
  have iw : IntKind.i64.wrap ((k : Int) + 1) = (k : Int) + 1 := IntWalk.i64_in _ (by omega)
  clear hW1 hW1c hin hcell hget hnews hh r3 r4 hfl h1 h2 hlen
  go_enter Tryz.func44, Tryz.ntmps44
  go_wp2_with fail
  go_region_law (refine step_append_room rfl (.tmp 22) (.tmp 25) 25 rfl 38 i0 2 Tryz.underlying25 hi0 hz1 g 0 k cap (by simp [Act.eval, Act.put]) A (n - (k + 1)) (cap - (k + 1)) news (by simp [Act.eval, Act.put]) s1.out hsrc.out s2.out (by omega) s3.out ?_; rw [← HW.out])
  have hsum : k + (n - (k + 1)) = n - 1 := by omega
  rw [hsum]
  have hn1 : n - (n - 1) = 1 := by omega
  have hnn : ((n - 1 : Nat) : Int) ≤ (n : Int) := by omega
  have hnc : ((n : Nat) : Int) ≤ (cap : Int) := by omega
  go_wp2_with fail
  go_ret
  refine ⟨rfl, ?_, ?_⟩
  · have := HRES.out
    rw [← HNW.out] at this
    rw [HW.out, Nat.zero_add]
    exact this
  · rw [HW.out]
    exact ((Upd.refl [g] w).drew.trans (setCells_upd g news _ _)).trans (setCells_upd g _ _ _)

end Go.Proofs.YtnchmnjkmhfleaaGreat

/-
  RemoveComponent: what both sides want of rows of components.
-/
namespace Go.Proofs.YtnchmnjkmhfleaaGreat
open Go.RowKit

theorem AccZ.erase {α : Type} {n : Nat} {R : Rp α} {base : Nat} {e : TypeId} {ex : List Nat} {w w1 : World} {xs : List α} (K : Kept R) {us : List (List Value)} {g cap : Nat}
    (hrows : RowsQ n R base (ex ++ (Value.slice (some ⟨g, 0, none⟩) xs.length cap).ownBlock.toList) w us xs) (hg : g ∉ ex) (hZ : ∀ b ∈ ex, b < w.heap.size) (hu : Upd [g] w w1) {k : Nat}
    (h2 : w1.ownsRow base e n (.slice (some ⟨g, 0, none⟩) (xs.length - 1) cap) (xs.length - 1) (us.eraseIdx k).flatten) (hk : k < xs.length) :
    AccZ n R base e ex w1 (.slice (some ⟨g, 0, none⟩) (xs.length - 1) cap) (xs.eraseIdx k) := by
  have hl : (xs.eraseIdx k).length = xs.length - 1 := by rw [List.length_eraseIdx_of_lt hk]
  refine ⟨us.eraseIdx k, by rw [hl]; exact h2, ?_, fun b hb => ?_, fun b hb => Nat.lt_of_lt_of_le (hZ b hb) hu.size⟩
  · exact (hrows.upd K hu (fun b hb => Or.inl (by simp at hb; subst hb; simp [Value.ownBlock]))).erase k
  · simp only [Value.ownBlock, Option.some.injEq] at hb
    subst hb; exact hg

theorem AccZ.swap {α : Type} {n : Nat} {R : Rp α} {base base2 : Nat} {e : TypeId} {ex : List Nat} {w w1 : World} {xs : List α} (K : Kept R) {us : List (List Value)} {v : Value} {g cap N : Nat}
    (hrows : RowsQ n R base (ex ++ v.ownBlock.toList) w us xs) (hZ : ∀ b ∈ ex, b < w.heap.size) (hu : Upd [] w w1) {k : Nat}
    (h2 : w1.ownsRow base2 e n (.slice (some ⟨g, 0, none⟩) N cap) N (us.eraseIdx k).flatten) (hN : N = xs.length - 1) (hb : base ≤ base2) (hg : w.heap.size ≤ g) (hk : k < xs.length) :
    AccZ n R base e ex w1 (.slice (some ⟨g, 0, none⟩) N cap) (xs.eraseIdx k) := by
  have hl : (xs.eraseIdx k).length = N := by rw [List.length_eraseIdx_of_lt hk, hN]
  refine ⟨us.eraseIdx k, ?_, ?_, fun b hb => ?_, fun b hb => Nat.lt_of_lt_of_le (hZ b hb) hu.size⟩
  · rw [hl]
    rcases h2 with ⟨q0, q1 | ⟨g', cap', cur, hv, hg', hh, r1, r2, r3, r4⟩⟩
    · cases q1.1
    · exact ⟨q0, Or.inr ⟨g', cap', cur, hv, Nat.le_trans hb hg', hh, r1, r2, r3, r4⟩⟩
  · have h3 : RowsQ n R base (ex ++ [g]) w us xs := hrows.ob' (fun b hb => by
      rcases List.mem_append.1 hb with hb | hb
      · exact Or.inl (List.mem_append_left _ hb)
      · simp at hb; subst hb; exact Or.inr (Or.inr hg))
    exact ((h3.upd K hu (by simp)).erase k)
  · simp only [Value.ownBlock, Option.some.injEq] at hb
    subst hb
    intro hm; have := hZ _ hm; omega

/-- the cells of a row of components are one cell each. -/
theorem co_cells {base : Nat} {ob : List Nat} {w : World} {us : List (List Value)} {xs : List Co} (h : RowsQ 2 R_Co base ob w us xs) : ∀ u ∈ us.flatten, u.oneCell' = true := by
  intro u hu
  obtain ⟨l, hl, hm⟩ := List.mem_flatten.1 hu
  obtain ⟨fps, a1, a2, a3, a4, a5, a6⟩ := h
  obtain ⟨i, hi, rfl⟩ := List.mem_iff_getElem.1 hl
  obtain ⟨v1, f1, e, h1, -⟩ := a6 i (by omega) us[i] fps[i] (by simp) (by simp)
  rw [e] at hm
  obtain ⟨a, c, rfl, -⟩ := slF1_open h1
  simp at hm
  rcases hm with rfl | rfl <;> rfl

theorem ownsRow_at {w : World} {base : Nat} {e : TypeId} {size n cap : Nat} {a : Option Addr} {xs : List Value} (h : w.ownsRow base e size (.slice a n cap) n xs) (h0 : 0 < n) : ∃ g, a = some ⟨g, 0, none⟩ ∧ g < w.heap.size := by
  rcases h with ⟨-, ⟨-, h1⟩ | ⟨g, cap', cur, hv, -, hh, -⟩⟩
  · omega
  · cases hv
    exact ⟨g, rfl, (Array.getElem?_eq_some_iff.1 hh).1⟩
theorem ownsRow_at2 {w : World} {base : Nat} {e : TypeId} {size n : Nat} {v : Value} {xs : List Value} (h : w.ownsRow base e size v n xs) (h0 : 0 < n) : ∃ g cap, v = .slice (some ⟨g, 0, none⟩) n cap ∧ base ≤ g ∧ g < w.heap.size := by
  rcases h with ⟨-, ⟨-, h1⟩ | ⟨g, cap', cur, hv, hb, hh, -⟩⟩
  · omega
  · exact ⟨g, cap', hv, hb, (Array.getElem?_eq_some_iff.1 hh).1⟩

theorem row_two {w : World} {base : Nat} {e : TypeId} {g n cap : Nat} {us : List (List Value)} (h : w.ownsRow base e 2 (.slice (some ⟨g, 0, none⟩) n cap) n us.flatten) (hl : us.length = n) (h2 : ∀ u ∈ us, u.length = 2) (h1 : ∀ u ∈ us.flatten, u.oneCell' = true) (i : Nat) (hi : i < n) :
    ∃ u0 u1, us[i]? = some [u0, u1] ∧ u0.oneCell' = true ∧ u1.oneCell' = true ∧ w.cell? ⟨g, i * 2, none⟩ = some u0 ∧ w.cell? ⟨g, i * 2 + 1, none⟩ = some u1 := by
  obtain ⟨hfl, ⟨q1, -⟩ | ⟨g', cap', cur, hv, hb, hh, r1, r2, r3, r4⟩⟩ := h
  · cases q1
  cases hv
  have hi' : i < us.length := by omega
  have hcell : ∀ o u, us.flatten[o]? = some u → w.cell? ⟨g, o, none⟩ = some u := by
    intro o u hu
    have hlt : o < n * 2 := by have := (List.getElem?_eq_some_iff.1 hu).1; omega
    have h4 : cur[o]? = some u := by
      rw [← r4, List.getElem?_take, if_pos hlt, Array.getElem?_toList] at hu; exact hu
    simp [World.cell?, hh, h4]
  have hui : us[i]? = some us[i] := List.getElem?_eq_getElem hi'
  have hmem := List.getElem_mem hi'
  have hlen := h2 _ hmem
  have hin : ∀ u ∈ us[i], u.oneCell' = true := fun u hu => h1 u (List.mem_flatten.2 ⟨_, hmem, hu⟩)
  have hat : ∀ j c, us[i][j]? = some c → us.flatten[i * 2 + j]? = some c := fun j c hc => flat_at h2 hui hc
  match hq : us[i], hlen with
  | [u0, u1], _ =>
    rw [hq] at hui hin hat
    exact ⟨u0, u1, hui, hin u0 (by simp), hin u1 (by simp), hcell _ _ (hat 0 u0 rfl), hcell _ _ (hat 1 u1 rfl)⟩

theorem pick_same {β : Type} {us : List β} {i j : Nat} {u : β} (h : us[i]? = some u) (hij : i = j) : (us.take (i + 1)).eraseIdx j = (us.take i).eraseIdx j := by
  subst hij
  obtain ⟨hi, rfl⟩ := List.getElem?_eq_some_iff.1 h
  have hl : (us.take i).length = i := by rw [List.length_take]; omega
  have e1 : (us.take i).eraseIdx i = us.take i := List.eraseIdx_of_length_le (by omega)
  rw [e1, List.take_succ_eq_append_getElem hi, List.eraseIdx_append_of_length_le (by omega), hl, Nat.sub_self]
  simp
theorem pick_more {β : Type} {us : List β} {i j : Nat} {u : β} (h : us[i]? = some u) (hij : ¬ i = j) : (us.take (i + 1)).eraseIdx j = (us.take i).eraseIdx j ++ [u] := by
  obtain ⟨hi, rfl⟩ := List.getElem?_eq_some_iff.1 h
  have hl : (us.take i).length = i := by rw [List.length_take]; omega
  rw [List.take_succ_eq_append_getElem hi]
  by_cases hlt : j < i
  · rw [List.eraseIdx_append_of_lt_length (by omega)]
  · have e1 : (us.take i).eraseIdx j = us.take i := List.eraseIdx_of_length_le (by omega)
    have e2 : [us[i]].eraseIdx (j - i) = [us[i]] := List.eraseIdx_of_length_le (by simp; omega)
    rw [e1, List.eraseIdx_append_of_length_le (by omega), hl, e2]

end Go.Proofs.YtnchmnjkmhfleaaGreat

/-
  RemoveComponent: what the program's call gives.
-/
namespace Go.Proofs.YtnchmnjkmhfleaaGreat
open Go.RowKit

set_option maxRecDepth 20000 in
set_option maxHeartbeats 40000000 in
theorem delCI (cs : List Value) (s : Sy) (k : Int) (w : World) (fp : List Nat) (hR : R_Sy fp w cs s) (hF : SyFit s) :
    Calls Tryz.prog 14 #[.agg cs.toArray, .int .i64 k] w (GaveSy w (delF s k)) := by
  have hR' := hR
  obtain ⟨v0, v1, v2, v3, v4, f0, f1, f2, f3, f4, rfl, -, h1, -, -, -, rfl⟩ := hR
  obtain ⟨B, hB⟩ : ∃ B, B = w.heap.size := ⟨_, rfl⟩
  obtain ⟨wA, hwA⟩ : ∃ wA, wA = (w.alloc (.cells #[v0, v1, v2, v3, v4] 29)).alloc (.cells #[.slice none 0 0, .slice none 0 0, .slice none 0 0, .slice none 0 0, .slice none 0 0] 29) := ⟨_, rfl⟩
  have s1 : (w.alloc (.cells #[v0, v1, v2, v3, v4] 29)).heap.size = B + 1 := by rw [hB]; simp
  have uA : Upd [] w wA := by rw [hwA]; exact ((Upd.refl _ _).alloc _).alloc _
  have HA := Lib.hid (show RowAt wA (B + 1) 29 zerosSy from by rw [hwA, ← s1]; exact RowAt.new _ _ _)
  have hL : RowAt wA B 29 [v0, v1, v2, v3, v4] := by rw [hwA, hB]; exact (RowAt.new _ _ _).upd ((Upd.refl [] _).alloc _) (by simp)
  have HL := Lib.hid hL
  have S1 := Lib.hid (validSysI _ s wA _ (R_Syk.upd hR' uA (by simp)) hF)
  have S4 := Lib.hid (fun W (hu : Upd [] wA W) (hk : sysOk s = true) => cloneSyM _ s W _ (R_Syk.upd hR' (uA.trans hu) (by simp)) (CpFit.of hk hF))
  have UA := Lib.hid uA
  have hszA : B + 2 ≤ wA.heap.size := by rw [hwA, hB]; simp
  have HK := Lib.hid (fun (h : sysOk s = true) => SyGd.of h)
  obtain ⟨a1, q1, rfl, hd1, hd2, -⟩ := slQ_open h1
  unfold maxLen at hd2
  have HM := Lib.hid (show delF s k = (if sysOk s = true then if inB k 0 ((s.comps.length : Int) - 1) = true then if s.comps.length = 1 then (zeroSy, 6) else (lessCo s k.toNat, 0) else (zeroSy, 2) else (zeroSy, 1)) from rfl)
  clear hR' uA s1 hL h1
  generalize delF s k = Z at *
  generalize hok : sysOk s = ok at *
  go_enter Tryz.func14, Tryz.ntmps14
  go_upto_region 1 with (fail)
  rw [← hwA, ← hB]
  have HBB := Lib.hid hB
  clear hwA hB
  have z0 := HL.out.cell 0 _ rfl
  have z1 := HL.out.cell 1 _ rfl
  have z2 := HL.out.cell 2 _ rfl
  have z3 := HL.out.cell 3 _ rfl
  have z4 := HL.out.cell 4 _ rfl
  go_wp2_with fail
  refine S1.out.mono ?_
  rintro e w1 ⟨rfl, hu1⟩
  have UA1 := Lib.hid hu1
  have HU1 := Lib.hid (UA.out.trans hu1)
  have HL1 := Lib.hid (HL.out.upd hu1 (by simp))
  have HA1 := Lib.hid (HA.out.upd hu1 (by simp))
  clear S1 hu1 z0 z1 z2 z3 z4 HL HA
  cases ok with
  | false =>
    have HZ := Lib.hid (show Z = (zeroSy, 1) by rw [HM.out]; rfl)
    clear S4 HM
    have hAx := HA1.out
    unfold RowAt at hAx
    go_wp2_with (first
      | (refine wpList_store_row rfl 29 _ _ rfl (B + 1) #[.slice none 0 0, .slice none 0 0, .slice none 0 0, .slice none 0 0, .slice none 0 0] rfl rfl 29 _ hAx Sy_size rfl (by simp [Value.oneCell']) ?_)
      | fail)
    have hr : RowAt (w1.setRow (B + 1) #[.slice none 0 0, .slice none 0 0, .slice none 0 0, .slice none 0 0, .slice none 0 0]) (B + 1) 29 [.slice none 0 0, .slice none 0 0, .slice none 0 0, .slice none 0 0, .slice none 0 0] := HA1.out.row zerosSy
    have n0 := hr.cell 0 _ rfl
    have n1 := hr.cell 1 _ rfl
    have n2 := hr.cell 2 _ rfl
    have n3 := hr.cell 3 _ rfl
    have n4 := hr.cell 4 _ rfl
    refine bodyPost_ret (v := .tuple #[.agg #[.slice none 0 0, .slice none 0 0, .slice none 0 0, .slice none 0 0, .slice none 0 0], .int .i64 1]) (by simp [results, Tryz.results14, go_sem, n0, n1, n2, n3, n4]) rfl ?_
    rw [HZ.out]
    exact gaveSy_zero _ _ _ (HU1.out.row (Or.inl (by have := HBB.out; omega)) _)
  | true =>
    have hK := HK.out rfl
    have hcl := hK.cl
    have z1 := HL1.out.cell 1 _ rfl
    have T2 := Lib.hid (idxI k s.comps.length w1 (by omega))
    obtain ⟨qi, hqi⟩ : ∃ q, inB k 0 ((s.comps.length : Int) - 1) = q := ⟨_, rfl⟩
    rw [hqi] at T2 HM
    go_wp2_with fail
    refine T2.out.mono ?_
    rintro e w2 ⟨rfl, rfl⟩
    clear T2
    cases qi with
    | false =>
      have HZ := Lib.hid (show Z = (zeroSy, 2) by rw [HM.out]; rfl)
      clear S4 HM hqi
      have hAx := HA1.out
      unfold RowAt at hAx
      go_wp2_with (first
        | (refine wpList_store_row rfl 29 _ _ rfl (B + 1) #[.slice none 0 0, .slice none 0 0, .slice none 0 0, .slice none 0 0, .slice none 0 0] rfl rfl 29 _ hAx Sy_size rfl (by simp [Value.oneCell']) ?_)
        | fail)
      have hr : RowAt (w1.setRow (B + 1) #[.slice none 0 0, .slice none 0 0, .slice none 0 0, .slice none 0 0, .slice none 0 0]) (B + 1) 29 [.slice none 0 0, .slice none 0 0, .slice none 0 0, .slice none 0 0, .slice none 0 0] := HA1.out.row zerosSy
      have n0 := hr.cell 0 _ rfl
      have n1 := hr.cell 1 _ rfl
      have n2 := hr.cell 2 _ rfl
      have n3 := hr.cell 3 _ rfl
      have n4 := hr.cell 4 _ rfl
      refine bodyPost_ret (v := .tuple #[.agg #[.slice none 0 0, .slice none 0 0, .slice none 0 0, .slice none 0 0, .slice none 0 0], .int .i64 2]) (by simp [results, Tryz.results14, go_sem, n0, n1, n2, n3, n4]) rfl ?_
      rw [HZ.out]
      exact gaveSy_zero _ _ _ (HU1.out.row (Or.inl (by have := HBB.out; omega)) _)
    | true =>
      have hin := inB_true hqi
      obtain ⟨j, rfl⟩ : ∃ j : Nat, k = j := ⟨k.toNat, by omega⟩
      have hj : j < s.comps.length := by omega
      clear hqi hin
      by_cases h3 : s.comps.length = 1
      · have HZ := Lib.hid (show Z = (zeroSy, 6) by rw [HM.out]; simp [h3])
        have g3 : ((s.comps.length : Int) == 1) = true := by rw [h3]; rfl
        clear S4 HM
        have hAx := HA1.out
        unfold RowAt at hAx
        go_wp2_with (first
          | (refine wpList_store_row rfl 29 _ _ rfl (B + 1) #[.slice none 0 0, .slice none 0 0, .slice none 0 0, .slice none 0 0, .slice none 0 0] rfl rfl 29 _ hAx Sy_size rfl (by simp [Value.oneCell']) ?_)
          | fail)
        have hr : RowAt (w1.setRow (B + 1) #[.slice none 0 0, .slice none 0 0, .slice none 0 0, .slice none 0 0, .slice none 0 0]) (B + 1) 29 [.slice none 0 0, .slice none 0 0, .slice none 0 0, .slice none 0 0, .slice none 0 0] := HA1.out.row zerosSy
        have n0 := hr.cell 0 _ rfl
        have n1 := hr.cell 1 _ rfl
        have n2 := hr.cell 2 _ rfl
        have n3 := hr.cell 3 _ rfl
        have n4 := hr.cell 4 _ rfl
        refine bodyPost_ret (v := .tuple #[.agg #[.slice none 0 0, .slice none 0 0, .slice none 0 0, .slice none 0 0, .slice none 0 0], .int .i64 6]) (by simp [results, Tryz.results14, go_sem, n0, n1, n2, n3, n4]) rfl ?_
        rw [HZ.out]
        exact gaveSy_zero _ _ _ (HU1.out.row (Or.inl (by have := HBB.out; omega)) _)
      · have HZ := Lib.hid (show Z = (lessCo s j, 0) by rw [HM.out]; simp [h3])
        have g3 : ((s.comps.length : Int) == 1) = false := by rw [beq_eq_false_iff_ne]; omega
        have T4 := Lib.hid (S4.out w1 UA1.out trivial)
        clear S4 HM
        have z0 := HL1.out.cell 0 _ rfl
        have z2 := HL1.out.cell 2 _ rfl
        have z3 := HL1.out.cell 3 _ rfl
        have z4 := HL1.out.cell 4 _ rfl
        go_wp2_with fail
        refine T4.out.mono ?_
        rintro e w3 ⟨⟨us, rfl, hl, hc, hm⟩, hu3⟩
        obtain ⟨p0, y0, ca, cc, p2, y2, p3, y3, p4, y4, rfl⟩ := sy_form hm.new
        obtain ⟨d0, d1, d2, d3, d4, g0, g2, g3', g4', heq, r0, r2, r3, r4, ho, hg, ha⟩ := hm
        simp only [List.cons.injEq, and_true] at heq
        obtain ⟨rfl, rfl, rfl, rfl, rfl⟩ := heq
        obtain ⟨G, hG⟩ : ∃ G, G = g0 ++ (g2 ++ (g3' ++ g4')) := ⟨_, rfl⟩
        have hGl : ∀ b ∈ G, b < w3.heap.size := fun b hb => ho.lt b (by rw [← hG]; exact hb)
        rw [← hG] at ho hg ha
        obtain ⟨wB, hwB⟩ : ∃ wB, wB = w3.alloc (.cells #[.slice p0 s.defs.length y0, .slice ca s.comps.length cc, .slice p2 s.meets.length y2, .slice p3 s.allow.length y3, .slice p4 s.hide.length y4] 29) := ⟨_, rfl⟩
        have uB : Upd [] w3 wB := by rw [hwB]; exact (Upd.refl _ _).alloc _
        obtain ⟨C, hC⟩ : ∃ C, C = w3.heap.size := ⟨_, rfl⟩
        have hrC : RowAt wB C 29 [.slice p0 s.defs.length y0, .slice ca s.comps.length cc, .slice p2 s.meets.length y2, .slice p3 s.allow.length y3, .slice p4 s.hide.length y4] := by rw [hwB, hC]; exact RowAt.new _ _ _
        have haB : AccZ 2 R_Co w1.heap.size 38 (C :: G) wB (.slice ca s.comps.length cc) s.comps := ha.reex R_Cok uB (by simp) (Nat.le_refl _) (fun b hb => by
          rcases List.mem_cons.1 hb with rfl | hb
          · exact Or.inr (by omega)
          · exact Or.inl hb) (fun b hb => by
          rcases List.mem_cons.1 hb with rfl | hb
          · exact hrC.lt
          · have := hGl b hb; have := uB.size; omega)
        obtain ⟨us, hown, hrows, hvZ, hexl⟩ := haB
        have hul := hrows.length
        have hue := hrows.each
        have h1c := co_cells hrows
        obtain ⟨gb, rfl, hgbl⟩ : ∃ gb, ca = some ⟨gb, 0, none⟩ ∧ gb < wB.heap.size := ownsRow_at hown (by omega)
        have HOW := Lib.hid hown
        have HRW := Lib.hid hrows
        have HVZ := Lib.hid (hvZ gb rfl)
        have HEX := Lib.hid hexl
        have HGG := Lib.hid (And.intro hG (And.intro (And.intro r0 r2) (And.intro (And.intro r3 r4) (And.intro ho hg))))
        have HGL := Lib.hid hGl
        have HUB3 := Lib.hid uB
        have HAB := Lib.hid ((HA1.out.upd hu3 (by simp)).upd uB (by simp))
        have HRC := Lib.hid hrC
        have HUB := Lib.hid ((HU1.out.trans hu3).trans uB)
        have hBW : B + 1 < w1.heap.size := HA1.out.lt
        have hs3 := hu3.size
        have hsB := uB.size
        have hCW : w1.heap.size ≤ C := by omega
        have T5 := Lib.hid (delRow gb cc j s.comps.length us wB w1.heap.size hown hul hue h1c hj (by omega))
        go_upto_region 8 with (fail)
        rw [← hwB, ← hC]
        have HCC := Lib.hid hC
        have c1 := HRC.out.cell 1 _ rfl
        have e1 := HRC.out.fz 1
        have iw : IntKind.i64.wrap ((j : Int) + 1) = (j : Int) + 1 := IntWalk.i64_in _ (by omega)
        clear hwB hC hG hGl hrC hown hrows hvZ hexl r0 r2 r3 r4 ho hg ha uB hu3 hc hl T4 h3 z0 z1 z2 z3 z4 hul hue h1c
        go_wp2_with fail
        refine T5.out.mono ?_
        rintro e w5 ⟨rfl, hown5, hv5⟩
        have hgC : C ∉ [gb] := fun hm => by simp at hm; subst hm; exact HVZ.out (by simp)
        have hC5 := HRC.out.upd hv5 hgC
        have c15 := hC5.cell 1 _ rfl
        have e15 := hC5.fz 1
        have hacc := AccZ.erase R_Cok HRW.out HVZ.out HEX.out hv5 hown5 hj
        obtain ⟨N, hN⟩ : ∃ N, N = s.comps.length - 1 := ⟨_, rfl⟩
        rw [← hN] at hacc hown5
        obtain ⟨wE, hwE⟩ : ∃ q, q = w5.setCell ⟨C, 1, none⟩ (.slice (some ⟨gb, 0, none⟩) N cc) := ⟨_, rfl⟩
        have uZ : Upd [C] w5 wE := by rw [hwE]; exact (Upd.refl _ _).setCell (Or.inr (by simp)) _
        have hacc2 := hacc.put R_Cok uZ (by simp)
        have hgo : ∀ c ∈ G, c ∉ [gb] := fun c hc hm => by simp at hm; subst hm; exact HVZ.out (by simp [hc])
        have hgz : ∀ c ∈ G, c ∉ [C] := fun c hc hm => by have := HGL.out c hc; have := HCC.out; simp at hm; omega
        have up : ∀ {α : Type} {R : Rp α} (K : Kept R) {gq : List Nat} {us : List Value} {x : α}, R gq w3 us x → (∀ c ∈ gq, c ∈ G) → R gq wE us x := by
          intro α R K gq us x h hs
          exact K.upd (K.upd (K.upd h HUB3.out (by simp)) hv5 (fun c hc => hgo c (hs c hc))) uZ (fun c hc => hgz c (hs c hc))
        obtain ⟨hGe, ⟨r0, r2⟩, ⟨r3, r4⟩, ho, hg⟩ := HGG.out
        have hmade : MadeSy w1 wE [.slice p0 s.defs.length y0, .slice (some ⟨gb, 0, none⟩) N cc, .slice p2 s.meets.length y2, .slice p3 s.allow.length y3, .slice p4 s.hide.length y4] (lessCo s j) := by
          refine ⟨_, _, _, _, _, g0, g2, g3', g4', rfl, up R_De1k r0 (fun c hc => by rw [hGe]; simp [hc]), up R_Me1k r2 (fun c hc => by rw [hGe]; simp [hc]), up R_S1k r3 (fun c hc => by rw [hGe]; simp [hc]), up R_S1k r4 (fun c hc => by rw [hGe]; simp [hc]), ?_, ?_, ?_⟩
          · rw [← hGe]; exact ((ho.upd HUB3.out (by simp)).upd hv5 hgo).upd uZ hgz
          · rw [← hGe]; exact hg
          · rw [← hGe]
            exact hacc2.reex R_Cok (Upd.refl [] wE) (by simp) (Nat.le_refl _) (fun b hb => Or.inl (List.mem_cons_of_mem _ hb)) (fun b hb => by have := HGL.out b hb; have := HUB3.out.size; have := hv5.size; have := uZ.size; omega)
        have hr5 : RowAt wE C 29 [.slice p0 s.defs.length y0, .slice (some ⟨gb, 0, none⟩) N cc, .slice p2 s.meets.length y2, .slice p3 s.allow.length y3, .slice p4 s.hide.length y4] := by rw [hwE]; exact hC5.store 1 _
        have hge5 := (HOW.out.lt gb rfl).1
        have hA5 : RowAt wE (B + 1) 29 zerosSy := by
          rw [hwE]
          exact (HAB.out.upd hv5 (by intro hm; simp at hm; omega)).other C _ _ (by omega)
        have HNE := Lib.hid (show NewQ R_Sy w1 wE _ _ from hmade.new)
        have HUE := Lib.hid (show Upd [] w wE by
          rw [hwE]
          refine (HUB.out.fresh hv5 (fun c hc => Or.inl ?_)).setCell (Or.inl (show w.heap.size ≤ C by have := HU1.out.size; omega)) _
          simp at hc; subst hc
          have := HU1.out.size
          omega)
        have HA5 := Lib.hid hA5
        have HR5 := Lib.hid hr5
        have HN := Lib.hid hN
        clear hacc hacc2 uZ hgo hgz up r0 r2 r3 r4 ho hg hmade hr5 hA5 hown5 hv5 T5 c1 e1 hGe hgC HOW HRW hN
        go_upto_region 9 with (fail)
        try rw [← HN.out]
        rw [← hwE]
        clear hwE hC5 c15 e15
        have hr5 := HR5.out
        have hA5 := HA5.out
        unfold RowAt at hr5 hA5
        go_wp2_with (first
          | (refine wpList_load_row rfl 29 _ rfl C rfl 29 #[.slice p0 s.defs.length y0, .slice (some ⟨gb, 0, none⟩) N cc, .slice p2 s.meets.length y2, .slice p3 s.allow.length y3, .slice p4 s.hide.length y4] (0, 0) _ hr5 Tryz.underlying29 rfl Sy_size ?_)
          | (refine wpList_store_row rfl 29 _ _ rfl (B + 1) #[.slice p0 s.defs.length y0, .slice (some ⟨gb, 0, none⟩) N cc, .slice p2 s.meets.length y2, .slice p3 s.allow.length y3, .slice p4 s.hide.length y4] rfl rfl 29 _ hA5 Sy_size rfl (by simp [Value.oneCell']) ?_)
          | fail)
        have hr : RowAt (wE.setRow (B + 1) #[.slice p0 s.defs.length y0, .slice (some ⟨gb, 0, none⟩) N cc, .slice p2 s.meets.length y2, .slice p3 s.allow.length y3, .slice p4 s.hide.length y4]) (B + 1) 29 [.slice p0 s.defs.length y0, .slice (some ⟨gb, 0, none⟩) N cc, .slice p2 s.meets.length y2, .slice p3 s.allow.length y3, .slice p4 s.hide.length y4] := HA5.out.row _
        have n0 := hr.cell 0 _ rfl
        have n1 := hr.cell 1 _ rfl
        have n2 := hr.cell 2 _ rfl
        have n3 := hr.cell 3 _ rfl
        have n4 := hr.cell 4 _ rfl
        refine bodyPost_ret (v := .tuple #[.agg #[.slice p0 s.defs.length y0, .slice (some ⟨gb, 0, none⟩) N cc, .slice p2 s.meets.length y2, .slice p3 s.allow.length y3, .slice p4 s.hide.length y4], .int .i64 0]) (by simp [results, Tryz.results14, go_sem, n0, n1, n2, n3, n4]) rfl ?_
        rw [HZ.out]
        exact gaveSy (us := [.slice p0 s.defs.length y0, .slice (some ⟨gb, 0, none⟩) N cc, .slice p2 s.meets.length y2, .slice p3 s.allow.length y3, .slice p4 s.hide.length y4]) (W := w1) HNE.out rfl (by simp [Value.oneCell']) HUE.out (by have := HBB.out; omega) hBW HU1.out.size

end Go.Proofs.YtnchmnjkmhfleaaGreat

/-
  RemoveComponent: what the reference's call gives.
-/
namespace Go.Proofs.YtnchmnjkmhfleaaGreat
open Go.RowKit

set_option maxRecDepth 20000 in
set_option maxHeartbeats 40000000 in
theorem delCS (cs : List Value) (s : Sy) (k : Int) (w : World) (fp : List Nat) (hR : R_Sy fp w cs s) (hF : SyFit s) :
    Calls Tryz.prog 27 #[.agg cs.toArray, .int .i64 k] w (GaveSy w (delF s k)) := by
  obtain ⟨i1, hj9, hy0, hy1, hy2⟩ := info_parts Tryz.infoCo
  have hR' := hR
  obtain ⟨v0, v1, v2, v3, v4, f0, f1, f2, f3, f4, rfl, -, h1, -, -, -, rfl⟩ := hR
  obtain ⟨B, hB⟩ : ∃ B, B = w.heap.size := ⟨_, rfl⟩
  obtain ⟨wA, hwA⟩ : ∃ wA, wA = (w.alloc (.cells #[v0, v1, v2, v3, v4] 29)).alloc (.cells #[.slice none 0 0, .slice none 0 0, .slice none 0 0, .slice none 0 0, .slice none 0 0] 29) := ⟨_, rfl⟩
  have s1 : (w.alloc (.cells #[v0, v1, v2, v3, v4] 29)).heap.size = B + 1 := by rw [hB]; simp
  have uA : Upd [] w wA := by rw [hwA]; exact ((Upd.refl _ _).alloc _).alloc _
  have HA := Lib.hid (show RowAt wA (B + 1) 29 zerosSy from by rw [hwA, ← s1]; exact RowAt.new _ _ _)
  have hL : RowAt wA B 29 [v0, v1, v2, v3, v4] := by rw [hwA, hB]; exact (RowAt.new _ _ _).upd ((Upd.refl [] _).alloc _) (by simp)
  have HL := Lib.hid hL
  have hAt : ∀ W, Upd [] wA W → SyAt B [v0, v1, v2, v3, v4] (f0 ++ (f1 ++ (f2 ++ (f3 ++ f4)))) W s := fun W hu => ⟨R_Syk.upd hR' (uA.trans hu) (by simp), fun j v hj => (hL.upd hu (by simp)).cell j v hj⟩
  have S1 := Lib.hid (sysIsS B _ _ s wA (hAt wA (Upd.refl _ _)) hF)
  have S4 := Lib.hid (fun W (hu : Upd [] wA W) (hk : sysOk s = true) => ownSyM B _ _ s W (hAt W hu) (CpFit.of hk hF))
  clear hAt
  have UA := Lib.hid uA
  have hszA : B + 2 ≤ wA.heap.size := by rw [hwA, hB]; simp
  have HK := Lib.hid (fun (h : sysOk s = true) => SyGd.of h)
  obtain ⟨a1, q1, rfl, hd1, hd2, -⟩ := slQ_open h1
  unfold maxLen at hd2
  have HM := Lib.hid (show delF s k = (if sysOk s = true then if inB k 0 ((s.comps.length : Int) - 1) = true then if s.comps.length = 1 then (zeroSy, 6) else (lessCo s k.toNat, 0) else (zeroSy, 2) else (zeroSy, 1)) from rfl)
  clear hR' uA s1 hL h1
  generalize delF s k = Z at *
  generalize hok : sysOk s = ok at *
  go_enter Tryz.func27, Tryz.ntmps27
  go_upto_region 1 with (fail)
  rw [← hwA, ← hB]
  have HBB := Lib.hid hB
  clear hwA hB
  go_wp2_with fail
  refine S1.out.mono ?_
  rintro e w1 ⟨rfl, hu1⟩
  have UA1 := Lib.hid hu1
  have HU1 := Lib.hid (UA.out.trans hu1)
  have HL1 := Lib.hid (HL.out.upd hu1 (by simp))
  have HA1 := Lib.hid (HA.out.upd hu1 (by simp))
  clear S1 hu1 HL HA
  cases ok with
  | false =>
    have HZ := Lib.hid (show Z = (zeroSy, 1) by rw [HM.out]; rfl)
    clear S4 HM
    have hAx := HA1.out
    unfold RowAt at hAx
    go_wp2_with (first
      | (refine wpList_store_row rfl 29 _ _ rfl (B + 1) #[.slice none 0 0, .slice none 0 0, .slice none 0 0, .slice none 0 0, .slice none 0 0] rfl rfl 29 _ hAx Sy_size rfl (by simp [Value.oneCell']) ?_)
      | fail)
    have hr : RowAt (w1.setRow (B + 1) #[.slice none 0 0, .slice none 0 0, .slice none 0 0, .slice none 0 0, .slice none 0 0]) (B + 1) 29 [.slice none 0 0, .slice none 0 0, .slice none 0 0, .slice none 0 0, .slice none 0 0] := HA1.out.row zerosSy
    have n0 := hr.cell 0 _ rfl
    have n1 := hr.cell 1 _ rfl
    have n2 := hr.cell 2 _ rfl
    have n3 := hr.cell 3 _ rfl
    have n4 := hr.cell 4 _ rfl
    refine bodyPost_ret (v := .tuple #[.agg #[.slice none 0 0, .slice none 0 0, .slice none 0 0, .slice none 0 0, .slice none 0 0], .int .i64 1]) (by simp [results, Tryz.results27, go_sem, n0, n1, n2, n3, n4]) rfl ?_
    rw [HZ.out]
    exact gaveSy_zero _ _ _ (HU1.out.row (Or.inl (by have := HBB.out; omega)) _)
  | true =>
    have hK := HK.out rfl
    have hcl := hK.cl
    have z1 := HL1.out.cell 1 _ rfl
    have T2 := Lib.hid (l00In k 0 ((s.comps.length : Int) - 1) w1)
    have iw : IntKind.i64.wrap ((s.comps.length : Int) - 1) = (s.comps.length : Int) - 1 := IntWalk.i64_in _ (by omega)
    obtain ⟨qi, hqi⟩ : ∃ q, inB k 0 ((s.comps.length : Int) - 1) = q := ⟨_, rfl⟩
    rw [hqi] at T2 HM
    go_wp2_with fail
    refine T2.out.mono ?_
    rintro e w2 ⟨rfl, rfl⟩
    clear T2
    cases qi with
    | false =>
      have HZ := Lib.hid (show Z = (zeroSy, 2) by rw [HM.out]; rfl)
      clear S4 HM hqi
      have hAx := HA1.out
      unfold RowAt at hAx
      go_wp2_with (first
        | (refine wpList_store_row rfl 29 _ _ rfl (B + 1) #[.slice none 0 0, .slice none 0 0, .slice none 0 0, .slice none 0 0, .slice none 0 0] rfl rfl 29 _ hAx Sy_size rfl (by simp [Value.oneCell']) ?_)
        | fail)
      have hr : RowAt (w1.setRow (B + 1) #[.slice none 0 0, .slice none 0 0, .slice none 0 0, .slice none 0 0, .slice none 0 0]) (B + 1) 29 [.slice none 0 0, .slice none 0 0, .slice none 0 0, .slice none 0 0, .slice none 0 0] := HA1.out.row zerosSy
      have n0 := hr.cell 0 _ rfl
      have n1 := hr.cell 1 _ rfl
      have n2 := hr.cell 2 _ rfl
      have n3 := hr.cell 3 _ rfl
      have n4 := hr.cell 4 _ rfl
      refine bodyPost_ret (v := .tuple #[.agg #[.slice none 0 0, .slice none 0 0, .slice none 0 0, .slice none 0 0, .slice none 0 0], .int .i64 2]) (by simp [results, Tryz.results27, go_sem, n0, n1, n2, n3, n4]) rfl ?_
      rw [HZ.out]
      exact gaveSy_zero _ _ _ (HU1.out.row (Or.inl (by have := HBB.out; omega)) _)
    | true =>
      have hin := inB_true hqi
      obtain ⟨j, rfl⟩ : ∃ j : Nat, k = j := ⟨k.toNat, by omega⟩
      have hj : j < s.comps.length := by omega
      clear hqi hin
      by_cases h3 : s.comps.length = 1
      · have HZ := Lib.hid (show Z = (zeroSy, 6) by rw [HM.out]; simp [h3])
        have g3 : ((s.comps.length : Int) == 1) = true := by rw [h3]; rfl
        clear S4 HM
        have hAx := HA1.out
        unfold RowAt at hAx
        go_wp2_with (first
          | (refine wpList_store_row rfl 29 _ _ rfl (B + 1) #[.slice none 0 0, .slice none 0 0, .slice none 0 0, .slice none 0 0, .slice none 0 0] rfl rfl 29 _ hAx Sy_size rfl (by simp [Value.oneCell']) ?_)
          | fail)
        have hr : RowAt (w1.setRow (B + 1) #[.slice none 0 0, .slice none 0 0, .slice none 0 0, .slice none 0 0, .slice none 0 0]) (B + 1) 29 [.slice none 0 0, .slice none 0 0, .slice none 0 0, .slice none 0 0, .slice none 0 0] := HA1.out.row zerosSy
        have n0 := hr.cell 0 _ rfl
        have n1 := hr.cell 1 _ rfl
        have n2 := hr.cell 2 _ rfl
        have n3 := hr.cell 3 _ rfl
        have n4 := hr.cell 4 _ rfl
        refine bodyPost_ret (v := .tuple #[.agg #[.slice none 0 0, .slice none 0 0, .slice none 0 0, .slice none 0 0, .slice none 0 0], .int .i64 6]) (by simp [results, Tryz.results27, go_sem, n0, n1, n2, n3, n4]) rfl ?_
        rw [HZ.out]
        exact gaveSy_zero _ _ _ (HU1.out.row (Or.inl (by have := HBB.out; omega)) _)
      · have HZ := Lib.hid (show Z = (lessCo s j, 0) by rw [HM.out]; simp [h3])
        have g3 : ((s.comps.length : Int) == 1) = false := by rw [beq_eq_false_iff_ne]; omega
        have T4 := Lib.hid (S4.out w1 UA1.out trivial)
        clear S4 HM
        go_wp2_with fail
        refine T4.out.mono ?_
        rintro e w3 ⟨⟨us, rfl, hl, hc, hm⟩, hu3⟩
        obtain ⟨p0, y0, ca, cc, p2, y2, p3, y3, p4, y4, rfl⟩ := sy_form hm.new
        obtain ⟨d0, d1, d2, d3, d4, g0, g2, g3', g4', heq, r0, r2, r3, r4, ho, hg, ha⟩ := hm
        simp only [List.cons.injEq, and_true] at heq
        obtain ⟨rfl, rfl, rfl, rfl, rfl⟩ := heq
        obtain ⟨G, hG⟩ : ∃ G, G = g0 ++ (g2 ++ (g3' ++ g4')) := ⟨_, rfl⟩
        have hGl : ∀ b ∈ G, b < w3.heap.size := fun b hb => ho.lt b (by rw [← hG]; exact hb)
        rw [← hG] at ho hg ha
        obtain ⟨wB, hwB⟩ : ∃ wB, wB = w3.alloc (.cells #[.slice p0 s.defs.length y0, .slice ca s.comps.length cc, .slice p2 s.meets.length y2, .slice p3 s.allow.length y3, .slice p4 s.hide.length y4] 29) := ⟨_, rfl⟩
        have uB : Upd [] w3 wB := by rw [hwB]; exact (Upd.refl _ _).alloc _
        obtain ⟨C, hC⟩ : ∃ C, C = w3.heap.size := ⟨_, rfl⟩
        have hrC : RowAt wB C 29 [.slice p0 s.defs.length y0, .slice ca s.comps.length cc, .slice p2 s.meets.length y2, .slice p3 s.allow.length y3, .slice p4 s.hide.length y4] := by rw [hwB, hC]; exact RowAt.new _ _ _
        have haB : AccZ 2 R_Co w1.heap.size 38 (C :: G) wB (.slice ca s.comps.length cc) s.comps := ha.reex R_Cok uB (by simp) (Nat.le_refl _) (fun b hb => by
          rcases List.mem_cons.1 hb with rfl | hb
          · exact Or.inr (by omega)
          · exact Or.inl hb) (fun b hb => by
          rcases List.mem_cons.1 hb with rfl | hb
          · exact hrC.lt
          · have := hGl b hb; have := uB.size; omega)
        obtain ⟨us, hown, hrows, hvZ, hexl⟩ := haB
        have hul := hrows.length
        have hue := hrows.each
        have h1c := co_cells hrows
        obtain ⟨gb, rfl, hgbl⟩ : ∃ gb, ca = some ⟨gb, 0, none⟩ ∧ gb < wB.heap.size := ownsRow_at hown (by omega)
        have HOW := Lib.hid hown
        have HRW := Lib.hid hrows
        have HVZ := Lib.hid (hvZ gb rfl)
        have HEX := Lib.hid hexl
        have HGG := Lib.hid (And.intro hG (And.intro (And.intro r0 r2) (And.intro (And.intro r3 r4) (And.intro ho hg))))
        have HGL := Lib.hid hGl
        have HUB3 := Lib.hid uB
        have HAB := Lib.hid ((HA1.out.upd hu3 (by simp)).upd uB (by simp))
        have HRC := Lib.hid hrC
        have HUB := Lib.hid ((HU1.out.trans hu3).trans uB)
        have hBW : B + 1 < w1.heap.size := HA1.out.lt
        have hs3 := hu3.size
        have hsB := uB.size
        have hCW : w1.heap.size ≤ C := by omega
        obtain ⟨wC, hwC⟩ : ∃ q, q = wB.alloc (.cells #[] 38) := ⟨_, rfl⟩
        have uC : Upd [] wB wC := by rw [hwC]; exact (Upd.refl _ _).alloc _
        have UC := Lib.hid uC
        have hT0 : wC.ownsRow wB.heap.size 38 2 (.slice (some ⟨wB.heap.size, 0, none⟩) 0 0) 0 [] := by
          rw [hwC]
          simpa using World.ownsRow_lit (base := wB.heap.size) (e := 38) (size := 2) wB #[] 0 (Nat.le_refl _) (by simp [maxLen]) (by simp)
        have HT0 := Lib.hid hT0
        have HCELL := Lib.hid (fun W2 (hu : Upd [] wB W2) i (hi : i < s.comps.length) => show ∃ u0 u1, us[i]? = some [u0, u1] ∧ u0.oneCell' = true ∧ u1.oneCell' = true ∧ W2.cell? ⟨gb, i * 2, none⟩ = some u0 ∧ W2.cell? ⟨gb, i * 2 + 1, none⟩ = some u1 from by
          obtain ⟨u0, u1, e1, e2, e3, e4, e5⟩ := row_two hown hul hue h1c i hi
          exact ⟨u0, u1, e1, e2, e3, hu.keep e4, hu.keep e5⟩)
        have h29 : 2 ≤ s.comps.length := by have := hcl.1; omega
        go_upto_region 8 with (fail)
        rw [← hwB, ← hC]
        have HCC := Lib.hid hC
        have c1 := HRC.out.cell 1 _ rfl
        clear hwB hC hG hGl hrC hown hrows hvZ hexl r0 r2 r3 r4 ho hg ha uB hu3 hc hl T4 h3 z1 h1c hT0 uC
        go_upto_region 9 with (fail)
        rw [← hwC]
        clear hwC
        go_wp2_with fail
        go_loopw [7, 8] (fun lv iv wr => ∃ (i : Nat), i ≤ s.comps.length ∧ iv = .int .i64 i ∧ Hid (Upd [] wB wr) ∧ wB.heap.size ≤ wr.heap.size ∧ Hid (wr.ownsRow wB.heap.size 38 2 lv ((us.take i).eraseIdx j).length ((us.take i).eraseIdx j).flatten)) (fun _ iv _ => s.comps.length - (intOf iv).toNat)
        case atStart => exact ⟨0, Nat.zero_le _, rfl, UC, UC.out.size, Lib.hid (by simpa using HT0.out)⟩
        case round =>
          clear c1
          obtain ⟨wo, rfl⟩ : ∃ wo : World, wo = wr := ⟨_, rfl⟩
          obtain ⟨i, hi, rfl, HU, hsz, HOWN⟩ := hrel
          have hrCo := HRC.out.upd HU.out (by simp)
          have c1 := hrCo.cell 1 _ rfl
          by_cases hlt : i < s.comps.length
          · have hil : (i : Int) < (s.comps.length : Int) := by omega
            obtain ⟨u0, u1, e1, e2, e3, x0, x1⟩ := HCELL.out wo HU.out i hlt
            by_cases hij : i = j
            · have hne : ((i : Int) != (j : Int)) = false := by rw [hij]; simp
              have HO2 := Lib.hid (show wo.ownsRow wB.heap.size 38 2 u7 ((us.take (i + 1)).eraseIdx j).length ((us.take (i + 1)).eraseIdx j).flatten by rw [pick_same e1 hij]; exact HOWN.out)
              clear HCELL HOWN e1 e2 e3 x0 x1
              go_wp2_with fail
              go_roundw
              case rel => exact ⟨i + 1, by omega, by go_num, HU, hsz, HO2⟩
              case measure => simp [intOf]; omega
            · have hne : ((i : Int) != (j : Int)) = true := by simp; omega
              have HPK := Lib.hid (pick_more (j := j) e1 hij)
              have hlen : ((us.take i).eraseIdx j).length ≤ 3 := by
                have h1 := List.length_eraseIdx_le (us.take i) j
                rw [List.length_take] at h1
                have := hcl.2
                omega
              have hown := HOWN.out
              obtain ⟨xa, ya, rfl⟩ := ownsRow_form hown
              have HOW2 := Lib.hid hown
              generalize hL : ((us.take i).eraseIdx j).length = L at *
              clear HCELL HOWN
              go_wp2_with (first
                | (at_builtin; refine wpList_append_tight _ rfl _ _ 25 rfl wB.heap.size 38 i1 (.agg #[.int .i64 0, .slice none 0 0]) 2 32 Tryz.underlying25 hj9 hy0 hy1 hy2 rfl (by decide) _ _ _ rfl (hown.alloc _) ⟨wo.heap.size, 0, none⟩ 1 1 [u0, u1] rfl rfl (fun j u hj => by rw [addr_add, Nat.zero_add]; exact cell_new wo #[u0, u1] _ _ rfl j u (by simpa using hj)) (by simp [e2, e3]) (by unfold maxLen; omega) (by omega) (by simp; omega) ?_)
                | fail)
              intro v2 w2 hown2 hg2 ht2
              have HU2 := Lib.hid ((HU.out.alloc (.cells #[u0, u1] 38)).grown hg2 (fun b hb => Or.inl (HOW2.out.lt b hb).1))
              have HO2 := Lib.hid (show w2.ownsRow wB.heap.size 38 2 v2 ((us.take (i + 1)).eraseIdx j).length ((us.take (i + 1)).eraseIdx j).flatten by
                rw [HPK.out, List.length_append, hL, List.flatten_append]
                simpa using hown2)
              clear hown hown2 hg2 ht2 HPK HOW2 e1 e2 e3 x0 x1 c1 hL
              go_wp2_with fail
              go_roundw
              case rel => exact ⟨i + 1, by omega, by go_num, HU2, HU2.out.size, HO2⟩
              case measure => simp [intOf]; omega
          · obtain rfl : i = s.comps.length := by omega
            have hown5 := HOWN.out
            have hN0 : ((us.take s.comps.length).eraseIdx j).length = s.comps.length - 1 := by
              rw [List.take_of_length_le (by omega), List.length_eraseIdx_of_lt (by omega)]; omega
            have hT0 : us.take s.comps.length = us := List.take_of_length_le (by omega)
            rw [hN0, hT0] at hown5
            obtain ⟨gn, nc, rfl, hgn1, hgn2⟩ : ∃ gn nc, u7 = .slice (some ⟨gn, 0, none⟩) (s.comps.length - 1) nc ∧ wB.heap.size ≤ gn ∧ gn < wo.heap.size := ownsRow_at2 hown5 (by omega)
            obtain ⟨N, hN⟩ : ∃ N, N = s.comps.length - 1 := ⟨_, rfl⟩
            rw [← hN] at hown5
            have hacc := AccZ.swap R_Cok HRW.out HEX.out HU.out hown5 hN (by omega) hgn1 hj
            have hsC : C < wB.heap.size := HRC.out.lt
            obtain ⟨wE, hwE⟩ : ∃ q, q = wo.setCell ⟨C, 1, none⟩ (.slice (some ⟨gn, 0, none⟩) N nc) := ⟨_, rfl⟩
            have uZ : Upd [C] wo wE := by rw [hwE]; exact (Upd.refl _ _).setCell (Or.inr (by simp)) _
            have hacc2 := hacc.put R_Cok uZ (by simp)
            have e1 := hrCo.fz 1
            have hgz : ∀ c ∈ G, c ∉ [C] := fun c hc hm => by have := HGL.out c hc; have := HCC.out; simp at hm; omega
            have up : ∀ {α : Type} {R : Rp α} (K : Kept R) {gq : List Nat} {us : List Value} {x : α}, R gq w3 us x → (∀ c ∈ gq, c ∈ G) → R gq wE us x := by
              intro α R K gq us x h hs
              exact K.upd (K.upd (K.upd h HUB3.out (by simp)) HU.out (by simp)) uZ (fun c hc => hgz c (hs c hc))
            obtain ⟨hGe, ⟨r0, r2⟩, ⟨r3, r4⟩, ho, hg⟩ := HGG.out
            have hmade : MadeSy w1 wE [.slice p0 s.defs.length y0, .slice (some ⟨gn, 0, none⟩) N nc, .slice p2 s.meets.length y2, .slice p3 s.allow.length y3, .slice p4 s.hide.length y4] (lessCo s j) := by
              refine ⟨_, _, _, _, _, g0, g2, g3', g4', rfl, up R_De1k r0 (fun c hc => by rw [hGe]; simp [hc]), up R_Me1k r2 (fun c hc => by rw [hGe]; simp [hc]), up R_S1k r3 (fun c hc => by rw [hGe]; simp [hc]), up R_S1k r4 (fun c hc => by rw [hGe]; simp [hc]), ?_, ?_, ?_⟩
              · rw [← hGe]; exact ((ho.upd HUB3.out (by simp)).upd HU.out (by simp)).upd uZ hgz
              · rw [← hGe]; exact hg
              · rw [← hGe]
                exact hacc2.reex R_Cok (Upd.refl [] wE) (by simp) (Nat.le_refl _) (fun b hb => Or.inl (List.mem_cons_of_mem _ hb)) (fun b hb => by have := HGL.out b hb; have := HUB3.out.size; have := HU.out.size; have := uZ.size; omega)
            have hr5 : RowAt wE C 29 [.slice p0 s.defs.length y0, .slice (some ⟨gn, 0, none⟩) N nc, .slice p2 s.meets.length y2, .slice p3 s.allow.length y3, .slice p4 s.hide.length y4] := by rw [hwE]; exact hrCo.store 1 _
            have hA5 : RowAt wE (B + 1) 29 zerosSy := by
              rw [hwE]
              exact (HAB.out.upd HU.out (by simp)).other C _ _ (by omega)
            have HNE := Lib.hid (show NewQ R_Sy w1 wE _ _ from hmade.new)
            have HUE := Lib.hid (show Upd [] w wE by
              rw [hwE]
              exact (HUB.out.trans HU.out).setCell (Or.inl (show w.heap.size ≤ C by have := HU1.out.size; omega)) _)
            have HA5 := Lib.hid hA5
            have HR5 := Lib.hid hr5
            clear hacc hacc2 uZ hgz up r0 r2 r3 r4 ho hg hmade hr5 hA5 hown5 hGe HRW HCELL HOWN hN0 hT0
            rw [← hN]
            clear hN
            go_upto_region 15 with (fail)
            rw [← hwE]
            clear hwE c1 e1 hrCo
            have hr5 := HR5.out
            have hA5 := HA5.out
            unfold RowAt at hr5 hA5
            go_wp2_with (first
              | (refine wpList_load_row rfl 29 _ rfl C rfl 29 #[.slice p0 s.defs.length y0, .slice (some ⟨gn, 0, none⟩) N nc, .slice p2 s.meets.length y2, .slice p3 s.allow.length y3, .slice p4 s.hide.length y4] (0, 0) _ hr5 Tryz.underlying29 rfl Sy_size ?_)
              | (refine wpList_store_row rfl 29 _ _ rfl (B + 1) #[.slice p0 s.defs.length y0, .slice (some ⟨gn, 0, none⟩) N nc, .slice p2 s.meets.length y2, .slice p3 s.allow.length y3, .slice p4 s.hide.length y4] rfl rfl 29 _ hA5 Sy_size rfl (by simp [Value.oneCell']) ?_)
              | fail)
            have hr : RowAt (wE.setRow (B + 1) #[.slice p0 s.defs.length y0, .slice (some ⟨gn, 0, none⟩) N nc, .slice p2 s.meets.length y2, .slice p3 s.allow.length y3, .slice p4 s.hide.length y4]) (B + 1) 29 [.slice p0 s.defs.length y0, .slice (some ⟨gn, 0, none⟩) N nc, .slice p2 s.meets.length y2, .slice p3 s.allow.length y3, .slice p4 s.hide.length y4] := HA5.out.row _
            have n0 := hr.cell 0 _ rfl
            have n1 := hr.cell 1 _ rfl
            have n2 := hr.cell 2 _ rfl
            have n3 := hr.cell 3 _ rfl
            have n4 := hr.cell 4 _ rfl
            refine bodyPost_ret (v := .tuple #[.agg #[.slice p0 s.defs.length y0, .slice (some ⟨gn, 0, none⟩) N nc, .slice p2 s.meets.length y2, .slice p3 s.allow.length y3, .slice p4 s.hide.length y4], .int .i64 0]) (by simp [results, Tryz.results27, go_sem, n0, n1, n2, n3, n4]) rfl ?_
            rw [HZ.out]
            exact gaveSy (us := [.slice p0 s.defs.length y0, .slice (some ⟨gn, 0, none⟩) N nc, .slice p2 s.meets.length y2, .slice p3 s.allow.length y3, .slice p4 s.hide.length y4]) (W := w1) HNE.out rfl (by simp [Value.oneCell']) HUE.out (by have := HBB.out; omega) hBW HU1.out.size

end Go.Proofs.YtnchmnjkmhfleaaGreat

/-
  What the laws' budget says of definitions.
-/
namespace Go.Proofs.YtnchmnjkmhfleaaGreat
open Go.RowKit

theorem sum_mem {α : Type} {F : α → Int} (h0 : ∀ x, 0 ≤ F x) : ∀ {xs : List α} {x : α}, x ∈ xs → F x ≤ (xs.map F).sum
  | [], _, h => by cases h
  | y :: ys, x, h => by
    have hs : ∀ l : List α, 0 ≤ (l.map F).sum := by
      intro l
      induction l with
      | nil => simp
      | cons z l ih => simp only [List.map_cons, List.sum_cons]; have := h0 z; omega
    simp only [List.map_cons, List.sum_cons]
    rcases List.mem_cons.1 h with rfl | h
    · have := hs ys; omega
    · have := sum_mem h0 h; have := h0 y; omega
theorem des_fit {ds : List De} (h : szF_De1 ds ≤ 1048576) : DesFit ds := by
  have h1 : 0 ≤ (ds.map szF_De).sum := szF_De1_sum ds
  unfold szF_De1 at h
  refine ⟨by omega, fun d hd => ?_⟩
  have h2 := sum_mem szF_De_nonneg hd
  have h3 : szF_De d = (d.name.length : Int) + szF_Pa1 d.body := rfl
  have h4 := szF_Pa1_nonneg d.body
  have h5 : szF_Pa1 d.body = (d.body.length : Int) + (d.body.map szF_Pa).sum := rfl
  have h6 := szF_Pa1_sum d.body
  refine ⟨by omega, by omega, fun p hp => ?_⟩
  have h7 := sum_mem szF_Pa_nonneg hp
  have h8 : szF_Pa p = (p.name.length : Int) + szF_T2 p.args := rfl
  have h9 := szF_T2_nonneg p.args
  have h10 : szF_T2 p.args = (p.args.length : Int) + (p.args.map szF_T1).sum := rfl
  have h11 := szF_T2_sum p.args
  exact ⟨by omega, by omega⟩

end Go.Proofs.YtnchmnjkmhfleaaGreat

/-
  What the laws' budget says of systems.
-/
namespace Go.Proofs.YtnchmnjkmhfleaaGreat
open Go.RowKit

theorem S1_fit {l : List (List UInt8)} (h : szF_S1 l ≤ 1048576) : l.length ≤ 2000000 ∧ ∀ p ∈ l, p.length ≤ 2000000 := by
  have h1 : szF_S1 l = (l.length : Int) + (l.map fun p => (p.length : Int)).sum := by
    unfold szF_S1
    first | rfl | simp
  have h2 : ∀ r : List (List UInt8), 0 ≤ (r.map fun p => (p.length : Int)).sum := by
    intro r
    induction r with
    | nil => simp
    | cons z r ih => simp only [List.map_cons, List.sum_cons]; omega
  have h3 := h2 l
  refine ⟨by omega, fun p hp => ?_⟩
  have h4 : (p.length : Int) ≤ (l.map fun p => (p.length : Int)).sum := sum_mem (F := fun p : List UInt8 => (p.length : Int)) (fun x => by simp) hp
  omega
theorem sy_fit {s : Sy} (h : szF_Sy s ≤ 1048576) : SyFit s := by
  unfold szF_Sy at h
  have n0 := szF_De1_nonneg s.defs
  have n1 := szF_Co1_nonneg s.comps
  have n2 := szF_Me1_nonneg s.meets
  have n3 := szF_S1_nonneg s.allow
  have n4 := szF_S1_nonneg s.hide
  have hc : szF_Co1 s.comps = (s.comps.length : Int) + (s.comps.map szF_Co).sum := rfl
  have hc2 := szF_Co1_sum s.comps
  have hm : szF_Me1 s.meets = (s.meets.length : Int) + (s.meets.map szF_Me).sum := rfl
  have hm2 := szF_Me1_sum s.meets
  refine ⟨des_fit (by omega), by omega, ⟨by omega, fun m hm => ?_⟩, S1_fit (by omega), S1_fit (by omega)⟩
  have := sum_mem szF_Me_nonneg hm
  have h2 : szF_Me m = (m.left.length : Int) + (m.right.length : Int) + (m.result.length : Int) := by
    unfold szF_Me
    omega
  omega

end Go.Proofs.YtnchmnjkmhfleaaGreat

/-
  The law FnExactRemoveComponent: the call returns true for every input, and writes nothing that was there.
-/
namespace Go.Proofs.YtnchmnjkmhfleaaGreat
open Go.RowKit

set_option maxRecDepth 20000 in
set_option maxHeartbeats 4000000 in
theorem lawDelC (cs : List Value) (x : Sy) (k : Int) (w : World) (fp : List Nat) (hR : R_Sy fp w cs x) (hS : SyOk x) (_bd_k : -9223372036854775808 ≤ k ∧ k ≤ 9223372036854775807) :
    Calls Tryz.prog 6 #[.agg cs.toArray, .int .i64 k] w fun e w' => e = .returned (.bool true) ∧ Upd [] w w' := by
  have hR' := hR
  obtain ⟨v0, v1, v2, v3, v4, f0, f1, f2, f3, f4, rfl, -, -, -, -, -, rfl⟩ := hR
  have HRX := Lib.hid (fun W (hu : Upd [] w W) => R_Syk.upd hR' hu (by simp))
  obtain ⟨BA, hBA⟩ : ∃ B, B = w.heap.size := ⟨_, rfl⟩
  obtain ⟨wA, hwA⟩ : ∃ wA, wA = w.alloc (.cells #[v0, v1, v2, v3, v4] 45) := ⟨_, rfl⟩
  have uA : Upd [] w wA := by rw [hwA]; exact (Upd.refl _ _).alloc _
  have UA := Lib.hid uA
  have qA : RowAt wA BA 45 [v0, v1, v2, v3, v4] := by rw [hwA, hBA]; exact RowAt.new _ _ _
  have HQA := Lib.hid (fun W (hu : Upd [] wA W) => qA.upd hu (by simp))
  have S1 := Lib.hid (sz_Sy _ x 1048576 wA _ (by omega) (by omega) (HRX.out wA uA) hS)
  clear hR' hS uA qA
  go_enter Tryz.func6, Tryz.ntmps6
  go_upto_region 1 with (fail)
  rw [← hwA, ← hBA]
  have HBA := Lib.hid hBA
  clear hwA hBA
  have u0 : Upd [] wA wA := Upd.refl _ _
  have z_A_0 := (HQA.out _ u0).cell 0 _ rfl
  have z_A_1 := (HQA.out _ u0).cell 1 _ rfl
  have z_A_2 := (HQA.out _ u0).cell 2 _ rfl
  have z_A_3 := (HQA.out _ u0).cell 3 _ rfl
  have z_A_4 := (HQA.out _ u0).cell 4 _ rfl
  go_wp2_with fail
  refine S1.out.mono ?_
  rintro e w1 ⟨⟨r, rfl, hr⟩, uu⟩
  clear S1 z_A_0 z_A_1 z_A_2 z_A_3 z_A_4
  have u1 := u0.trans uu
  clear u0 uu
  rcases hr with rfl | ⟨hr0_x, hr1_x⟩
  · have HU := Lib.hid (UA.out.trans u1)
    go_wp2_with fail
    go_ret
    exact ⟨rfl, HU.out⟩
  · have hsz : szF_Sy x ≤ 1048576 := by omega
    have HSZ := Lib.hid hsz
    have hF := sy_fit hsz
    have tn_x := mkF_Sy_nonneg x
    have hm_x := mkF_Sy_le x
    have hM0 : 1 + mkF_Sy x ≤ 100000000 := by omega
    have hMy : 1 + mkF_Sy (delF x k).1 ≤ 4611686018427387904 := by have := delF_b x k hM0; omega
    have tn_y := mkF_Sy_nonneg (delF x k).1
    obtain ⟨⟨y, cc⟩, hG⟩ : ∃ G, delF x k = G := ⟨_, rfl⟩
    rw [hG] at hMy tn_y
    simp only at hMy tn_y
    have hMk := hMy
    have HG := Lib.hid hG
    clear hG
    have hcc : ((cc : Int) != (cc : Int)) = false := by simp
    clear hsz hm_x hr1_x
    have z_A_0 := (HQA.out _ u1).cell 0 _ rfl
    have z_A_1 := (HQA.out _ u1).cell 1 _ rfl
    have z_A_2 := (HQA.out _ u1).cell 2 _ rfl
    have z_A_3 := (HQA.out _ u1).cell 3 _ rfl
    have z_A_4 := (HQA.out _ u1).cell 4 _ rfl
    have S2 := to_Sy _ x w1 _ HSZ.out (HRX.out _ (UA.out.trans u1))
    go_wp2_with fail
    refine S2.mono ?_
    clear S2 z_A_0 z_A_1 z_A_2 z_A_3 z_A_4
    rintro e w2 ⟨⟨us, rfl, -, -, hn⟩, uu⟩
    obtain ⟨p0_a_x, q0_a_x, p1_a_x, q1_a_x, p2_a_x, q2_a_x, p3_a_x, q3_a_x, p4_a_x, q4_a_x, rfl⟩ := sy_form hn
    obtain ⟨fp_a_x, rr, oo, ge_a_x⟩ := hn
    have u2 : Upd [] wA w2 := u1.trans (uu)
    have HL_a_x := Lib.hid (show ∀ b ∈ fp_a_x, wA.heap.size ≤ b from fun b hb => by have := ge_a_x b hb; have := u1.size; omega)
    have r2_a_x := rr
    have o2_a_x := oo
    clear u1 uu ge_a_x rr oo
    have S2 := delCS [.slice p0_a_x (x).defs.length q0_a_x, .slice p1_a_x (x).comps.length q1_a_x, .slice p2_a_x (x).meets.length q2_a_x, .slice p3_a_x (x).allow.length q3_a_x, .slice p4_a_x (x).hide.length q4_a_x] x k w2 fp_a_x r2_a_x hF
    rw [HG.out] at S2
    go_wp2_with fail
    refine S2.mono ?_
    clear S2
    rintro e w3 ⟨⟨us, rfl, -, -, hn⟩, uu⟩
    obtain ⟨p0_w0, q0_w0, p1_w0, q1_w0, p2_w0, q2_w0, p3_w0, q3_w0, p4_w0, q4_w0, rfl⟩ := sy_form hn
    obtain ⟨fp_w0, rr, oo, ge_w0⟩ := hn
    have lt_a_x := R_Syk.lt r2_a_x
    have u3 : Upd [] wA w3 := u2.trans (uu)
    have HL_w0 := Lib.hid (show ∀ b ∈ fp_w0, wA.heap.size ≤ b from fun b hb => by have := ge_w0 b hb; have := u2.size; omega)
    have r3_w0 := rr
    have o3_w0 := oo
    clear u2 r2_a_x o2_a_x uu ge_w0 rr oo lt_a_x
    obtain ⟨w4, hwB⟩ : ∃ wB, wB = w3.alloc (.cells #[.slice p0_w0 (y).defs.length q0_w0, .slice p1_w0 (y).comps.length q1_w0, .slice p2_w0 (y).meets.length q2_w0, .slice p3_w0 (y).allow.length q3_w0, .slice p4_w0 (y).hide.length q4_w0] 29) := ⟨_, rfl⟩
    have uB : Upd [] w3 w4 := by rw [hwB]; exact (Upd.refl _ _).alloc _
    obtain ⟨B_w0, hB⟩ : ∃ B, B = w3.heap.size := ⟨_, rfl⟩
    have qq : RowAt w4 B_w0 29 [.slice p0_w0 (y).defs.length q0_w0, .slice p1_w0 (y).comps.length q1_w0, .slice p2_w0 (y).meets.length q2_w0, .slice p3_w0 (y).allow.length q3_w0, .slice p4_w0 (y).hide.length q4_w0] := by rw [hwB, hB]; exact RowAt.new _ _ _
    have lt_w0 := R_Syk.lt r3_w0
    have HN_w0_w0 := Lib.hid (show B_w0 ∉ fp_w0 from fun hm => by have := lt_w0 _ hm; omega)
    have u4 : Upd [] wA w4 := u3.trans (uB)
    have r4_w0 := R_Syk.upd r3_w0 (uB) (by simp)
    have o4_w0 := o3_w0.upd (uB) (by simp)
    have q4_w0 := qq
    clear u3 r3_w0 o3_w0 lt_w0 uB qq
    go_upto_region 6 with (fail)
    rw [← hwB, ← hB]
    clear hwB hB
    have z_A_0 := (HQA.out _ u4).cell 0 _ rfl
    have z_A_1 := (HQA.out _ u4).cell 1 _ rfl
    have z_A_2 := (HQA.out _ u4).cell 2 _ rfl
    have z_A_3 := (HQA.out _ u4).cell 3 _ rfl
    have z_A_4 := (HQA.out _ u4).cell 4 _ rfl
    have S2 := to_Sy _ x w4 _ HSZ.out (HRX.out _ (UA.out.trans u4))
    go_wp2_with fail
    refine S2.mono ?_
    clear S2 z_A_0 z_A_1 z_A_2 z_A_3 z_A_4
    rintro e w5 ⟨⟨us, rfl, -, -, hn⟩, uu⟩
    obtain ⟨p0_x_x, q0_x_x, p1_x_x, q1_x_x, p2_x_x, q2_x_x, p3_x_x, q3_x_x, p4_x_x, q4_x_x, rfl⟩ := sy_form hn
    obtain ⟨fp_x_x, rr, oo, ge_x_x⟩ := hn
    have lt_w0 := R_Syk.lt r4_w0
    have bl_w0 := q4_w0.lt
    have u5 : Upd [] wA w5 := u4.trans (uu)
    have r5_w0 := R_Syk.upd r4_w0 (uu) (by simp)
    have o5_w0 := o4_w0.upd (uu) (by simp)
    have q5_w0 := q4_w0.upd (uu) (by simp)
    have HL_x_x := Lib.hid (show ∀ b ∈ fp_x_x, wA.heap.size ≤ b from fun b hb => by have := ge_x_x b hb; have := u4.size; omega)
    have HD_w0_x_x := Lib.hid (show ∀ b ∈ fp_w0, b ∉ fp_x_x from fun b hb hm => by have := lt_w0 b hb; have := ge_x_x b hm; omega)
    have HN_w0_x_x := Lib.hid (show B_w0 ∉ fp_x_x from fun hm => by have := ge_x_x _ hm; omega)
    have r5_x_x := rr
    have o5_x_x := oo
    clear u4 r4_w0 o4_w0 q4_w0 uu ge_x_x rr oo lt_w0 bl_w0
    obtain ⟨w6, hwB⟩ : ∃ wB, wB = w5.alloc (.cells #[.slice p0_x_x (x).defs.length q0_x_x, .slice p1_x_x (x).comps.length q1_x_x, .slice p2_x_x (x).meets.length q2_x_x, .slice p3_x_x (x).allow.length q3_x_x, .slice p4_x_x (x).hide.length q4_x_x] 29) := ⟨_, rfl⟩
    have uB : Upd [] w5 w6 := by rw [hwB]; exact (Upd.refl _ _).alloc _
    obtain ⟨B_x_x, hB⟩ : ∃ B, B = w5.heap.size := ⟨_, rfl⟩
    have qq : RowAt w6 B_x_x 29 [.slice p0_x_x (x).defs.length q0_x_x, .slice p1_x_x (x).comps.length q1_x_x, .slice p2_x_x (x).meets.length q2_x_x, .slice p3_x_x (x).allow.length q3_x_x, .slice p4_x_x (x).hide.length q4_x_x] := by rw [hwB, hB]; exact RowAt.new _ _ _
    have lt_w0 := R_Syk.lt r5_w0
    have lt_x_x := R_Syk.lt r5_x_x
    have bl_w0 := q5_w0.lt
    have HN_x_x_w0 := Lib.hid (show B_x_x ∉ fp_w0 from fun hm => by have := lt_w0 _ hm; omega)
    have HN_x_x_x_x := Lib.hid (show B_x_x ∉ fp_x_x from fun hm => by have := lt_x_x _ hm; omega)
    have u6 : Upd [] wA w6 := u5.trans (uB)
    have r6_w0 := R_Syk.upd r5_w0 (uB) (by simp)
    have o6_w0 := o5_w0.upd (uB) (by simp)
    have r6_x_x := R_Syk.upd r5_x_x (uB) (by simp)
    have o6_x_x := o5_x_x.upd (uB) (by simp)
    have q6_w0 := q5_w0.upd (uB) (by simp)
    have q6_x_x := qq
    clear u5 r5_w0 o5_w0 r5_x_x o5_x_x q5_w0 lt_w0 lt_x_x bl_w0 uB qq
    go_upto_region 7 with (fail)
    rw [← hwB, ← hB]
    clear hwB hB
    have z_x_x_0 := q6_x_x.cell 0 _ rfl
    have z_x_x_1 := q6_x_x.cell 1 _ rfl
    have z_x_x_2 := q6_x_x.cell 2 _ rfl
    have z_x_x_3 := q6_x_x.cell 3 _ rfl
    have z_x_x_4 := q6_x_x.cell 4 _ rfl
    have S2 := delCI [.slice p0_x_x (x).defs.length q0_x_x, .slice p1_x_x (x).comps.length q1_x_x, .slice p2_x_x (x).meets.length q2_x_x, .slice p3_x_x (x).allow.length q3_x_x, .slice p4_x_x (x).hide.length q4_x_x] x k w6 fp_x_x r6_x_x hF
    rw [HG.out] at S2
    go_wp2_with fail
    refine S2.mono ?_
    clear S2 z_x_x_0 z_x_x_1 z_x_x_2 z_x_x_3 z_x_x_4
    rintro e w7 ⟨⟨us, rfl, -, -, hn⟩, uu⟩
    obtain ⟨p0_g0, q0_g0, p1_g0, q1_g0, p2_g0, q2_g0, p3_g0, q3_g0, p4_g0, q4_g0, rfl⟩ := sy_form hn
    obtain ⟨fp_g0, rr, oo, ge_g0⟩ := hn
    have lt_w0 := R_Syk.lt r6_w0
    have lt_x_x := R_Syk.lt r6_x_x
    have bl_w0 := q6_w0.lt
    have bl_x_x := q6_x_x.lt
    have u7 : Upd [] wA w7 := u6.trans (uu)
    have r7_w0 := R_Syk.upd r6_w0 (uu) (by simp)
    have o7_w0 := o6_w0.upd (uu) (by simp)
    have r7_x_x := R_Syk.upd r6_x_x (uu) (by simp)
    have o7_x_x := o6_x_x.upd (uu) (by simp)
    have q7_w0 := q6_w0.upd (uu) (by simp)
    have q7_x_x := q6_x_x.upd (uu) (by simp)
    have HL_g0 := Lib.hid (show ∀ b ∈ fp_g0, wA.heap.size ≤ b from fun b hb => by have := ge_g0 b hb; have := u6.size; omega)
    have HD_w0_g0 := Lib.hid (show ∀ b ∈ fp_w0, b ∉ fp_g0 from fun b hb hm => by have := lt_w0 b hb; have := ge_g0 b hm; omega)
    have HD_x_x_g0 := Lib.hid (show ∀ b ∈ fp_x_x, b ∉ fp_g0 from fun b hb hm => by have := lt_x_x b hb; have := ge_g0 b hm; omega)
    have HN_w0_g0 := Lib.hid (show B_w0 ∉ fp_g0 from fun hm => by have := ge_g0 _ hm; omega)
    have HN_x_x_g0 := Lib.hid (show B_x_x ∉ fp_g0 from fun hm => by have := ge_g0 _ hm; omega)
    have r7_g0 := rr
    have o7_g0 := oo
    clear u6 r6_w0 o6_w0 r6_x_x o6_x_x q6_w0 q6_x_x uu ge_g0 rr oo lt_w0 lt_x_x bl_w0 bl_x_x
    obtain ⟨w8, hwB⟩ : ∃ wB, wB = w7.alloc (.cells #[.slice p0_g0 (y).defs.length q0_g0, .slice p1_g0 (y).comps.length q1_g0, .slice p2_g0 (y).meets.length q2_g0, .slice p3_g0 (y).allow.length q3_g0, .slice p4_g0 (y).hide.length q4_g0] 29) := ⟨_, rfl⟩
    have uB : Upd [] w7 w8 := by rw [hwB]; exact (Upd.refl _ _).alloc _
    obtain ⟨B_g0, hB⟩ : ∃ B, B = w7.heap.size := ⟨_, rfl⟩
    have qq : RowAt w8 B_g0 29 [.slice p0_g0 (y).defs.length q0_g0, .slice p1_g0 (y).comps.length q1_g0, .slice p2_g0 (y).meets.length q2_g0, .slice p3_g0 (y).allow.length q3_g0, .slice p4_g0 (y).hide.length q4_g0] := by rw [hwB, hB]; exact RowAt.new _ _ _
    have lt_w0 := R_Syk.lt r7_w0
    have lt_x_x := R_Syk.lt r7_x_x
    have lt_g0 := R_Syk.lt r7_g0
    have bl_w0 := q7_w0.lt
    have bl_x_x := q7_x_x.lt
    have HN_g0_w0 := Lib.hid (show B_g0 ∉ fp_w0 from fun hm => by have := lt_w0 _ hm; omega)
    have HN_g0_x_x := Lib.hid (show B_g0 ∉ fp_x_x from fun hm => by have := lt_x_x _ hm; omega)
    have HN_g0_g0 := Lib.hid (show B_g0 ∉ fp_g0 from fun hm => by have := lt_g0 _ hm; omega)
    have u8 : Upd [] wA w8 := u7.trans (uB)
    have r8_w0 := R_Syk.upd r7_w0 (uB) (by simp)
    have o8_w0 := o7_w0.upd (uB) (by simp)
    have r8_x_x := R_Syk.upd r7_x_x (uB) (by simp)
    have o8_x_x := o7_x_x.upd (uB) (by simp)
    have r8_g0 := R_Syk.upd r7_g0 (uB) (by simp)
    have o8_g0 := o7_g0.upd (uB) (by simp)
    have q8_w0 := q7_w0.upd (uB) (by simp)
    have q8_x_x := q7_x_x.upd (uB) (by simp)
    have q8_g0 := qq
    clear u7 r7_w0 o7_w0 r7_x_x o7_x_x r7_g0 o7_g0 q7_w0 q7_x_x lt_w0 lt_x_x lt_g0 bl_w0 bl_x_x uB qq
    go_upto_region 8 with (fail)
    rw [← hwB, ← hB]
    clear hwB hB
    have z_g0_0 := q8_g0.cell 0 _ rfl
    have z_g0_1 := q8_g0.cell 1 _ rfl
    have z_g0_2 := q8_g0.cell 2 _ rfl
    have z_g0_3 := q8_g0.cell 3 _ rfl
    have z_g0_4 := q8_g0.cell 4 _ rfl
    have z_w0_0 := q8_w0.cell 0 _ rfl
    have z_w0_1 := q8_w0.cell 1 _ rfl
    have z_w0_2 := q8_w0.cell 2 _ rfl
    have z_w0_3 := q8_w0.cell 3 _ rfl
    have z_w0_4 := q8_w0.cell 4 _ rfl
    have S2 := eq_Sy [.slice p0_g0 (y).defs.length q0_g0, .slice p1_g0 (y).comps.length q1_g0, .slice p2_g0 (y).meets.length q2_g0, .slice p3_g0 (y).allow.length q3_g0, .slice p4_g0 (y).hide.length q4_g0] [.slice p0_w0 (y).defs.length q0_w0, .slice p1_w0 (y).comps.length q1_w0, .slice p2_w0 (y).meets.length q2_w0, .slice p3_w0 (y).allow.length q3_w0, .slice p4_w0 (y).hide.length q4_w0] _ w8 _ _ r8_g0 r8_w0
    go_wp2_with fail
    refine S2.mono ?_
    clear S2 z_g0_0 z_g0_1 z_g0_2 z_g0_3 z_g0_4 z_w0_0 z_w0_1 z_w0_2 z_w0_3 z_w0_4
    rintro e w9 ⟨rfl, uu⟩
    have u9 : Upd [] wA w9 := u8.trans (uu)
    have r9_w0 := R_Syk.upd r8_w0 (uu) (by simp)
    have o9_w0 := o8_w0.upd (uu) (by simp)
    have r9_x_x := R_Syk.upd r8_x_x (uu) (by simp)
    have o9_x_x := o8_x_x.upd (uu) (by simp)
    have r9_g0 := R_Syk.upd r8_g0 (uu) (by simp)
    have o9_g0 := o8_g0.upd (uu) (by simp)
    have q9_w0 := q8_w0.upd (uu) (by simp)
    have q9_x_x := q8_x_x.upd (uu) (by simp)
    have q9_g0 := q8_g0.upd (uu) (by simp)
    clear u8 r8_w0 o8_w0 r8_x_x o8_x_x r8_g0 o8_g0 q8_w0 q8_x_x q8_g0 uu
    have z_x_x_0 := q9_x_x.cell 0 _ rfl
    have z_x_x_1 := q9_x_x.cell 1 _ rfl
    have z_x_x_2 := q9_x_x.cell 2 _ rfl
    have z_x_x_3 := q9_x_x.cell 3 _ rfl
    have z_x_x_4 := q9_x_x.cell 4 _ rfl
    have z_A_0 := (HQA.out _ u9).cell 0 _ rfl
    have z_A_1 := (HQA.out _ u9).cell 1 _ rfl
    have z_A_2 := (HQA.out _ u9).cell 2 _ rfl
    have z_A_3 := (HQA.out _ u9).cell 3 _ rfl
    have z_A_4 := (HQA.out _ u9).cell 4 _ rfl
    have S6 := to_Sy _ x w9.drew _ HSZ.out (HRX.out _ (UA.out.trans u9).drew)
    have S7 := Lib.hid (fun W us f (hu : Upd [] w9.drew W) (h : R_Sy f W us x) => eq_Sy [.slice p0_x_x (x).defs.length q0_x_x, .slice p1_x_x (x).comps.length q1_x_x, .slice p2_x_x (x).meets.length q2_x_x, .slice p3_x_x (x).allow.length q3_x_x, .slice p4_x_x (x).hide.length q4_x_x] us x W _ f (R_Syk.upd r9_x_x ((Upd.refl [] _).drew.trans hu) (by simp)) h)
    go_wp2_with fail
    go_region_held3 (fun w' => w'.cell? ⟨B_x_x, 0, none⟩ = some (.slice p0_x_x (x).defs.length q0_x_x) ∧ w'.cell? ⟨B_x_x, 1, none⟩ = some (.slice p1_x_x (x).comps.length q1_x_x) ∧ w'.cell? ⟨B_x_x, 2, none⟩ = some (.slice p2_x_x (x).meets.length q2_x_x) ∧ w'.cell? ⟨B_x_x, 3, none⟩ = some (.slice p3_x_x (x).allow.length q3_x_x) ∧ w'.cell? ⟨B_x_x, 4, none⟩ = some (.slice p4_x_x (x).hide.length q4_x_x) ∧ w'.cell? ⟨BA, 0, none⟩ = some (v0) ∧ w'.cell? ⟨BA, 1, none⟩ = some (v1) ∧ w'.cell? ⟨BA, 2, none⟩ = some (v2) ∧ w'.cell? ⟨BA, 3, none⟩ = some (v3) ∧ w'.cell? ⟨BA, 4, none⟩ = some (v4)) (go_keep)
      (first
        | ((go_at_call 18); (refine S6.mono ?_); rintro e w6' ⟨⟨us, rfl, -, -, hn⟩, hu6⟩; obtain ⟨p0_t, q0_t, p1_t, q1_t, p2_t, q2_t, p3_t, q3_t, p4_t, q4_t, rfl⟩ := sy_form hn; obtain ⟨fp_t, rr6, -, -⟩ := hn; have y_0 := hu6.keep z_x_x_0; have y_1 := hu6.keep z_x_x_1; have y_2 := hu6.keep z_x_x_2; have y_3 := hu6.keep z_x_x_3; have y_4 := hu6.keep z_x_x_4; have y_5 := hu6.keep z_A_0; have y_6 := hu6.keep z_A_1; have y_7 := hu6.keep z_A_2; have y_8 := hu6.keep z_A_3; have y_9 := hu6.keep z_A_4)
        | ((go_at_call 20); (refine (S7.out w6' _ fp_t hu6 rr6).mono ?_); rintro e w10 ⟨rfl, hu7⟩; have t_0 := hu7.keep y_0; have t_1 := hu7.keep y_1; have t_2 := hu7.keep y_2; have t_3 := hu7.keep y_3; have t_4 := hu7.keep y_4; have t_5 := hu7.keep y_5; have t_6 := hu7.keep y_6; have t_7 := hu7.keep y_7; have t_8 := hu7.keep y_8; have t_9 := hu7.keep y_9))
    have uu : Upd [] w9 w10 := ((Upd.refl [] w9).drew.trans hu6).trans hu7
    have u10 : Upd [] wA w10 := u9.trans (uu)
    have r10_w0 := R_Syk.upd r9_w0 (uu) (by simp)
    have o10_w0 := o9_w0.upd (uu) (by simp)
    have r10_x_x := R_Syk.upd r9_x_x (uu) (by simp)
    have o10_x_x := o9_x_x.upd (uu) (by simp)
    have r10_g0 := R_Syk.upd r9_g0 (uu) (by simp)
    have o10_g0 := o9_g0.upd (uu) (by simp)
    have q10_w0 := q9_w0.upd (uu) (by simp)
    have q10_x_x := q9_x_x.upd (uu) (by simp)
    have q10_g0 := q9_g0.upd (uu) (by simp)
    clear u9 r9_w0 o9_w0 r9_x_x o9_x_x r9_g0 o9_g0 q9_w0 q9_x_x q9_g0 uu S6 S7 hu6 hu7 rr6 z_x_x_0 z_x_x_1 z_x_x_2 z_x_x_3 z_x_x_4 z_A_0 z_A_1 z_A_2 z_A_3 z_A_4 y_0 y_1 y_2 y_3 y_4 y_5 y_6 y_7 y_8 y_9 t_0 t_1 t_2 t_3 t_4 t_5 t_6 t_7 t_8 t_9
    have z_x_x_0 := q10_x_x.cell 0 _ rfl
    have z_x_x_1 := q10_x_x.cell 1 _ rfl
    have z_x_x_2 := q10_x_x.cell 2 _ rfl
    have z_x_x_3 := q10_x_x.cell 3 _ rfl
    have z_x_x_4 := q10_x_x.cell 4 _ rfl
    go_wp2_with fail
    refine (mark_Sy [.slice p0_x_x (x).defs.length q0_x_x, .slice p1_x_x (x).comps.length q1_x_x, .slice p2_x_x (x).meets.length q2_x_x, .slice p3_x_x (x).allow.length q3_x_x, .slice p4_x_x (x).hide.length q4_x_x] x _ _ fp_x_x (by omega) (by omega) r10_x_x o10_x_x).mono ?_
    clear z_x_x_0 z_x_x_1 z_x_x_2 z_x_x_3 z_x_x_4
    rintro e w11 ⟨rfl, r11_x_x, o11_x_x, uu⟩
    have u11 : Upd [] wA w11 := u10.fresh (uu) (fun b hb => Or.inl (HL_x_x.out b hb))
    have r11_w0 := R_Syk.upd r10_w0 (uu) HD_w0_x_x.out
    have o11_w0 := o10_w0.upd (uu) HD_w0_x_x.out
    have r11_g0 := R_Syk.upd r10_g0 (uu) (fun b hb hm => HD_x_x_g0.out b hm hb)
    have o11_g0 := o10_g0.upd (uu) (fun b hb hm => HD_x_x_g0.out b hm hb)
    have q11_w0 := q10_w0.upd (uu) HN_w0_x_x.out
    have q11_x_x := q10_x_x.upd (uu) HN_x_x_x_x.out
    have q11_g0 := q10_g0.upd (uu) HN_g0_x_x.out
    clear u10 r10_w0 o10_w0 r10_x_x o10_x_x r10_g0 o10_g0 q10_w0 q10_x_x q10_g0 r11_x_x o11_x_x q11_x_x uu
    have hk : 0 ≤ 1 + mkF_Sy x := by omega
    have z_g0_0 := q11_g0.cell 0 _ rfl
    have z_g0_1 := q11_g0.cell 1 _ rfl
    have z_g0_2 := q11_g0.cell 2 _ rfl
    have z_g0_3 := q11_g0.cell 3 _ rfl
    have z_g0_4 := q11_g0.cell 4 _ rfl
    have z_w0_0 := q11_w0.cell 0 _ rfl
    have z_w0_1 := q11_w0.cell 1 _ rfl
    have z_w0_2 := q11_w0.cell 2 _ rfl
    have z_w0_3 := q11_w0.cell 3 _ rfl
    have z_w0_4 := q11_w0.cell 4 _ rfl
    have S2 := eq_Sy [.slice p0_g0 (y).defs.length q0_g0, .slice p1_g0 (y).comps.length q1_g0, .slice p2_g0 (y).meets.length q2_g0, .slice p3_g0 (y).allow.length q3_g0, .slice p4_g0 (y).hide.length q4_g0] [.slice p0_w0 (y).defs.length q0_w0, .slice p1_w0 (y).comps.length q1_w0, .slice p2_w0 (y).meets.length q2_w0, .slice p3_w0 (y).allow.length q3_w0, .slice p4_w0 (y).hide.length q4_w0] _ w11 _ _ r11_g0 r11_w0
    go_wp2_with fail
    refine S2.mono ?_
    clear S2 z_g0_0 z_g0_1 z_g0_2 z_g0_3 z_g0_4 z_w0_0 z_w0_1 z_w0_2 z_w0_3 z_w0_4
    rintro e w12 ⟨rfl, uu⟩
    have u12 : Upd [] wA w12 := u11.trans (uu)
    have r12_w0 := R_Syk.upd r11_w0 (uu) (by simp)
    have o12_w0 := o11_w0.upd (uu) (by simp)
    have r12_g0 := R_Syk.upd r11_g0 (uu) (by simp)
    have o12_g0 := o11_g0.upd (uu) (by simp)
    have q12_w0 := q11_w0.upd (uu) (by simp)
    have q12_g0 := q11_g0.upd (uu) (by simp)
    clear u11 r11_w0 o11_w0 r11_g0 o11_g0 q11_w0 q11_g0 uu
    have z_g0_0 := q12_g0.cell 0 _ rfl
    have z_g0_1 := q12_g0.cell 1 _ rfl
    have z_g0_2 := q12_g0.cell 2 _ rfl
    have z_g0_3 := q12_g0.cell 3 _ rfl
    have z_g0_4 := q12_g0.cell 4 _ rfl
    go_wp2_with fail
    refine (mark_Sy [.slice p0_g0 (y).defs.length q0_g0, .slice p1_g0 (y).comps.length q1_g0, .slice p2_g0 (y).meets.length q2_g0, .slice p3_g0 (y).allow.length q3_g0, .slice p4_g0 (y).hide.length q4_g0] y _ _ fp_g0 (by omega) (by omega) r12_g0 o12_g0).mono ?_
    clear z_g0_0 z_g0_1 z_g0_2 z_g0_3 z_g0_4
    rintro e w13 ⟨rfl, r13_g0, o13_g0, uu⟩
    have u13 : Upd [] wA w13 := u12.fresh (uu) (fun b hb => Or.inl (HL_g0.out b hb))
    have r13_w0 := R_Syk.upd r12_w0 (uu) HD_w0_g0.out
    have o13_w0 := o12_w0.upd (uu) HD_w0_g0.out
    have q13_w0 := q12_w0.upd (uu) HN_w0_g0.out
    have q13_g0 := q12_g0.upd (uu) HN_g0_g0.out
    clear u12 r12_w0 o12_w0 r12_g0 o12_g0 q12_w0 q12_g0 uu
    have hk0 : 0 ≤ 1 + mkF_Sy y := by omega
    have hne : ((1 + mkF_Sy y) != (1 + mkF_Sy y)) = false := by simp
    have z_g0_0 := q13_g0.cell 0 _ rfl
    have z_g0_1 := q13_g0.cell 1 _ rfl
    have z_g0_2 := q13_g0.cell 2 _ rfl
    have z_g0_3 := q13_g0.cell 3 _ rfl
    have z_g0_4 := q13_g0.cell 4 _ rfl
    have S2 := held_Sy [.slice p0_g0 (y).defs.length q0_g0, .slice p1_g0 (y).comps.length q1_g0, .slice p2_g0 (y).meets.length q2_g0, .slice p3_g0 (y).allow.length q3_g0, .slice p4_g0 (y).hide.length q4_g0] y 1 w13 fp_g0 (by omega) hMk r13_g0
    go_wp2_with fail
    refine S2.mono ?_
    clear S2 z_g0_0 z_g0_1 z_g0_2 z_g0_3 z_g0_4
    rintro e w14 ⟨rfl, uu⟩
    have u14 : Upd [] wA w14 := u13.trans (uu)
    have r14_w0 := R_Syk.upd r13_w0 (uu) (by simp)
    have o14_w0 := o13_w0.upd (uu) (by simp)
    have r14_g0 := R_Syk.upd r13_g0 (uu) (by simp)
    have o14_g0 := o13_g0.upd (uu) (by simp)
    have q14_w0 := q13_w0.upd (uu) (by simp)
    have q14_g0 := q13_g0.upd (uu) (by simp)
    clear u13 r13_w0 o13_w0 r13_g0 o13_g0 q13_w0 q13_g0 uu
    have z_A_0 := (HQA.out _ u14).cell 0 _ rfl
    have z_A_1 := (HQA.out _ u14).cell 1 _ rfl
    have z_A_2 := (HQA.out _ u14).cell 2 _ rfl
    have z_A_3 := (HQA.out _ u14).cell 3 _ rfl
    have z_A_4 := (HQA.out _ u14).cell 4 _ rfl
    have S2 := to_Sy _ x w14 _ HSZ.out (HRX.out _ (UA.out.trans u14))
    go_wp2_with fail
    refine S2.mono ?_
    clear S2 z_A_0 z_A_1 z_A_2 z_A_3 z_A_4
    rintro e w15 ⟨⟨us, rfl, -, -, hn⟩, uu⟩
    obtain ⟨p0_c_x, q0_c_x, p1_c_x, q1_c_x, p2_c_x, q2_c_x, p3_c_x, q3_c_x, p4_c_x, q4_c_x, rfl⟩ := sy_form hn
    obtain ⟨fp_c_x, rr, oo, ge_c_x⟩ := hn
    have lt_w0 := R_Syk.lt r14_w0
    have lt_g0 := R_Syk.lt r14_g0
    have bl_w0 := q14_w0.lt
    have bl_g0 := q14_g0.lt
    have u15 : Upd [] wA w15 := u14.trans (uu)
    have r15_w0 := R_Syk.upd r14_w0 (uu) (by simp)
    have o15_w0 := o14_w0.upd (uu) (by simp)
    have r15_g0 := R_Syk.upd r14_g0 (uu) (by simp)
    have o15_g0 := o14_g0.upd (uu) (by simp)
    have q15_w0 := q14_w0.upd (uu) (by simp)
    have q15_g0 := q14_g0.upd (uu) (by simp)
    have HL_c_x := Lib.hid (show ∀ b ∈ fp_c_x, wA.heap.size ≤ b from fun b hb => by have := ge_c_x b hb; have := u14.size; omega)
    have HD_w0_c_x := Lib.hid (show ∀ b ∈ fp_w0, b ∉ fp_c_x from fun b hb hm => by have := lt_w0 b hb; have := ge_c_x b hm; omega)
    have HD_g0_c_x := Lib.hid (show ∀ b ∈ fp_g0, b ∉ fp_c_x from fun b hb hm => by have := lt_g0 b hb; have := ge_c_x b hm; omega)
    have HN_w0_c_x := Lib.hid (show B_w0 ∉ fp_c_x from fun hm => by have := ge_c_x _ hm; omega)
    have HN_g0_c_x := Lib.hid (show B_g0 ∉ fp_c_x from fun hm => by have := ge_c_x _ hm; omega)
    have r15_c_x := rr
    have o15_c_x := oo
    clear u14 r14_w0 o14_w0 r14_g0 o14_g0 q14_w0 q14_g0 uu ge_c_x rr oo lt_w0 lt_g0 bl_w0 bl_g0
    have S2 := delCI [.slice p0_c_x (x).defs.length q0_c_x, .slice p1_c_x (x).comps.length q1_c_x, .slice p2_c_x (x).meets.length q2_c_x, .slice p3_c_x (x).allow.length q3_c_x, .slice p4_c_x (x).hide.length q4_c_x] x k w15 fp_c_x r15_c_x hF
    rw [HG.out] at S2
    go_wp2_with fail
    refine S2.mono ?_
    clear S2
    rintro e w16 ⟨⟨us, rfl, -, -, hn⟩, uu⟩
    obtain ⟨p0_h0, q0_h0, p1_h0, q1_h0, p2_h0, q2_h0, p3_h0, q3_h0, p4_h0, q4_h0, rfl⟩ := sy_form hn
    obtain ⟨fp_h0, rr, oo, ge_h0⟩ := hn
    have lt_w0 := R_Syk.lt r15_w0
    have lt_g0 := R_Syk.lt r15_g0
    have lt_c_x := R_Syk.lt r15_c_x
    have bl_w0 := q15_w0.lt
    have bl_g0 := q15_g0.lt
    have u16 : Upd [] wA w16 := u15.trans (uu)
    have r16_w0 := R_Syk.upd r15_w0 (uu) (by simp)
    have o16_w0 := o15_w0.upd (uu) (by simp)
    have r16_g0 := R_Syk.upd r15_g0 (uu) (by simp)
    have o16_g0 := o15_g0.upd (uu) (by simp)
    have q16_w0 := q15_w0.upd (uu) (by simp)
    have q16_g0 := q15_g0.upd (uu) (by simp)
    have HL_h0 := Lib.hid (show ∀ b ∈ fp_h0, wA.heap.size ≤ b from fun b hb => by have := ge_h0 b hb; have := u15.size; omega)
    have HD_w0_h0 := Lib.hid (show ∀ b ∈ fp_w0, b ∉ fp_h0 from fun b hb hm => by have := lt_w0 b hb; have := ge_h0 b hm; omega)
    have HD_g0_h0 := Lib.hid (show ∀ b ∈ fp_g0, b ∉ fp_h0 from fun b hb hm => by have := lt_g0 b hb; have := ge_h0 b hm; omega)
    have HN_w0_h0 := Lib.hid (show B_w0 ∉ fp_h0 from fun hm => by have := ge_h0 _ hm; omega)
    have HN_g0_h0 := Lib.hid (show B_g0 ∉ fp_h0 from fun hm => by have := ge_h0 _ hm; omega)
    have r16_h0 := rr
    have o16_h0 := oo
    clear u15 r15_w0 o15_w0 r15_g0 o15_g0 r15_c_x o15_c_x q15_w0 q15_g0 uu ge_h0 rr oo lt_w0 lt_g0 lt_c_x bl_w0 bl_g0
    obtain ⟨w17, hwB⟩ : ∃ wB, wB = w16.alloc (.cells #[.slice p0_h0 (y).defs.length q0_h0, .slice p1_h0 (y).comps.length q1_h0, .slice p2_h0 (y).meets.length q2_h0, .slice p3_h0 (y).allow.length q3_h0, .slice p4_h0 (y).hide.length q4_h0] 29) := ⟨_, rfl⟩
    have uB : Upd [] w16 w17 := by rw [hwB]; exact (Upd.refl _ _).alloc _
    obtain ⟨B_h0, hB⟩ : ∃ B, B = w16.heap.size := ⟨_, rfl⟩
    have qq : RowAt w17 B_h0 29 [.slice p0_h0 (y).defs.length q0_h0, .slice p1_h0 (y).comps.length q1_h0, .slice p2_h0 (y).meets.length q2_h0, .slice p3_h0 (y).allow.length q3_h0, .slice p4_h0 (y).hide.length q4_h0] := by rw [hwB, hB]; exact RowAt.new _ _ _
    have lt_w0 := R_Syk.lt r16_w0
    have lt_g0 := R_Syk.lt r16_g0
    have lt_h0 := R_Syk.lt r16_h0
    have bl_w0 := q16_w0.lt
    have bl_g0 := q16_g0.lt
    have HN_h0_w0 := Lib.hid (show B_h0 ∉ fp_w0 from fun hm => by have := lt_w0 _ hm; omega)
    have HN_h0_g0 := Lib.hid (show B_h0 ∉ fp_g0 from fun hm => by have := lt_g0 _ hm; omega)
    have HN_h0_h0 := Lib.hid (show B_h0 ∉ fp_h0 from fun hm => by have := lt_h0 _ hm; omega)
    have u17 : Upd [] wA w17 := u16.trans (uB)
    have r17_w0 := R_Syk.upd r16_w0 (uB) (by simp)
    have o17_w0 := o16_w0.upd (uB) (by simp)
    have r17_g0 := R_Syk.upd r16_g0 (uB) (by simp)
    have o17_g0 := o16_g0.upd (uB) (by simp)
    have r17_h0 := R_Syk.upd r16_h0 (uB) (by simp)
    have o17_h0 := o16_h0.upd (uB) (by simp)
    have q17_w0 := q16_w0.upd (uB) (by simp)
    have q17_g0 := q16_g0.upd (uB) (by simp)
    have q17_h0 := qq
    clear u16 r16_w0 o16_w0 r16_g0 o16_g0 r16_h0 o16_h0 q16_w0 q16_g0 lt_w0 lt_g0 lt_h0 bl_w0 bl_g0 uB qq
    go_upto_region 25 with (fail)
    rw [← hwB, ← hB]
    clear hwB hB
    have z_h0_0 := q17_h0.cell 0 _ rfl
    have z_h0_1 := q17_h0.cell 1 _ rfl
    have z_h0_2 := q17_h0.cell 2 _ rfl
    have z_h0_3 := q17_h0.cell 3 _ rfl
    have z_h0_4 := q17_h0.cell 4 _ rfl
    have z_w0_0 := q17_w0.cell 0 _ rfl
    have z_w0_1 := q17_w0.cell 1 _ rfl
    have z_w0_2 := q17_w0.cell 2 _ rfl
    have z_w0_3 := q17_w0.cell 3 _ rfl
    have z_w0_4 := q17_w0.cell 4 _ rfl
    have S2 := eq_Sy [.slice p0_h0 (y).defs.length q0_h0, .slice p1_h0 (y).comps.length q1_h0, .slice p2_h0 (y).meets.length q2_h0, .slice p3_h0 (y).allow.length q3_h0, .slice p4_h0 (y).hide.length q4_h0] [.slice p0_w0 (y).defs.length q0_w0, .slice p1_w0 (y).comps.length q1_w0, .slice p2_w0 (y).meets.length q2_w0, .slice p3_w0 (y).allow.length q3_w0, .slice p4_w0 (y).hide.length q4_w0] _ w17 _ _ r17_h0 r17_w0
    go_wp2_with fail
    refine S2.mono ?_
    clear S2 z_h0_0 z_h0_1 z_h0_2 z_h0_3 z_h0_4 z_w0_0 z_w0_1 z_w0_2 z_w0_3 z_w0_4
    rintro e w18 ⟨rfl, uu⟩
    have u18 : Upd [] wA w18 := u17.trans (uu)
    have r18_w0 := R_Syk.upd r17_w0 (uu) (by simp)
    have o18_w0 := o17_w0.upd (uu) (by simp)
    have r18_g0 := R_Syk.upd r17_g0 (uu) (by simp)
    have o18_g0 := o17_g0.upd (uu) (by simp)
    have r18_h0 := R_Syk.upd r17_h0 (uu) (by simp)
    have o18_h0 := o17_h0.upd (uu) (by simp)
    have q18_w0 := q17_w0.upd (uu) (by simp)
    have q18_g0 := q17_g0.upd (uu) (by simp)
    have q18_h0 := q17_h0.upd (uu) (by simp)
    clear u17 r17_w0 o17_w0 r17_g0 o17_g0 r17_h0 o17_h0 q17_w0 q17_g0 q17_h0 uu
    have z_g0_0 := q18_g0.cell 0 _ rfl
    have z_g0_1 := q18_g0.cell 1 _ rfl
    have z_g0_2 := q18_g0.cell 2 _ rfl
    have z_g0_3 := q18_g0.cell 3 _ rfl
    have z_g0_4 := q18_g0.cell 4 _ rfl
    have S2 := held_Sy [.slice p0_g0 (y).defs.length q0_g0, .slice p1_g0 (y).comps.length q1_g0, .slice p2_g0 (y).meets.length q2_g0, .slice p3_g0 (y).allow.length q3_g0, .slice p4_g0 (y).hide.length q4_g0] y 1 w18 fp_g0 (by omega) hMk r18_g0
    go_wp2_with fail
    refine S2.mono ?_
    clear S2 z_g0_0 z_g0_1 z_g0_2 z_g0_3 z_g0_4
    rintro e w19 ⟨rfl, uu⟩
    have u19 : Upd [] wA w19 := u18.trans (uu)
    have r19_w0 := R_Syk.upd r18_w0 (uu) (by simp)
    have o19_w0 := o18_w0.upd (uu) (by simp)
    have r19_g0 := R_Syk.upd r18_g0 (uu) (by simp)
    have o19_g0 := o18_g0.upd (uu) (by simp)
    have r19_h0 := R_Syk.upd r18_h0 (uu) (by simp)
    have o19_h0 := o18_h0.upd (uu) (by simp)
    have q19_w0 := q18_w0.upd (uu) (by simp)
    have q19_g0 := q18_g0.upd (uu) (by simp)
    have q19_h0 := q18_h0.upd (uu) (by simp)
    clear u18 r18_w0 o18_w0 r18_g0 o18_g0 r18_h0 o18_h0 q18_w0 q18_g0 q18_h0 uu
    have HU := Lib.hid (UA.out.trans u19)
    go_wp2_with fail
    go_ret
    exact ⟨rfl, HU.out⟩

end Go.Proofs.YtnchmnjkmhfleaaGreat

/-
  The form's reading of definitions.
-/
namespace Go.Proofs.YtnchmnjkmhfleaaGreat
open Go.RowKit Go.ChangeShapes Go.WideShapes Go.Deep

set_option maxRecDepth 20000 in
theorem opens_Pa : Opens Tryz.prog 205 R_Pa PaOk := by
  intro H enc w fuel cs x hx
  obtain ⟨y0, y1, y2, y3, n, -, hl, h0, h1, h2, h3⟩ := Go.Joins.trod_struct4 Tryz.underlying205 hx
  rw [show Tryz.prog.cellsOf 205 = 4 by kernel_rfl] at hl
  match cs, hl with
  | [a, b, c, d], _ =>
    have c0 : Tryz.prog.cellsOf 2 = 1 := by kernel_rfl
    have c3 : Tryz.prog.cellsOf 9 = 1 := by kernel_rfl
    have c4 : Tryz.prog.cellsOf 203 = 1 := by kernel_rfl
    obtain ⟨k, e0, -, -⟩ := DataW.trod_int Tryz.underlying2 h0
    obtain ⟨m, e1, -, -⟩ := DataW.trod_int Tryz.underlying2 h1
    obtain ⟨s, e2, -, hs⟩ := DataW.trod_string Tryz.underlying9 h2
    simp [c0, c3, c4] at e0 e1 e2 h3
    obtain ⟨args, f3, r3, -⟩ := opens_T2 h3
    refine ⟨⟨k, m, s.data.toList, args⟩, f3 ++ [], ⟨d, f3, by rw [e0, e1, e2], r3, rfl⟩, ?_⟩
    show s.data.toList.length ≤ 9223372036854775807
    have : s.data.toList.length ≤ maxLen := hs
    simp only [maxLen] at this
    omega
theorem opens_Pa1 : Opens Tryz.prog 133 R_Pa1 Pa1Ok := opens_slQ Tryz.underlying133 (by kernel_rfl) (by decide) opens_Pa
set_option maxRecDepth 20000 in
theorem opens_De : Opens Tryz.prog 135 R_De DeOk := by
  intro H enc w fuel cs x hx
  obtain ⟨y0, y1, y2, n, -, hl, h0, h1, h2⟩ := trod_struct3 Tryz.underlying135 hx
  rw [show Tryz.prog.cellsOf 135 = 3 by kernel_rfl] at hl
  match cs, hl with
  | [a, b, c], _ =>
    have c0 : Tryz.prog.cellsOf 2 = 1 := by kernel_rfl
    have c3 : Tryz.prog.cellsOf 9 = 1 := by kernel_rfl
    have c4 : Tryz.prog.cellsOf 133 = 1 := by kernel_rfl
    obtain ⟨s, e0, -, hs⟩ := DataW.trod_string Tryz.underlying9 h0
    obtain ⟨m, e1, -, -⟩ := DataW.trod_int Tryz.underlying2 h1
    simp [c0, c3, c4] at e0 e1 h2
    obtain ⟨body, f2, r2, g2⟩ := opens_Pa1 h2
    refine ⟨⟨s.data.toList, m, body⟩, f2 ++ [], ⟨c, f2, by rw [e0, e1], r2, rfl⟩, ?_, g2⟩
    show s.data.toList.length ≤ 9223372036854775807
    have : s.data.toList.length ≤ maxLen := hs
    simp only [maxLen] at this
    omega
theorem opens_De1 : Opens Tryz.prog 41 R_De1 De1Ok := opens_slQ Tryz.underlying41 (by kernel_rfl) (by decide) opens_De

end Go.Proofs.YtnchmnjkmhfleaaGreat

/-
  The form's reading of systems.
-/
namespace Go.Proofs.YtnchmnjkmhfleaaGreat
open Go.RowKit Go.ChangeShapes Go.WideShapes Go.Deep

set_option maxRecDepth 20000 in
theorem opens_Co : Opens Tryz.prog 46 R_Co CoOk := by
  intro H enc w fuel cs x hx
  obtain ⟨y0, y1, n, -, hl, h0, h1⟩ := trod_struct2 Tryz.underlying46 hx
  rw [show Tryz.prog.cellsOf 46 = 2 by kernel_rfl] at hl
  match cs, hl with
  | [a, b], _ =>
    have c0 : Tryz.prog.cellsOf 2 = 1 := by kernel_rfl
    have c1 : Tryz.prog.cellsOf 36 = 1 := by kernel_rfl
    obtain ⟨k, e0, -, -⟩ := DataW.trod_int Tryz.underlying2 h0
    simp [c0, c1] at e0 h1
    obtain ⟨vals, f1, r1, -⟩ := opens_I1 h1
    exact ⟨⟨k, vals⟩, f1 ++ [], ⟨b, f1, by rw [e0], r1, rfl⟩, trivial⟩
theorem opens_Co1 : Opens Tryz.prog 42 R_Co1 Co1Ok := opens_slQ Tryz.underlying42 (by kernel_rfl) (by decide) opens_Co
set_option maxRecDepth 20000 in
theorem opens_Me : Opens Tryz.prog 137 R_Me MeOk := by
  intro H enc w fuel cs x hx
  obtain ⟨y0, y1, y2, n, -, hl, h0, h1, h2⟩ := trod_struct3 Tryz.underlying137 hx
  rw [show Tryz.prog.cellsOf 137 = 3 by kernel_rfl] at hl
  match cs, hl with
  | [a, b, c], _ =>
    have c3 : Tryz.prog.cellsOf 9 = 1 := by kernel_rfl
    obtain ⟨s, e0, -, hs⟩ := DataW.trod_string Tryz.underlying9 h0
    obtain ⟨t, e1, -, ht⟩ := DataW.trod_string Tryz.underlying9 h1
    obtain ⟨u, e2, -, hu⟩ := DataW.trod_string Tryz.underlying9 h2
    simp [c3] at e0 e1 e2
    refine ⟨⟨s.data.toList, t.data.toList, u.data.toList⟩, [], ⟨by rw [e0, e1, e2], rfl⟩, ?_⟩
    show s.data.toList.length ≤ 9223372036854775807 ∧ t.data.toList.length ≤ 9223372036854775807 ∧ u.data.toList.length ≤ 9223372036854775807
    have h1 : s.data.toList.length ≤ maxLen := hs
    have h2 : t.data.toList.length ≤ maxLen := ht
    have h3 : u.data.toList.length ≤ maxLen := hu
    simp only [maxLen] at h1 h2 h3
    omega
theorem opens_Me1 : Opens Tryz.prog 43 R_Me1 Me1Ok := opens_slQ Tryz.underlying43 (by kernel_rfl) (by decide) opens_Me

set_option maxRecDepth 20000 in
theorem open_Sy {H : Type} {enc : TypeId × Value → H} {w : World} {v : Value} {d : DataW H} {ps : List MemPlace} (hv : ∃ cs, v = .agg cs ∧ cs.size = Tryz.prog.cellsOf 45)
    (hd : DataW.Trod enc Tryz.prog w 0 (fun _ => true) true 45 v d ps) : ∃ x fp cs, v = .agg cs.toArray ∧ R_Sy fp w cs x ∧ SyOk x := by
  obtain ⟨cs, rfl, hcs⟩ := hv
  rw [show Tryz.prog.cellsOf 45 = 5 by kernel_rfl] at hcs
  obtain ⟨l, rfl⟩ : ∃ l : List Value, cs = l.toArray := ⟨cs.toList, by simp⟩
  match l, hcs with
  | [a, b, c, d, e], _ =>
    obtain ⟨fuel, hf⟩ := hd
    obtain ⟨y0, y1, y2, y3, y4, n, -, h0, h1, h2, h3, h4⟩ := trod_struct5 Tryz.underlying45 hf
    have c1 : Tryz.prog.cellsOf 41 = 1 := by kernel_rfl
    have c2 : Tryz.prog.cellsOf 42 = 1 := by kernel_rfl
    have c3 : Tryz.prog.cellsOf 43 = 1 := by kernel_rfl
    have c4 : Tryz.prog.cellsOf 27 = 1 := by kernel_rfl
    simp [c1, c2, c3, c4, Value.cells] at h0 h1 h2 h3 h4
    obtain ⟨s0, f0, r0, g0⟩ := opens_De1 h0
    obtain ⟨s1, f1, r1, g1⟩ := opens_Co1 h1
    obtain ⟨s2, f2, r2, g2⟩ := opens_Me1 h2
    obtain ⟨s3, f3, r3, g3⟩ := opens_S1 h3
    obtain ⟨s4, f4, r4, g4⟩ := opens_S1 h4
    exact ⟨⟨s0, s1, s2, s3, s4⟩, f0 ++ (f1 ++ (f2 ++ (f3 ++ f4))), [a, b, c, d, e], rfl, ⟨a, b, c, d, e, f0, f1, f2, f3, f4, rfl, r0, r1, r2, r3, r4, rfl⟩, ⟨g0, g1, g2, g3, g4⟩⟩

end Go.Proofs.YtnchmnjkmhfleaaGreat
