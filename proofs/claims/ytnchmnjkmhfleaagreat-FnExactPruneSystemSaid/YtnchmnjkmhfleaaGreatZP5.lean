/-
  Texts joined in one file: DfY, SyS, SyO, MeS, SyF, SyG, UsP, BisO, BisI, BisC, SortG, UsI, UsS, UsJ, UsT, FitD, UsV0.
-/
import Derived.Test.YtnchmnjkmhfleaaGreatZP1
import Derived.Test.YtnchmnjkmhfleaaGreatZP2
import Derived.Test.YtnchmnjkmhfleaaGreatZP3
import Derived.Test.YtnchmnjkmhfleaaGreatZP4
import Derived.Deep.DeepCutAuto
import Derived.Test.YtnchmnjkmhfleaaGreatShelf
import Derived.Test.YtnchmnjkmhfleaaGreatShelfS
import Derived.Deep.RegionHeld3
/-
  The reference's check of a list of definitions: what the call returns.
-/
namespace Go.Proofs.YtnchmnjkmhfleaaGreat
open Go.RowKit

set_option maxRecDepth 20000 in
set_option maxHeartbeats 16000000 in
theorem defsS (v : Value) (ds : List De) (w : World) (fp : List Nat) (hR : R_De1 fp w [v] ds) (hF : DesFit ds) :
    Calls Tryz.prog 158 #[v] w fun e w' => e = .returned (.bool (defsOk ds)) ∧ Upd [] w w' := by
  have hR' := hR
  obtain ⟨a, cap, rfl, g1, g2, hc⟩ := slQ_open hR
  unfold maxLen at g2
  have HLEN := Lib.hid (fun (h : inB (ds.length : Int) 1 4 = false) => defsOk_len h)
  have HNN := Lib.hid (fun k (hk : k < ds.length) (h : nameF ds[k].name = false) => defsOk_noname hk h)
  have HNP := Lib.hid (fun k (hk : k < ds.length) (h : inB ds[k].pars 0 3 = false) => defsOk_nopars hk h)
  have HND := Lib.hid (fun j k (hj : j < k) (hk : k < ds.length) (h : (ds[j].name == ds[k].name) = true) => defsOk_nodup hj hk h)
  have HNF := Lib.hid (fun k (hk : k < ds.length) (h : (faultP ds ds[k]).2 ≠ 0) => defsOk_nofault hk h)
  have HALL := Lib.hid (fun (hs : inB (ds.length : Int) 1 4 = true) h1 h2 => defsOk_all (ds := ds) hs h1 h2)
  have HC := Lib.hid hc
  have HRD := Lib.hid (fun W (hu : Upd [] w W) => R_De1k.upd hR' hu (by simp))
  have HFT := Lib.hid hF
  clear hR hR' hc hF
  generalize hZ : defsOk ds = Z at *
  clear hZ
  by_cases h0 : ds.length = 0
  · have HZ := Lib.hid (HLEN.out (inB_no (by omega)))
    have hb : ((ds.length : Int) == 0) = true := by rw [h0]; rfl
    clear h0 HLEN HNN HNP HND HNF HALL HC HRD HFT
    go_enter Tryz.func158, Tryz.ntmps158
    go_wp2_with fail
    go_ret
    exact ⟨by rw [HZ.out]; rfl, Upd.refl _ _⟩
  · have hb : ((ds.length : Int) == 0) = false := by simp; intro h; exact h0 (by rw [h]; rfl)
    by_cases h4 : 4 < ds.length
    · have HZ := Lib.hid (HLEN.out (inB_no (by omega)))
      have hb2 : (4 : Int) < (ds.length : Int) := by omega
      clear h0 h4 HLEN HNN HNP HND HNF HALL HC HRD HFT
      go_enter Tryz.func158, Tryz.ntmps158
      go_wp2_with fail
      go_ret
      exact ⟨by rw [HZ.out]; rfl, Upd.refl _ _⟩
    · have hb2 : ¬ (4 : Int) < (ds.length : Int) := by omega
      have hl4 : ds.length ≤ 4 := by omega
      have HAL := Lib.hid (HALL.out (inB_mk (by omega)))
      clear h0 h4 HLEN HALL
      go_enter Tryz.func158, Tryz.ntmps158
      go_wp2_with fail
      go_loopw [3] (fun iv wr => ∃ k : Nat, k ≤ ds.length ∧ iv = .int .i64 k ∧ Hid (∀ j (_ : j < k) (hj : j < ds.length), headD ds j ds[j] = true) ∧ Hid (Upd [] w wr)) (fun iv _ => ds.length - (intOf iv).toNat)
      case atStart => exact ⟨0, Nat.zero_le _, rfl, Lib.hid (fun j hj => absurd hj (Nat.not_lt_zero _)), Lib.hid (Upd.refl _ _)⟩
      case round =>
        obtain ⟨wo, rfl⟩ : ∃ wo : World, wo = wr := ⟨_, rfl⟩
        obtain ⟨k, hk, rfl, HG, HU⟩ := hrel
        by_cases hlt : k < ds.length
        · obtain ⟨bb, off, u, f', rfl, -, -, -, hcell, -, hr⟩ := HC.out k hlt
          obtain ⟨v2, f2, rfl, -, -⟩ := hr
          have s0 := HU.out.keep (hcell 0 _ rfl)
          have s1 := HU.out.keep (hcell 1 _ rfl)
          simp only [Nat.add_zero] at s0
          have hfk := HFT.out.2 ds[k] (List.getElem_mem hlt)
          have S1 := Lib.hid (nameS ds[k].name wo hfk.1)
          have S2 := Lib.hid (l00In ds[k].pars 0 3 wo)
          have HN1 := Lib.hid (HNN.out k hlt)
          have HN2 := Lib.hid (HNP.out k hlt)
          have hkl : (k : Int) < (ds.length : Int) := by omega
          clear hfk hcell
          obtain ⟨q1, h1⟩ : ∃ q, nameF ds[k].name = q := ⟨_, rfl⟩
          obtain ⟨q2, h2⟩ : ∃ q, inB ds[k].pars 0 3 = q := ⟨_, rfl⟩
          rw [h1] at S1
          rw [h2] at S2
          go_wp2_with fail
          refine S1.out.mono ?_
          rintro e wq ⟨rfl, rfl⟩
          clear S1
          cases q1 with
          | false =>
            have HZ := Lib.hid (HN1.out h1)
            clear HN1 HN2 S2 h1 h2
            go_wp2_with fail
            go_ret
            exact ⟨by rw [HZ.out]; rfl, HU.out⟩
          | true =>
            go_wp2_with fail
            refine S2.out.mono ?_
            rintro e wq ⟨rfl, rfl⟩
            clear S2
            cases q2 with
            | false =>
              have HZ := Lib.hid (HN2.out h2)
              clear HN1 HN2 h1 h2
              go_wp2_with fail
              go_ret
              exact ⟨by rw [HZ.out]; rfl, HU.out⟩
            | true =>
              have HH := Lib.hid (And.intro h1 h2)
              clear HN1 HN2 h1 h2 s1
              go_wp2_with fail
              go_loopw [4] (fun jv wr => ∃ j : Nat, j ≤ k ∧ jv = .int .i64 j ∧ Hid (∀ i (_ : i < j) (hi : i < ds.length), (ds[i].name == ds[k].name) = false) ∧ Hid (Upd [] wo wr)) (fun jv _ => k - (intOf jv).toNat)
              case atStart => exact ⟨0, Nat.zero_le _, rfl, Lib.hid (fun i hi => absurd hi (Nat.not_lt_zero _)), Lib.hid (Upd.refl _ _)⟩
              case round =>
                obtain ⟨wi, rfl⟩ : ∃ wi : World, wi = wr := ⟨_, rfl⟩
                obtain ⟨j, hj, rfl, HE, HUi⟩ := hrel
                by_cases hjk : j < k
                · have hjl : j < ds.length := by omega
                  obtain ⟨bb', off', u', f'', he, -, -, -, hcell', -, hr'⟩ := HC.out j hjl
                  simp only [Option.some.injEq, Addr.mk.injEq, and_true] at he
                  obtain ⟨rfl, rfl⟩ := he
                  obtain ⟨v4, f4, rfl, -, -⟩ := hr'
                  have t0 := (HU.out.trans HUi.out).keep (hcell' 0 _ rfl)
                  simp only [Nat.add_zero] at t0
                  have s0' := HUi.out.keep s0
                  have hjki : (j : Int) < (k : Int) := by omega
                  have hjli : (j : Int) < (ds.length : Int) := by omega
                  have HDU := Lib.hid (HND.out j k hjk hlt)
                  have HEN := Lib.hid (fun (h : (ds[j].name == ds[k].name) = false) i (hij : i < j + 1) (hi : i < ds.length) => (show (ds[i].name == ds[k].name) = false by
                    by_cases e : i = j
                    · subst e; exact h
                    · exact HE.out i (by omega) hi))
                  clear hcell' HE
                  obtain ⟨qe, hqe⟩ : ∃ q, (ds[j].name == ds[k].name) = q := ⟨_, rfl⟩
                  rw [hqe] at HDU HEN
                  generalize ds[j].name = nj at *
                  generalize hnk : ds[k].name = nk at *
                  clear hnk
                  cases qe with
                  | true =>
                    have HZ := Lib.hid (HDU.out rfl)
                    clear HDU HEN
                    go_wp2_with fail
                    go_quiet (fail)
                    go_wp2_with fail
                    go_ret
                    exact ⟨by rw [HZ.out]; rfl, HU.out.trans (HUi.out.drewN nq)⟩
                  | false =>
                    have HE2 := Lib.hid (HEN.out rfl)
                    clear HDU HEN
                    go_wp2_with fail
                    go_quiet (fail)
                    go_wp2_with fail
                    go_roundw
                    case rel => exact ⟨j + 1, by omega, by go_num, HE2, Lib.hid (HUi.out.drewN nq)⟩
                    case measure => simp [intOf]; omega
                · have hjki : ¬ (j : Int) < (k : Int) := by omega
                  have HK := Lib.hid (show ∀ i (_ : i < k + 1) (hi : i < ds.length), headD ds i ds[i] = true from fun i hi hil => by
                    by_cases e : i = k
                    · subst e
                      unfold headD
                      rw [HH.out.1, HH.out.2]
                      simp only [Bool.true_and, Bool.not_eq_true']
                      rw [List.any_eq_false]
                      intro o ho
                      obtain ⟨m, hm, rfl⟩ := List.mem_iff_getElem.1 ho
                      simp only [List.length_take] at hm
                      rw [List.getElem_take, HE.out m (by omega) (by omega)]; simp
                    · exact HG.out i (by omega) hil)
                  have HUU := Lib.hid (HU.out.trans HUi.out)
                  clear HE HG HH
                  go_wp2_with fail
                  go_roundw
                  case rel => exact ⟨k + 1, by omega, by go_num, HK, HUU⟩
                  case measure => simp [intOf]; omega
        · have hkl : ¬ (k : Int) < (ds.length : Int) := by omega
          have HH := Lib.hid (fun j (hj : j < ds.length) => HG.out j (by omega) hj)
          have HPA := Lib.hid (fun j (hj : j < ds.length) => (show 0 ≤ ds[j].pars ∧ ds[j].pars ≤ 3 from by
            have := HH.out j hj
            unfold headD at this
            simp only [Bool.and_eq_true] at this
            exact inB_true this.1.2))
          clear HG HNN HNP HND
          go_wp2_with fail
          go_loopw [5] (fun iv wr => ∃ m : Nat, m ≤ ds.length ∧ iv = .int .i64 m ∧ Hid (∀ j (_ : j < m) (hj : j < ds.length), (faultP ds ds[j]).2 = 0) ∧ Hid (Upd [] wo wr)) (fun iv _ => ds.length - (intOf iv).toNat)
          case atStart => exact ⟨0, Nat.zero_le _, rfl, Lib.hid (fun j hj => absurd hj (Nat.not_lt_zero _)), Lib.hid (Upd.refl _ _)⟩
          case round =>
            obtain ⟨wi, rfl⟩ : ∃ wi : World, wi = wr := ⟨_, rfl⟩
            obtain ⟨m, hm, rfl, HE, HUi⟩ := hrel
            by_cases hml : m < ds.length
            · obtain ⟨bb, off, u, f', rfl, -, -, -, hcell, -, hr⟩ := HC.out m hml
              have UU := Lib.hid (HU.out.trans HUi.out)
              obtain ⟨f9, hDA⟩ := DeAt.of (w := w) (o := off + m * 3) (fun j c hj => hcell j c hj) hr
              have hfm := HFT.out.2 ds[m] (List.getElem_mem hml)
              have hpm := HPA.out m hml
              have S3 := Lib.hid (bodyS ds (.slice (some ⟨bb, off, none⟩) ds.length cap) fp bb (off + m * 3) f9 ds[m] wi (HRD.out wi UU.out) (hDA.upd UU.out) (by omega) ⟨hfm.2.1, hfm.2.2⟩ hpm.1 hpm.2)
              have HNO := Lib.hid (HNF.out m hml)
              have HEN := Lib.hid (fun (h : (faultP ds ds[m]).2 = 0) i (him : i < m + 1) (hi : i < ds.length) => (show (faultP ds ds[i]).2 = 0 by
                by_cases e : i = m
                · subst e; exact h
                · exact HE.out i (by omega) hi))
              have hmi : (m : Int) < (ds.length : Int) := by omega
              have hfn : 0 ≤ (faultP ds ds[m]).2 := by
                have : ∀ (l : List Pa) (i : Nat), 0 ≤ (faultFrom ds ds[m] ds[m].body i l).2 := by
                  intro l
                  induction l with
                  | nil => intro i; simp [faultFrom]
                  | cons p l ih =>
                    intro i
                    rw [faultFrom]
                    split
                    · exact ih (i + 1)
                    · exact (reasonP_nn ds p _ _).1
                unfold faultP
                split
                · exact this _ _
                · simp
              clear hcell hr hDA hfm hpm HE
              generalize faultP ds ds[m] = fl at *
              obtain ⟨f0, f1⟩ := fl
              simp only at hfn HNO HEN S3
              go_wp2_with fail
              refine S3.out.mono ?_
              rintro e w6 ⟨rfl, hu6⟩
              have HU6 := Lib.hid (HUi.out.trans hu6)
              clear hu6 S3 UU
              by_cases hz : f1 = 0
              · have hzb : ¬ (0 : Int) < f1 := by omega
                have HE2 := Lib.hid (HEN.out hz)
                clear HNO HEN hz
                go_wp2_with fail
                go_roundw
                case rel => exact ⟨m + 1, by omega, by go_num, HE2, HU6⟩
                case measure => simp [intOf]; omega
              · have hzb : (0 : Int) < f1 := by omega
                have HZ := Lib.hid (HNO.out hz)
                clear HNO HEN hz
                go_wp2_with fail
                go_ret
                exact ⟨by rw [HZ.out]; rfl, HU.out.trans HU6.out⟩
            · have hmi : ¬ (m : Int) < (ds.length : Int) := by omega
              have HZ := Lib.hid (HAL.out HH.out (fun j hj => HE.out j (by omega) hj))
              clear HE HH HAL HNF
              go_wp2_with fail
              go_ret
              exact ⟨by rw [HZ.out]; rfl, HU.out.trans HUi.out⟩

end Go.Proofs.YtnchmnjkmhfleaaGreat

/-
  Components: what the reference's check returns.
-/
namespace Go.Proofs.YtnchmnjkmhfleaaGreat
open Go.RowKit

/-- a system lies at a block's beginning. -/
structure SyAt (B : Nat) (cs : List Value) (fp : List Nat) (w : World) (s : Sy) : Prop where
  r : R_Sy fp w cs s
  c : ∀ (j : Nat) v, cs[j]? = some v → w.cell? ⟨B, j, none⟩ = some v
theorem SyAt.upd {B : Nat} {cs : List Value} {fp : List Nat} {w w' : World} {s : Sy} (h : SyAt B cs fp w s) (hu : Upd [] w w') : SyAt B cs fp w' s :=
  ⟨R_Syk.upd h.r hu (by simp), fun j v hj => hu.keep (h.c j v hj)⟩

theorem compsOk_len {ds : List De} {l : List Co} (h : inB (l.length : Int) 1 3 = false) : compsOk ds l = false := by unfold compsOk; rw [h]; rfl
theorem compsOk_no {ds : List De} {l : List Co} {k : Nat} (hk : k < l.length) (h : compOk ds l[k] = false) : compsOk ds l = false := by
  unfold compsOk
  rw [show l.all (compOk ds) = false from by rw [List.all_eq_false]; exact ⟨_, List.getElem_mem hk, by simp [h]⟩]
  simp
theorem compsOk_yes {ds : List De} {l : List Co} (hs : inB (l.length : Int) 1 3 = true) (h : ∀ j (hj : j < l.length), compOk ds l[j] = true) : compsOk ds l = true := by
  unfold compsOk
  rw [hs, List.all_eq_true.2 (fun c hc => by obtain ⟨j, hj, rfl⟩ := List.mem_iff_getElem.1 hc; exact h j hj)]; rfl

set_option maxRecDepth 20000 in
set_option maxHeartbeats 8000000 in
theorem componentsS (B : Nat) (cs : List Value) (fp : List Nat) (s : Sy) (w : World) (hA : SyAt B cs fp w s) (hdl : s.defs.length ≤ 1000000) :
    Calls Tryz.prog 159 #[.pointer (some ⟨B, 0, none⟩)] w fun e w' => e = .returned (.bool (compsOk s.defs s.comps)) ∧ Upd [] w w' := by
  obtain ⟨⟨v0, v1, v2, v3, v4, f0, f1, f2, f3, f4, rfl, h0, h1, -, -, -, -⟩, hcc⟩ := hA
  have c0 : w.cell? ⟨B, 0, none⟩ = some v0 := hcc 0 _ rfl
  have c1 : w.cell? ⟨B, 1, none⟩ = some v1 := hcc 1 _ rfl
  have h0' := h0
  have h1' := h1
  obtain ⟨a0, q0, rfl, d1, d2, hd⟩ := slQ_open h0
  obtain ⟨a1, q1, rfl, l1, l2, hl⟩ := slQ_open h1
  unfold maxLen at d2 l2
  have HNL := Lib.hid (fun (h : inB (s.comps.length : Int) 1 3 = false) => compsOk_len (ds := s.defs) h)
  have HNO := Lib.hid (fun k (hk : k < s.comps.length) (h : compOk s.defs s.comps[k] = false) => compsOk_no (ds := s.defs) hk h)
  have HYE := Lib.hid (fun (hs : inB (s.comps.length : Int) 1 3 = true) h => compsOk_yes (ds := s.defs) (l := s.comps) hs h)
  have HDC := Lib.hid hd
  have HLC := Lib.hid hl
  have HCC := Lib.hid (fun W (hu : Upd [] w W) => And.intro (hu.keep c0) (hu.keep c1))
  clear hcc h0 h0' h1 h1' hd hl
  generalize hZ : compsOk s.defs s.comps = Z at *
  clear hZ
  generalize s.defs = ds at *
  generalize s.comps = l at *
  by_cases hz : l.length = 0
  · have HZ := Lib.hid (HNL.out (inB_no (by omega)))
    have hb : ((l.length : Int) == 0) = true := by rw [hz]; rfl
    clear hz HNL HNO HYE
    go_enter Tryz.func159, Tryz.ntmps159
    go_wp2_with fail
    go_ret
    exact ⟨by rw [HZ.out]; rfl, Upd.refl _ _⟩
  · have hb : ((l.length : Int) == 0) = false := by simp; intro h; exact hz (by rw [h]; rfl)
    by_cases h3 : 3 < l.length
    · have HZ := Lib.hid (HNL.out (inB_no (by omega)))
      have hb2 : (3 : Int) < (l.length : Int) := by omega
      clear hz h3 HNL HNO HYE
      go_enter Tryz.func159, Tryz.ntmps159
      go_wp2_with fail
      go_ret
      exact ⟨by rw [HZ.out]; rfl, Upd.refl _ _⟩
    · have hb2 : ¬ (3 : Int) < (l.length : Int) := by omega
      have HYE := Lib.hid (HYE.out (inB_mk (by omega)))
      clear hz HNL
      go_enter Tryz.func159, Tryz.ntmps159
      go_wp2_with fail
      go_loopw [3] (fun iv wr => ∃ k : Nat, k ≤ l.length ∧ iv = .int .i64 k ∧ Hid (Upd [] w wr) ∧ Hid (∀ j (_ : j < k) (hj : j < l.length), compOk ds l[j] = true)) (fun iv _ => l.length - (intOf iv).toNat)
      case atStart => exact ⟨0, Nat.zero_le _, rfl, Lib.hid (Upd.refl _ _), Lib.hid (fun j hj => absurd hj (Nat.not_lt_zero _))⟩
      case round =>
        clear c0 c1
        obtain ⟨wo, rfl⟩ : ∃ wo : World, wo = wr := ⟨_, rfl⟩
        obtain ⟨k, hk, rfl, HU, HG⟩ := hrel
        obtain ⟨c0, c1⟩ := HCC.out wo HU.out
        by_cases hlt : k < l.length
        · obtain ⟨bb, off, u, f', rfl, -, -, -, hcell, -, hr⟩ := HLC.out k hlt
          obtain ⟨v5, f5, rfl, hv, -⟩ := hr
          have hv' := R_I1k.upd hv HU.out (by simp)
          obtain ⟨a5, q5, rfl, g1, g2, -⟩ := slF1_open hv
          unfold maxLen at g2
          have s0 := HU.out.keep (hcell 0 _ rfl)
          have s1 := HU.out.keep (hcell 1 _ rfl)
          simp only [Nat.add_zero] at s0
          have HNK := Lib.hid (HNO.out k hlt)
          have HGK := Lib.hid (fun (h : compOk ds l[k] = true) j (hjk : j < k + 1) (hj : j < l.length) => (show compOk ds l[j] = true by
            by_cases e : j = k
            · subst e; exact h
            · exact HG.out j (by omega) hj))
          have HGD := Lib.hid (show compOk ds l[k] = (inB l[k].dfn 0 ((ds.length : Int) - 1) && ((l[k].vals.length : Int) == (ds.map De.pars).getD l[k].dfn.toNat 0) && l[k].vals.all isV) from rfl)
          have hkl : (k : Int) < (l.length : Int) := by omega
          clear hcell HG hv
          generalize compOk ds l[k] = gz at *
          generalize l[k] = c at *
          obtain ⟨dfn, vals⟩ := c
          simp only at *
          obtain ⟨wP, hwP⟩ : ∃ q, q = wo.alloc (.cells #[ei dfn, .slice a5 vals.length q5] 38) := ⟨_, rfl⟩
          obtain ⟨BP, hBP⟩ : ∃ q, q = wo.heap.size := ⟨_, rfl⟩
          have uP : Upd [] wo wP := by rw [hwP]; exact (Upd.refl _ _).alloc _
          have x0 : wP.cell? ⟨BP, 0, none⟩ = some (ei dfn) := by rw [hwP, hBP]; exact cell_new wo _ _ _ rfl 0 _ rfl
          have x1 : wP.cell? ⟨BP, 1, none⟩ = some (.slice a5 vals.length q5) := by rw [hwP, hBP]; exact cell_new wo _ _ _ rfl 1 _ rfl
          have y0 := uP.keep c0
          have UP := Lib.hid uP
          have SI := Lib.hid (fun n => Calls.quiet_of_same (n := n) ((l00In dfn 0 ((ds.length : Int) - 1) (wP.drewN n)).mono (fun e w' h => ⟨h.1, h.2.symm⟩)))
          have SV := Lib.hid (fun n m => Calls.quiet_of_same (n := m) ((dataS (.slice a5 vals.length q5) vals ((wP.drewN n).drewN m) f5 (R_I1k.drewN (R_I1k.drewN (R_I1k.upd hv' uP (by simp)) n) m)).mono (fun e w' h => ⟨h.1, h.2.symm⟩)))
          obtain ⟨qi, hqi⟩ : ∃ q, inB dfn 0 ((ds.length : Int) - 1) = q := ⟨_, rfl⟩
          rw [hqi] at SI HGD
          generalize vals.all isV = qv at *
          generalize vals.length = n at *
          go_upto_region 7 with (fail)
          rw [← hwP, ← hBP]
          clear hwP hBP s0 s1 c0 c1 hv'
          cases qi with
          | false =>
            have HZ := Lib.hid (HNK.out (by rw [HGD.out]; rfl))
            clear HNK HGK HGD SV
            go_quiet ((go_at_call 51; with_reducible exact SI.out _))
            have HU9 := Lib.hid (HU.out.trans (UP.out.drewN nq))
            go_wp2_with fail
            go_ret
            exact ⟨by rw [HZ.out]; rfl, HU9.out⟩
          | true =>
            have hbd := inB_true hqi
            obtain ⟨j, rfl⟩ : ∃ j : Nat, dfn = j := ⟨dfn.toNat, by omega⟩
            have hj : j < ds.length := by omega
            obtain ⟨b9, o9, u9, f9, rfl, -, -, -, hc9, -, hr9⟩ := HDC.out j hj
            obtain ⟨v9, f8, rfl, -, -⟩ := hr9
            have p9 := uP.keep (HU.out.keep (hc9 1 _ rfl))
            have hz9 : (ds.map De.pars).getD (Int.toNat (j : Int)) 0 = ds[j].pars := by
              rw [Int.toNat_natCast, List.getD_eq_getElem?_getD, List.getElem?_map, List.getElem?_eq_getElem hj]; rfl
            rw [hz9] at HGD
            have hjl : (j : Int) < (ds.length : Int) := by omega
            clear hc9 hz9 hbd hqi uP
            generalize ds[j].pars = P at *
            obtain ⟨q2, hq2⟩ : ∃ q, ((n : Int) == P) = q := ⟨_, rfl⟩
            rw [hq2] at HGD
            go_quiet ((go_at_call 51; with_reducible exact SI.out _))
            obtain ⟨wq, hwq⟩ : ∃ wq, wP.drewN nq = wq := ⟨_, rfl⟩
            have HUq := Lib.hid (show Upd [] wo wq by rw [← hwq]; exact UP.out.drewN nq)
            have k0 : wq.cell? ⟨BP, 0, none⟩ = some (ei j) := by rw [← hwq]; exact x0
            have k1 : wq.cell? ⟨BP, 1, none⟩ = some (.slice a5 n q5) := by rw [← hwq]; exact x1
            have k2 : wq.cell? ⟨B, 0, none⟩ = some (.slice (some ⟨b9, o9, none⟩) ds.length q0) := by rw [← hwq]; exact y0
            have k3 : wq.cell? ⟨b9, o9 + j * 3 + 1, none⟩ = some (ei P) := by rw [← hwq]; exact p9
            have SV := Lib.hid (fun m => SV.out nq m)
            rw [hwq] at SV ⊢
            clear hwq x0 x1 y0 p9 SI
            cases q2 with
            | false =>
              have HZ := Lib.hid (HNK.out (by rw [HGD.out]; rfl))
              have hne : ((n : Int) != P) = true := by simp [bne, hq2]
              clear HNK HGK HGD SV
              go_wp2_with fail
              go_quiet (fail)
              have HU9 := Lib.hid (HU.out.trans (HUq.out.drewN nq))
              go_wp2_with fail
              go_ret
              exact ⟨by rw [HZ.out]; rfl, HU9.out⟩
            | true =>
              have hne : ((n : Int) != P) = false := by simp [bne, hq2]
              go_wp2_with fail
              go_quiet ((go_at_call 104; with_reducible exact SV.out _))
              have HU9 := Lib.hid (HU.out.trans (HUq.out.drewN nq))
              cases qv with
              | false =>
                have HZ := Lib.hid (HNK.out (by rw [HGD.out]; rfl))
                clear HNK HGK HGD SV
                go_wp2_with fail
                go_ret
                exact ⟨by rw [HZ.out]; rfl, HU9.out⟩
              | true =>
                have HG2 := Lib.hid (HGK.out (by rw [HGD.out]; rfl))
                clear HNK HGK HGD SV
                go_wp2_with fail
                go_roundw
                case rel => exact ⟨k + 1, by omega, by go_num, HU9, HG2⟩
                case measure => simp [intOf]; omega
        · have hkk : ¬ (k : Int) < (l.length : Int) := by omega
          have HZ := Lib.hid (HYE.out (fun j hj => HG.out j (by omega) hj))
          clear HG HNO HYE
          go_wp2_with fail
          go_ret
          exact ⟨by rw [HZ.out]; rfl, HU.out⟩

end Go.Proofs.YtnchmnjkmhfleaaGreat

/-
  The reference's copies of a body and of a system: what the calls return and make.
-/
namespace Go.Proofs.YtnchmnjkmhfleaaGreat
open Go.RowKit

set_option maxRecDepth 20000 in
set_option maxHeartbeats 4000000 in
theorem ownBodyS (v : Value) (xs : List Pa) (w : World) (fp : List Nat) (hl : xs.length ≤ 1000000) (hfa : ∀ p ∈ xs, p.args.length ≤ 1000000 ∧ ∀ e ∈ p.args, e.length ≤ 1000000) (hR : R_Pa1 fp w [v] xs) :
    Calls Tryz.prog 105 #[v] w fun r w' => (∃ v', r = .returned v' ∧ New R_Pa1 w w' v' xs) ∧ Upd [] w w' := by
  obtain ⟨i0, hi, hz0, hz1, hz2⟩ := info_parts Tryz.infoPa
  obtain ⟨a, cap, rfl, g1, g2, hc⟩ := slQ_open hR
  unfold maxLen at g2
  have HC := Lib.hid hc
  have HFA := Lib.hid hfa
  clear hR hc hfa
  go_enter Tryz.func105, Tryz.ntmps105
  go_wp2_with fail
  go_loopw [3, 4] (fun cv iv wr => ∃ k : Nat, k ≤ xs.length ∧ iv = .int .i64 k ∧ Hid (Upd [] w wr) ∧ w.heap.size ≤ wr.heap.size ∧ Hid (AccQ 4 R_Pa w 109 wr cv (xs.take k))) (fun _ iv _ => xs.length - (intOf iv).toNat)
  case atStart => exact ⟨0, Nat.zero_le _, rfl, Lib.hid ((Upd.refl _ _).alloc _), by simp, Lib.hid (by simpa using AccQ.lit0 4 R_Pa w 109 w (Nat.le_refl _))⟩
  case round =>
    rename_i cv iv
    obtain ⟨wo, rfl⟩ : ∃ wo : World, wo = wr := ⟨_, rfl⟩
    obtain ⟨k, hk, rfl, HU, hsz, HA⟩ := hrel
    by_cases hlt : k < xs.length
    · obtain ⟨b, off, u, f, rfl, -, -, -, hcell, -, hr⟩ := HC.out k hlt
      obtain ⟨v3, f3, rfl, hv, rfl⟩ := hr
      have s0 := HU.out.keep (hcell 0 _ rfl)
      have s1 := HU.out.keep (hcell 1 _ rfl)
      have s2 := HU.out.keep (hcell 2 _ rfl)
      have s3 := HU.out.keep (hcell 3 _ rfl)
      simp only [Nat.add_zero] at s0
      have hkl : (k : Int) < (xs.length : Int) := by omega
      obtain ⟨h1, h2⟩ := HFA.out _ (List.getElem_mem hlt)
      have HTK := Lib.hid (List.take_succ_eq_append_getElem hlt)
      have htl : (xs.take k).length = k := by rw [List.length_take]; omega
      have HTL := Lib.hid htl
      generalize xs[k] = x at *
      obtain ⟨us, hown, hrows⟩ := HA.out
      rw [htl] at hown
      have HOW := Lib.hid hown
      have HRW := Lib.hid hrows
      obtain ⟨ca, cc, rfl⟩ := ownsRow_form hown
      have S1 := Lib.hid (fun W (hu : Upd [] wo W) => ownAllS v3 x.args W f3 h1 h2 (R_T2k.upd hv (HU.out.trans hu) (by simp)))
      obtain ⟨a3, q3, rfl, -, -, -⟩ := slP_open hv
      obtain ⟨wD, hwD⟩ : ∃ q, q = wo.alloc (.cells #[ei x.kind, ei x.num, es x.name, .slice a3 x.args.length q3] 109) := ⟨_, rfl⟩
      obtain ⟨D, hD⟩ : ∃ q, q = wo.heap.size := ⟨_, rfl⟩
      have uD : Upd [] wo wD := by rw [hwD]; exact (Upd.refl _ _).alloc _
      have HRD := Lib.hid (show RowAt wD D 109 [ei x.kind, ei x.num, es x.name, .slice a3 x.args.length q3] by rw [hwD, hD]; exact RowAt.new _ _ _)
      have HDO := Lib.hid hD
      have T1 := Lib.hid (S1.out wD uD)
      have UD := Lib.hid uD
      have t3 := uD.keep s3
      go_upto_region 6 with (fail)
      rw [← hwD, ← hD]
      clear hwD hD s0 s1 s2 s3 uD hv hcell htl hown hrows HA S1 h1 h2
      go_wp2_with fail
      refine T1.out.mono ?_
      rintro e w1 ⟨⟨v', rfl, hnew⟩, hu1⟩
      obtain ⟨x3, y3, rfl⟩ := hnew.formP
      have hr1 := HRD.out.upd hu1 (by simp)
      have c3 := hr1.cell 3 _ rfl
      have z3 := hr1.fz 3
      obtain ⟨wE, hwE⟩ : ∃ q, q = w1.setCell ⟨D, 3, none⟩ (.slice x3 x.args.length y3) := ⟨_, rfl⟩
      have hrE : RowAt wE D 109 [ei x.kind, ei x.num, es x.name, .slice x3 x.args.length y3] := by rw [hwE]; exact hr1.store 3 _
      have uDE : Upd [D] w1 wE := by rw [hwE]; exact (Upd.refl _ _).setCell (Or.inr (by simp)) _
      have huo : Upd [] wo wE := by rw [hwE]; exact (UD.out.trans hu1).setCell (Or.inl (show wo.heap.size ≤ D by have := HDO.out; omega)) _
      have hDD := HRD.out.lt
      have hnq : NewQ R_Pa wo wE [ei x.kind, ei x.num, es x.name, .slice x3 x.args.length y3] x := by
        obtain ⟨fb, n1, n2, n3⟩ := hnew
        have hnD : ∀ b ∈ fb, b ∉ [D] := fun b hb hm => by have := n3 b hb; simp at hm; omega
        exact ⟨fb ++ [], ⟨_, fb, rfl, R_T2k.upd n1 uDE hnD, rfl⟩, by simpa using n2.upd uDE hnD, fun b hb => by have := n3 b (by simpa using hb); have := UD.out.size; omega⟩
      have r0 := hrE.cell 0 _ rfl
      have r1 := hrE.cell 1 _ rfl
      have r2 := hrE.cell 2 _ rfl
      have r3 := hrE.cell 3 _ rfl
      have HNQ := Lib.hid hnq
      have HUO := Lib.hid huo
      have hown1 := ownsRow_upd HOW.out huo
      have hle1 := huo.size
      go_upto_region 7 with (fail)
      rw [← hwE]
      clear hwE hrE uDE huo hnq hnew hu1 hr1 c3 z3 t3 T1
      go_wp2_with (first
        | (at_builtin; refine wpList_append_tight _ rfl _ _ 88 rfl w.heap.size 109 i0 (.agg #[.int .i64 0, .int .i64 0, .string ⟨#[]⟩, .slice none 0 0]) 4 56 Tryz.underlying88 hi hz0 hz1 hz2 rfl (by decide) _ _ _ rfl (hown1.alloc _) ⟨wE.heap.size, 0, none⟩ 1 1 [ei x.kind, ei x.num, es x.name, .slice x3 x.args.length y3] rfl rfl (fun j u hj => by rw [addr_add, Nat.zero_add]; exact cell_new wE #[ei x.kind, ei x.num, es x.name, .slice x3 x.args.length y3] _ _ rfl j u (by simpa using hj)) (by simp [Value.oneCell']) (by unfold maxLen; omega) (by omega) (by simp; omega) ?_)
        | fail)
      intro v2 w2 hown2 hg2 ht2
      have hacc := AccQ.push R_Pak (by rw [HTL.out]; exact HOW.out) HRW.out hsz HUO.out HNQ.out rfl (.cells #[ei x.kind, ei x.num, es x.name, .slice x3 x.args.length y3] 109) (by rw [HTL.out]; exact hown2) hg2 (fun b hb => by
        rcases ht2 b hb with h | h
        · exact Or.inl h
        · exact Or.inr (by simpa using h))
      rw [← HTK.out] at hacc
      have hU2 : Upd [] w w2 := ((HU.out.trans HUO.out).alloc _).grown hg2 (fun b hb => Or.inl (HOW.out.lt b hb).1)
      have HPP := Lib.hid (And.intro hacc hU2)
      clear hacc hU2 hown2 hg2 ht2 hown1 r0 r1 r2 r3
      go_wp2_with fail
      go_roundw
      case rel => exact ⟨k + 1, by omega, by go_num, Lib.hid HPP.out.2, HPP.out.2.size, Lib.hid HPP.out.1⟩
      case measure => simp [intOf]; omega
    · obtain rfl : k = xs.length := by omega
      have ha := HA.out
      rw [List.take_length] at ha
      have HN := Lib.hid ha.new
      clear ha HA
      go_wp2_with fail
      go_ret
      exact ⟨⟨_, rfl, HN.out⟩, HU.out⟩

theorem row_empty {W : World} {q base : Nat} {e : TypeId} (h : RowAt W q e []) (hb : base ≤ q) (n : Nat) : W.ownsRow base e n (.slice (some ⟨q, 0, none⟩) 0 0) 0 [] :=
  ⟨by simp, Or.inr ⟨q, 0, #[], rfl, hb, h, Nat.le_refl _, by simp [maxLen], by simp, by simp⟩⟩

set_option maxRecDepth 20000 in
set_option maxHeartbeats 16000000 in
theorem ownSyM (Bs : Nat) (cs : List Value) (fp : List Nat) (s : Sy) (w : World) (hA : SyAt Bs cs fp w s) (hF : CpFit s) :
    Calls Tryz.prog 53 #[.pointer (some ⟨Bs, 0, none⟩)] w fun e w' => (∃ us, e = .returned (.agg us.toArray) ∧ us.length = 5 ∧ us.toArray.all (·.oneCell') = true ∧ MadeSy w w' us s) ∧ Upd [] w w' := by
  obtain ⟨i0, hi, hz0, hz1, hz2⟩ := info_parts Tryz.infoDe
  obtain ⟨i1, hj, hy0, hy1, hy2⟩ := info_parts Tryz.infoCo
  obtain ⟨i2, hk2, hx0, hx1, hx2⟩ := info_parts Tryz.infoMe
  obtain ⟨i3, hk3, hw0, hw1, hw2⟩ := info_parts Tryz.info9
  obtain ⟨⟨v0, v1, v2, v3, v4, f0, f1, f2, f3, f4, rfl, h0, h1, h2, h3, h4, rfl⟩, hcc⟩ := hA
  have HM2 := Lib.hid h2
  have HM3 := Lib.hid h3
  have HM4 := Lib.hid h4
  obtain ⟨a0, q0, rfl, d1, d2, hd⟩ := slQ_open h0
  obtain ⟨a1, q1, rfl, l1, l2, hl⟩ := slQ_open h1
  obtain ⟨a2, q2, rfl, -, -, -⟩ := slQ_open h2
  obtain ⟨a3, q3, rfl, -, -, -⟩ := slF1_open h3
  obtain ⟨a4, q4, rfl, -, -, -⟩ := slF1_open h4
  unfold maxLen at d2 l2
  have HD := Lib.hid hd
  have HL := Lib.hid hl
  have HF := Lib.hid hF
  have HCA := Lib.hid (fun W (hu : Upd [] w W) => show W.cell? ⟨Bs, 0, none⟩ = some (.slice a0 s.defs.length q0) ∧ W.cell? ⟨Bs, 1, none⟩ = some (.slice a1 s.comps.length q1) ∧ W.cell? ⟨Bs, 2, none⟩ = some (.slice a2 s.meets.length q2) ∧ W.cell? ⟨Bs, 3, none⟩ = some (.slice a3 s.allow.length q3) ∧ W.cell? ⟨Bs, 4, none⟩ = some (.slice a4 s.hide.length q4) from
    ⟨hu.keep (hcc 0 _ rfl), hu.keep (hcc 1 _ rfl), hu.keep (hcc 2 _ rfl), hu.keep (hcc 3 _ rfl), hu.keep (hcc 4 _ rfl)⟩)
  obtain ⟨B, hB⟩ : ∃ B, B = w.heap.size := ⟨_, rfl⟩
  obtain ⟨wA, hwA⟩ : ∃ wA, wA = w.alloc (.cells #[.slice none 0 0, .slice none 0 0, .slice none 0 0, .slice none 0 0, .slice none 0 0] 29) := ⟨_, rfl⟩
  have uA : Upd [] w wA := by rw [hwA]; exact (Upd.refl _ _).alloc _
  have HRB := Lib.hid (show RowAt wA B 29 zerosSy by rw [hwA, hB]; exact RowAt.new _ _ _)
  have UA := Lib.hid uA
  have HBB := Lib.hid hB
  clear h0 h1 h2 h3 h4 hd hl hF hcc uA
  go_enter Tryz.func53, Tryz.ntmps53
  go_upto_region 1 with (fail)
  rw [← hwA, ← hB]
  clear hwA hB
  obtain ⟨wz, hwz⟩ : ∃ q, q = ((wA.alloc (.cells #[] 90)).alloc (.cells #[] 38)).alloc (.cells #[.slice (some ⟨wA.heap.size, 0, none⟩) 0 0, .slice (some ⟨wA.heap.size + 1, 0, none⟩) 0 0, .slice none 0 0, .slice none 0 0, .slice none 0 0] 29) := ⟨_, rfl⟩
  have hZ1 : RowAt wz wA.heap.size 90 [] := by rw [hwz]; exact (RowAt.new wA 90 []).upd (((Upd.refl [] _).alloc _).alloc _) (by simp)
  have hZ2 : RowAt wz (wA.heap.size + 1) 38 [] := by
    have h := (RowAt.new (wA.alloc (.cells #[] 90)) 38 []).upd ((Upd.refl [] _).alloc (.cells #[.slice (some ⟨wA.heap.size, 0, none⟩) 0 0, .slice (some ⟨wA.heap.size + 1, 0, none⟩) 0 0, .slice none 0 0, .slice none 0 0, .slice none 0 0] 29)) (by simp)
    rw [hwz]; simpa using h
  have hZ3 : RowAt wz (wA.heap.size + 1 + 1) 29 [.slice (some ⟨wA.heap.size, 0, none⟩) 0 0, .slice (some ⟨wA.heap.size + 1, 0, none⟩) 0 0, .slice none 0 0, .slice none 0 0, .slice none 0 0] := by
    have h := RowAt.new ((wA.alloc (.cells #[] 90)).alloc (.cells #[] 38)) 29 [.slice (some ⟨wA.heap.size, 0, none⟩) 0 0, .slice (some ⟨wA.heap.size + 1, 0, none⟩) 0 0, .slice none 0 0, .slice none 0 0, .slice none 0 0]
    rw [hwz]; simpa using h
  have uz : Upd [] wA wz := by rw [hwz]; exact (((Upd.refl _ _).alloc _).alloc _).alloc _
  go_upto_region 2 with (fail)
  rw [← hwz]
  obtain ⟨Z, hZ⟩ : ∃ q, q = wA.heap.size + 1 + 1 := ⟨_, rfl⟩
  obtain ⟨z2, hz2'⟩ : ∃ q, q = wA.heap.size + 1 := ⟨_, rfl⟩
  obtain ⟨z1, hz1'⟩ : ∃ q, q = wA.heap.size := ⟨_, rfl⟩
  have hZa : z1 < z2 ∧ z2 < Z ∧ wA.heap.size ≤ z1 := by omega
  rw [← hZ] at hZ3 ⊢
  rw [← hz2'] at hZ2 hZ3
  rw [← hz1'] at hZ1 hZ3
  clear hwz hZ hz2' hz1'
  obtain ⟨hZa1, hZa2, hZa3⟩ := hZa
  have HU0 := Lib.hid uz
  have HR0 := Lib.hid hZ3
  have HQ0 := Lib.hid hZ2
  have HAC0 := Lib.hid (show AccZ 3 R_De wA.heap.size 90 [Z, z2] wz (.slice (some ⟨z1, 0, none⟩) 0 0) ([] : List De) from AccZ.start (row_empty hZ1 hZa3 3) (by simp; omega) (by intro b hb; simp at hb; rcases hb with rfl | rfl; exact hZ3.lt; exact hZ2.lt))
  clear hZ1 hZ2 hZ3 uz
  go_wp2_with fail
  go_loopw [4] (fun iv wr => ∃ (k : Nat) (sv : Value), k ≤ s.defs.length ∧ iv = .int .i64 k ∧ Hid (Upd [] wA wr) ∧ Hid (RowAt wr Z 29 [sv, .slice (some ⟨z2, 0, none⟩) 0 0, .slice none 0 0, .slice none 0 0, .slice none 0 0]) ∧ Hid (RowAt wr z2 38 []) ∧ Hid (AccZ 3 R_De wA.heap.size 90 [Z, z2] wr sv (s.defs.take k))) (fun iv _ => s.defs.length - (intOf iv).toNat)
  case atStart => exact ⟨0, _, Nat.zero_le _, rfl, HU0, HR0, HQ0, HAC0⟩
  case round =>
    clear HU0 HR0 HQ0 HAC0
    obtain ⟨wo, rfl⟩ : ∃ wo : World, wo = wr := ⟨_, rfl⟩
    obtain ⟨k, sv, hk, rfl, HU, HRZ, HQZ, HAC⟩ := hrel
    obtain ⟨m0, -, -, -, -⟩ := HCA.out wo (UA.out.trans HU.out)
    by_cases hlt : k < s.defs.length
    · obtain ⟨bb, off, u, f', rfl, -, -, -, hcell, -, hr⟩ := HD.out k hlt
      obtain ⟨v5, f5, rfl, hv, rfl⟩ := hr
      have uw := UA.out.trans HU.out
      have s0 := uw.keep (hcell 0 _ rfl)
      have s1 := uw.keep (hcell 1 _ rfl)
      simp only [Nat.add_zero] at s0
      have hkl : (k : Int) < (s.defs.length : Int) := by omega
      have s2 := uw.keep (hcell 2 _ rfl)
      obtain ⟨⟨-, hb9⟩, hfa⟩ := HF.out.body _ (List.getElem_mem hlt)
      have hk9 : k ≤ 1000000 := by have := HF.out.dl; omega
      have HTK := Lib.hid (List.take_succ_eq_append_getElem hlt)
      have htl : (s.defs.take k).length = k := by rw [List.length_take]; omega
      have HTL := Lib.hid htl
      obtain ⟨us, hown, hrows, hvZ, hexl⟩ := HAC.out
      rw [htl] at hown
      have HOW := Lib.hid hown
      have HRW := Lib.hid hrows
      have HVZ := Lib.hid hvZ
      have HEX := Lib.hid hexl
      obtain ⟨ca, cc, rfl⟩ := ownsRow_form hown
      have hszo := HU.out.size
      generalize s.defs[k] = d at *
      have S1 := Lib.hid (fun W (hu : Upd [] wo W) => ownBodyS v5 d.body W f5 hb9 hfa (R_Pa1k.upd hv (uw.trans hu) (by simp)))
      obtain ⟨a5, q5, rfl, -, -, -⟩ := slQ_open hv
      obtain ⟨wD, hwD⟩ : ∃ q, q = wo.alloc (.cells #[es d.name, ei d.pars, .slice a5 d.body.length q5] 90) := ⟨_, rfl⟩
      obtain ⟨D, hD⟩ : ∃ q, q = wo.heap.size := ⟨_, rfl⟩
      have uD : Upd [] wo wD := by rw [hwD]; exact (Upd.refl _ _).alloc _
      have HRD := Lib.hid (show RowAt wD D 90 [es d.name, ei d.pars, .slice a5 d.body.length q5] by rw [hwD, hD]; exact RowAt.new _ _ _)
      have HDO := Lib.hid hD
      have T1 := Lib.hid (S1.out wD uD)
      have UD := Lib.hid uD
      have t5 := uD.keep s2
      have t0 := uD.keep m0
      go_upto_region 6 with (fail)
      rw [← hwD, ← hD]
      clear hwD hD s0 s1 s2 uD uw hv hcell htl hown hrows hvZ hexl HAC S1 hfa hb9
      go_wp2_with fail
      refine T1.out.mono ?_
      rintro e w1 ⟨⟨v', rfl, hnew⟩, hu1⟩
      obtain ⟨x5, y5, rfl⟩ := hnew.formQ
      have hr1 := HRD.out.upd hu1 (by simp)
      have c5 := hr1.cell 2 _ rfl
      have z5 := hr1.fz 2
      obtain ⟨wE, hwE⟩ : ∃ q, q = w1.setCell ⟨D, 2, none⟩ (.slice x5 d.body.length y5) := ⟨_, rfl⟩
      have hrE : RowAt wE D 90 [es d.name, ei d.pars, .slice x5 d.body.length y5] := by rw [hwE]; exact hr1.store 2 _
      have uDE : Upd [D] w1 wE := by rw [hwE]; exact (Upd.refl _ _).setCell (Or.inr (by simp)) _
      have huo : Upd [] wo wE := by rw [hwE]; exact (UD.out.trans hu1).setCell (Or.inl (show wo.heap.size ≤ D by have := HDO.out; omega)) _
      have hDD := HRD.out.lt
      have hnq : NewQ R_De wo wE [es d.name, ei d.pars, .slice x5 d.body.length y5] d := by
        obtain ⟨fb, n1, n2, n3⟩ := hnew
        have hnD : ∀ b ∈ fb, b ∉ [D] := fun b hb hm => by have := n3 b hb; simp at hm; omega
        exact ⟨fb ++ [], ⟨_, fb, rfl, R_Pa1k.upd n1 uDE hnD, rfl⟩, by simpa using n2.upd uDE hnD, fun b hb => by have := n3 b (by simpa using hb); have := UD.out.size; omega⟩
      have r0 := hrE.cell 0 _ rfl
      have r1 := hrE.cell 1 _ rfl
      have r2 := hrE.cell 2 _ rfl
      have hrz := HRZ.out.upd huo (by simp)
      have c0 := hrz.cell 0 _ rfl
      have HNQ := Lib.hid hnq
      have HUO := Lib.hid huo
      have HRZ2 := Lib.hid hrz
      have hown1 := ownsRow_upd HOW.out huo
      have hle1 := huo.size
      go_upto_region 7 with (fail)
      rw [← hwE]
      clear hwE hrE uDE huo hnq hnew hu1 hr1 c5 z5 t5 t0 T1 hrz
      go_wp2_with (first
        | (at_builtin; refine wpList_append_tight _ rfl _ _ 24 rfl wA.heap.size 90 i0 (.agg #[.string ⟨#[]⟩, .int .i64 0, .slice none 0 0]) 3 48 Tryz.underlying24 hi hz0 hz1 hz2 rfl (by decide) _ _ _ rfl (hown1.alloc _) ⟨wE.heap.size, 0, none⟩ 1 1 [es d.name, ei d.pars, .slice x5 d.body.length y5] rfl rfl (fun j u hj => by rw [addr_add, Nat.zero_add]; exact cell_new wE #[es d.name, ei d.pars, .slice x5 d.body.length y5] _ _ rfl j u (by simpa using hj)) (by simp [Value.oneCell']) (by unfold maxLen; omega) (by omega) (by simp; omega) ?_)
        | fail)
      intro v2 w5 hown2 hg2 ht2
      have hgg : (wE.alloc (.cells #[es d.name, ei d.pars, .slice x5 d.body.length y5] 90)).grownBy w5 (Value.slice ca k cc).ownBlock := hg2
      have hacc := AccZ.push (w := wo) (ex := [Z, z2]) R_Dek (by rw [HTL.out]; exact HOW.out) HRW.out HVZ.out HEX.out hszo HUO.out HNQ.out rfl (.cells #[es d.name, ei d.pars, .slice x5 d.body.length y5] 90) (by rw [HTL.out]; exact hown2) hgg (fun c hc => by
        rcases ht2 c hc with h | h
        · exact Or.inl h
        · exact Or.inr (by simpa using h))
      rw [← HTK.out] at hacc
      have hv5 : Upd (Value.slice ca k cc).ownBlock.toList (wE.alloc (.cells #[es d.name, ei d.pars, .slice x5 d.body.length y5] 90)) w5 := (Upd.refl _ _).grown hgg (fun k hk => Or.inr (by simp [hk]))
      have ual := (Upd.refl [] wE).alloc (.cells #[es d.name, ei d.pars, .slice x5 d.body.length y5] 90)
      have hrz5 := (HRZ2.out.upd ual (by simp)).upd hv5 (by intro hm; exact HVZ.out Z (by simpa using hm) (by simp))
      obtain ⟨cb, cd, rfl⟩ := ownsRow_form hown2
      have c5 := hrz5.cell 0 _ rfl
      have z5 := hrz5.fz 0
      have uZ : Upd [Z] w5 (w5.setCell ⟨Z, 0, none⟩ (.slice cb (k + 1) cd)) := (Upd.refl _ _).setCell (Or.inr (by simp)) _
      have HAC6 := Lib.hid (hacc.put R_Dek uZ (by simp))
      have HR6 := Lib.hid (hrz5.store 0 (.slice cb (k + 1) cd))
      have HU6 := Lib.hid (show Upd [] wA (w5.setCell ⟨Z, 0, none⟩ (.slice cb (k + 1) cd)) from (((HU.out.trans HUO.out).alloc _).grown hgg (fun c hc => Or.inl (HOW.out.lt c hc).1)).setCell (Or.inl (show wA.heap.size ≤ Z by omega)) _)
      have HX6 := Lib.hid ((((HQZ.out.upd HUO.out (by simp)).upd ual (by simp)).upd hv5 (by intro hm; exact HVZ.out z2 (by simpa using hm) (by simp))).other Z 0 (.slice cb (k + 1) cd) (by omega))
      clear hown2 hg2 ht2 hgg hacc hv5 hrz5 hown1 c0 r0 r1 r2 uZ ual
      go_wp2_with fail
      go_roundw
      case rel => exact ⟨k + 1, _, by omega, by go_num, HU6, HR6, HX6, HAC6⟩
      case measure => simp [intOf]; omega
    · obtain rfl : k = s.defs.length := by omega
      have hkk : ¬ ((s.defs.length : Nat) : Int) < (s.defs.length : Int) := by omega
      have ha := HAC.out
      rw [List.take_length] at ha
      obtain ⟨fs, hsl, hso, hsb⟩ := ha.new (w0 := wA) rfl
      obtain ⟨ca0, cc0, rfl⟩ := ha.form
      obtain ⟨wq, rfl⟩ : ∃ wq : World, wq = wo := ⟨_, rfl⟩
      have HG0 := Lib.hid (And.intro hsl hso)
      have HSB := Lib.hid (show ∀ c ∈ fs, wA.heap.size ≤ c ∧ c ≠ Z ∧ c ≠ z2 from fun c hc => ⟨(hsb c hc).1, by have := (hsb c hc).2; simp at this; exact this⟩)
      have hex : ∀ c ∈ Z :: fs, c < wq.heap.size := fun c hc => by
        rcases List.mem_cons.1 hc with rfl | hc
        · exact HRZ.out.lt
        · exact R_De1k.lt hsl c hc
      have HAC0 := Lib.hid (show AccZ 2 R_Co wA.heap.size 38 (Z :: fs) wq (.slice (some ⟨z2, 0, none⟩) 0 0) ([] : List Co) from AccZ.start (row_empty HQZ.out (by omega) 2) (by
        intro hm
        rcases List.mem_cons.1 hm with h | h
        · omega
        · exact (HSB.out z2 h).2.2 rfl) hex)
      clear ha hsl hso hsb hex HAC HQZ
      go_wp2_with fail
      clear m0
      go_loopw [6] (fun iv wr => ∃ (k : Nat) (tv : Value), k ≤ s.comps.length ∧ iv = .int .i64 k ∧ Hid (Upd [] wA wr) ∧ Hid (RowAt wr Z 29 [.slice ca0 s.defs.length cc0, tv, .slice none 0 0, .slice none 0 0, .slice none 0 0]) ∧ Hid (AccZ 2 R_Co wA.heap.size 38 (Z :: fs) wr tv (s.comps.take k)) ∧ Hid (R_De1 fs wr [.slice ca0 s.defs.length cc0] s.defs ∧ Own fs wr)) (fun iv _ => s.comps.length - (intOf iv).toNat)
      case atStart => exact ⟨0, _, Nat.zero_le _, rfl, HU, HRZ, HAC0, HG0⟩
      case round =>
        clear HU HRZ HAC0 HG0
        obtain ⟨wo, rfl⟩ : ∃ wo : World, wo = wr := ⟨_, rfl⟩
        obtain ⟨k, tv, hk, rfl, HU, HRZ, HAC, HG⟩ := hrel
        obtain ⟨-, m1, -, -, -⟩ := HCA.out wo (UA.out.trans HU.out)
        by_cases hlt : k < s.comps.length
        · obtain ⟨bb, off, u, f', rfl, -, -, -, hcell, -, hr⟩ := HL.out k hlt
          obtain ⟨v5, f5, rfl, hv, rfl⟩ := hr
          have uw := UA.out.trans HU.out
          have s0 := uw.keep (hcell 0 _ rfl)
          have s1 := uw.keep (hcell 1 _ rfl)
          simp only [Nat.add_zero] at s0
          have hkl : (k : Int) < (s.comps.length : Int) := by omega
          have hvl := HF.out.vals _ (List.getElem_mem hlt)
          have hk9 : k ≤ 1000000 := by have := HF.out.cl; omega
          have HTK := Lib.hid (List.take_succ_eq_append_getElem hlt)
          have htl : (s.comps.take k).length = k := by rw [List.length_take]; omega
          have HTL := Lib.hid htl
          obtain ⟨us, hown, hrows, hvZ, hexl⟩ := HAC.out
          rw [htl] at hown
          have HOW := Lib.hid hown
          have HRW := Lib.hid hrows
          have HVZ := Lib.hid hvZ
          have HEX := Lib.hid hexl
          obtain ⟨ca, cc, rfl⟩ := ownsRow_form hown
          have hszo := HU.out.size
          generalize s.comps[k] = c at *
          have S1 := Lib.hid (fun W (hu : Upd [] wo W) => ownIS v5 c.vals W f5 (by omega) (R_I1k.upd hv (uw.trans hu) (by simp)))
          obtain ⟨a5, q5, rfl, -, -, -⟩ := slF1_open hv
          obtain ⟨wD, hwD⟩ : ∃ q, q = wo.alloc (.cells #[ei c.dfn, .slice a5 c.vals.length q5] 38) := ⟨_, rfl⟩
          obtain ⟨D, hD⟩ : ∃ q, q = wo.heap.size := ⟨_, rfl⟩
          have uD : Upd [] wo wD := by rw [hwD]; exact (Upd.refl _ _).alloc _
          have HRD := Lib.hid (show RowAt wD D 38 [ei c.dfn, .slice a5 c.vals.length q5] by rw [hwD, hD]; exact RowAt.new _ _ _)
          have HDO := Lib.hid hD
          have T1 := Lib.hid (S1.out wD uD)
          have UD := Lib.hid uD
          have t5 := uD.keep s1
          have t0 := uD.keep m1
          go_upto_region 12 with (fail)
          rw [← hwD, ← hD]
          clear hwD hD s0 s1 uD uw hv hcell htl hown hrows hvZ hexl HAC S1 
          go_wp2_with fail
          refine T1.out.mono ?_
          rintro e w1 ⟨⟨v', rfl, hnew⟩, hu1⟩
          obtain ⟨x5, y5, rfl⟩ := hnew.form
          have hr1 := HRD.out.upd hu1 (by simp)
          have c5 := hr1.cell 1 _ rfl
          have z5 := hr1.fz 1
          obtain ⟨wE, hwE⟩ : ∃ q, q = w1.setCell ⟨D, 1, none⟩ (.slice x5 c.vals.length y5) := ⟨_, rfl⟩
          have hrE : RowAt wE D 38 [ei c.dfn, .slice x5 c.vals.length y5] := by rw [hwE]; exact hr1.store 1 _
          have uDE : Upd [D] w1 wE := by rw [hwE]; exact (Upd.refl _ _).setCell (Or.inr (by simp)) _
          have huo : Upd [] wo wE := by rw [hwE]; exact (UD.out.trans hu1).setCell (Or.inl (show wo.heap.size ≤ D by have := HDO.out; omega)) _
          have hDD := HRD.out.lt
          have hnq : NewQ R_Co wo wE [ei c.dfn, .slice x5 c.vals.length y5] c := by
            obtain ⟨fb, n1, n2, n3⟩ := hnew
            have hnD : ∀ b ∈ fb, b ∉ [D] := fun b hb hm => by have := n3 b hb; simp at hm; omega
            exact ⟨fb ++ [], ⟨_, fb, rfl, R_I1k.upd n1 uDE hnD, rfl⟩, by simpa using n2.upd uDE hnD, fun b hb => by have := n3 b (by simpa using hb); have := UD.out.size; omega⟩
          have r0 := hrE.cell 0 _ rfl
          have r1 := hrE.cell 1 _ rfl
          have hrz := HRZ.out.upd huo (by simp)
          have c0 := hrz.cell 1 _ rfl
          have HNQ := Lib.hid hnq
          have HUO := Lib.hid huo
          have HRZ2 := Lib.hid hrz
          have hown1 := ownsRow_upd HOW.out huo
          have hle1 := huo.size
          go_upto_region 13 with (fail)
          rw [← hwE]
          clear hwE hrE uDE huo hnq hnew hu1 hr1 c5 z5 t5 t0 T1 hrz
          go_wp2_with (first
            | (at_builtin; refine wpList_append_tight _ rfl _ _ 25 rfl wA.heap.size 38 i1 (.agg #[.int .i64 0, .slice none 0 0]) 2 32 Tryz.underlying25 hj hy0 hy1 hy2 rfl (by decide) _ _ _ rfl (hown1.alloc _) ⟨wE.heap.size, 0, none⟩ 1 1 [ei c.dfn, .slice x5 c.vals.length y5] rfl rfl (fun j u hj => by rw [addr_add, Nat.zero_add]; exact cell_new wE #[ei c.dfn, .slice x5 c.vals.length y5] _ _ rfl j u (by simpa using hj)) (by simp [Value.oneCell']) (by unfold maxLen; omega) (by omega) (by simp; omega) ?_)
            | fail)
          intro v2 w5 hown2 hg2 ht2
          have hgg : (wE.alloc (.cells #[ei c.dfn, .slice x5 c.vals.length y5] 38)).grownBy w5 (Value.slice ca k cc).ownBlock := hg2
          have hacc := AccZ.push (w := wo) (ex := (Z :: fs)) R_Cok (by rw [HTL.out]; exact HOW.out) HRW.out HVZ.out HEX.out hszo HUO.out HNQ.out rfl (.cells #[ei c.dfn, .slice x5 c.vals.length y5] 38) (by rw [HTL.out]; exact hown2) hgg (fun c hc => by
            rcases ht2 c hc with h | h
            · exact Or.inl h
            · exact Or.inr (by simpa using h))
          rw [← HTK.out] at hacc
          have hv5 : Upd (Value.slice ca k cc).ownBlock.toList (wE.alloc (.cells #[ei c.dfn, .slice x5 c.vals.length y5] 38)) w5 := (Upd.refl _ _).grown hgg (fun k hk => Or.inr (by simp [hk]))
          have ual := (Upd.refl [] wE).alloc (.cells #[ei c.dfn, .slice x5 c.vals.length y5] 38)
          have hrz5 := (HRZ2.out.upd ual (by simp)).upd hv5 (by intro hm; exact HVZ.out Z (by simpa using hm) (by simp))
          obtain ⟨cb, cd, rfl⟩ := ownsRow_form hown2
          have c5 := hrz5.cell 1 _ rfl
          have z5 := hrz5.fz 1
          have uZ : Upd [Z] w5 (w5.setCell ⟨Z, 1, none⟩ (.slice cb (k + 1) cd)) := (Upd.refl _ _).setCell (Or.inr (by simp)) _
          have HAC6 := Lib.hid (hacc.put R_Cok uZ (by simp))
          have HR6 := Lib.hid (hrz5.store 1 (.slice cb (k + 1) cd))
          have HU6 := Lib.hid (show Upd [] wA (w5.setCell ⟨Z, 1, none⟩ (.slice cb (k + 1) cd)) from (((HU.out.trans HUO.out).alloc _).grown hgg (fun c hc => Or.inl (HOW.out.lt c hc).1)).setCell (Or.inl (show wA.heap.size ≤ Z by omega)) _)
          have hgo : ∀ c ∈ fs, c ∉ (Value.slice ca k cc).ownBlock.toList := fun c hc hm => HVZ.out c (by simpa using hm) (by simp [hc])
          have hgz : ∀ c ∈ fs, c ∉ [Z] := fun c hc hm => (HSB.out c hc).2.1 (by simpa using hm)
          have HX6 := Lib.hid (And.intro (R_De1k.upd (R_De1k.upd (R_De1k.upd (R_De1k.upd HG.out.1 HUO.out (by simp)) ual (by simp)) hv5 hgo) uZ hgz) ((((HG.out.2.upd HUO.out (by simp)).upd ual (by simp)).upd hv5 hgo).upd uZ hgz))
          clear hgo hgz
          clear hown2 hg2 ht2 hgg hacc hv5 hrz5 hown1 c0 r0 r1 uZ ual
          go_wp2_with fail
          go_roundw
          case rel => exact ⟨k + 1, _, by omega, by go_num, HU6, HR6, HAC6, HX6⟩
          case measure => simp [intOf]; omega
        · obtain rfl : k = s.comps.length := by omega
          have hkk2 : ¬ ((s.comps.length : Nat) : Int) < (s.comps.length : Int) := by omega
          have ha := HAC.out
          rw [List.take_length] at ha
          obtain ⟨ca1, cc1, rfl⟩ := ha.form
          obtain ⟨wr0, rfl⟩ : ∃ wr0 : World, wr0 = wo := ⟨_, rfl⟩
          have HGC := Lib.hid ha
          have UW0 := Lib.hid (UA.out.trans HU.out)
          have HU0 := Lib.hid HU.out
          have HRZ0 := Lib.hid HRZ.out
          obtain ⟨-, -, m2, -, -⟩ := HCA.out wr0 UW0.out
          clear ha HAC HU HRZ
          obtain ⟨us, fb2, hul, hun, hF2, -, hr2⟩ := slQ_flat (R_Me1k.upd HM2.out UW0.out (by simp)) (by decide)
          have hr3 : ∀ i (h : i < s.meets.length) u, us[i]? = some u → ∀ W : World, R_Me [] W u s.meets[i] := fun i h u hu W => by
            obtain ⟨f, -, e, -⟩ := hr2 i h u hu
            exact ⟨e, rfl⟩
          have hO2 := one_flat (us := us) (fun u hu => by
            obtain ⟨i, hi, rfl⟩ := List.mem_iff_getElem.1 hu
            exact one_Me (hr3 i (by omega) _ (List.getElem?_eq_getElem hi) w))
          have hF := hF2.upd ((Upd.refl [] wr0).alloc (.cells #[] 70)) (by simp)
          have hlit : (wr0.alloc (.cells #[] 70)).ownsRow wr0.heap.size 70 3 (.slice (some ⟨wr0.heap.size, 0, none⟩) 0 0) 0 [] := by
            simpa using World.ownsRow_lit (base := wr0.heap.size) (e := 70) (size := 3) wr0 #[] 0 (Nat.le_refl _) (by simp [maxLen]) (by simp)
          have hml9 := HF.out.ml
          have cz := HRZ0.out
          have ma := ((Upd.refl [] wr0).alloc (.cells #[] 70)).keep m2
          go_wp2_with (first
            | (at_builtin; refine wpList_append_flat rfl _ _ 26 rfl wr0.heap.size 70 i2 (.agg #[.string ⟨#[]⟩, .string ⟨#[]⟩, .string ⟨#[]⟩]) 3 48 Tryz.underlying26 hk2 hx0 hx1 hx2 rfl (by decide) _ _ _ rfl hlit _ s.meets.length _ rfl _ hF hO2 (by unfold maxLen; omega) (by omega) (by simp) ?_)
            | fail)
          intro v2 u2 hown2 hg2 ht2
          try simp only [Nat.zero_add, List.nil_append] at hown2
          have hu2 : Upd [] wr0 u2 := ((Upd.refl [] wr0).alloc _).grown hg2 (fun k hk => Or.inl (hlit.lt k hk).1)
          obtain ⟨x2, y2, rfl⟩ := ownsRow_form hown2
          have hn2 : New R_Me1 wr0 u2 (.slice x2 s.meets.length y2) s.meets := shallow_new (e := 70) hown2 hul hun (fun i h u hu => hr3 i h u hu _)
          have hT2 := cz.upd hu2 (by simp)
          have c2 := hT2.cell 2 _ rfl
          have z2 := hT2.fz 2
          obtain ⟨W2, hW2⟩ : ∃ q, q = u2.setCell ⟨Z, 2, none⟩ (.slice x2 s.meets.length y2) := ⟨_, rfl⟩
          have HRZ1 := Lib.hid (hT2.store 2 (.slice x2 s.meets.length y2))
          rw [← hW2] at HRZ1
          have HUU2 := Lib.hid hu2
          have HN2 := Lib.hid hn2
          have HD2 := Lib.hid (show Upd [Z] u2 W2 from by rw [hW2]; exact (Upd.refl _ _).setCell (Or.inr (by simp)) _)
          have HU1 := Lib.hid (show Upd [] wA W2 from by rw [hW2]; exact (HU0.out.trans hu2).setCell (Or.inl (show wA.heap.size ≤ Z by omega)) _)
          have UW1 := Lib.hid (UA.out.trans HU1.out)
          clear hn2 hu2 hT2 hown2 hg2 ht2 hlit hF cz hml9 ma hul hun hF2 hr2 hr3 hO2
          go_upto_region 15 with (fail)
          rw [← hW2]
          clear hW2 c2 z2 m2
          obtain ⟨-, -, -, m3, -⟩ := HCA.out W2 UW1.out
          have hF := Flat.ofS1 (R_S1k.upd HM3.out (UW1.out.trans ((Upd.refl [] W2).alloc (.cells #[] 9))) (by simp))
          have hlit : (W2.alloc (.cells #[] 9)).ownsRow W2.heap.size 9 1 (.slice (some ⟨W2.heap.size, 0, none⟩) 0 0) 0 [] := by
            simpa using World.ownsRow_lit (base := W2.heap.size) (e := 9) (size := 1) W2 #[] 0 (Nat.le_refl _) (by simp [maxLen]) (by simp)
          have hml9 := HF.out.al
          have cz := HRZ1.out
          have ma := ((Upd.refl [] W2).alloc (.cells #[] 9)).keep m3
          go_wp2_with (first
            | (at_builtin; refine wpList_append_flat rfl _ _ 27 rfl W2.heap.size 9 i3 (es []) 1 16 Tryz.underlying27 hk3 hw0 hw1 hw2 rfl (by decide) _ _ _ rfl hlit _ s.allow.length _ rfl _ hF (one_S1 s.allow) (by unfold maxLen; omega) (by omega) (by simp) ?_)
            | fail)
          intro v2 u3 hown2 hg2 ht2
          try simp only [Nat.zero_add, List.nil_append] at hown2
          have hu3 : Upd [] W2 u3 := ((Upd.refl [] W2).alloc _).grown hg2 (fun k hk => Or.inl (hlit.lt k hk).1)
          obtain ⟨x3, y3, rfl⟩ := ownsRow_form hown2
          have hn3 : New R_S1 W2 u3 (.slice x3 s.allow.length y3) s.allow := New.ofOwns (e := 9) (by simpa using hown2)
          have hT3 := cz.upd hu3 (by simp)
          have c3 := hT3.cell 3 _ rfl
          have z3 := hT3.fz 3
          obtain ⟨W3, hW3⟩ : ∃ q, q = u3.setCell ⟨Z, 3, none⟩ (.slice x3 s.allow.length y3) := ⟨_, rfl⟩
          have HRZ2 := Lib.hid (hT3.store 3 (.slice x3 s.allow.length y3))
          rw [← hW3] at HRZ2
          have HUU3 := Lib.hid hu3
          have HN3 := Lib.hid hn3
          have HD3 := Lib.hid (show Upd [Z] u3 W3 from by rw [hW3]; exact (Upd.refl _ _).setCell (Or.inr (by simp)) _)
          have HU2 := Lib.hid (show Upd [] wA W3 from by rw [hW3]; exact (HU1.out.trans hu3).setCell (Or.inl (show wA.heap.size ≤ Z by omega)) _)
          have UW2 := Lib.hid (UA.out.trans HU2.out)
          clear hn3 hu3 hT3 hown2 hg2 ht2 hlit hF cz hml9 ma
          go_upto_region 16 with (fail)
          rw [← hW3]
          clear hW3 c3 z3 m3
          obtain ⟨-, -, -, -, m4⟩ := HCA.out W3 UW2.out
          have hF := Flat.ofS1 (R_S1k.upd HM4.out (UW2.out.trans ((Upd.refl [] W3).alloc (.cells #[] 9))) (by simp))
          have hlit : (W3.alloc (.cells #[] 9)).ownsRow W3.heap.size 9 1 (.slice (some ⟨W3.heap.size, 0, none⟩) 0 0) 0 [] := by
            simpa using World.ownsRow_lit (base := W3.heap.size) (e := 9) (size := 1) W3 #[] 0 (Nat.le_refl _) (by simp [maxLen]) (by simp)
          have hml9 := HF.out.hl
          have cz := HRZ2.out
          have ma := ((Upd.refl [] W3).alloc (.cells #[] 9)).keep m4
          go_wp2_with (first
            | (at_builtin; refine wpList_append_flat rfl _ _ 27 rfl W3.heap.size 9 i3 (es []) 1 16 Tryz.underlying27 hk3 hw0 hw1 hw2 rfl (by decide) _ _ _ rfl hlit _ s.hide.length _ rfl _ hF (one_S1 s.hide) (by unfold maxLen; omega) (by omega) (by simp) ?_)
            | fail)
          intro v2 u4 hown2 hg2 ht2
          try simp only [Nat.zero_add, List.nil_append] at hown2
          have hu4 : Upd [] W3 u4 := ((Upd.refl [] W3).alloc _).grown hg2 (fun k hk => Or.inl (hlit.lt k hk).1)
          obtain ⟨x4, y4, rfl⟩ := ownsRow_form hown2
          have hn4 : New R_S1 W3 u4 (.slice x4 s.hide.length y4) s.hide := New.ofOwns (e := 9) (by simpa using hown2)
          have hT4 := cz.upd hu4 (by simp)
          have c4 := hT4.cell 4 _ rfl
          have z4 := hT4.fz 4
          obtain ⟨W4, hW4⟩ : ∃ q, q = u4.setCell ⟨Z, 4, none⟩ (.slice x4 s.hide.length y4) := ⟨_, rfl⟩
          have HRZ3 := Lib.hid (hT4.store 4 (.slice x4 s.hide.length y4))
          rw [← hW4] at HRZ3
          have HUU4 := Lib.hid hu4
          have HN4 := Lib.hid hn4
          have HD4 := Lib.hid (show Upd [Z] u4 W4 from by rw [hW4]; exact (Upd.refl _ _).setCell (Or.inr (by simp)) _)
          have HU3 := Lib.hid (show Upd [] wA W4 from by rw [hW4]; exact (HU2.out.trans hu4).setCell (Or.inl (show wA.heap.size ≤ Z by omega)) _)
          have UW3 := Lib.hid (UA.out.trans HU3.out)
          clear hn4 hu4 hT4 hown2 hg2 ht2 hlit hF cz hml9 ma
          go_upto_region 17 with (fail)
          rw [← hW4]
          clear hW4 c4 z4 m4
          have hr5 := HRZ3.out
          have hres := HRB.out.upd HU3.out (by simp)
          unfold RowAt at hr5 hres
          go_wp2_with (first
            | (refine wpList_load_row rfl 29 _ rfl Z rfl 29 #[.slice ca0 s.defs.length cc0, .slice ca1 s.comps.length cc1, .slice x2 s.meets.length y2, .slice x3 s.allow.length y3, .slice x4 s.hide.length y4] (0, 0) _ hr5 Tryz.underlying29 rfl Sy_size ?_)
            | (refine wpList_store_row rfl 29 _ _ rfl B #[.slice ca0 s.defs.length cc0, .slice ca1 s.comps.length cc1, .slice x2 s.meets.length y2, .slice x3 s.allow.length y3, .slice x4 s.hide.length y4] rfl rfl 29 _ hres Sy_size rfl (by simp [Value.oneCell']) ?_)
            | fail)
          have hC := setRow_heap W4 B _ #[.slice ca0 s.defs.length cc0, .slice ca1 s.comps.length cc1, .slice x2 s.meets.length y2, .slice x3 s.allow.length y3, .slice x4 s.hide.length y4] _ _ hres
          refine bodyPost_ret (results_cell_row Tryz.results53 _ _ B 29 _ (0, 0) _ rfl hC Tryz.underlying29 rfl Sy_size) rfl ?_
          have hB := HBB.out
          have hbl := HRB.out.lt
          have hs0 := HRZ0.out.lt
          have hs2 := HUU2.out.size
          have hs3 := HUU3.out.size
          have hs4 := HUU4.out.size
          have ht2 := HD2.out.size
          have ht3 := HD3.out.size
          have ht4 := HD4.out.size
          have hsA := HU0.out.size
          have hsw := UA.out.size
          have DB : Upd [B] W4 (W4.setRow B #[.slice ca0 s.defs.length cc0, .slice ca1 s.comps.length cc1, .slice x2 s.meets.length y2, .slice x3 s.allow.length y3, .slice x4 s.hide.length y4]) := (Upd.refl _ _).row (Or.inr (by simp)) _
          have UE : Upd [] w (W4.setRow B #[.slice ca0 s.defs.length cc0, .slice ca1 s.comps.length cc1, .slice x2 s.meets.length y2, .slice x3 s.allow.length y3, .slice x4 s.hide.length y4]) := UW3.out.row (Or.inl (by omega)) _
          refine ⟨⟨[.slice ca0 s.defs.length cc0, .slice ca1 s.comps.length cc1, .slice x2 s.meets.length y2, .slice x3 s.allow.length y3, .slice x4 s.hide.length y4], rfl, rfl, by simp [Value.oneCell'], ?_⟩, UE⟩
          obtain ⟨g2, P2⟩ := Part.of R_Me1k HN2.out
          obtain ⟨g3, P3⟩ := Part.of R_S1k HN3.out
          obtain ⟨g4, P4⟩ := Part.of R_S1k HN4.out
          have P2 := ((((((P2.upd R_Me1k HD2.out (by simp; omega)).upd R_Me1k HUU3.out (by simp)).upd R_Me1k HD3.out (by simp; omega)).upd R_Me1k HUU4.out (by simp)).upd R_Me1k HD4.out (by simp; omega)).upd R_Me1k DB (by simp; omega))
          have P3 := ((((P3.upd R_S1k HD3.out (by simp; omega)).upd R_S1k HUU4.out (by simp)).upd R_S1k HD4.out (by simp; omega)).upd R_S1k DB (by simp; omega))
          have P4 := ((P4.upd R_S1k HD4.out (by simp; omega)).upd R_S1k DB (by simp; omega))
          have eZ : ∀ l : List Nat, (∀ c ∈ l, c ≠ Z) → ∀ c ∈ l, c ∉ [Z] := fun l h c hc hm => h c hc (by simpa using hm)
          have eR : ∀ l : List Nat, (∀ c ∈ l, wA.heap.size ≤ c) → ∀ c ∈ l, c ∉ [B] := fun l h c hc hm => by have := h c hc; simp at hm; omega
          have d2 := eZ fs (fun c hc => (HSB.out c hc).2.1)
          have d1 := eR fs (fun c hc => (HSB.out c hc).1)
          have r0 := R_De1k.upd (R_De1k.upd (R_De1k.upd (R_De1k.upd (R_De1k.upd (R_De1k.upd (R_De1k.upd HG.out.1 HUU2.out (by simp)) HD2.out d2) HUU3.out (by simp)) HD3.out d2) HUU4.out (by simp)) HD4.out d2) DB d1
          have o0 := ((((((HG.out.2.upd HUU2.out (by simp)).upd HD2.out d2).upd HUU3.out (by simp)).upd HD3.out d2).upd HUU4.out (by simp)).upd HD4.out d2).upd DB d1
          have lf := R_De1k.lt HG.out.1
          have UZ : Upd [Z, B] wr0 (W4.setRow B #[.slice ca0 s.defs.length cc0, .slice ca1 s.comps.length cc1, .slice x2 s.meets.length y2, .slice x3 s.allow.length y3, .slice x4 s.hide.length y4]) := (((((((Upd.refl [Z, B] wr0).fresh HUU2.out (by simp)).fresh HD2.out (by simp)).fresh HUU3.out (by simp)).fresh HD3.out (by simp)).fresh HUU4.out (by simp)).fresh HD4.out (by simp)).fresh DB (by simp)
          have e0 := R_De1k.lt r0
          have e2 := R_Me1k.lt P2.r
          have e3 := R_S1k.lt P3.r
          have e4 := R_S1k.lt P4.r
          refine ⟨_, _, _, _, _, fs, g2, g3, g4, rfl, r0, P2.r, P3.r, P4.r, own_join o0 (own_join P2.o (own_join P3.o P4.o (fun c h1 h2 => by have := P3.b c h1; have := P4.b c h2; omega)) (fun c h1 h2 => ?_)) (fun c h1 h2 => ?_), fun c hc => ?_, HGC.out.reex R_Cok UZ (fun c hc => ?_) (by omega) (fun c hc => ?_) (fun c hc => ?_)⟩
          · have := P2.b c h1
            rcases List.mem_append.1 h2 with h2 | h2
            · have := P3.b c h2; omega
            · have := P4.b c h2; omega
          · have := lf c h1
            simp only [List.mem_append] at h2
            rcases h2 with h2 | h2 | h2
            · have := P2.b c h2; omega
            · have := P3.b c h2; omega
            · have := P4.b c h2; omega
          · simp only [List.mem_append] at hc
            rcases hc with hc | hc | hc | hc
            · have := HSB.out c hc; omega
            · have := P2.b c hc; omega
            · have := P3.b c hc; omega
            · have := P4.b c hc; omega
          · simp only [List.mem_cons, List.not_mem_nil, or_false] at hc
            rcases hc with rfl | rfl
            · exact Or.inl (by simp)
            · exact Or.inr (by omega)
          · simp only [List.mem_append] at hc
            rcases hc with hc | hc | hc | hc
            · exact Or.inl (by simp [hc])
            · have := P2.b c hc; exact Or.inr (by omega)
            · have := P3.b c hc; exact Or.inr (by omega)
            · have := P4.b c hc; exact Or.inr (by omega)
          · simp only [List.mem_append] at hc
            rcases hc with hc | hc | hc | hc
            · exact e0 c hc
            · exact e2 c hc
            · exact e3 c hc
            · exact e4 c hc

theorem ownSyS (Bs : Nat) (cs : List Value) (fp : List Nat) (s : Sy) (w : World) (hA : SyAt Bs cs fp w s) (hF : CpFit s) :
    Calls Tryz.prog 53 #[.pointer (some ⟨Bs, 0, none⟩)] w fun e w' => (∃ us, e = .returned (.agg us.toArray) ∧ us.length = 5 ∧ us.toArray.all (·.oneCell') = true ∧ NewQ R_Sy w w' us s) ∧ Upd [] w w' :=
  (ownSyM Bs cs fp s w hA hF).mono fun _ _ ⟨⟨us, h1, h2, h3, h4⟩, hu⟩ => ⟨⟨us, h1, h2, h3, h4.new⟩, hu⟩

end Go.Proofs.YtnchmnjkmhfleaaGreat

/-
  Meetings: what the reference's check returns.
-/
namespace Go.Proofs.YtnchmnjkmhfleaaGreat
open Go.RowKit

theorem meetsF_len {l : List Me} (h : ¬ l.length ≤ 6) : meetsF l = false := by unfold meetsF; rw [decide_eq_false h, Bool.and_false]
theorem meetsF_yes6 {l : List Me} (hs : l.length ≤ 6) (h : ∀ j (hj : j < l.length), goodM l j l[j] = true) : meetsF l = true := by
  rw [meetsF_yes h, decide_eq_true hs]

set_option maxRecDepth 20000 in
set_option maxHeartbeats 16000000 in
theorem meetingsS (v : Value) (l : List Me) (w : World) (fp : List Nat) (hR : R_Me1 fp w [v] l) (ht : ∀ m ∈ l, m.left.length ≤ 2000000 ∧ m.right.length ≤ 2000000 ∧ m.result.length ≤ 2000000) :
    Calls Tryz.prog 160 #[v] w fun e w' => e = .returned (.bool (meetsF l)) ∧ Upd [] w w' := by
  obtain ⟨a, cap, rfl, g1, g2, hc⟩ := slQ_open hR
  unfold maxLen at g2
  have HC := Lib.hid hc
  have HT := Lib.hid ht
  have HLE := Lib.hid (fun (h : ¬ l.length ≤ 6) => meetsF_len (l := l) h)
  have HNO := Lib.hid (fun k (hk : k < l.length) (h : goodM l k l[k] = false) => meetsF_no hk h)
  have HYE := Lib.hid (fun (hs : l.length ≤ 6) (h : ∀ j (hj : j < l.length), goodM l j l[j] = true) => meetsF_yes6 hs h)
  clear hR hc ht
  generalize hZ : meetsF l = Z at *
  clear hZ
  by_cases h6 : 6 < l.length
  · have HZ := Lib.hid (HLE.out (by omega))
    have hb2 : (6 : Int) < (l.length : Int) := by omega
    clear h6 HNO HYE HLE
    go_enter Tryz.func160, Tryz.ntmps160
    go_wp2_with fail
    go_ret
    exact ⟨by rw [HZ.out]; rfl, Upd.refl _ _⟩
  · have hb2 : ¬ (6 : Int) < (l.length : Int) := by omega
    have HYE := Lib.hid (HYE.out (by omega))
    clear h6 HLE
    go_enter Tryz.func160, Tryz.ntmps160
    go_wp2_with fail
    go_loopw [3] (fun iv wr => ∃ k : Nat, k ≤ l.length ∧ iv = .int .i64 k ∧ Hid (Upd [] w wr) ∧ Hid (∀ j (_ : j < k) (hj : j < l.length), goodM l j l[j] = true)) (fun iv _ => l.length - (intOf iv).toNat)
    case atStart => exact ⟨0, Nat.zero_le _, rfl, Lib.hid (Upd.refl _ _), Lib.hid (fun j hj => absurd hj (Nat.not_lt_zero _))⟩
    case round =>
      obtain ⟨wo, rfl⟩ : ∃ wo : World, wo = wr := ⟨_, rfl⟩
      obtain ⟨k, hk, rfl, HU, HG⟩ := hrel
      by_cases hlt : k < l.length
      · obtain ⟨bb, off, u, f', rfl, -, -, -, hcell, -, hr⟩ := HC.out k hlt
        obtain ⟨rfl, rfl⟩ := hr
        have s0 := HU.out.keep (hcell 0 _ rfl)
        have s1 := HU.out.keep (hcell 1 _ rfl)
        have s2 := HU.out.keep (hcell 2 _ rfl)
        simp only [Nat.add_zero] at s0
        have htk := HT.out l[k] (List.getElem_mem hlt)
        have HNK := Lib.hid (HNO.out k hlt)
        have HGK := Lib.hid (fun (h : goodM l k l[k] = true) j (hjk : j < k + 1) (hj : j < l.length) => (show goodM l j l[j] = true by
          by_cases e : j = k
          · subst e; exact h
          · exact HG.out j (by omega) hj))
        have HGD := Lib.hid (show goodM l k l[k] = ((actF l[k].left && actF l[k].right && actF l[k].result && !bl l[k].right l[k].left) && (decide (k = 0) || lessM (l.getD (k - 1) ⟨[], [], []⟩) l[k]) && l.all (fun o => !(o.left == l[k].result || o.right == l[k].result))) from rfl)
        have HPV := Lib.hid (fun i (hi : k = i + 1) => show ∃ pm : Me, l.getD (k - 1) ⟨[], [], []⟩ = pm ∧ wo.cell? ⟨bb, off + i * 3, none⟩ = some (es pm.left) ∧ wo.cell? ⟨bb, off + i * 3 + 1, none⟩ = some (es pm.right) from by
          subst hi
          have hil : i < l.length := by omega
          obtain ⟨b', o', u', f'', he, -, -, -, hc', -, hr'⟩ := HC.out i hil
          simp only [Option.some.injEq, Addr.mk.injEq, and_true] at he
          obtain ⟨rfl, rfl⟩ := he
          obtain ⟨rfl, rfl⟩ := hr'
          refine ⟨l[i], ?_, HU.out.keep (by simpa using hc' 0 _ rfl), HU.out.keep (hc' 1 _ rfl)⟩
          rw [Nat.add_sub_cancel, List.getD_eq_getElem?_getD, List.getElem?_eq_getElem hil]; rfl)
        have HLC := Lib.hid (fun i (hil : i < l.length) => show w.cell? ⟨bb, off + i * 3, none⟩ = some (es l[i].left) ∧ w.cell? ⟨bb, off + i * 3 + 1, none⟩ = some (es l[i].right) from by
          obtain ⟨b', o', u', f'', he, -, -, -, hc', -, hr'⟩ := HC.out i hil
          simp only [Option.some.injEq, Addr.mk.injEq, and_true] at he
          obtain ⟨rfl, rfl⟩ := he
          obtain ⟨rfl, rfl⟩ := hr'
          exact ⟨by simpa using hc' 0 _ rfl, hc' 1 _ rfl⟩)
        have HAN := Lib.hid (fun i (hil : i < l.length) (h : (l[i].left == l[k].result || l[i].right == l[k].result) = true) => show l.all (fun o => !(o.left == l[k].result || o.right == l[k].result)) = false by
          rw [List.all_eq_false]; exact ⟨l[i], List.getElem_mem hil, by simp [h]⟩)
        have HAY := Lib.hid (fun (h : ∀ i (hil : i < l.length), (l[i].left == l[k].result || l[i].right == l[k].result) = false) => show l.all (fun o => !(o.left == l[k].result || o.right == l[k].result)) = true by
          rw [List.all_eq_true]; intro o ho; obtain ⟨i, hil, rfl⟩ := List.mem_iff_getElem.1 ho; rw [h i hil]; rfl)
        have hkl : (k : Int) < (l.length : Int) := by omega
        clear hcell HG
        generalize goodM l k l[k] = gz at *
        generalize l[k] = m at *
        generalize l.all (fun o => !(o.left == m.result || o.right == m.result)) = qn at *
        obtain ⟨wP, hwP⟩ : ∃ q, q = wo.alloc (.cells #[es m.left, es m.right, es m.result] 70) := ⟨_, rfl⟩
        obtain ⟨BP, hBP⟩ : ∃ q, q = wo.heap.size := ⟨_, rfl⟩
        have uP : Upd [] wo wP := by rw [hwP]; exact (Upd.refl _ _).alloc _
        have x0 : wP.cell? ⟨BP, 0, none⟩ = some (es m.left) := by rw [hwP, hBP]; exact cell_new wo _ _ _ rfl 0 _ rfl
        have x1 : wP.cell? ⟨BP, 1, none⟩ = some (es m.right) := by rw [hwP, hBP]; exact cell_new wo _ _ _ rfl 1 _ rfl
        have x2 : wP.cell? ⟨BP, 2, none⟩ = some (es m.result) := by rw [hwP, hBP]; exact cell_new wo _ _ _ rfl 2 _ rfl
        have UP := Lib.hid uP
        have HUP := Lib.hid (HU.out.trans uP)
        have SA0 := Lib.hid (fun W => actionS m.left W htk.1)
        have SA1 := Lib.hid (fun W => actionS m.right W htk.2.1)
        have SA2 := Lib.hid (fun W => actionS m.result W htk.2.2)
        obtain ⟨A0, hA0⟩ : ∃ q, actF m.left = q := ⟨_, rfl⟩
        obtain ⟨A1, hA1⟩ : ∃ q, actF m.right = q := ⟨_, rfl⟩
        obtain ⟨A2, hA2⟩ : ∃ q, actF m.result = q := ⟨_, rfl⟩
        obtain ⟨gg, hgg⟩ : ∃ q, bl m.right m.left = q := ⟨_, rfl⟩
        have hgt : (Op.bytesLess m.left m.right || m.left == m.right) = !gg := by rw [← hgg]; exact bl_total m.left m.right
        rw [hA0, hA1, hA2, hgg] at HGD
        rw [hA0] at SA0
        rw [hA1] at SA1
        rw [hA2] at SA2
        clear uP htk hA0 hA1 hA2 hgg
        go_upto_region 7 with (fail)
        rw [← hwP, ← hBP]
        clear hwP hBP s0 s1 s2
        cases A0 with
        | false =>
          have HZ := Lib.hid (HNK.out (by rw [HGD.out]; rfl))
          clear HNK HGK HGD HPV HLC HAN HAY
          go_wp2_with fail
          refine (SA0.out _).mono ?_
          rintro e w1 ⟨rfl, rfl⟩
          go_wp2_with fail
          go_ret
          exact ⟨by rw [HZ.out]; rfl, HUP.out⟩
        | true =>
          cases A1 with
          | false =>
            have HZ := Lib.hid (HNK.out (by rw [HGD.out]; rfl))
            clear HNK HGK HGD HPV HLC HAN HAY
            go_wp2_with fail
            refine (SA0.out _).mono ?_
            rintro e w1 ⟨rfl, rfl⟩
            go_wp2_with fail
            refine (SA1.out _).mono ?_
            rintro e w1 ⟨rfl, rfl⟩
            go_wp2_with fail
            go_ret
            exact ⟨by rw [HZ.out]; rfl, HUP.out⟩
          | true =>
            cases A2 with
            | false =>
              have HZ := Lib.hid (HNK.out (by rw [HGD.out]; rfl))
              clear HNK HGK HGD HPV HLC HAN HAY
              go_wp2_with fail
              refine (SA0.out _).mono ?_
              rintro e w1 ⟨rfl, rfl⟩
              go_wp2_with fail
              refine (SA1.out _).mono ?_
              rintro e w1 ⟨rfl, rfl⟩
              go_wp2_with fail
              refine (SA2.out _).mono ?_
              rintro e w1 ⟨rfl, rfl⟩
              go_wp2_with fail
              go_ret
              exact ⟨by rw [HZ.out]; rfl, HUP.out⟩
            | true =>
              cases gg with
              | true =>
                have HZ := Lib.hid (HNK.out (by rw [HGD.out]; rfl))
                simp only [Bool.not_true] at hgt
                clear HNK HGK HGD HPV HLC HAN HAY
                go_wp2_with fail
                refine (SA0.out _).mono ?_
                rintro e w1 ⟨rfl, rfl⟩
                go_wp2_with fail
                refine (SA1.out _).mono ?_
                rintro e w1 ⟨rfl, rfl⟩
                go_wp2_with fail
                refine (SA2.out _).mono ?_
                rintro e w1 ⟨rfl, rfl⟩
                go_wp2_with fail
                go_ret
                exact ⟨by rw [HZ.out]; rfl, HUP.out⟩
              | false =>
                simp only [Bool.not_false] at hgt
                have HCS := Lib.hid (show (k = 0 ∧ gz = qn) ∨ (∃ (i : Nat) (pl pr : List UInt8), k = i + 1 ∧ wP.cell? ⟨bb, off + i * 3, none⟩ = some (es pl) ∧ wP.cell? ⟨bb, off + i * 3 + 1, none⟩ = some (es pr) ∧
                    ((Op.bytesLess pl m.left = true ∧ (pl == m.left) = false ∧ gz = qn) ∨ (Op.bytesLess pl m.left = false ∧ (pl == m.left) = true ∧ Op.bytesLess pr m.right = true ∧ gz = qn) ∨
                     (Op.bytesLess pl m.left = false ∧ (pl == m.left) = true ∧ Op.bytesLess pr m.right = false ∧ gz = false) ∨ (Op.bytesLess pl m.left = false ∧ (pl == m.left) = false ∧ gz = false))) from by
                  rcases Nat.eq_zero_or_pos k with h0 | h0
                  · left; exact ⟨h0, by rw [HGD.out, h0]; simp⟩
                  · right
                    obtain ⟨i, rfl⟩ : ∃ i, k = i + 1 := ⟨k - 1, by omega⟩
                    obtain ⟨pm, hpm, r0, r1⟩ := HPV.out i rfl
                    refine ⟨i, pm.left, pm.right, rfl, UP.out.keep r0, UP.out.keep r1, ?_⟩
                    rw [HGD.out, hpm]
                    unfold lessM
                    have hbl : ∀ a b : List UInt8, Op.bytesLess a b = bl a b := fun _ _ => rfl
                    rw [hbl, hbl]
                    cases ha : bl pm.left m.left with
                    | true =>
                      left
                      refine ⟨rfl, ?_, by simp⟩
                      cases he : (pm.left == m.left) with
                      | false => rfl
                      | true =>
                        have ht := bl_total m.left m.left
                        rw [beq_iff_eq.1 he] at ha
                        rw [ha] at ht; simp at ht
                    | false =>
                      right
                      cases he : (pm.left == m.left) with
                      | false => right; right; exact ⟨rfl, rfl, by simp⟩
                      | true =>
                        cases hb : bl pm.right m.right with
                        | true => left; exact ⟨rfl, rfl, rfl, by simp⟩
                        | false => right; left; exact ⟨rfl, rfl, rfl, by simp⟩)
                clear HGD HPV
                rcases HCS.out with ⟨rfl, hz⟩ | ⟨i, pl, pr, rfl, y0, y1, hcs⟩
                · clear HCS
                  have hki : ¬ (0 : Int) < ((0 : Nat) : Int) := by omega
                  go_wp2_with fail
                  refine (SA0.out _).mono ?_
                  rintro e w1 ⟨rfl, rfl⟩
                  go_wp2_with fail
                  refine (SA1.out _).mono ?_
                  rintro e w1 ⟨rfl, rfl⟩
                  go_wp2_with fail
                  refine (SA2.out _).mono ?_
                  rintro e w1 ⟨rfl, rfl⟩
                  go_wp2_with fail
                  go_quiet (fail)
                  obtain ⟨wq, hwq⟩ : ∃ wq, wP.drewN nq = wq := ⟨_, rfl⟩
                  have HUq := Lib.hid (show Upd [] w wq by rw [← hwq]; exact HUP.out.trans ((Upd.refl [] wP).drewN nq))
                  have k2 : wq.cell? ⟨BP, 2, none⟩ = some (es m.result) := by rw [← hwq]; exact x2
                  rw [hwq]
                  clear hwq x0 x1 x2 SA0 SA1 SA2
                  go_wp2_with fail
                  go_loopw [5] (fun iv wr => ∃ j : Nat, j ≤ l.length ∧ iv = .int .i64 j ∧ Hid (Upd [] wq wr) ∧ Hid (∀ i (_ : i < j) (hil : i < l.length), (l[i].left == m.result || l[i].right == m.result) = false)) (fun iv _ => l.length - (intOf iv).toNat)
                  case atStart => exact ⟨0, Nat.zero_le _, rfl, Lib.hid (Upd.refl _ _), Lib.hid (fun j hj => absurd hj (Nat.not_lt_zero _))⟩
                  case round =>
                    obtain ⟨wx, rfl⟩ : ∃ wo : World, wo = wr := ⟨_, rfl⟩
                    obtain ⟨j, hj, rfl, HV, HI⟩ := hrel
                    have z2 := HV.out.keep k2
                    by_cases hlj : j < l.length
                    · obtain ⟨d0, d1⟩ := HLC.out j hlj
                      have z0 := HV.out.keep (HUq.out.keep d0)
                      have z1 := HV.out.keep (HUq.out.keep d1)
                      have HA1 := Lib.hid (HAN.out j hlj)
                      have HI2 := Lib.hid (fun (h : (l[j].left == m.result || l[j].right == m.result) = false) i (hjk : i < j + 1) (hj : i < l.length) => (show (l[i].left == m.result || l[i].right == m.result) = false by
                        by_cases e : i = j
                        · subst e; exact h
                        · exact HI.out i (by omega) hj))
                      have hjl : (j : Int) < (l.length : Int) := by omega
                      clear d0 d1 HI
                      generalize l[j] = o at *
                      obtain ⟨q1, hq1⟩ : ∃ q, (o.left == m.result) = q := ⟨_, rfl⟩
                      obtain ⟨q2, hq2⟩ : ∃ q, (o.right == m.result) = q := ⟨_, rfl⟩
                      rw [hq1, hq2] at HA1 HI2
                      cases q1 with
                      | true =>
                        have HZ := Lib.hid (HNK.out (hz.trans (HA1.out rfl)))
                        clear HA1 HI2 HNK HGK HAN HAY
                        go_wp2_with fail
                        go_quiet (fail)
                        have HU9 := Lib.hid (HUq.out.trans (HV.out.drewN nq))
                        go_wp2_with fail
                        go_ret
                        exact ⟨by rw [HZ.out]; rfl, HU9.out⟩
                      | false =>
                        cases q2 with
                        | true =>
                          have HZ := Lib.hid (HNK.out (hz.trans (HA1.out rfl)))
                          clear HA1 HI2 HNK HGK HAN HAY
                          go_wp2_with fail
                          go_quiet (fail)
                          have HU9 := Lib.hid (HUq.out.trans (HV.out.drewN nq))
                          go_wp2_with fail
                          go_ret
                          exact ⟨by rw [HZ.out]; rfl, HU9.out⟩
                        | false =>
                          have HI3 := Lib.hid (HI2.out rfl)
                          clear HA1 HI2 HNK HGK HAN HAY
                          go_wp2_with fail
                          go_quiet (fail)
                          have HV9 := Lib.hid (HV.out.drewN nq)
                          go_wp2_with fail
                          go_roundw
                          case rel => exact ⟨j + 1, by omega, by go_num, HV9, HI3⟩
                          case measure => simp [intOf]; omega
                    · have hjj : ¬ (j : Int) < (l.length : Int) := by omega
                      have HG2 := Lib.hid (HGK.out (hz.trans (HAY.out (fun i hil => HI.out i (by omega) hil))))
                      have HU9 := Lib.hid (HUq.out.trans HV.out)
                      clear HI HAN HAY HNK HGK
                      go_wp2_with fail
                      go_roundw
                      case rel => exact ⟨0 + 1, by omega, by go_num, HU9, HG2⟩
                      case measure => simp [intOf]; omega
                · clear HCS
                  rcases hcs with ⟨e1, e2, hz⟩ | ⟨e1, e2, e3, hz⟩ | ⟨e1, e2, e3, hz⟩ | ⟨e1, e2, hz⟩
                  · have hi0 : (0 : Int) ≤ (i : Int) := by omega
                    have hi1 : (i : Int) < (l.length : Int) := by omega
                    have hw1 : IntKind.i64.wrap (((i : Int) + 1) - 1) = (i : Int) := by rw [IntKind.wrap_i64]; omega
                    have hw2 : IntKind.i64.wrap (i : Int) = (i : Int) := by rw [IntKind.wrap_i64]; omega
                    have hp0 : (0 : Int) < (i : Int) + 1 := by omega
                    go_wp2_with fail
                    refine (SA0.out _).mono ?_
                    rintro e w1 ⟨rfl, rfl⟩
                    go_wp2_with fail
                    refine (SA1.out _).mono ?_
                    rintro e w1 ⟨rfl, rfl⟩
                    go_wp2_with fail
                    refine (SA2.out _).mono ?_
                    rintro e w1 ⟨rfl, rfl⟩
                    go_wp2_with fail
                    go_quiet (fail)
                    obtain ⟨wq, hwq⟩ : ∃ wq, wP.drewN nq = wq := ⟨_, rfl⟩
                    have HUq := Lib.hid (show Upd [] w wq by rw [← hwq]; exact HUP.out.trans ((Upd.refl [] wP).drewN nq))
                    have k2 : wq.cell? ⟨BP, 2, none⟩ = some (es m.result) := by rw [← hwq]; exact x2
                    rw [hwq]
                    clear hwq x0 x1 x2 SA0 SA1 SA2
                    go_wp2_with fail
                    go_loopw [5] (fun iv wr => ∃ j : Nat, j ≤ l.length ∧ iv = .int .i64 j ∧ Hid (Upd [] wq wr) ∧ Hid (∀ i (_ : i < j) (hil : i < l.length), (l[i].left == m.result || l[i].right == m.result) = false)) (fun iv _ => l.length - (intOf iv).toNat)
                    case atStart => exact ⟨0, Nat.zero_le _, rfl, Lib.hid (Upd.refl _ _), Lib.hid (fun j hj => absurd hj (Nat.not_lt_zero _))⟩
                    case round =>
                      obtain ⟨wx, rfl⟩ : ∃ wo : World, wo = wr := ⟨_, rfl⟩
                      obtain ⟨j, hj, rfl, HV, HI⟩ := hrel
                      have z2 := HV.out.keep k2
                      by_cases hlj : j < l.length
                      · obtain ⟨d0, d1⟩ := HLC.out j hlj
                        have z0 := HV.out.keep (HUq.out.keep d0)
                        have z1 := HV.out.keep (HUq.out.keep d1)
                        have HA1 := Lib.hid (HAN.out j hlj)
                        have HI2 := Lib.hid (fun (h : (l[j].left == m.result || l[j].right == m.result) = false) i (hjk : i < j + 1) (hj : i < l.length) => (show (l[i].left == m.result || l[i].right == m.result) = false by
                          by_cases e : i = j
                          · subst e; exact h
                          · exact HI.out i (by omega) hj))
                        have hjl : (j : Int) < (l.length : Int) := by omega
                        clear d0 d1 HI
                        generalize l[j] = o at *
                        obtain ⟨q1, hq1⟩ : ∃ q, (o.left == m.result) = q := ⟨_, rfl⟩
                        obtain ⟨q2, hq2⟩ : ∃ q, (o.right == m.result) = q := ⟨_, rfl⟩
                        rw [hq1, hq2] at HA1 HI2
                        cases q1 with
                        | true =>
                          have HZ := Lib.hid (HNK.out (hz.trans (HA1.out rfl)))
                          clear HA1 HI2 HNK HGK HAN HAY
                          go_wp2_with fail
                          go_quiet (fail)
                          have HU9 := Lib.hid (HUq.out.trans (HV.out.drewN nq))
                          go_wp2_with fail
                          go_ret
                          exact ⟨by rw [HZ.out]; rfl, HU9.out⟩
                        | false =>
                          cases q2 with
                          | true =>
                            have HZ := Lib.hid (HNK.out (hz.trans (HA1.out rfl)))
                            clear HA1 HI2 HNK HGK HAN HAY
                            go_wp2_with fail
                            go_quiet (fail)
                            have HU9 := Lib.hid (HUq.out.trans (HV.out.drewN nq))
                            go_wp2_with fail
                            go_ret
                            exact ⟨by rw [HZ.out]; rfl, HU9.out⟩
                          | false =>
                            have HI3 := Lib.hid (HI2.out rfl)
                            clear HA1 HI2 HNK HGK HAN HAY
                            go_wp2_with fail
                            go_quiet (fail)
                            have HV9 := Lib.hid (HV.out.drewN nq)
                            go_wp2_with fail
                            go_roundw
                            case rel => exact ⟨j + 1, by omega, by go_num, HV9, HI3⟩
                            case measure => simp [intOf]; omega
                      · have hjj : ¬ (j : Int) < (l.length : Int) := by omega
                        have HG2 := Lib.hid (HGK.out (hz.trans (HAY.out (fun i hil => HI.out i (by omega) hil))))
                        have HU9 := Lib.hid (HUq.out.trans HV.out)
                        clear HI HAN HAY HNK HGK
                        go_wp2_with fail
                        go_roundw
                        case rel => exact ⟨(i + 1) + 1, by omega, by go_num, HU9, HG2⟩
                        case measure => simp [intOf]; omega
                  · have hi0 : (0 : Int) ≤ (i : Int) := by omega
                    have hi1 : (i : Int) < (l.length : Int) := by omega
                    have hw1 : IntKind.i64.wrap (((i : Int) + 1) - 1) = (i : Int) := by rw [IntKind.wrap_i64]; omega
                    have hw2 : IntKind.i64.wrap (i : Int) = (i : Int) := by rw [IntKind.wrap_i64]; omega
                    have hp0 : (0 : Int) < (i : Int) + 1 := by omega
                    go_wp2_with fail
                    refine (SA0.out _).mono ?_
                    rintro e w1 ⟨rfl, rfl⟩
                    go_wp2_with fail
                    refine (SA1.out _).mono ?_
                    rintro e w1 ⟨rfl, rfl⟩
                    go_wp2_with fail
                    refine (SA2.out _).mono ?_
                    rintro e w1 ⟨rfl, rfl⟩
                    go_wp2_with fail
                    go_quiet (fail)
                    obtain ⟨wq, hwq⟩ : ∃ wq, wP.drewN nq = wq := ⟨_, rfl⟩
                    have HUq := Lib.hid (show Upd [] w wq by rw [← hwq]; exact HUP.out.trans ((Upd.refl [] wP).drewN nq))
                    have k2 : wq.cell? ⟨BP, 2, none⟩ = some (es m.result) := by rw [← hwq]; exact x2
                    rw [hwq]
                    clear hwq x0 x1 x2 SA0 SA1 SA2
                    go_wp2_with fail
                    go_loopw [5] (fun iv wr => ∃ j : Nat, j ≤ l.length ∧ iv = .int .i64 j ∧ Hid (Upd [] wq wr) ∧ Hid (∀ i (_ : i < j) (hil : i < l.length), (l[i].left == m.result || l[i].right == m.result) = false)) (fun iv _ => l.length - (intOf iv).toNat)
                    case atStart => exact ⟨0, Nat.zero_le _, rfl, Lib.hid (Upd.refl _ _), Lib.hid (fun j hj => absurd hj (Nat.not_lt_zero _))⟩
                    case round =>
                      obtain ⟨wx, rfl⟩ : ∃ wo : World, wo = wr := ⟨_, rfl⟩
                      obtain ⟨j, hj, rfl, HV, HI⟩ := hrel
                      have z2 := HV.out.keep k2
                      by_cases hlj : j < l.length
                      · obtain ⟨d0, d1⟩ := HLC.out j hlj
                        have z0 := HV.out.keep (HUq.out.keep d0)
                        have z1 := HV.out.keep (HUq.out.keep d1)
                        have HA1 := Lib.hid (HAN.out j hlj)
                        have HI2 := Lib.hid (fun (h : (l[j].left == m.result || l[j].right == m.result) = false) i (hjk : i < j + 1) (hj : i < l.length) => (show (l[i].left == m.result || l[i].right == m.result) = false by
                          by_cases e : i = j
                          · subst e; exact h
                          · exact HI.out i (by omega) hj))
                        have hjl : (j : Int) < (l.length : Int) := by omega
                        clear d0 d1 HI
                        generalize l[j] = o at *
                        obtain ⟨q1, hq1⟩ : ∃ q, (o.left == m.result) = q := ⟨_, rfl⟩
                        obtain ⟨q2, hq2⟩ : ∃ q, (o.right == m.result) = q := ⟨_, rfl⟩
                        rw [hq1, hq2] at HA1 HI2
                        cases q1 with
                        | true =>
                          have HZ := Lib.hid (HNK.out (hz.trans (HA1.out rfl)))
                          clear HA1 HI2 HNK HGK HAN HAY
                          go_wp2_with fail
                          go_quiet (fail)
                          have HU9 := Lib.hid (HUq.out.trans (HV.out.drewN nq))
                          go_wp2_with fail
                          go_ret
                          exact ⟨by rw [HZ.out]; rfl, HU9.out⟩
                        | false =>
                          cases q2 with
                          | true =>
                            have HZ := Lib.hid (HNK.out (hz.trans (HA1.out rfl)))
                            clear HA1 HI2 HNK HGK HAN HAY
                            go_wp2_with fail
                            go_quiet (fail)
                            have HU9 := Lib.hid (HUq.out.trans (HV.out.drewN nq))
                            go_wp2_with fail
                            go_ret
                            exact ⟨by rw [HZ.out]; rfl, HU9.out⟩
                          | false =>
                            have HI3 := Lib.hid (HI2.out rfl)
                            clear HA1 HI2 HNK HGK HAN HAY
                            go_wp2_with fail
                            go_quiet (fail)
                            have HV9 := Lib.hid (HV.out.drewN nq)
                            go_wp2_with fail
                            go_roundw
                            case rel => exact ⟨j + 1, by omega, by go_num, HV9, HI3⟩
                            case measure => simp [intOf]; omega
                      · have hjj : ¬ (j : Int) < (l.length : Int) := by omega
                        have HG2 := Lib.hid (HGK.out (hz.trans (HAY.out (fun i hil => HI.out i (by omega) hil))))
                        have HU9 := Lib.hid (HUq.out.trans HV.out)
                        clear HI HAN HAY HNK HGK
                        go_wp2_with fail
                        go_roundw
                        case rel => exact ⟨(i + 1) + 1, by omega, by go_num, HU9, HG2⟩
                        case measure => simp [intOf]; omega
                  · have hi0 : (0 : Int) ≤ (i : Int) := by omega
                    have hi1 : (i : Int) < (l.length : Int) := by omega
                    have hw1 : IntKind.i64.wrap (((i : Int) + 1) - 1) = (i : Int) := by rw [IntKind.wrap_i64]; omega
                    have hw2 : IntKind.i64.wrap (i : Int) = (i : Int) := by rw [IntKind.wrap_i64]; omega
                    have hp0 : (0 : Int) < (i : Int) + 1 := by omega
                    have HZ := Lib.hid (HNK.out hz)
                    clear HNK HGK HLC HAN HAY
                    go_wp2_with fail
                    refine (SA0.out _).mono ?_
                    rintro e w1 ⟨rfl, rfl⟩
                    go_wp2_with fail
                    refine (SA1.out _).mono ?_
                    rintro e w1 ⟨rfl, rfl⟩
                    go_wp2_with fail
                    refine (SA2.out _).mono ?_
                    rintro e w1 ⟨rfl, rfl⟩
                    go_wp2_with fail
                    go_quiet (fail)
                    have HU9 := Lib.hid (HUP.out.trans ((Upd.refl [] wP).drewN nq))
                    go_wp2_with fail
                    go_ret
                    exact ⟨by rw [HZ.out]; rfl, HU9.out⟩
                  · have hi0 : (0 : Int) ≤ (i : Int) := by omega
                    have hi1 : (i : Int) < (l.length : Int) := by omega
                    have hw1 : IntKind.i64.wrap (((i : Int) + 1) - 1) = (i : Int) := by rw [IntKind.wrap_i64]; omega
                    have hw2 : IntKind.i64.wrap (i : Int) = (i : Int) := by rw [IntKind.wrap_i64]; omega
                    have hp0 : (0 : Int) < (i : Int) + 1 := by omega
                    have HZ := Lib.hid (HNK.out hz)
                    clear HNK HGK HLC HAN HAY
                    go_wp2_with fail
                    refine (SA0.out _).mono ?_
                    rintro e w1 ⟨rfl, rfl⟩
                    go_wp2_with fail
                    refine (SA1.out _).mono ?_
                    rintro e w1 ⟨rfl, rfl⟩
                    go_wp2_with fail
                    refine (SA2.out _).mono ?_
                    rintro e w1 ⟨rfl, rfl⟩
                    go_wp2_with fail
                    go_quiet (fail)
                    have HU9 := Lib.hid (HUP.out.trans ((Upd.refl [] wP).drewN nq))
                    go_wp2_with fail
                    go_ret
                    exact ⟨by rw [HZ.out]; rfl, HU9.out⟩
      · have hkk : ¬ (k : Int) < (l.length : Int) := by omega
        have HZ := Lib.hid (HYE.out (fun j hj => HG.out j (by omega) hj))
        clear HG HNO HYE
        go_wp2_with fail
        go_ret
        exact ⟨by rw [HZ.out]; rfl, HU.out⟩

end Go.Proofs.YtnchmnjkmhfleaaGreat

/-
  The reference's check of a system: what the calls return.
-/
namespace Go.Proofs.YtnchmnjkmhfleaaGreat
open Go.RowKit

set_option maxRecDepth 20000 in
set_option maxHeartbeats 8000000 in
theorem sysFaultS (B : Nat) (cs : List Value) (fp : List Nat) (s : Sy) (w : World) (hA : SyAt B cs fp w s) (hF : SyFit s) :
    Calls Tryz.prog 103 #[.pointer (some ⟨B, 0, none⟩)] w fun e w' => e = .returned (.int .i64 (faultSy s)) ∧ Upd [] w w' := by
  have hA0 := hA
  obtain ⟨⟨v0, v1, v2, v3, v4, f0, f1, f2, f3, f4, rfl, h0, h1, h2, h3, h4, rfl⟩, hcc⟩ := hA
  have HM := Lib.hid (show faultSy s = if !defsOk s.defs then 1 else if !compsOk s.defs s.comps then 2 else if !meetsF s.meets then 3 else if !namesF s.allow then 4 else if !namesF s.hide then 5 else 0 from rfl)
  have HC := Lib.hid (fun W (hu : Upd [] w W) => show W.cell? ⟨B, 0, none⟩ = some v0 ∧ W.cell? ⟨B, 2, none⟩ = some v2 ∧ W.cell? ⟨B, 3, none⟩ = some v3 ∧ W.cell? ⟨B, 4, none⟩ = some v4 from
    ⟨hu.keep (hcc 0 _ rfl), hu.keep (hcc 2 _ rfl), hu.keep (hcc 3 _ rfl), hu.keep (hcc 4 _ rfl)⟩)
  have S0 := Lib.hid (defsS v0 s.defs w f0 h0 hF.defs)
  have SC := Lib.hid (fun W (hu : Upd [] w W) (hdl : s.defs.length ≤ 1000000) => componentsS B _ _ s W (hA0.upd hu) hdl)
  have SM := Lib.hid (fun W (hu : Upd [] w W) => meetingsS v2 s.meets W f2 (R_Me1k.upd h2 hu (by simp)) hF.meets.2)
  have SA := Lib.hid (fun W (hu : Upd [] w W) => nameListS v3 s.allow W f3 (R_S1k.upd h3 hu (by simp)) hF.allow.1 hF.allow.2)
  have SH := Lib.hid (fun W (hu : Upd [] w W) => nameListS v4 s.hide W f4 (R_S1k.upd h4 hu (by simp)) hF.hide.1 hF.hide.2)
  have HDL := Lib.hid (fun (h : defsOk s.defs = true) => show s.defs.length ≤ 1000000 from by
    unfold defsOk at h
    simp only [Bool.and_eq_true, decide_eq_true_eq] at h
    omega)
  obtain ⟨a0, q0, rfl, -, -, -⟩ := slQ_open h0
  obtain ⟨a2, q2, rfl, -, -, -⟩ := slQ_open h2
  obtain ⟨a3, q3, rfl, -, -, -⟩ := slF1_open h3
  obtain ⟨a4, q4, rfl, -, -, -⟩ := slF1_open h4
  obtain ⟨c0, c2, c3, c4⟩ := HC.out w (Upd.refl _ _)
  clear h0 h1 h2 h3 h4 hF hA0 hcc
  generalize faultSy s = Z at *
  obtain ⟨defs, comps, meets, allow, hide⟩ := s
  simp only at *
  generalize defsOk defs = d at *
  cases d with
  | false =>
    have HZ := Lib.hid (show Z = 1 from HM.out)
    clear HM SC SM SA SH HDL HC
    go_enter Tryz.func103, Tryz.ntmps103
    go_wp2_with fail
    refine S0.out.mono ?_
    rintro e w1 ⟨rfl, hu1⟩
    have HU := Lib.hid hu1
    clear hu1 c0 c2 c3 c4
    go_wp2_with fail
    go_ret
    exact ⟨by rw [HZ.out]; rfl, HU.out⟩
  | true =>
    have hdl := HDL.out rfl
    go_enter Tryz.func103, Tryz.ntmps103
    go_wp2_with fail
    refine S0.out.mono ?_
    rintro e w1 ⟨rfl, hu1⟩
    have HU := Lib.hid hu1
    have S1 := Lib.hid (SC.out w1 hu1 hdl)
    clear hu1 c0 c2 c3 c4 SC S0 HDL hdl
    generalize compsOk defs comps = g at *
    go_wp2_with fail
    refine S1.out.mono ?_
    rintro e w2 ⟨rfl, hu2⟩
    have HU := Lib.hid (HU.out.trans hu2)
    obtain ⟨c0, c2, c3, c4⟩ := HC.out w2 HU.out
    have S2 := Lib.hid (SM.out w2 HU.out)
    clear hu2 S1 SM
    cases g with
    | false =>
      have HZ := Lib.hid (show Z = 2 from HM.out)
      clear HM SA SH HC S2
      go_wp2_with fail
      go_ret
      exact ⟨by rw [HZ.out]; rfl, HU.out⟩
    | true =>
      generalize meetsF meets = g at *
      go_wp2_with fail
      refine S2.out.mono ?_
      rintro e w3 ⟨rfl, hu2⟩
      have HU := Lib.hid (HU.out.trans hu2)
      clear c0 c2 c3 c4
      obtain ⟨c0, c2, c3, c4⟩ := HC.out w3 HU.out
      have S3 := Lib.hid (SA.out w3 HU.out)
      clear hu2 S2 SA
      cases g with
      | false =>
        have HZ := Lib.hid (show Z = 3 from HM.out)
        clear HM SH HC S3
        go_wp2_with fail
        go_ret
        exact ⟨by rw [HZ.out]; rfl, HU.out⟩
      | true =>
        generalize namesF allow = g at *
        go_wp2_with fail
        refine S3.out.mono ?_
        rintro e w4 ⟨rfl, hu2⟩
        have HU := Lib.hid (HU.out.trans hu2)
        clear c0 c2 c3 c4
        obtain ⟨c0, c2, c3, c4⟩ := HC.out w4 HU.out
        have S4 := Lib.hid (SH.out w4 HU.out)
        clear hu2 S3 SH
        cases g with
        | false =>
          have HZ := Lib.hid (show Z = 4 from HM.out)
          clear HM HC S4
          go_wp2_with fail
          go_ret
          exact ⟨by rw [HZ.out]; rfl, HU.out⟩
        | true =>
          generalize namesF hide = g at *
          go_wp2_with fail
          refine S4.out.mono ?_
          rintro e w5 ⟨rfl, hu2⟩
          have HU := Lib.hid (HU.out.trans hu2)
          clear c0 c2 c3 c4 hu2 S4
          cases g with
          | false =>
            have HZ := Lib.hid (show Z = 5 from HM.out)
            clear HM HC
            go_wp2_with fail
            go_ret
            exact ⟨by rw [HZ.out]; rfl, HU.out⟩
          | true =>
            have HZ := Lib.hid (show Z = 0 from HM.out)
            clear HM HC
            go_wp2_with fail
            go_ret
            exact ⟨by rw [HZ.out]; rfl, HU.out⟩

set_option maxRecDepth 20000 in
theorem sysIsS (B : Nat) (cs : List Value) (fp : List Nat) (s : Sy) (w : World) (hA : SyAt B cs fp w s) (hF : SyFit s) :
    Calls Tryz.prog 50 #[.pointer (some ⟨B, 0, none⟩)] w fun e w' => e = .returned (.bool (sysOk s)) ∧ Upd [] w w' := by
  have S1 := Lib.hid (sysFaultS B cs fp s w hA hF)
  have HZ := Lib.hid (faultSy_ok s)
  clear hA hF
  generalize faultSy s = z at *
  go_enter Tryz.func50, Tryz.ntmps50
  go_wp2_with fail
  refine S1.out.mono ?_
  rintro e w1 ⟨rfl, hu1⟩
  have HU := Lib.hid hu1
  clear hu1
  go_wp2_with fail
  go_ret
  exact ⟨by rw [← HZ.out]; rfl, HU.out⟩

end Go.Proofs.YtnchmnjkmhfleaaGreat

/-
  Systems that are changed: names of definitions, and what the calls give.
-/
namespace Go.Proofs.YtnchmnjkmhfleaaGreat
open Go.RowKit

def zeroSy : Sy := ⟨[], [], [], [], []⟩
theorem sy_zero (w w' : World) : NewQ R_Sy w w' zerosSy zeroSy :=
  ⟨[] ++ ([] ++ ([] ++ ([] ++ []))), ⟨_, _, _, _, _, [], [], [], [], [], rfl, ⟨none, 0, [], [], [], rfl, Nat.le_refl _, by simp [maxLen], rfl, by simp, rfl, rfl, Or.inl ⟨rfl, rfl⟩, by simp [zeroSy]⟩, ⟨none, 0, [], [], [], rfl, Nat.le_refl _, by simp [maxLen], rfl, by simp, rfl, rfl, Or.inl ⟨rfl, rfl⟩, by simp [zeroSy]⟩, ⟨none, 0, [], [], [], rfl, Nat.le_refl _, by simp [maxLen], rfl, by simp, rfl, rfl, Or.inl ⟨rfl, rfl⟩, by simp [zeroSy]⟩, ⟨_, rfl, none, 0, rfl, Nat.le_refl _, by simp [maxLen], by simp [zeroSy], Or.inl ⟨rfl, rfl⟩⟩, ⟨_, rfl, none, 0, rfl, Nat.le_refl _, by simp [maxLen], by simp [zeroSy], Or.inl ⟨rfl, rfl⟩⟩, rfl⟩, by simpa using Own.nil w', by simp⟩
/-- what a call returns and makes that gives a system and a number. -/
def GaveSy (w : World) (F : Sy × Int) (e : Ending) (w' : World) : Prop := (∃ us, e = .returned (.tuple #[.agg us.toArray, .int .i64 F.2]) ∧ us.length = 5 ∧ us.toArray.all (·.oneCell') = true ∧ NewQ R_Sy w w' us F.1) ∧ Upd [] w w'
theorem gaveSy_zero (w w' : World) (c : Int) (hu : Upd [] w w') : GaveSy w (zeroSy, c) (.returned (.tuple #[.agg #[.slice none 0 0, .slice none 0 0, .slice none 0 0, .slice none 0 0, .slice none 0 0], .int .i64 c])) w' :=
  ⟨⟨zerosSy, rfl, rfl, by simp [Value.oneCell'], sy_zero w w'⟩, hu⟩
theorem NewQ.upd {α : Type} {R : Rp α} (K : Kept R) {w w1 w2 : World} {us : List Value} {x : α} (h : NewQ R w w1 us x) {f : List Nat} (hu : Upd f w1 w2) (hf : ∀ b ∈ f, b < w.heap.size ∨ w1.heap.size ≤ b) : NewQ R w w2 us x := by
  obtain ⟨fp, h1, h2, h3⟩ := h
  have hlt := K.lt h1
  have hd : ∀ b ∈ fp, b ∉ f := fun b hb hm => by have := h3 b hb; have := hlt b hb; rcases hf b hm with h | h <;> omega
  exact ⟨fp, K.upd h1 hu hd, h2.upd hu hd, h3⟩
theorem NewQ.mono {α : Type} {R : Rp α} {w0 w w' : World} {us : List Value} {x : α} (h : NewQ R w w' us x) (hs : w0.heap.size ≤ w.heap.size) : NewQ R w0 w' us x := by
  obtain ⟨fp, h1, h2, h3⟩ := h
  exact ⟨fp, h1, h2, fun b hb => Nat.le_trans hs (h3 b hb)⟩
theorem gaveSy {w W wo : World} {B : Nat} {us : List Value} {x : Sy} (h1 : NewQ R_Sy W wo us x) (hl : us.length = 5) (hc : us.toArray.all (·.oneCell') = true) (hu : Upd [] w wo) (hB : w.heap.size ≤ B) (hBW : B < W.heap.size) (hW : w.heap.size ≤ W.heap.size) :
    GaveSy w (x, 0) (.returned (.tuple #[.agg us.toArray, .int .i64 0])) (wo.setRow B us.toArray) := by
  have D : Upd [B] wo (wo.setRow B us.toArray) := (Upd.refl _ _).row (Or.inr (by simp)) _
  exact ⟨⟨us, rfl, hl, hc, (h1.upd R_Syk D (fun b hb => by simp at hb; left; omega)).mono hW⟩, hu.row (Or.inl hB) _⟩

/-- what bounds the copy of a valid system. -/
theorem CpFit.of {s : Sy} (hok : sysOk s = true) (_hF : SyFit s) : CpFit s := by
  have hK := SyGd.of hok
  obtain ⟨h4, h1, hpar, hnm, hbody⟩ := defs_fine hK.defs
  refine ⟨by omega, fun d hd => ?_, by have := hK.cl; omega, fun c hc => ?_, by have := hK.meets.1; omega, by have := hK.allow.1; omega, by have := hK.hide.1; omega⟩
  · obtain ⟨hb, hl20, hfine⟩ := hbody d hd
    obtain ⟨x, hx, hokx, hfl⟩ := body_tree hb
    have hpos := flatT_pos x
    rw [hfl] at hpos
    refine ⟨⟨hpos, by omega⟩, fun p hp => ?_⟩
    have hf := hfine p hp
    refine ⟨by have := hf.three; omega, fun e he => by have := eOk_len (hf.exps e he); omega⟩
  · obtain ⟨j, -, -, h3, -⟩ := hK.comp c hc
    omega

end Go.Proofs.YtnchmnjkmhfleaaGreat

/-
  The definitions that the components of a system can come to, and the system without the others, plainly.
-/
namespace Go.Proofs.YtnchmnjkmhfleaaGreat
open Go.RowKit

/-- a number put into a rising list. -/
def putGo (n : Int) : List Int → Bool → List Int
  | [], true => []
  | [], false => [n]
  | x :: r, true => x :: putGo n r true
  | x :: r, false => if n ≤ x then (if n < x then n :: x :: putGo n r true else x :: putGo n r true) else x :: putGo n r false
def putF (n : Int) (xs : List Int) : List Int := putGo n xs false
theorem putGo_true (n : Int) : ∀ xs, putGo n xs true = xs
  | [] => rfl
  | x :: r => by rw [putGo, putGo_true n r]
theorem putF_mem (n y : Int) : ∀ xs, y ∈ putGo n xs false ↔ y = n ∨ y ∈ xs
  | [] => by simp [putGo]
  | x :: r => by
    rw [putGo, putGo_true]
    split
    · split
      · simp
      · have : x = n := by omega
        subst this; simp
    · simp only [List.mem_cons, putF_mem n y r]
      constructor
      · rintro (h | h | h) <;> simp [h]
      · rintro (h | h | h) <;> simp [h]
theorem putF_pair (n : Int) : ∀ xs, xs.Pairwise (· < ·) → (putGo n xs false).Pairwise (· < ·)
  | [], _ => by simp [putGo]
  | x :: r, h => by
    have h1 : ∀ y ∈ r, x < y := fun y hy => List.rel_of_pairwise_cons h hy
    have h2 := h.of_cons
    rw [putGo, putGo_true]
    split
    · split
      · refine List.pairwise_cons.2 ⟨fun y hy => ?_, h⟩
        rcases List.mem_cons.1 hy with rfl | hy
        · assumption
        · have := h1 y hy; omega
      · exact h
    · refine List.pairwise_cons.2 ⟨fun y hy => ?_, putF_pair n r h2⟩
      rcases (putF_mem n y r).1 hy with rfl | hy
      · omega
      · exact h1 y hy
theorem rise_ext : ∀ {a b : List Int}, a.Pairwise (· < ·) → b.Pairwise (· < ·) → (∀ x, x ∈ a ↔ x ∈ b) → a = b
  | [], [], _, _, _ => rfl
  | [], y :: b, _, _, h => by have := (h y).2 (by simp); simp at this
  | x :: a, [], _, _, h => by have := (h x).1 (by simp); simp at this
  | x :: a, y :: b, ha, hb, h => by
    have ha1 := fun {z} (hz : z ∈ a) => List.rel_of_pairwise_cons ha hz
    have hb1 := fun {z} (hz : z ∈ b) => List.rel_of_pairwise_cons hb hz
    have e : x = y := by
      rcases List.mem_cons.1 ((h x).1 (by simp)) with h1 | h1
      · exact h1
      · rcases List.mem_cons.1 ((h y).2 (by simp)) with h2 | h2
        · exact h2.symm
        · have := hb1 h1; have := ha1 h2; omega
    subst e
    congr 1
    refine rise_ext ha.of_cons hb.of_cons (fun z => ⟨fun hz => ?_, fun hz => ?_⟩)
    · rcases List.mem_cons.1 ((h z).1 (by simp [hz])) with h1 | h1
      · have := ha1 hz; omega
      · exact h1
    · rcases List.mem_cons.1 ((h z).2 (by simp [hz])) with h1 | h1
      · have := hb1 hz; omega
      · exact h1

/-- the definitions that a body calls, in the order of its parts. -/
def callsL (b : List Pa) : List Int := (b.filter (fun p => p.kind == 5)).map Pa.num
theorem callsL_snoc (b : List Pa) (p : Pa) : callsL (b ++ [p]) = callsL b ++ (if (p.kind == 5) = true then [p.num] else []) := by
  unfold callsL
  rw [List.filter_append, List.map_append]
  congr 1
  cases h : (p.kind == 5) <;> simp [h]
theorem callsL_mem (b : List Pa) (y : Int) : y ∈ callsL b ↔ ∃ p ∈ b, p.kind = 5 ∧ p.num = y := by
  unfold callsL
  simp only [List.mem_map, List.mem_filter, beq_iff_eq]
  constructor
  · rintro ⟨p, ⟨h1, h2⟩, h3⟩; exact ⟨p, h1, h2, h3⟩
  · rintro ⟨p, h1, h2, h3⟩; exact ⟨p, ⟨h1, h2⟩, h3⟩
def bodyAt (s : Sy) (i : Int) : List Pa := (s.defs.map De.body).getD i.toNat []
/-- what a component can come to. -/
inductive Rch (s : Sy) : Int → Prop
  | comp (c : Co) (h : c ∈ s.comps) : Rch s c.dfn
  | call (i j : Int) (h : Rch s i) (hj : j ∈ callsL (bodyAt s i)) : Rch s j
open Classical in
/-- the definitions that components can come to, rising. -/
noncomputable def usedF (s : Sy) : List Int := ((List.range s.defs.length).map (fun n : Nat => (n : Int))).filter (fun j => decide (Rch s j))
theorem usedF_pair (s : Sy) : (usedF s).Pairwise (· < ·) := by
  unfold usedF
  refine List.Pairwise.filter _ ?_
  rw [List.pairwise_map]
  exact List.pairwise_lt_range.imp (fun h => by omega)
theorem usedF_mem (s : Sy) (y : Int) : y ∈ usedF s ↔ (0 ≤ y ∧ y < s.defs.length) ∧ Rch s y := by
  unfold usedF
  simp only [List.mem_filter, List.mem_map, List.mem_range, decide_eq_true_eq]
  constructor
  · rintro ⟨⟨n, h1, rfl⟩, h2⟩; exact ⟨by omega, h2⟩
  · rintro ⟨h1, h2⟩; exact ⟨⟨y.toNat, by omega, by omega⟩, h2⟩
theorem bodyAt_eq (s : Sy) (j : Nat) (h : j < s.defs.length) : bodyAt s j = s.defs[j].body := by
  unfold bodyAt; rw [Int.toNat_natCast, List.getD_eq_getElem?_getD, List.getElem?_map, List.getElem?_eq_getElem h]; rfl
theorem call_range {s : Sy} (hok : sysOk s = true) {i j : Int} (hj : j ∈ callsL (bodyAt s i)) : 0 ≤ j ∧ j < s.defs.length := by
  have hK := SyGd.of hok
  obtain ⟨-, -, -, -, hb⟩ := defs_fine hK.defs
  obtain ⟨p, hp, h5, rfl⟩ := (callsL_mem _ _).1 hj
  unfold bodyAt at hp
  rw [List.getD_eq_getElem?_getD] at hp
  cases hq : (s.defs.map De.body)[i.toNat]? with
  | none => rw [hq] at hp; simp at hp
  | some b =>
    rw [hq] at hp
    simp only [Option.getD_some] at hp
    obtain ⟨d, hd, rfl⟩ := List.mem_map.1 (List.mem_of_getElem? hq)
    exact ((hb d hd).2.2 p hp).call h5
theorem rch_range {s : Sy} (hok : sysOk s = true) {j : Int} (h : Rch s j) : 0 ≤ j ∧ j < s.defs.length := by
  cases h with
  | comp c hc =>
    obtain ⟨n, h1, h2, -⟩ := (SyGd.of hok).comp c hc
    omega
  | call i j _ hj => exact call_range hok hj
/-- a list that is closed, and holds nothing but what components come to, is what they come to. -/
theorem used_ext {s : Sy} (hok : sysOk s = true) {L : List Int} (hp : L.Pairwise (· < ·)) (h1 : ∀ c ∈ s.comps, c.dfn ∈ L) (h2 : ∀ i ∈ L, ∀ j ∈ callsL (bodyAt s i), j ∈ L) (h3 : ∀ i ∈ L, Rch s i) : L = usedF s := by
  refine rise_ext hp (usedF_pair s) (fun x => ⟨fun hx => (usedF_mem s x).2 ⟨rch_range hok (h3 x hx), h3 x hx⟩, fun hx => ?_⟩)
  have hr := ((usedF_mem s x).1 hx).2
  clear hx
  induction hr with
  | comp c hc => exact h1 c hc
  | call i j _ hj ih => exact h2 i ih j hj
theorem nodup_range : ∀ (n : Nat) {l : List Int}, l.Nodup → (∀ x ∈ l, 0 ≤ x ∧ x < n) → l.length ≤ n
  | 0, l, _, h => by
    cases l with
    | nil => simp
    | cons a r => have := h a (by simp); omega
  | n + 1, l, hn, h => by
    have h1 := nodup_range n (l := l.filter (fun x => decide (x ≠ (n : Int)))) (hn.filter _) (fun x hx => by
      rw [List.mem_filter, decide_eq_true_eq] at hx
      have := h x hx.1
      omega)
    have h2 : l.length ≤ (l.filter (fun x => decide (x ≠ (n : Int)))).length + 1 := by
      clear h h1
      induction l with
      | nil => simp
      | cons a r ih =>
        have hr := ih hn.of_cons
        by_cases e : a = (n : Int)
        · subst e
          have : r.filter (fun x => decide (x ≠ (n : Int))) = r := by
            rw [List.filter_eq_self]
            intro x hx
            rw [decide_eq_true_eq]
            intro e
            exact (List.nodup_cons.1 hn).1 (e ▸ hx)
          rw [List.filter_cons_of_neg (by simp), this]; simp
        · rw [List.filter_cons_of_pos (by simpa using e), List.length_cons, List.length_cons]; omega
    omega

/-- the place of a number in a list, -1 if it is not in it. -/
def plcF (us : List Int) (n : Int) : Int := firstP (fun x => x == n) us
def renPa (us : List Int) (p : Pa) : Pa := if (p.kind == 5) = true then ⟨p.kind, plcF us p.num, p.name, p.args⟩ else p
def renDe (us : List Int) (d : De) : De := ⟨d.name, d.pars, d.body.map (renPa us)⟩
def renCo (us : List Int) (c : Co) : Co := ⟨plcF us c.dfn, c.vals⟩
def defAt (s : Sy) (j : Int) : De := s.defs.getD j.toNat ⟨[], 0, []⟩
theorem defAt_eq (s : Sy) (j : Nat) (h : j < s.defs.length) : defAt s j = s.defs[j] := by
  unfold defAt; rw [Int.toNat_natCast, List.getD_eq_getElem?_getD, List.getElem?_eq_getElem h]; rfl
def pruneL (us : List Int) (s : Sy) : Sy := ⟨us.map (fun j => renDe us (defAt s j)), s.comps.map (renCo us), s.meets, s.allow, s.hide⟩
noncomputable def pruneF (s : Sy) : Sy × Int := if sysOk s = true then (pruneL (usedF s) s, 0) else (zeroSy, 1)
theorem used_len (s : Sy) : (usedF s).length ≤ s.defs.length := nodup_range _ ((usedF_pair s).imp (fun h => by omega)) (fun x hx => ((usedF_mem s x).1 hx).1)

end Go.Proofs.YtnchmnjkmhfleaaGreat

/-
  Relations between systems, the reference's parts: the edges from a state, and lists of pairs.
-/
namespace Go.Proofs.YtnchmnjkmhfleaaGreat
open Go.RowKit

end Go.Proofs.YtnchmnjkmhfleaaGreat

/-
  Relations between systems, the program's parts: the edges from a state, lists held against each other.
-/
namespace Go.Proofs.YtnchmnjkmhfleaaGreat
open Go.RowKit

end Go.Proofs.YtnchmnjkmhfleaaGreat

/-
  The library's sort of numbers, at a list that rises already: it stays.
-/
namespace Go.Proofs.YtnchmnjkmhfleaaGreat
open Go.RowKit

def Rising (xs : List Int) : Prop := ∀ (i j : Nat) (hi : i < xs.length) (hj : j < xs.length), i < j → xs[i] < xs[j]

set_option maxRecDepth 20000 in
set_option maxHeartbeats 2000000 in
theorem compactI (v : Value) (xs : List Int) (w : World) (fp : List Nat) (hR : R1 fp w [v] xs) (hs : Rising xs) (hm : xs.length ≤ 40) :
    Calls Tryz.prog 124 #[v] w fun e w' => e = .returned v ∧ ∃ n, w' = w.drewN n := by
  obtain ⟨a, c, rfl, hl, -, hc⟩ := slF1_open hR
  have HC := Lib.hid hc
  have HS := Lib.hid hs
  have hi : (xs.length : Int) ≤ 40 := by omega
  clear hR hc hs
  go_enter Tryz.func124, Tryz.ntmps124
  by_cases h2 : xs.length < 2
  · have h2' : (xs.length : Int) < 2 := by omega
    go_wp2_with fail
    go_ret
    exact ⟨rfl, 0, rfl⟩
  · have h2' : ¬ (xs.length : Int) < 2 := by omega
    go_wp2_with fail
    go_loopw [3] (fun iv wr => ∃ k n : Nat, 1 ≤ k ∧ k ≤ xs.length ∧ iv = .int .i64 k ∧ wr = w.drewN n) (fun iv _ => xs.length - (intOf iv).toNat)
    case atStart => exact ⟨1, 0, by omega, by omega, rfl, rfl⟩
    case round =>
      obtain ⟨k, n, hk1, hk2, rfl, rfl⟩ := hrel
      by_cases hlt : k < xs.length
      · obtain ⟨b, o, rfl, -, -, p1⟩ := HC.out k hlt
        obtain ⟨b', o', hb, -, -, p2⟩ := HC.out (k - 1) (by omega)
        cases hb
        have hno := HS.out (k - 1) k (by omega) hlt (by omega)
        have hne : (xs[k] == xs[k - 1]) = false := by rw [beq_eq_false_iff_ne]; omega
        have hne2 : (xs[k] != xs[k - 1]) = true := by rw [bne_iff_ne]; omega
        clear hno
        generalize xs[k] = x at *
        generalize xs[k - 1] = y at *
        have i0 : IntKind.i64.wrap ((k : Int) - 1) = (k : Int) - 1 := IntWalk.i64_in _ (by omega)
        have i1 : ((k : Int) - 1).toNat = k - 1 := by omega
        have i3 : (0 : Int) ≤ (k : Int) - 1 := by omega
        have i5 : (1 : Int) ≤ (k : Int) := by omega
        have i4 : (k : Int) - 1 < (xs.length : Int) := by omega
        have i8 : (k : Int) < (xs.length : Int) := by omega
        go_upto_region 6 with (fail)
        go_quiet (fail)
        go_wp2_with fail
        go_roundw
        case rel => exact ⟨k + 1, _, by omega, by omega, by go_num, rfl⟩
        case measure => simp [intOf]; omega
      · obtain rfl : k = xs.length := by omega
        have i8 : ¬ (xs.length : Int) < (xs.length : Int) := by omega
        go_wp2_with fail
        go_ret
        exact ⟨rfl, _, rfl⟩

end Go.Proofs.YtnchmnjkmhfleaaGreat

/-
  The library's sort of numbers, at whatever list (the shelf's contract, told as a reading).
-/
namespace Go.Proofs.YtnchmnjkmhfleaaGreat
open Go.RowKit

theorem flatG (xs : List Int) : xs.flatMap (fun n => [ei n]) = xs.map ei := by
  induction xs with
  | nil => rfl
  | cons x xs ih => rw [List.flatMap_cons, ih]; rfl
def leZ (x y : Int) : Bool := decide (x ≤ y)
theorem sortAllI (v : Value) (xs : List Int) (w : World) (fp : List Nat) (hR : R1 fp w [v] xs) (hO : Own fp w) (hm : xs.length ≤ 1000000) :
    Calls Tryz.prog 123 #[v] w fun e w' => e = .returned (.tuple #[]) ∧ R1 fp w' [v] (xs.mergeSort leZ) ∧ Own fp w' ∧ Upd fp w w' := by
  by_cases h0 : xs = []
  · subst h0
    obtain ⟨a, cap, rfl, -, -, -⟩ := slF1_open hR
    refine (Tryz.slices_Sort_int_none a cap w).mono ?_
    rintro e w' ⟨rfl, rfl⟩
    exact ⟨rfl, by simpa using hR, hO, Upd.refl _ _⟩
  · obtain ⟨v', hv, a, cap, rfl, h1, h2, h3, h4⟩ := hR
    cases hv
    rcases h4 with ⟨h4, -⟩ | ⟨b, off, rfl, rfl, hb, hc⟩
    · exact absurd (List.length_eq_zero_iff.1 h4) h0
    · have hH : Go.Sort.Holds (Value.int .i64) w b off xs.toArray := by
        intro j hj
        have hj' : j < xs.length := by simpa using hj
        refine ⟨?_, hO.frozen (by simp) _⟩
        rw [hc j (ei xs[j]) (by
          rw [flatG]; simp [hj'])]
        rw [getElem!_pos _ j hj]
        simp [ei]
      refine (Tryz.slices_Sort_int b off cap xs w hH hb (by omega)).mono ?_
      rintro e w' ⟨rfl, n, os, rfl⟩
      have hl : (xs.mergeSort fun x y => decide (x ≤ y)).length = xs.length := List.length_mergeSort _
      have hu : Upd [b] w (Go.Sort.grow (Go.Sort.putRow (Value.int .i64) (Go.Sort.ahead w n) b off (xs.mergeSort fun x y => decide (x ≤ y)).toArray) os) := by
        refine ⟨rfl, rfl, rfl, by simp [Go.Sort.ahead], fun k hk hne => ?_⟩
        rw [Go.Sort.heap_grow_old _ _ (by simpa [Go.Sort.ahead] using hk)]
        have : b ≠ k := fun e => hne (by simp [e])
        simp [Go.Sort.putRow, Go.Sort.mapBlock, Go.Sort.ahead, Array.getElem?_modify, this]
      refine ⟨rfl, ?_, ⟨hO.1, fun b' hb' => ?_⟩, hu⟩
      · refine ⟨_, rfl, some ⟨b, off, none⟩, cap, ?_, ?_, h2, ?_, Or.inr ⟨b, off, rfl, rfl, Nat.lt_of_lt_of_le hb hu.size, fun j u hj => ?_⟩⟩
        · show Value.slice _ _ _ = Value.slice _ _ _
          rw [show (xs.mergeSort leZ).length = xs.length from List.length_mergeSort _]
        · rw [show (xs.mergeSort leZ).length = xs.length from List.length_mergeSort _]; exact h1
        · rw [flatG]; simp
        · rw [flatG] at hj
          have hj2 : j < xs.length := by
            have := (List.getElem?_eq_some_iff.1 hj).1
            simp only [List.length_map] at this
            rw [show (xs.mergeSort leZ).length = xs.length from List.length_mergeSort _] at this
            exact this
          rw [Go.Sort.cell?_grow _ _ _ (by simpa [Go.Sort.ahead] using hb)]
          have hc2 := Go.Sort.cell?_putRow (Value.int .i64) (Go.Sort.ahead w n) b off xs.toArray (xs.mergeSort fun x y => decide (x ≤ y)).toArray hH (by simp [hl]) j (by simpa [hl] using hj2)
          rw [hc2, ← hj, getElem!_pos _ j (by simpa [hl] using hj2)]
          rw [List.getElem?_map, List.getElem?_eq_getElem (by rw [show (xs.mergeSort leZ).length = xs.length from List.length_mergeSort _]; exact hj2)]
          simp [ei]
          rfl
      · obtain rfl : b' = b := by simpa using hb'
        obtain ⟨c, t, hct⟩ := hO.2 b' (by simp)
        refine ⟨Go.Sort.putCells (Value.int .i64) off (xs.mergeSort fun x y => decide (x ≤ y)).toArray c, t, ?_⟩
        rw [Go.Sort.heap_grow_old _ _ (by simpa [Go.Sort.ahead] using hb)]
        simp [Go.Sort.putRow, Go.Sort.mapBlock, Go.Sort.ahead, Array.getElem?_modify, hct, Go.Sort.onCells]

theorem ownLt {w : World} {v : Value} {xs : List Int} {fp : List Nat} (hR : R1 fp w [v] xs) (hne : xs ≠ []) : ∃ b off cap, v = .slice (some ⟨b, off, none⟩) xs.length cap ∧ fp = [b] ∧ xs.length ≤ cap ∧ cap ≤ maxLen ∧ b < w.heap.size ∧ ∀ j u, (xs.map ei)[j]? = some u → w.cell? ⟨b, off + j, none⟩ = some u := by
  obtain ⟨v', hv, a, cap, rfl, h1, h2, h3, h4⟩ := hR
  cases hv
  rcases h4 with ⟨h4, -⟩ | ⟨b, off, rfl, rfl, hb, hc⟩
  · exact absurd (List.length_eq_zero_iff.1 h4) hne
  · rw [flatG] at hc
    exact ⟨b, off, cap, rfl, rfl, h1, h2, hb, hc⟩

/-- a list without what follows upon its like. -/
def cmpF (xs : List Int) : List Int := Lib.compactUpTo xs.toArray xs.length
theorem cmp_mem (d : Array Int) : ∀ m, m ≤ d.size → ∀ y, y ∈ Lib.compactUpTo d m ↔ ∃ j, j < m ∧ d[j]! = y
  | 0, _, y => by simp [Lib.compactUpTo]
  | m + 1, h, y => by
    have ih := cmp_mem d m (by omega) y
    rw [Lib.compactUpTo_succ, List.mem_append, ih]
    cases hk : Lib.keeps d m with
    | true =>
      simp only [if_true, List.mem_singleton]
      constructor
      · rintro (⟨j, h1, h2⟩ | rfl)
        · exact ⟨j, by omega, h2⟩
        · exact ⟨m, by omega, rfl⟩
      · rintro ⟨j, h1, h2⟩
        by_cases e : j = m
        · subst e; exact Or.inr h2.symm
        · exact Or.inl ⟨j, by omega, h2⟩
    | false =>
      simp only [Bool.false_eq_true, if_false, List.not_mem_nil, or_false]
      constructor
      · rintro ⟨j, h1, h2⟩; exact ⟨j, by omega, h2⟩
      · rintro ⟨j, h1, h2⟩
        by_cases e : j = m
        · subst e
          unfold Lib.keeps at hk
          simp at hk
          exact ⟨j - 1, by omega, by rw [← h2]; exact hk.2.symm⟩
        · exact ⟨j, by omega, h2⟩
theorem cmp_pair (d : Array Int) (hs : ∀ i j, i ≤ j → j < d.size → d[i]! ≤ d[j]!) : ∀ m, m ≤ d.size → (Lib.compactUpTo d m).Pairwise (· < ·)
  | 0, _ => by simp [Lib.compactUpTo]
  | m + 1, h => by
    have ih := cmp_pair d hs m (by omega)
    rw [Lib.compactUpTo_succ]
    cases hk : Lib.keeps d m with
    | false => simpa using ih
    | true =>
      rw [if_pos rfl, List.pairwise_append]
      refine ⟨ih, by simp, ?_⟩
      intro a ha b hb
      obtain rfl : b = d[m]! := by simpa using hb
      obtain ⟨j, h1, rfl⟩ := (cmp_mem d m (by omega) a).1 ha
      have h2 := hs j (m - 1) (by omega) (by omega)
      have h3 := hs (m - 1) m (by omega) (by omega)
      have h4 : d[m]! ≠ d[m - 1]! := by
        unfold Lib.keeps at hk
        simp at hk
        rcases hk with hk | hk
        · omega
        · exact hk
      omega
/-- sorted, each once. -/
def setF (xs : List Int) : List Int := cmpF (xs.mergeSort leZ)
theorem setF_mem (xs : List Int) (y : Int) : y ∈ setF xs ↔ y ∈ xs := by
  unfold setF cmpF
  rw [cmp_mem _ _ (by simp)]
  have : (∃ j, j < (xs.mergeSort leZ).length ∧ (xs.mergeSort leZ).toArray[j]! = y) ↔ y ∈ xs.mergeSort leZ := by
    rw [List.mem_iff_getElem]
    constructor
    · rintro ⟨j, h1, h2⟩
      refine ⟨j, h1, ?_⟩
      rw [getElem!_pos _ j (by simpa using h1)] at h2
      simpa using h2
    · rintro ⟨j, h1, h2⟩
      refine ⟨j, h1, ?_⟩
      rw [getElem!_pos _ j (by simpa using h1)]
      simpa using h2
  rw [this]
  exact (List.mergeSort_perm xs leZ).mem_iff
theorem setF_pair (xs : List Int) : (setF xs).Pairwise (· < ·) := by
  refine cmp_pair _ ?_ _ (by simp)
  intro i j hij hj
  have hj' : j < (xs.mergeSort leZ).length := by simpa using hj
  rw [getElem!_pos _ i (by simpa using (show i < (xs.mergeSort leZ).length by omega)), getElem!_pos _ j hj]
  have hp : (xs.mergeSort leZ).Pairwise (fun a b => leZ a b = true) := List.pairwise_mergeSort (fun a b c h1 h2 => by unfold leZ at *; simp at *; omega) (fun a b => by unfold leZ; simp; omega) xs
  by_cases e : i = j
  · subst e; exact Int.le_refl _
  · have := List.pairwise_iff_getElem.1 hp i j (by omega) hj' (by omega)
    show (xs.mergeSort leZ)[i] ≤ (xs.mergeSort leZ)[j]
    exact of_decide_eq_true this

/-- a slice that points to an element of a block, if to anything. -/
def NoSpot (v : Value) : Prop := ∀ p n c, v = .slice (some p) n c → p.spot = none
theorem NoSpot.mk (b off n c : Nat) : NoSpot (.slice (some ⟨b, off, none⟩) n c) := by
  intro p n' c' h; cases h; rfl
theorem compactAllI (v : Value) (xs : List Int) (w : World) (fp : List Nat) (hR : R1 fp w [v] xs) (hO : Own fp w) (hm : xs.length ≤ 1000000) (hsp : NoSpot v) :
    Calls Tryz.prog 124 #[v] w fun e w' => (∃ v', e = .returned v' ∧ R1 fp w' [v'] (cmpF xs) ∧ NoSpot v') ∧ Own fp w' ∧ Upd fp w w' := by
  by_cases h0 : xs = []
  · subst h0
    refine (compactI v [] w fp hR (fun i j hi => by simp at hi) (by simp)).mono ?_
    rintro e w' ⟨rfl, n, rfl⟩
    exact ⟨⟨v, rfl, R1k.upd hR ((Upd.refl [] w).drewN n) (by simp), hsp⟩, hO.upd ((Upd.refl [] w).drewN n) (by simp), (Upd.refl _ _).drewN n⟩
  · obtain ⟨b, off, cap, rfl, rfl, h1, h2, hb, hc⟩ := ownLt hR h0
    have hH : Go.Sort.Holds ei w b off xs.toArray := by
      intro j hj
      have hj' : j < xs.length := by simpa using hj
      refine ⟨?_, hO.frozen (by simp) _⟩
      rw [hc j (ei xs[j]) (by simp [hj']), getElem!_pos _ j hj]
      simp
    have hcl : (Lib.compactUpTo xs.toArray xs.toArray.size).length ≤ xs.length := by
      unfold Lib.compactUpTo
      rw [List.length_map]
      refine Nat.le_trans (List.length_filter_le _ _) ?_
      simp
    refine (Tryz.slices_Compact (α := Int) ei (fun _ => rfl) (EqlAt.intD _ _ _) (NeqAt.intD _ _ _) 0 (fun w => by kernel_rfl) b off cap xs.toArray w hH (by simp; omega) (by simpa using h1)).mono ?_
    rintro e w' ⟨rfl, n, rfl⟩
    have hxs : xs.toArray.size = xs.length := by simp
    rw [hxs] at hcl ⊢
    have hcc : Lib.compactUpTo xs.toArray xs.length = cmpF xs := rfl
    rw [hcc] at hcl ⊢
    have hsz : (cmpF xs ++ List.replicate (xs.length - (cmpF xs).length) 0).toArray.size = xs.toArray.size := by simp; omega
    have hu : Upd [b] w (Go.Sort.putRow ei (Go.Sort.ahead w n) b off (cmpF xs ++ List.replicate (xs.length - (cmpF xs).length) 0).toArray) := by
      refine ⟨rfl, rfl, rfl, by simp [Go.Sort.ahead], fun k hk hne => ?_⟩
      have : b ≠ k := fun e => hne (by simp [e])
      simp [Go.Sort.putRow, Go.Sort.mapBlock, Go.Sort.ahead, Array.getElem?_modify, this]
    refine ⟨⟨_, rfl, ⟨_, rfl, some ⟨b, off, none⟩, cap, rfl, by omega, h2, by rw [flatG]; simp, Or.inr ⟨b, off, rfl, rfl, Nat.lt_of_lt_of_le hb hu.size, fun j u hj => ?_⟩⟩, NoSpot.mk _ _ _ _⟩, ⟨hO.1, fun b' hb' => ?_⟩, hu⟩
    · rw [flatG] at hj
      have hj2 : j < (cmpF xs).length := by
        have := (List.getElem?_eq_some_iff.1 hj).1
        simpa using this
      have hj3 : j < (cmpF xs ++ List.replicate (xs.length - (cmpF xs).length) 0).toArray.size := by simp; omega
      rw [Go.Sort.cell?_putRow ei (Go.Sort.ahead w n) b off xs.toArray _ hH hsz j hj3, ← hj, getElem!_pos _ j hj3]
      rw [List.getElem?_map, List.getElem?_eq_getElem hj2]
      simp [List.getElem_append_left hj2]
    · obtain rfl : b' = b := by simpa using hb'
      obtain ⟨c, t, hct⟩ := hO.2 b' (by simp)
      refine ⟨Go.Sort.putCells ei off (cmpF xs ++ List.replicate (xs.length - (cmpF xs).length) 0).toArray c, t, ?_⟩
      simp [Go.Sort.putRow, Go.Sort.mapBlock, Go.Sort.ahead, Array.getElem?_modify, hct, Go.Sort.onCells]

end Go.Proofs.YtnchmnjkmhfleaaGreat

/-
  The definitions that components can come to: what the program's calls return.
-/
namespace Go.Proofs.YtnchmnjkmhfleaaGreat
open Go.RowKit

theorem setF_len2 (xs : List Int) (n : Nat) (h : xs.length ≤ n) : (setF xs).length ≤ n := by
  unfold setF cmpF Lib.compactUpTo
  rw [List.length_map]
  refine Nat.le_trans (List.length_filter_le _ _) ?_
  simpa using h
theorem callsL_len (b : List Pa) : (callsL b).length ≤ b.length := by
  unfold callsL; rw [List.length_map]; exact List.length_filter_le _ _
theorem ownsRow_spot {w : World} {base : Nat} {e : TypeId} {size n : Nat} {v : Value} {xs : List Value} (h : w.ownsRow base e size v n xs) : NoSpot v := by
  rcases h with ⟨-, ⟨rfl, -⟩ | ⟨g, cap', cur, rfl, -⟩⟩
  · intro p n c hv; cases hv
  · exact NoSpot.mk _ _ _ _

set_option maxRecDepth 20000 in
set_option maxHeartbeats 8000000 in
theorem callsI (cs : List Value) (d : De) (w : World) (fp : List Nat) (hR : R_De fp w cs d) (hl : d.body.length ≤ 1000) :
    Calls Tryz.prog 121 #[.agg cs.toArray] w fun e w' => (∃ v', e = .returned v' ∧ New R_I1 w w' v' (setF (callsL d.body))) ∧ Upd [] w w' := by
  obtain ⟨i1, ki, kz0, kz1, kz2⟩ := info_parts Tryz.info2
  obtain ⟨vb, fb, rfl, hb, rfl⟩ := hR
  obtain ⟨a, c, rfl, l1, m1, hc⟩ := slQ_open hb
  unfold maxLen at m1
  have HC := Lib.hid hc
  obtain ⟨B, hB⟩ : ∃ q, q = w.heap.size := ⟨_, rfl⟩
  obtain ⟨wA, hwA⟩ : ∃ q, q = w.alloc (.cells #[es d.name, ei d.pars, .slice a d.body.length c] 90) := ⟨_, rfl⟩
  have uA : Upd [] w wA := by rw [hwA]; exact (Upd.refl _ _).alloc _
  have x2 : wA.cell? ⟨B, 2, none⟩ = some (.slice a d.body.length c) := by rw [hwA, hB]; exact cell_new w _ _ _ rfl 2 _ rfl
  have UA := Lib.hid uA
  have HSN := Lib.hid (fun k (h : k < d.body.length) => show callsL (d.body.take (k + 1)) = callsL (d.body.take k) ++ (if (d.body[k].kind == 5) = true then [d.body[k].num] else []) from by rw [List.take_succ_eq_append_getElem h, callsL_snoc])
  have HLN := Lib.hid (fun k => show (callsL (d.body.take k)).length ≤ 1000 from by have := callsL_len (d.body.take k); rw [List.length_take] at this; omega)
  clear hb hc uA
  obtain ⟨name, pars, body⟩ := d
  simp only at *
  go_enter Tryz.func121, Tryz.ntmps121
  go_upto_region 1 with (fail)
  rw [← hwA, ← hB]
  clear hwA hB
  go_wp2_with fail
  go_loopw [3, 9] (fun ov iv wr => ∃ k : Nat, k ≤ body.length ∧ iv = .int .i64 k ∧ Hid (Upd [] wA wr) ∧ wA.heap.size ≤ wr.heap.size ∧ Hid (wr.ownsRow wA.heap.size 2 1 ov (callsL (body.take k)).length ((callsL (body.take k)).map ei))) (fun _ iv _ => body.length - (intOf iv).toNat)
  case atStart => exact ⟨0, Nat.zero_le _, rfl, Lib.hid (Upd.refl _ _), Nat.le_refl _, Lib.hid (World.ownsRow_nil _ _ _ _)⟩
  case round =>
    clear x2
    obtain ⟨wo, rfl⟩ : ∃ wo : World, wo = wr := ⟨_, rfl⟩
    obtain ⟨k, hk, rfl, HU, hsz, HO⟩ := hrel
    by_cases hlt : k < body.length
    · obtain ⟨bb, off, u, f', rfl, -, -, -, hcell, -, hr⟩ := HC.out k hlt
      obtain ⟨va, fa, rfl, hva, -⟩ := hr
      obtain ⟨pa, pc, rfl, -, -, -⟩ := slP_open hva
      clear hva
      have uw := UA.out.trans HU.out
      have s0 := uw.keep (hcell 0 _ rfl)
      have s1 := uw.keep (hcell 1 _ rfl)
      have s2 := uw.keep (hcell 2 _ rfl)
      have s3 := uw.keep (hcell 3 _ rfl)
      simp only [Nat.add_zero] at s0
      have hkl : (k : Int) < (body.length : Int) := by omega
      have HK1 := Lib.hid (HSN.out k hlt)
      have hln := HLN.out k
      clear hcell uw HC HSN HLN
      generalize body[k] = p at *
      obtain ⟨kind, num, pname, pargs⟩ := p
      simp only at *
      obtain ⟨wB, hwB⟩ : ∃ q, q = wo.alloc (.cells #[ei kind, ei num, es pname, .slice pa pargs.length pc] 109) := ⟨_, rfl⟩
      obtain ⟨BB, hBB⟩ : ∃ q, q = wo.heap.size := ⟨_, rfl⟩
      have uB : Upd [] wo wB := by rw [hwB]; exact (Upd.refl _ _).alloc _
      have y0 : wB.cell? ⟨BB, 0, none⟩ = some (ei kind) := by rw [hwB, hBB]; exact cell_new wo _ _ _ rfl 0 _ rfl
      have y1 : wB.cell? ⟨BB, 1, none⟩ = some (ei num) := by rw [hwB, hBB]; exact cell_new wo _ _ _ rfl 1 _ rfl
      have HUB := Lib.hid (HU.out.trans uB)
      have HOB := Lib.hid (ownsRow_upd HO.out uB)
      have hszB : wA.heap.size ≤ wB.heap.size := HUB.out.size
      clear uB HU HO
      go_upto_region 5 with (fail)
      rw [← hwB, ← hBB]
      clear hwB hBB s0 s1 s2 s3
      obtain ⟨q, hq⟩ : ∃ q, (kind == 5) = q := ⟨_, rfl⟩
      rw [hq] at HK1
      cases q with
      | false =>
        have HO2 := Lib.hid (show wB.ownsRow wA.heap.size 2 1 u3 (callsL (body.take (k + 1))).length ((callsL (body.take (k + 1))).map ei) by rw [HK1.out]; simpa using HOB.out)
        clear HOB HK1
        go_wp2_with fail
        go_roundw
        case rel => exact ⟨k + 1, by omega, by go_num, HUB, hszB, HO2⟩
        case measure => simp [intOf]; omega
      | true =>
        have hown := HOB.out
        have HOW := Lib.hid hown
        obtain ⟨oa, oc, rfl⟩ := ownsRow_form hown
        generalize hLL : callsL (body.take k) = LL at *
        clear HOB hLL
        go_wp2_with (first
          | (at_builtin; refine wpList_append_tight _ rfl _ _ 36 rfl wA.heap.size 2 i1 (.int .i64 0) 1 8 Tryz.underlying36 ki kz0 kz1 kz2 rfl (by decide) _ _ _ rfl (hown.alloc _) ⟨wB.heap.size, 0, none⟩ 1 1 [ei num] rfl rfl (fun j u hj => by rw [addr_add]; exact cell_new wB #[ei num] _ _ rfl _ _ (by simpa using hj)) (by simp [Value.oneCell']) (by unfold maxLen; omega) (by omega) (by simp; omega) ?_)
          | fail)
        intro v2 w2 hown2 hg2 ht2
        have HO2 := Lib.hid (show w2.ownsRow wA.heap.size 2 1 v2 (callsL (body.take (k + 1))).length ((callsL (body.take (k + 1))).map ei) by rw [HK1.out, if_pos trivial, List.length_append, List.map_append]; simpa using hown2)
        have HU2 := Lib.hid ((HUB.out.alloc (.cells #[ei num] 2)).grown hg2 (fun b hb => Or.inl (HOW.out.lt b hb).1))
        clear hown hown2 hg2 ht2 HOW HK1 HUB y0 y1
        go_wp2_with fail
        go_roundw
        case rel => exact ⟨k + 1, by omega, by go_num, HU2, HU2.out.size, HO2⟩
        case measure => simp [intOf]; omega
    · obtain rfl : k = body.length := by omega
      have hown := HO.out
      rw [List.take_length] at hown
      have hln := HLN.out body.length
      rw [List.take_length] at hln
      have HNS := Lib.hid (ownsRow_spot hown)
      obtain ⟨f9, r9, o9, ge9⟩ := New.ofOwns hown
      have S3 := Lib.hid (sortAllI u3 (callsL body) wo f9 r9 o9 (by omega))
      have S4 := Lib.hid (fun W f r o => compactAllI u3 ((callsL body).mergeSort leZ) W f r o (by rw [List.length_mergeSort]; omega) HNS.out)
      have HG := Lib.hid ge9
      have HW := Lib.hid hsz
      clear HO hown r9 o9 ge9 HC HSN HLN hln
      go_wp2_with fail
      refine S3.out.mono ?_
      rintro e w5 ⟨rfl, r5, o5, hu5⟩
      have S5 := Lib.hid (S4.out w5 f9 r5 o5)
      have U5 := Lib.hid (HU.out.fresh hu5 (fun c hc => Or.inl (HG.out c hc)))
      clear S3 S4 hu5 r5 o5
      go_wp2_with fail
      refine S5.out.mono ?_
      rintro e w6 ⟨⟨v', rfl, r6, -⟩, o6, hu6⟩
      have U6 := Lib.hid (U5.out.fresh hu6 (fun c hc => Or.inl (HG.out c hc)))
      have HN := Lib.hid (show New R_I1 w w6 v' (setF (callsL body)) from ⟨f9, r6, o6, fun b hb => by have h1 := HG.out b hb; have h2 := UA.out.size; omega⟩)
      clear S5 hu6 r6 o6
      go_wp2_with fail
      go_ret
      exact ⟨⟨_, rfl, HN.out⟩, UA.out.trans U6.out⟩

end Go.Proofs.YtnchmnjkmhfleaaGreat

/-
  Numbers put into a rising list, their places, the definitions that a body calls: what the reference's calls return; the library's place of a number.
-/
namespace Go.Proofs.YtnchmnjkmhfleaaGreat
open Go.RowKit

set_option maxRecDepth 20000 in
set_option maxHeartbeats 2000000 in
theorem indexZ (v : Value) (xs : List Int) (n : Int) (w : World) (fp : List Nat) (hR : R_I1 fp w [v] xs) :
    Calls Tryz.prog 81 #[v, .int .i64 n] w fun e w' => e = .returned (.int .i64 (plcF xs n)) ∧ w = w' := by
  obtain ⟨a1, c1, rfl, hl1, hm1, hc1⟩ := slF1_open hR
  unfold maxLen at hm1
  have HC := Lib.hid hc1
  have HF := Lib.hid (fun k (hk : k < xs.length) (h1 : ∀ j (_ : j < k) (hj : j < xs.length), (fun x : Int => x == n) xs[j] = false) (h2 : (fun x : Int => x == n) xs[k] = true) => show plcF xs n = k from firstP_at k hk h1 h2)
  have HN := Lib.hid (fun (h : ∀ j (hj : j < xs.length), (fun x : Int => x == n) xs[j] = false) => show plcF xs n = -1 from firstP_none h)
  clear hR hc1
  generalize plcF xs n = Z at *
  go_enter Tryz.func81, Tryz.ntmps81
  go_wp2_with fail
  go_loop [8] (fun i => ∃ k : Nat, k ≤ xs.length ∧ i = .int .i64 k ∧ Hid (∀ j (_ : j < k) (hj : j < xs.length), (fun x : Int => x == n) xs[j] = false)) (fun i => xs.length - (intOf i).toNat)
  case atStart => exact ⟨0, Nat.zero_le _, rfl, Lib.hid (fun j hj => absurd hj (Nat.not_lt_zero _))⟩
  case round =>
    obtain ⟨k, hk, rfl, HI⟩ := hrel
    by_cases hlt : k < xs.length
    · obtain ⟨b, off, rfl, -, -, p0⟩ := HC.out k hlt
      have hkl : (k : Int) < (xs.length : Int) := by omega
      have HFK := Lib.hid (HF.out k hlt HI.out)
      have HIK := Lib.hid (fun (h : (xs[k] == n) = false) j (hjk : j < k + 1) (hj : j < xs.length) => (show (fun x : Int => x == n) xs[j] = false by
        by_cases e : j = k
        · subst e; exact h
        · exact HI.out j (by omega) hj))
      clear HC HF HN HI
      generalize xs[k] = x at *
      by_cases hx : n = x
      · subst hx
        have HZ := Lib.hid (HFK.out (by simp))
        clear HFK HIK
        go_wp2_with fail
        go_ret
        exact ⟨by rw [HZ.out]; rfl, rfl⟩
      · have hx1 : (x == n) = false := by rw [beq_eq_false_iff_ne]; exact fun e => hx e.symm
        have hx2 : (n == x) = false := by rw [beq_eq_false_iff_ne]; exact hx
        replace HIK := Lib.hid (HIK.out hx1)
        clear HFK
        go_wp2_with fail
        go_round
        case rel => exact ⟨k + 1, by omega, by go_num, HIK⟩
        case measure => simp [intOf]; omega
    · have HZ := Lib.hid (HN.out (fun j hj => HI.out j (by omega) hj))
      clear HC HF HN HI
      go_wp2_with fail
      go_ret
      exact ⟨by rw [HZ.out]; rfl, rfl⟩

set_option maxRecDepth 20000 in
set_option maxHeartbeats 2000000 in
theorem placeZ (v : Value) (xs : List Int) (n : Int) (w : World) (fp : List Nat) (hR : R_I1 fp w [v] xs) :
    Calls Tryz.prog 79 #[v, .int .i64 n] w fun e w' => e = .returned (.int .i64 (plcF xs n)) ∧ w = w' := by
  obtain ⟨a1, c1, rfl, hl1, hm1, hc1⟩ := slF1_open hR
  unfold maxLen at hm1
  have HC := Lib.hid hc1
  have HF := Lib.hid (fun k (hk : k < xs.length) (h1 : ∀ j (_ : j < k) (hj : j < xs.length), (fun x : Int => x == n) xs[j] = false) (h2 : (fun x : Int => x == n) xs[k] = true) => show plcF xs n = k from firstP_at k hk h1 h2)
  have HN := Lib.hid (fun (h : ∀ j (hj : j < xs.length), (fun x : Int => x == n) xs[j] = false) => show plcF xs n = -1 from firstP_none h)
  clear hR hc1
  generalize plcF xs n = Z at *
  go_enter Tryz.func79, Tryz.ntmps79
  go_wp2_with fail
  go_loop [5] (fun i => ∃ k : Nat, k ≤ xs.length ∧ i = .int .i64 k ∧ Hid (∀ j (_ : j < k) (hj : j < xs.length), (fun x : Int => x == n) xs[j] = false)) (fun i => xs.length - (intOf i).toNat)
  case atStart => exact ⟨0, Nat.zero_le _, rfl, Lib.hid (fun j hj => absurd hj (Nat.not_lt_zero _))⟩
  case round =>
    obtain ⟨k, hk, rfl, HI⟩ := hrel
    by_cases hlt : k < xs.length
    · obtain ⟨b, off, rfl, -, -, p0⟩ := HC.out k hlt
      have hkl : (k : Int) < (xs.length : Int) := by omega
      have HFK := Lib.hid (HF.out k hlt HI.out)
      have HIK := Lib.hid (fun (h : (xs[k] == n) = false) j (hjk : j < k + 1) (hj : j < xs.length) => (show (fun x : Int => x == n) xs[j] = false by
        by_cases e : j = k
        · subst e; exact h
        · exact HI.out j (by omega) hj))
      clear HC HF HN HI
      generalize xs[k] = x at *
      obtain ⟨q, hq⟩ : ∃ q, (x == n) = q := ⟨_, rfl⟩
      rw [hq] at HIK
      cases q with
      | true =>
        have HZ := Lib.hid (HFK.out hq)
        clear HFK HIK
        go_wp2_with fail
        go_ret
        exact ⟨by rw [HZ.out]; rfl, rfl⟩
      | false =>
        replace HIK := Lib.hid (HIK.out rfl)
        clear HFK
        go_wp2_with fail
        go_round
        case rel => exact ⟨k + 1, by omega, by go_num, HIK⟩
        case measure => simp [intOf]; omega
    · have HZ := Lib.hid (HN.out (fun j hj => HI.out j (by omega) hj))
      clear HC HF HN HI
      go_wp2_with fail
      go_ret
      exact ⟨by rw [HZ.out]; rfl, rfl⟩

theorem row0 (w : World) : (w.alloc (.cells #[] 2)).ownsRow w.heap.size 2 1 (.slice (some ⟨w.heap.size, 0, none⟩) 0 0) ([] : List Int).length (([] : List Int).map ei) := by
  simpa using World.ownsRow_lit (base := w.heap.size) (e := 2) (size := 1) w #[] 0 (Nat.le_refl _) (by simp [maxLen]) (by simp)

set_option maxRecDepth 20000 in
set_option maxHeartbeats 8000000 in
theorem putS (v : Value) (xs : List Int) (n : Int) (w : World) (fp : List Nat) (hR : R_I1 fp w [v] xs) (hl : xs.length ≤ 1000) :
    Calls Tryz.prog 119 #[v, .int .i64 n] w fun e w' => (∃ v', e = .returned v' ∧ New R_I1 w w' v' (putF n xs)) ∧ Upd [] w w' := by
  obtain ⟨i1, ki, kz0, kz1, kz2⟩ := info_parts Tryz.info2
  obtain ⟨a1, c1, rfl, hl1, hm1, hc1⟩ := slF1_open hR
  unfold maxLen at hm1
  have HC := Lib.hid hc1
  have H0 := Lib.hid (row0 w)
  have HST := Lib.hid (fun k (h : k < xs.length) d => show putGo n (xs.drop k) d = putGo n (xs[k] :: xs.drop (k + 1)) d from by rw [List.drop_eq_getElem_cons h])
  have HEN := Lib.hid (fun d => show putGo n (xs.drop xs.length) d = (if d = true then [] else [n]) from by rw [List.drop_length]; cases d <;> rfl)
  have HZ0 := Lib.hid (show [] ++ putGo n (xs.drop 0) false = putF n xs from rfl)
  clear hR hc1
  generalize putF n xs = Z at *
  go_enter Tryz.func119, Tryz.ntmps119
  go_wp2_with fail
  go_loopw [5, 6, 7] (fun ov dv iv wr => ∃ (k : Nat) (d : Bool) (out : List Int), k ≤ xs.length ∧ iv = .int .i64 k ∧ dv = .bool d ∧ Hid (Upd [] w wr) ∧ w.heap.size ≤ wr.heap.size ∧ Hid (wr.ownsRow w.heap.size 2 1 ov out.length (out.map ei)) ∧ Hid (out ++ putGo n (xs.drop k) d = Z) ∧ out.length ≤ 2 * k) (fun _ _ iv _ => xs.length - (intOf iv).toNat)
  case atStart => exact ⟨0, false, [], Nat.zero_le _, rfl, rfl, Lib.hid ((Upd.refl _ _).alloc _), by simp, H0, HZ0, by simp⟩
  case round =>
    obtain ⟨wo, rfl⟩ : ∃ wo : World, wo = wr := ⟨_, rfl⟩
    obtain ⟨k, d, out, hk, rfl, rfl, HU, hsz, HO, HE, hol⟩ := hrel
    by_cases hlt : k < xs.length
    · obtain ⟨b, off, rfl, -, hbl, p0⟩ := HC.out k hlt
      have p0 := HU.out.keep p0
      have hkl : (k : Int) < (xs.length : Int) := by omega
      have HE := Lib.hid (show out ++ putGo n (xs[k] :: xs.drop (k + 1)) d = Z by rw [← HST.out k hlt d]; exact HE.out)
      have P2 := Lib.hid (fun W (hu : Upd [] w W) => show W.cell? ⟨b, off + k, none⟩ = some (ei xs[k]) from by
        obtain ⟨b', off', e, -, -, h⟩ := HC.out k hlt
        cases e; exact hu.keep h)
      clear HC HST HEN HZ0 H0
      generalize xs[k] = x at *
      cases d with
      | true =>
        have HE := Lib.hid (show (out ++ [x]) ++ putGo n (xs.drop (k + 1)) true = Z by rw [← HE.out, putGo, List.append_assoc]; rfl)
        have hown1 := HO.out
        have HOW1 := Lib.hid hown1
        obtain ⟨oa1, oc1, hv1⟩ := ownsRow_form hown1
        subst hv1
        go_wp2_with (first
          | (at_builtin; refine wpList_append_tight _ rfl _ _ 36 rfl w.heap.size 2 i1 (.int .i64 0) 1 8 Tryz.underlying36 ki kz0 kz1 kz2 rfl (by decide) _ _ _ rfl (hown1.alloc _) ⟨wo.heap.size, 0, none⟩ 1 1 [ei x] rfl rfl (fun j u hj => by rw [addr_add]; exact cell_new wo #[ei x] _ _ rfl _ _ (by simpa using hj)) (by simp [Value.oneCell']) (by unfold maxLen; omega) (by omega) (by simp; omega) ?_)
          | fail)
        intro v2 w2 hq1 hg1 ht1
        obtain ⟨O1, hO1⟩ : ∃ O, O = out ++ [x] := ⟨_, rfl⟩
        have HO1 := Lib.hid (show w2.ownsRow w.heap.size 2 1 v2 O1.length (O1.map ei) by rw [hO1, List.length_append, List.map_append]; simpa using hq1)
        have HU1 := Lib.hid ((HU.out.alloc (.cells #[ei x] 2)).grown hg1 (fun b hb => Or.inl (HOW1.out.lt b hb).1))
        have hL1 : O1.length ≤ out.length + 1 := by rw [hO1]; simp
        have HOE1 := Lib.hid hO1
        have hsz1 : w.heap.size ≤ w2.heap.size := HU1.out.size
        clear hown1 hq1 hg1 ht1 HOW1 hO1
        go_wp2_with fail
        go_roundw
        case rel => exact ⟨k + 1, true, O1, by omega, by go_num, rfl, HU1, HU1.out.size, HO1, Lib.hid (by rw [HOE1.out]; exact HE.out), by omega⟩
        case measure => simp [intOf]; omega
      | false =>
        by_cases hge : n ≤ x
        · by_cases hgt : n < x
          · have HE := Lib.hid (show ((out ++ [n]) ++ [x]) ++ putGo n (xs.drop (k + 1)) true = Z by rw [← HE.out, putGo, if_pos hge, if_pos hgt]; simp)
            have hown1 := HO.out
            have HOW1 := Lib.hid hown1
            obtain ⟨oa1, oc1, hv1⟩ := ownsRow_form hown1
            subst hv1
            go_wp2_with (first
              | (at_builtin; refine wpList_append_tight _ rfl _ _ 36 rfl w.heap.size 2 i1 (.int .i64 0) 1 8 Tryz.underlying36 ki kz0 kz1 kz2 rfl (by decide) _ _ _ rfl (hown1.alloc _) ⟨wo.heap.size, 0, none⟩ 1 1 [ei n] rfl rfl (fun j u hj => by rw [addr_add]; exact cell_new wo #[ei n] _ _ rfl _ _ (by simpa using hj)) (by simp [Value.oneCell']) (by unfold maxLen; omega) (by omega) (by simp; omega) ?_)
              | fail)
            intro v2 w2 hq1 hg1 ht1
            obtain ⟨O1, hO1⟩ : ∃ O, O = out ++ [n] := ⟨_, rfl⟩
            have HO1 := Lib.hid (show w2.ownsRow w.heap.size 2 1 v2 O1.length (O1.map ei) by rw [hO1, List.length_append, List.map_append]; simpa using hq1)
            have HU1 := Lib.hid ((HU.out.alloc (.cells #[ei n] 2)).grown hg1 (fun b hb => Or.inl (HOW1.out.lt b hb).1))
            have hL1 : O1.length ≤ out.length + 1 := by rw [hO1]; simp
            have HOE1 := Lib.hid hO1
            have hsz1 : w.heap.size ≤ w2.heap.size := HU1.out.size
            clear hown1 hq1 hg1 ht1 HOW1 hO1
            have p0 := P2.out w2 HU1.out
            have hown2 := HO1.out
            have HOW2 := Lib.hid hown2
            obtain ⟨oa2, oc2, hv2⟩ := ownsRow_form hown2
            subst hv2
            go_wp2_with (first
              | (at_builtin; refine wpList_append_tight _ rfl _ _ 36 rfl w.heap.size 2 i1 (.int .i64 0) 1 8 Tryz.underlying36 ki kz0 kz1 kz2 rfl (by decide) _ _ _ rfl (hown2.alloc _) ⟨w2.heap.size, 0, none⟩ 1 1 [ei x] rfl rfl (fun j u hj => by rw [addr_add]; exact cell_new w2 #[ei x] _ _ rfl _ _ (by simpa using hj)) (by simp [Value.oneCell']) (by unfold maxLen; omega) (by omega) (by simp; omega) ?_)
              | fail)
            intro v3 w3 hq2 hg2 ht2
            obtain ⟨O2, hO2⟩ : ∃ O, O = O1 ++ [x] := ⟨_, rfl⟩
            have HO2 := Lib.hid (show w3.ownsRow w.heap.size 2 1 v3 O2.length (O2.map ei) by rw [hO2, List.length_append, List.map_append]; simpa using hq2)
            have HU2 := Lib.hid ((HU1.out.alloc (.cells #[ei x] 2)).grown hg2 (fun b hb => Or.inl (HOW2.out.lt b hb).1))
            have hL2 : O2.length ≤ O1.length + 1 := by rw [hO2]; simp
            have HOE2 := Lib.hid hO2
            have hsz2 : w.heap.size ≤ w3.heap.size := HU2.out.size
            clear hown2 hq2 hg2 ht2 HOW2 hO2
            go_wp2_with fail
            go_roundw
            case rel => exact ⟨k + 1, true, O2, by omega, by go_num, rfl, HU2, HU2.out.size, HO2, Lib.hid (by rw [HOE2.out, HOE1.out]; exact HE.out), by omega⟩
            case measure => simp [intOf]; omega
          · have HE := Lib.hid (show (out ++ [x]) ++ putGo n (xs.drop (k + 1)) true = Z by rw [← HE.out, putGo, if_pos hge, if_neg hgt]; simp)
            have hown1 := HO.out
            have HOW1 := Lib.hid hown1
            obtain ⟨oa1, oc1, hv1⟩ := ownsRow_form hown1
            subst hv1
            go_wp2_with (first
              | (at_builtin; refine wpList_append_tight _ rfl _ _ 36 rfl w.heap.size 2 i1 (.int .i64 0) 1 8 Tryz.underlying36 ki kz0 kz1 kz2 rfl (by decide) _ _ _ rfl (hown1.alloc _) ⟨wo.heap.size, 0, none⟩ 1 1 [ei x] rfl rfl (fun j u hj => by rw [addr_add]; exact cell_new wo #[ei x] _ _ rfl _ _ (by simpa using hj)) (by simp [Value.oneCell']) (by unfold maxLen; omega) (by omega) (by simp; omega) ?_)
              | fail)
            intro v2 w2 hq1 hg1 ht1
            obtain ⟨O1, hO1⟩ : ∃ O, O = out ++ [x] := ⟨_, rfl⟩
            have HO1 := Lib.hid (show w2.ownsRow w.heap.size 2 1 v2 O1.length (O1.map ei) by rw [hO1, List.length_append, List.map_append]; simpa using hq1)
            have HU1 := Lib.hid ((HU.out.alloc (.cells #[ei x] 2)).grown hg1 (fun b hb => Or.inl (HOW1.out.lt b hb).1))
            have hL1 : O1.length ≤ out.length + 1 := by rw [hO1]; simp
            have HOE1 := Lib.hid hO1
            have hsz1 : w.heap.size ≤ w2.heap.size := HU1.out.size
            clear hown1 hq1 hg1 ht1 HOW1 hO1
            go_wp2_with fail
            go_roundw
            case rel => exact ⟨k + 1, true, O1, by omega, by go_num, rfl, HU1, HU1.out.size, HO1, Lib.hid (by rw [HOE1.out]; exact HE.out), by omega⟩
            case measure => simp [intOf]; omega
        · have HE := Lib.hid (show (out ++ [x]) ++ putGo n (xs.drop (k + 1)) false = Z by rw [← HE.out, putGo, if_neg hge]; simp)
          have hown1 := HO.out
          have HOW1 := Lib.hid hown1
          obtain ⟨oa1, oc1, hv1⟩ := ownsRow_form hown1
          subst hv1
          go_wp2_with (first
            | (at_builtin; refine wpList_append_tight _ rfl _ _ 36 rfl w.heap.size 2 i1 (.int .i64 0) 1 8 Tryz.underlying36 ki kz0 kz1 kz2 rfl (by decide) _ _ _ rfl (hown1.alloc _) ⟨wo.heap.size, 0, none⟩ 1 1 [ei x] rfl rfl (fun j u hj => by rw [addr_add]; exact cell_new wo #[ei x] _ _ rfl _ _ (by simpa using hj)) (by simp [Value.oneCell']) (by unfold maxLen; omega) (by omega) (by simp; omega) ?_)
            | fail)
          intro v2 w2 hq1 hg1 ht1
          obtain ⟨O1, hO1⟩ : ∃ O, O = out ++ [x] := ⟨_, rfl⟩
          have HO1 := Lib.hid (show w2.ownsRow w.heap.size 2 1 v2 O1.length (O1.map ei) by rw [hO1, List.length_append, List.map_append]; simpa using hq1)
          have HU1 := Lib.hid ((HU.out.alloc (.cells #[ei x] 2)).grown hg1 (fun b hb => Or.inl (HOW1.out.lt b hb).1))
          have hL1 : O1.length ≤ out.length + 1 := by rw [hO1]; simp
          have HOE1 := Lib.hid hO1
          have hsz1 : w.heap.size ≤ w2.heap.size := HU1.out.size
          clear hown1 hq1 hg1 ht1 HOW1 hO1
          go_wp2_with fail
          go_roundw
          case rel => exact ⟨k + 1, false, O1, by omega, by go_num, rfl, HU1, HU1.out.size, HO1, Lib.hid (by rw [HOE1.out]; exact HE.out), by omega⟩
          case measure => simp [intOf]; omega
    · obtain rfl : k = xs.length := by omega
      have HE := Lib.hid (show out ++ (if d = true then [] else [n]) = Z by rw [← HEN.out d]; exact HE.out)
      clear HC HST HEN HZ0 H0
      cases d with
      | true =>
        have HN := Lib.hid (show New R_I1 w wo u5 Z from by rw [← HE.out, if_pos rfl, List.append_nil]; exact New.ofOwns HO.out)
        clear HO HE
        go_wp2_with fail
        go_ret
        exact ⟨⟨_, rfl, HN.out⟩, HU.out⟩
      | false =>
        have hown1 := HO.out
        have HOW1 := Lib.hid hown1
        obtain ⟨oa1, oc1, hv1⟩ := ownsRow_form hown1
        subst hv1
        go_wp2_with (first
          | (at_builtin; refine wpList_append_tight _ rfl _ _ 36 rfl w.heap.size 2 i1 (.int .i64 0) 1 8 Tryz.underlying36 ki kz0 kz1 kz2 rfl (by decide) _ _ _ rfl (hown1.alloc _) ⟨wo.heap.size, 0, none⟩ 1 1 [ei n] rfl rfl (fun j u hj => by rw [addr_add]; exact cell_new wo #[ei n] _ _ rfl _ _ (by simpa using hj)) (by simp [Value.oneCell']) (by unfold maxLen; omega) (by omega) (by simp; omega) ?_)
          | fail)
        intro v2 w2 hq1 hg1 ht1
        obtain ⟨O1, hO1⟩ : ∃ O, O = out ++ [n] := ⟨_, rfl⟩
        have HO1 := Lib.hid (show w2.ownsRow w.heap.size 2 1 v2 O1.length (O1.map ei) by rw [hO1, List.length_append, List.map_append]; simpa using hq1)
        have HU1 := Lib.hid ((HU.out.alloc (.cells #[ei n] 2)).grown hg1 (fun b hb => Or.inl (HOW1.out.lt b hb).1))
        have hL1 : O1.length ≤ out.length + 1 := by rw [hO1]; simp
        have HOE1 := Lib.hid hO1
        have hsz1 : w.heap.size ≤ w2.heap.size := HU1.out.size
        clear hown1 hq1 hg1 ht1 HOW1 hO1
        have HN := Lib.hid (show New R_I1 w w2 v2 Z from by rw [← HE.out, if_neg (by simp), ← HOE1.out]; exact New.ofOwns HO1.out)
        clear HO HE HO1
        go_wp2_with fail
        go_ret
        exact ⟨⟨_, rfl, HN.out⟩, HU1.out⟩

theorem putF_setF (n : Int) (l : List Int) : putF n (setF l) = setF (l ++ [n]) :=
  rise_ext (putF_pair n _ (setF_pair l)) (setF_pair _) (fun x => by
    rw [setF_mem]
    refine (putF_mem n x _).trans ?_
    rw [setF_mem, List.mem_append, List.mem_singleton]
    exact Or.comm)
theorem setF_nil : setF [] = [] := List.eq_nil_iff_forall_not_mem.2 (fun x hx => by have := (setF_mem [] x).1 hx; simp at this)
set_option maxRecDepth 20000 in
set_option maxHeartbeats 8000000 in
theorem callsS (v : Value) (body : List Pa) (w : World) (fp : List Nat) (hR : R_Pa1 fp w [v] body) (hl : body.length ≤ 1000) :
    Calls Tryz.prog 120 #[v] w fun e w' => (∃ v', e = .returned v' ∧ New R_I1 w w' v' (setF (callsL body))) ∧ Upd [] w w' := by
  obtain ⟨a, c, rfl, l1, m1, hc⟩ := slQ_open hR
  unfold maxLen at m1
  have HC := Lib.hid hc
  have H0 := Lib.hid (show New R_I1 w (w.alloc (.cells #[] 2)) (.slice (some ⟨w.heap.size, 0, none⟩) 0 0) (setF (callsL (body.take 0))) from by
    rw [List.take_zero, show callsL [] = [] from rfl, setF_nil]; exact New.ofOwns (row0 w))
  have HSN := Lib.hid (fun k (h : k < body.length) => show callsL (body.take (k + 1)) = callsL (body.take k) ++ (if (body[k].kind == 5) = true then [body[k].num] else []) from by rw [List.take_succ_eq_append_getElem h, callsL_snoc])
  have HLN := Lib.hid (fun k => show (setF (callsL (body.take k))).length ≤ 1000 from setF_len2 _ _ (by have := callsL_len (body.take k); rw [List.length_take] at this; omega))
  have HZ := Lib.hid (show setF (callsL (body.take body.length)) = setF (callsL body) by rw [List.take_length])
  clear hR hc
  generalize setF (callsL body) = Z at *
  go_enter Tryz.func120, Tryz.ntmps120
  go_wp2_with fail
  go_loopw [3, 4] (fun ov iv wr => ∃ k : Nat, k ≤ body.length ∧ iv = .int .i64 k ∧ Hid (Upd [] w wr) ∧ Hid (New R_I1 w wr ov (setF (callsL (body.take k))))) (fun _ iv _ => body.length - (intOf iv).toNat)
  case atStart => exact ⟨0, Nat.zero_le _, rfl, Lib.hid ((Upd.refl _ _).alloc _), H0⟩
  case round =>
    obtain ⟨wo, rfl⟩ : ∃ wo : World, wo = wr := ⟨_, rfl⟩
    obtain ⟨k, hk, rfl, HU, HO⟩ := hrel
    by_cases hlt : k < body.length
    · obtain ⟨bb, off, u, f', rfl, -, -, -, hcell, -, hr⟩ := HC.out k hlt
      obtain ⟨va, fa, rfl, -, -⟩ := hr
      have s0 := HU.out.keep (hcell 0 _ rfl)
      have s1 := HU.out.keep (hcell 1 _ rfl)
      simp only [Nat.add_zero] at s0
      have hkl : (k : Int) < (body.length : Int) := by omega
      have HK1 := Lib.hid (HSN.out k hlt)
      have hln := HLN.out k
      clear hcell HC HSN HLN HZ H0
      generalize body[k] = p at *
      obtain ⟨kind, num, pname, pargs⟩ := p
      simp only at *
      obtain ⟨q, hq⟩ : ∃ q, (kind == 5) = q := ⟨_, rfl⟩
      rw [hq] at HK1
      cases q with
      | false =>
        have HO2 := Lib.hid (show New R_I1 w wo u3 (setF (callsL (body.take (k + 1)))) by rw [HK1.out]; simpa using HO.out)
        clear HO HK1
        go_wp2_with fail
        go_roundw
        case rel => exact ⟨k + 1, by omega, by go_num, HU, HO2⟩
        case measure => simp [intOf]; omega
      | true =>
        obtain ⟨f3, r3, -, -⟩ := HO.out
        have S1 := Lib.hid (putS u3 _ num wo f3 r3 hln)
        have HW := Lib.hid HU.out.size
        clear HO r3
        go_wp2_with fail
        refine S1.out.mono ?_
        rintro e w2 ⟨⟨v2, rfl, hn2⟩, hu2⟩
        have HU2 := Lib.hid (HU.out.trans hu2)
        have HO2 := Lib.hid (show New R_I1 w w2 v2 (setF (callsL (body.take (k + 1)))) by
          rw [HK1.out, if_pos trivial, ← putF_setF]; exact hn2.mono HW.out)
        clear S1 hn2 hu2 HK1 s0 s1
        go_wp2_with fail
        go_roundw
        case rel => exact ⟨k + 1, by omega, by go_num, HU2, HO2⟩
        case measure => simp [intOf]; omega
    · obtain rfl : k = body.length := by omega
      have HN := Lib.hid (show New R_I1 w wo u3 Z by rw [← HZ.out]; exact HO.out)
      clear HC HSN HLN HZ H0 HO
      go_wp2_with fail
      go_ret
      exact ⟨⟨_, rfl, HN.out⟩, HU.out⟩

end Go.Proofs.YtnchmnjkmhfleaaGreat

/-
  The definitions that components can come to: what the program's call returns.
-/
namespace Go.Proofs.YtnchmnjkmhfleaaGreat
open Go.RowKit

/-- a worklist of definitions, the first i of which have been looked at. -/
structure UsInv (s : Sy) (L : List Int) (i : Nat) : Prop where
  pre : ∃ N, L = s.comps.map Co.dfn ++ N ∧ N.Nodup ∧ ∀ x ∈ N, 0 ≤ x ∧ x < s.defs.length
  rch : ∀ x ∈ L, Rch s x
  clo : ∀ t, t < i → ∀ (ht : t < L.length), ∀ j ∈ callsL (bodyAt s L[t]), j ∈ L
namespace UsInv
variable {s : Sy} {L : List Int} {i : Nat}
theorem start (s : Sy) : UsInv s (s.comps.map Co.dfn) 0 :=
  ⟨⟨[], by simp, by simp, by simp⟩, fun x hx => by obtain ⟨c, hc, rfl⟩ := List.mem_map.1 hx; exact Rch.comp c hc, fun t ht => absurd ht (Nat.not_lt_zero _)⟩
theorem len (h : UsInv s L i) (hK : SyGd s) : L.length ≤ 7 := by
  obtain ⟨N, rfl, h1, h2⟩ := h.pre
  have h3 := nodup_range _ h1 h2
  have h4 := hK.dl
  have h5 := hK.cl.2
  rw [List.length_append, List.length_map]; omega
theorem push (h : UsInv s L i) (hi : i ≤ L.length) {y x : Int} (hy : y ∈ L) (hx : x ∈ callsL (bodyAt s y)) (hr : 0 ≤ x ∧ x < s.defs.length) (hn : x ∉ L) : UsInv s (L ++ [x]) i := by
  obtain ⟨N, hL, h1, h2⟩ := h.pre
  refine ⟨⟨N ++ [x], by rw [hL, List.append_assoc], ?_, fun z hz => ?_⟩, fun z hz => ?_, fun t ht htl j hj => ?_⟩
  · rw [List.nodup_append]
    refine ⟨h1, by simp, fun a ha b hb e => ?_⟩
    simp at hb; subst hb; subst e
    exact hn (by rw [hL]; exact List.mem_append_right _ ha)
  · rcases List.mem_append.1 hz with hz | hz
    · exact h2 z hz
    · simp at hz; subst hz; exact hr
  · rcases List.mem_append.1 hz with hz | hz
    · exact h.rch z hz
    · simp at hz; subst hz; exact Rch.call y _ (h.rch y hy) hx
  · rw [List.getElem_append_left (by omega)] at hj
    exact List.mem_append_left _ (h.clo t ht (by omega) j hj)
theorem next (h : UsInv s L i) (hi : i < L.length) (hc : ∀ j ∈ callsL (bodyAt s L[i]), j ∈ L) : UsInv s L (i + 1) := by
  refine ⟨h.pre, h.rch, fun t ht htl j hj => ?_⟩
  by_cases e : t = i
  · subst e; exact hc j hj
  · exact h.clo t (by omega) htl j hj
theorem done (h : UsInv s L L.length) (hok : sysOk s = true) : setF L = usedF s := by
  refine used_ext hok (setF_pair L) (fun c hc => ?_) (fun x hx j hj => ?_) (fun x hx => h.rch x ((setF_mem L x).1 hx))
  · obtain ⟨N, hL, -, -⟩ := h.pre
    exact (setF_mem L _).2 (by rw [hL]; exact List.mem_append_left _ (List.mem_map_of_mem hc))
  · obtain ⟨t, ht, rfl⟩ := List.mem_iff_getElem.1 ((setF_mem L x).1 hx)
    exact (setF_mem L _).2 (h.clo t ht ht j hj)
end UsInv
theorem take_eqAt {L' L : List Int} {i : Nat} (h : L'.take (i + 1) = L.take (i + 1)) (hl' : i < L'.length) (hl : i < L.length) : L'[i] = L[i] := by
  have h1 : (L'.take (i + 1))[i]? = (L.take (i + 1))[i]? := by rw [h]
  rw [List.getElem?_take, List.getElem?_take, if_pos (by omega), if_pos (by omega), List.getElem?_eq_getElem hl', List.getElem?_eq_getElem hl] at h1
  exact Option.some.inj h1
theorem used_at {s : Sy} (hok : sysOk s = true) {x : Int} (h : Rch s x) : ∃ j : Nat, x = j ∧ j < s.defs.length := by
  have := rch_range hok h
  exact ⟨x.toNat, by omega, by omega⟩

set_option maxRecDepth 20000 in
set_option maxHeartbeats 8000000 in
theorem usedI (cs : List Value) (s : Sy) (w : World) (fp : List Nat) (hR : R_Sy fp w cs s) (hok : sysOk s = true) :
    Calls Tryz.prog 80 #[.agg cs.toArray] w fun e w' => (∃ v', e = .returned v' ∧ New R_I1 w w' v' (usedF s)) ∧ Upd [] w w' := by
  obtain ⟨i1, ki, kz0, kz1, kz2⟩ := info_parts Tryz.info2
  obtain ⟨v0, v1, v2, v3, v4, f0, f1, f2, f3, f4, rfl, h0, h1, -, -, -, rfl⟩ := hR
  obtain ⟨a0, c0, rfl, l0, m0, hd⟩ := slQ_open h0
  obtain ⟨a1, c1, rfl, l1, m1, hc⟩ := slQ_open h1
  unfold maxLen at m0 m1
  have hK := SyGd.of hok
  have hcl := hK.cl
  have hdl := hK.dl
  obtain ⟨B, hB⟩ : ∃ q, q = w.heap.size := ⟨_, rfl⟩
  obtain ⟨wA, hwA⟩ : ∃ q, q = w.alloc (.cells #[.slice a0 s.defs.length c0, .slice a1 s.comps.length c1, v2, v3, v4] 29) := ⟨_, rfl⟩
  have uA : Upd [] w wA := by rw [hwA]; exact (Upd.refl _ _).alloc _
  have x0 : wA.cell? ⟨B, 0, none⟩ = some (.slice a0 s.defs.length c0) := by rw [hwA, hB]; exact cell_new w _ _ _ rfl 0 _ rfl
  have x1 : wA.cell? ⟨B, 1, none⟩ = some (.slice a1 s.comps.length c1) := by rw [hwA, hB]; exact cell_new w _ _ _ rfl 1 _ rfl
  have X0 := Lib.hid (fun W2 (hu : Upd [] wA W2) => hu.keep x0)
  have UA := Lib.hid uA
  have HC := Lib.hid (fun W2 (hu : Upd [] wA W2) i (hi : i < s.comps.length) => show ∃ b off v, a1 = some ⟨b, off, none⟩ ∧ (∃ p n q, v = .slice p n q) ∧ W2.cell? ⟨b, off + i * 2, none⟩ = some (ei s.comps[i].dfn) ∧ W2.cell? ⟨b, off + i * 2 + 1, none⟩ = some v from by
    obtain ⟨b, off, u, f, e, -, -, -, hcell, -, hr⟩ := hc i hi
    obtain ⟨v, g, rfl, hv, -⟩ := hr
    obtain ⟨p, q, rfl, -, -, -⟩ := slF1_open hv
    have hu2 := uA.trans hu
    exact ⟨b, off, _, e, ⟨_, _, _, rfl⟩, hu2.keep (by simpa using hcell 0 _ rfl), hu2.keep (hcell 1 _ rfl)⟩)
  have HD := Lib.hid (fun W2 (hu : Upd [] wA W2) i (hi : i < s.defs.length) => show ∃ b off v g, a0 = some ⟨b, off, none⟩ ∧ W2.cell? ⟨b, off + i * 3, none⟩ = some (es s.defs[i].name) ∧ W2.cell? ⟨b, off + i * 3 + 1, none⟩ = some (ei s.defs[i].pars) ∧ W2.cell? ⟨b, off + i * 3 + 2, none⟩ = some v ∧ R_De g W2 [es s.defs[i].name, ei s.defs[i].pars, v] s.defs[i] from by
    obtain ⟨b, off, u, f, e, -, -, -, hcell, -, hr⟩ := hd i hi
    have hr' := hr
    obtain ⟨v, g, rfl, -, -⟩ := hr
    have hu2 := uA.trans hu
    exact ⟨b, off, v, _, e, hu2.keep (by simpa using hcell 0 _ rfl), hu2.keep (hcell 1 _ rfl), hu2.keep (hcell 2 _ rfl), R_Dek.upd hr' hu2 (by simp)⟩)
  have HBL := Lib.hid (fun i (hi : i < s.defs.length) => show s.defs[i].body.length ≤ 1000 from by
    have := ((defs_fine hK.defs).2.2.2.2 _ (List.getElem_mem hi)).2.1
    omega)
  have HOK := Lib.hid hok
  have HK := Lib.hid hK
  have HBA := Lib.hid (fun j (h : j < s.defs.length) => bodyAt_eq s j h)
  clear h0 h1 hd hc uA hok hK
  go_enter Tryz.func80, Tryz.ntmps80
  go_upto_region 1 with (fail)
  rw [← hwA, ← hB]
  clear hwA hB
  go_wp2_with fail
  go_loopw [3, 12] (fun ov iv wr => ∃ k : Nat, k ≤ s.comps.length ∧ iv = .int .i64 k ∧ Hid (Upd [] wA wr) ∧ wA.heap.size ≤ wr.heap.size ∧ Hid (wr.ownsRow wA.heap.size 2 1 ov k (((s.comps.take k).map Co.dfn).map ei))) (fun _ iv _ => s.comps.length - (intOf iv).toNat)
  case atStart => exact ⟨0, Nat.zero_le _, rfl, Lib.hid (Upd.refl _ _), Nat.le_refl _, Lib.hid (World.ownsRow_nil _ _ _ _)⟩
  case round =>
    clear x0 x1
    obtain ⟨wo, rfl⟩ : ∃ wo : World, wo = wr := ⟨_, rfl⟩
    obtain ⟨k, hk, rfl, HU, hsz, HO⟩ := hrel
    by_cases hlt : k < s.comps.length
    · obtain ⟨bb, off, va, rfl, ⟨pa, pn, pc, rfl⟩, s0, s1⟩ := HC.out wo HU.out k hlt
      have hkl : (k : Int) < (s.comps.length : Int) := by omega
      have HTK := Lib.hid (List.take_succ_eq_append_getElem hlt)
      clear HC HD HBL HBA X0
      generalize s.comps[k] = c at *
      obtain ⟨dfn, vals⟩ := c
      simp only at *
      obtain ⟨wB, hwB⟩ : ∃ q, q = wo.alloc (.cells #[ei dfn, .slice pa pn pc] 38) := ⟨_, rfl⟩
      obtain ⟨BB, hBB⟩ : ∃ q, q = wo.heap.size := ⟨_, rfl⟩
      have uB : Upd [] wo wB := by rw [hwB]; exact (Upd.refl _ _).alloc _
      have y0 : wB.cell? ⟨BB, 0, none⟩ = some (ei dfn) := by rw [hwB, hBB]; exact cell_new wo _ _ _ rfl 0 _ rfl
      have HUB := Lib.hid (HU.out.trans uB)
      have hown := ownsRow_upd HO.out uB
      have HOW := Lib.hid hown
      have hszB : wA.heap.size ≤ wB.heap.size := HUB.out.size
      obtain ⟨oa, oc, rfl⟩ := ownsRow_form hown
      clear uB HU HO
      go_upto_region 5 with (fail)
      rw [← hwB, ← hBB]
      clear hwB hBB s0 s1
      go_wp2_with (first
        | (at_builtin; refine wpList_append_tight _ rfl _ _ 36 rfl wA.heap.size 2 i1 (.int .i64 0) 1 8 Tryz.underlying36 ki kz0 kz1 kz2 rfl (by decide) _ _ _ rfl (hown.alloc _) ⟨wB.heap.size, 0, none⟩ 1 1 [ei dfn] rfl rfl (fun j u hj => by rw [addr_add]; exact cell_new wB #[ei dfn] _ _ rfl _ _ (by simpa using hj)) (by simp [Value.oneCell']) (by unfold maxLen; omega) (by omega) (by simp; omega) ?_)
        | fail)
      intro v2 w2 hown2 hg2 ht2
      have HO2 := Lib.hid (show w2.ownsRow wA.heap.size 2 1 v2 (k + 1) (((s.comps.take (k + 1)).map Co.dfn).map ei) by rw [HTK.out, List.map_append, List.map_append]; simpa using hown2)
      have HU2 := Lib.hid ((HUB.out.alloc (.cells #[ei dfn] 2)).grown hg2 (fun b hb => Or.inl (HOW.out.lt b hb).1))
      clear hown hown2 hg2 ht2 HOW HUB y0
      go_wp2_with fail
      go_roundw
      case rel => exact ⟨k + 1, by omega, by go_num, HU2, HU2.out.size, HO2⟩
      case measure => simp [intOf]; omega
    · obtain rfl : k = s.comps.length := by omega
      have hown := HO.out
      rw [List.take_length] at hown
      have HO1 := Lib.hid (show wo.ownsRow wA.heap.size 2 1 u3 (s.comps.map Co.dfn).length ((s.comps.map Co.dfn).map ei) by rw [List.length_map]; exact hown)
      have HI0 := Lib.hid (UsInv.start s)
      have HU1 := Lib.hid HU.out
      clear HO HU hown HC hsz
      go_wp2_with fail
      go_loopw [3, 6] (fun ov iv wr => ∃ (L : List Int) (i : Nat), i ≤ L.length ∧ iv = .int .i64 i ∧ Hid (UsInv s L i) ∧ Hid (wr.ownsRow wA.heap.size 2 1 ov L.length (L.map ei)) ∧ Hid (Upd [] wA wr)) (fun _ iv _ => 8 - (intOf iv).toNat)
      case atStart => exact ⟨_, 0, Nat.zero_le _, rfl, HI0, HO1, HU1⟩
      case round =>
        clear HI0 HO1 HU1
        obtain ⟨wo, rfl⟩ : ∃ wo : World, wo = wr := ⟨_, rfl⟩
        obtain ⟨L, i, hi, rfl, HI, HO, HU⟩ := hrel
        obtain ⟨oa, oc, hov⟩ := ownsRow_form HO.out
        subst hov
        have hLl := HI.out.len HK.out
        by_cases hlt : i < L.length
        · obtain ⟨fr, rr, -, -⟩ := New.ofOwns HO.out
          obtain ⟨ra, rc, hrv, -, hrm, hrc⟩ := slF1_open rr
          cases hrv
          obtain ⟨b, o, rfl, -, hbl, q1⟩ := hrc i hlt
          have hil : (i : Int) < (L.length : Int) := by omega
          have z0 := X0.out wo HU.out
          have HY := Lib.hid (List.getElem_mem hlt)
          have HLY := Lib.hid (fun (L' : List Int) (h : L'.take (i + 1) = L.take (i + 1)) (hl : i < L'.length) => take_eqAt h hl hlt)
          have hRc := HI.out.rch _ (List.getElem_mem hlt)
          generalize L[i] = y at *
          obtain ⟨j0, rfl, hj0⟩ := used_at HOK.out hRc
          have hjl : (j0 : Int) < (s.defs.length : Int) := by omega
          obtain ⟨bd, od, vd, gd, rfl, d0, d1, d2, rd⟩ := HD.out wo HU.out j0 hj0
          have S1 := Lib.hid (callsI _ s.defs[j0] wo.drew gd (R_Dek.upd rd (Upd.refl [] wo).drew (by simp)) (HBL.out j0 hj0))
          have HFL := Lib.hid (setF_len2 (callsL s.defs[j0].body) 1000 (by have h1 := callsL_len s.defs[j0].body; have h2 := HBL.out j0 hj0; omega))
          have HTY := Lib.hid (fun x => show x ∈ callsL (bodyAt s j0) ↔ x ∈ setF (callsL s.defs[j0].body) from by rw [HBA.out j0 hj0]; exact (setF_mem _ x).symm)
          clear rr hrc hRc rd HBL HBA
          generalize s.defs[j0] = dj at *
          obtain ⟨dname, dpars, dbody⟩ := dj
          simp only at *
          generalize setF (callsL dbody) = FO at *
          go_wp2_with fail
          go_region_held3 (fun w' => w'.cell? ⟨B, 0, none⟩ = some (.slice (some ⟨bd, od, none⟩) s.defs.length c0) ∧ w'.cell? ⟨b, o + i, none⟩ = some (ei (j0 : Int)) ∧ w'.cell? ⟨bd, od + j0 * 3, none⟩ = some (es dname) ∧ w'.cell? ⟨bd, od + j0 * 3 + 1, none⟩ = some (ei dpars) ∧ w'.cell? ⟨bd, od + j0 * 3 + 2, none⟩ = some vd) (first | go_keep | simp [*])
            (first
              | ((go_at_call 121); (with_reducible refine S1.out.mono ?_); rintro e w4 ⟨⟨v4, rfl, hn4⟩, hu4⟩; obtain ⟨va, vc, rfl⟩ := hn4.form; obtain ⟨g4, r4, -, ge4⟩ := hn4; have e0 := hu4.keep z0; have e1 := hu4.keep q1; have e2 := hu4.keep d0; have e3 := hu4.keep d1; have e4 := hu4.keep d2))
          have HR4 := Lib.hid r4
          have HBW := Lib.hid (show b < wo.heap.size by assumption)
          have HG4 := Lib.hid (fun c (hc : c ∈ g4) => show c ≠ b by have h1 := ge4 c hc; have h2 := HBW.out; simp at h1; omega)
          have HU4 := Lib.hid (HU.out.trans ((Upd.refl [] wo).drew.trans hu4))
          have HO4 := Lib.hid (ownsRow_upd HO.out ((Upd.refl [] wo).drew.trans hu4))
          have HI4 := Lib.hid (show UsInv s L i ∧ i < L.length ∧ L.take (i + 1) = L.take (i + 1) ∧ (j0 : Int) ∈ L ∧ ∀ q ∈ FO.take 0, q ∈ L from ⟨HI.out, hlt, rfl, HY.out, fun q hq => by simp at hq⟩)
          have hfl : FO.length ≤ 1000 := HFL.out
          clear S1 e0 e1 e2 e3 e4 z0 q1 d0 d1 d2 hu4 r4 HI HO HU ge4 HD HFL
          go_wp2_with fail
          go_loopw [3, 38] (fun ov jv wr => ∃ (L' : List Int) (j : Nat), j ≤ FO.length ∧ jv = .int .i64 j ∧ Hid (UsInv s L' i ∧ i < L'.length ∧ L'.take (i + 1) = L.take (i + 1) ∧ (j0 : Int) ∈ L' ∧ ∀ q ∈ FO.take j, q ∈ L') ∧ Hid (wr.ownsRow wA.heap.size 2 1 ov L'.length (L'.map ei)) ∧ Hid (Upd [] wA wr) ∧ Hid (Upd [b] w4 wr) ∧ Hid (∀ g, ov.ownBlock = some g → g = b ∨ w4.heap.size ≤ g)) (fun _ jv _ => FO.length - (intOf jv).toNat)
          case atStart => exact ⟨L, 0, Nat.zero_le _, rfl, Lib.hid ⟨HI4.out.1, HI4.out.2.1, rfl, HI4.out.2.2.2.1, HI4.out.2.2.2.2⟩, HO4, HU4, Lib.hid (Upd.refl _ _), Lib.hid (fun g hg => Or.inl (by simpa [Value.ownBlock] using hg.symm))⟩
          case round =>
            clear HI4 HO4 HU4
            obtain ⟨wq, rfl⟩ : ∃ wq : World, wq = wr := ⟨_, rfl⟩
            obtain ⟨L', j, hj, rfl, HI, HO, HU, HX, HB⟩ := hrel
            obtain ⟨oa', oc', hov⟩ := ownsRow_form HO.out
            subst hov
            have hLl' := HI.out.1.len HK.out
            by_cases hjl9 : j < FO.length
            · obtain ⟨va', vc', hv', -, -, c4⟩ := slF1_open (R_I1k.upd HR4.out HX.out (fun c hc hm => HG4.out c hc (by simpa using hm)))
              cases hv'
              obtain ⟨b4, o4, rfl, -, -, p4⟩ := c4 j hjl9
              have hji : (j : Int) < (FO.length : Int) := by omega
              obtain ⟨fr, rr, -, -⟩ := New.ofOwns HO.out
              have HTX := Lib.hid ((HTY.out FO[j]).2 (List.getElem_mem hjl9))
              have hstep : FO.take (j + 1) = FO.take j ++ [FO[j]] := List.take_succ_eq_append_getElem hjl9
              have HSTP := Lib.hid hstep
              generalize FO[j] = x at *
              have HXR := Lib.hid (call_range HOK.out HTX.out)
              have SC := Lib.hid (containsI (.slice oa' L'.length oc') L' x wq fr rr)
              clear hstep c4 rr
              go_wp2_with fail
              refine SC.out.mono ?_
              rintro e w5 ⟨rfl, rfl⟩
              clear SC
              cases hc : L'.contains x with
              | true =>
                have hmem : x ∈ L' := by simpa using hc
                have HI9 := Lib.hid (show UsInv s L' i ∧ i < L'.length ∧ L'.take (i + 1) = L.take (i + 1) ∧ (j0 : Int) ∈ L' ∧ ∀ q ∈ FO.take (j + 1), q ∈ L' from ⟨HI.out.1, HI.out.2.1, HI.out.2.2.1, HI.out.2.2.2.1, fun q hq => by
                  rw [HSTP.out] at hq
                  rcases List.mem_append.1 hq with h | h
                  · exact HI.out.2.2.2.2 q h
                  · simp at h; subst h; exact hmem⟩)
                clear hmem hc HI
                go_wp2_with fail
                go_roundw
                case rel => exact ⟨L', j + 1, by omega, by go_num, HI9, HO, HU, HX, HB⟩
                case measure => simp [intOf]; omega
              | false =>
                have hmem : x ∉ L' := by simpa using hc
                have hil' := HI.out.2.1
                have HI9 := Lib.hid (show UsInv s (L' ++ [x]) i ∧ i < (L' ++ [x]).length ∧ (L' ++ [x]).take (i + 1) = L.take (i + 1) ∧ (j0 : Int) ∈ L' ++ [x] ∧ ∀ q ∈ FO.take (j + 1), q ∈ L' ++ [x] from ⟨HI.out.1.push (by omega) HI.out.2.2.2.1 HTX.out HXR.out hmem, by simp; omega, by rw [List.take_append_of_le_length (by omega)]; exact HI.out.2.2.1, List.mem_append_left _ HI.out.2.2.2.1, fun q hq => by
                  rw [HSTP.out] at hq
                  rcases List.mem_append.1 hq with h | h
                  · exact List.mem_append_left _ (HI.out.2.2.2.2 q h)
                  · exact List.mem_append_right _ h⟩)
                have hszq : wA.heap.size ≤ wq.heap.size := HU.out.size
                have hown1 := HO.out
                clear hmem hc HI
                go_wp2_with (first
                  | (at_builtin; refine wpList_append_tight _ rfl _ _ 36 rfl wA.heap.size 2 i1 (.int .i64 0) 1 8 Tryz.underlying36 ki kz0 kz1 kz2 rfl (by decide) _ _ _ rfl (hown1.alloc _) ⟨wq.heap.size, 0, none⟩ 1 1 [ei x] rfl rfl (fun j u hj => by rw [addr_add]; exact cell_new wq #[ei x] _ _ rfl _ _ (by simpa using hj)) (by simp [Value.oneCell']) (by unfold maxLen; omega) (by omega) (by simp; omega) ?_)
                  | fail)
                intro v6 w6 hown6 hg6 ht6
                have HO6 := Lib.hid (show w6.ownsRow wA.heap.size 2 1 v6 (L' ++ [x]).length ((L' ++ [x]).map ei) by
                  rw [List.length_append, List.map_append]; simpa using hown6)
                have HU6 := Lib.hid ((HU.out.alloc (.cells #[ei x] 2)).grown hg6 (fun c hc => Or.inl (hown1.lt c hc).1))
                have HX6 := Lib.hid ((HX.out.alloc (.cells #[ei x] 2)).grown hg6 (fun c hc => by
                  rcases HB.out c hc with h | h
                  · exact Or.inr (by simp [h])
                  · exact Or.inl h))
                have HB6 := Lib.hid (show ∀ g, v6.ownBlock = some g → g = b ∨ w4.heap.size ≤ g from fun g hg => by
                  rcases ht6 g hg with h | h
                  · exact HB.out g h
                  · exact Or.inr (by have h1 := HX.out.size; have h3 : wq.heap.size ≤ g := (by omega); omega))
                clear hown6 hg6 ht6 hown1
                go_wp2_with fail
                go_roundw
                case rel => exact ⟨L' ++ [x], j + 1, by omega, by go_num, HI9, HO6, HU6, HX6, HB6⟩
                case measure => simp [intOf]; omega
            · obtain rfl : j = FO.length := by omega
              have HI9 := Lib.hid (show UsInv s L' (i + 1) ∧ i + 1 ≤ L'.length from ⟨HI.out.1.next HI.out.2.1 (fun q hq => by
                rw [HLY.out L' HI.out.2.2.1 HI.out.2.1] at hq
                exact HI.out.2.2.2.2 q (by rw [List.take_length]; exact (HTY.out q).1 hq)), HI.out.2.1⟩)
              clear HI
              go_wp2_with fail
              go_roundw
              case rel => exact ⟨L', i + 1, HI9.out.2, by go_num, Lib.hid HI9.out.1, HO, HU⟩
              case measure => simp [intOf]; omega
        · obtain rfl : i = L.length := by omega
          have HNS := Lib.hid (ownsRow_spot HO.out)
          obtain ⟨f9, r9, o9, ge9⟩ := New.ofOwns HO.out
          have S3 := Lib.hid (sortAllI _ L wo f9 r9 o9 (by omega))
          have S4 := Lib.hid (fun W f r o => compactAllI (.slice oa L.length oc) (L.mergeSort leZ) W f r o (by rw [List.length_mergeSort]; omega) HNS.out)
          have HG := Lib.hid ge9
          have HDN := Lib.hid (HI.out.done HOK.out)
          clear HO HI r9 o9 ge9 HD HBL HBA X0
          go_wp2_with fail
          refine S3.out.mono ?_
          rintro e w5 ⟨rfl, r5, o5, hu5⟩
          have S5 := Lib.hid (S4.out w5 f9 r5 o5)
          have U5 := Lib.hid (HU.out.fresh hu5 (fun c hc => Or.inl (HG.out c hc)))
          clear S3 S4 hu5 r5 o5
          go_wp2_with fail
          refine S5.out.mono ?_
          rintro e w6 ⟨⟨v', rfl, r6, -⟩, o6, hu6⟩
          have U6 := Lib.hid (U5.out.fresh hu6 (fun c hc => Or.inl (HG.out c hc)))
          have HN := Lib.hid (show New R_I1 w w6 v' (usedF s) from ⟨f9, by rw [← HDN.out]; exact r6, o6, fun b hb => by have h1 := HG.out b hb; have h2 := UA.out.size; omega⟩)
          clear S5 hu6 r6 o6
          go_wp2_with fail
          go_ret
          exact ⟨⟨_, rfl, HN.out⟩, UA.out.trans U6.out⟩

end Go.Proofs.YtnchmnjkmhfleaaGreat

/-
  The definitions that components can come to: what the reference's call returns.
-/
namespace Go.Proofs.YtnchmnjkmhfleaaGreat
open Go.RowKit

theorem rise_sub : ∀ {a b : List Int}, a.Pairwise (· < ·) → b.Pairwise (· < ·) → (∀ x ∈ a, x ∈ b) → a.Sublist b
  | [], b, _, _, _ => List.nil_sublist b
  | x :: a, [], _, _, h => by have := h x (by simp); simp at this
  | x :: a, y :: b, ha, hb, h => by
    have ha1 := fun {z} (hz : z ∈ a) => List.rel_of_pairwise_cons ha hz
    have hb1 := fun {z} (hz : z ∈ b) => List.rel_of_pairwise_cons hb hz
    by_cases e : x = y
    · subst e
      refine (rise_sub ha.of_cons hb.of_cons (fun z hz => ?_)).cons_cons x
      rcases List.mem_cons.1 (h z (by simp [hz])) with h1 | h1
      · have := ha1 hz; omega
      · exact h1
    · refine (rise_sub ha hb.of_cons (fun z hz => ?_)).cons y
      rcases List.mem_cons.1 (h z hz) with h1 | h1
      · subst h1
        rcases List.mem_cons.1 hz with h2 | h2
        · exact absurd h2.symm e
        · have h3 := ha1 h2
          rcases List.mem_cons.1 (h x (by simp)) with h4 | h4
          · omega
          · have := hb1 h4; omega
      · exact h1

/-- a set of definitions that grows. -/
structure UtInv (s : Sy) (O : List Int) : Prop where
  ris : O.Pairwise (· < ·)
  rch : ∀ x ∈ O, Rch s x
  cmp : ∀ c ∈ s.comps, c.dfn ∈ O
theorem UtInv.len {s : Sy} {O : List Int} (h : UtInv s O) (hok : sysOk s = true) : O.length ≤ 4 := by
  have := nodup_range s.defs.length (h.ris.imp (fun h => by omega)) (fun x hx => rch_range hok (h.rch x hx))
  have := (SyGd.of hok).dl
  omega
theorem UtInv.put {s : Sy} {O : List Int} (h : UtInv s O) {y x : Int} (hy : Rch s y) (hx : x ∈ callsL (bodyAt s y)) : UtInv s (putF x O) :=
  ⟨putF_pair x O h.ris, fun z hz => by
    rcases (putF_mem x z O).1 hz with rfl | hz
    · exact Rch.call y _ hy hx
    · exact h.rch z hz, fun c hc => (putF_mem x _ O).2 (Or.inr (h.cmp c hc))⟩
theorem putF_sub {x z : Int} {O : List Int} (h : z ∈ O) : z ∈ putF x O := (putF_mem x z O).2 (Or.inr h)
theorem putF_self (x : Int) (O : List Int) : x ∈ putF x O := (putF_mem x x O).2 (Or.inl rfl)
theorem UtInv.start (s : Sy) : UtInv s (setF (s.comps.map Co.dfn)) :=
  ⟨setF_pair _, fun x hx => by
    obtain ⟨c, hc, rfl⟩ := List.mem_map.1 ((setF_mem _ x).1 hx)
    exact Rch.comp c hc, fun c hc => (setF_mem _ _).2 (List.mem_map_of_mem hc)⟩
def lenOf : Value → Nat
  | .slice _ n _ => n
  | _ => 0

set_option maxRecDepth 20000 in
set_option maxHeartbeats 8000000 in
theorem usedS (Q : Nat) (cs : List Value) (s : Sy) (w : World) (fp : List Nat) (hA : SyAt Q cs fp w s) (hok : sysOk s = true) :
    Calls Tryz.prog 78 #[.pointer (some ⟨Q, 0, none⟩)] w fun e w' => (∃ v', e = .returned v' ∧ New R_I1 w w' v' (usedF s)) ∧ Upd [] w w' := by
  obtain ⟨⟨v0, v1, v2, v3, v4, f0, f1, f2, f3, f4, rfl, h0, h1, -, -, -, rfl⟩, hcs⟩ := hA
  obtain ⟨a0, c0, rfl, l0, m0, hd⟩ := slQ_open h0
  obtain ⟨a1, c1, rfl, l1, m1, hc⟩ := slQ_open h1
  unfold maxLen at m0 m1
  have hK := SyGd.of hok
  have hcl := hK.cl
  have hdl := hK.dl
  have x0 := hcs 0 _ rfl
  have x1 := hcs 1 _ rfl
  have X0 := Lib.hid (fun W2 (hu : Upd [] w W2) => hu.keep x0)
  have X1 := Lib.hid (fun W2 (hu : Upd [] w W2) => hu.keep x1)
  have HC := Lib.hid (fun W2 (hu : Upd [] w W2) i (hi : i < s.comps.length) => show ∃ b off, a1 = some ⟨b, off, none⟩ ∧ W2.cell? ⟨b, off + i * 2, none⟩ = some (ei s.comps[i].dfn) from by
    obtain ⟨b, off, u, f, e, -, -, -, hcell, -, hr⟩ := hc i hi
    obtain ⟨v, g, rfl, hv, -⟩ := hr
    exact ⟨b, off, e, hu.keep (by simpa using hcell 0 _ rfl)⟩)
  have HD := Lib.hid (fun W2 (hu : Upd [] w W2) i (hi : i < s.defs.length) => show ∃ b off v g, a0 = some ⟨b, off, none⟩ ∧ W2.cell? ⟨b, off + i * 3 + 2, none⟩ = some v ∧ R_Pa1 g W2 [v] s.defs[i].body from by
    obtain ⟨b, off, u, f, e, -, -, -, hcell, -, hr⟩ := hd i hi
    obtain ⟨v, g, rfl, hv, -⟩ := hr
    exact ⟨b, off, v, _, e, hu.keep (hcell 2 _ rfl), R_Pa1k.upd hv hu (by simp)⟩)
  have HBL := Lib.hid (fun i (hi : i < s.defs.length) => show s.defs[i].body.length ≤ 1000 from by
    have := ((defs_fine hK.defs).2.2.2.2 _ (List.getElem_mem hi)).2.1
    omega)
  have HOK := Lib.hid hok
  have HBA := Lib.hid (fun j (h : j < s.defs.length) => bodyAt_eq s j h)
  have H0 := Lib.hid (show New R_I1 w (w.alloc (.cells #[] 2)) (.slice (some ⟨w.heap.size, 0, none⟩) 0 0) (setF ((s.comps.take 0).map Co.dfn)) from by
    rw [List.take_zero, List.map_nil, setF_nil]; exact New.ofOwns (row0 w))
  have HLN := Lib.hid (fun k (h : k ≤ s.comps.length) => show (setF ((s.comps.take k).map Co.dfn)).length ≤ 3 from setF_len2 _ _ (by rw [List.length_map, List.length_take]; omega))
  clear h0 h1 hd hc hok hK hcs
  go_enter Tryz.func78, Tryz.ntmps78
  go_wp2_with fail
  go_loopw [3, 4] (fun ov iv wr => ∃ k : Nat, k ≤ s.comps.length ∧ iv = .int .i64 k ∧ Hid (Upd [] w wr) ∧ Hid (New R_I1 w wr ov (setF ((s.comps.take k).map Co.dfn)))) (fun _ iv _ => s.comps.length - (intOf iv).toNat)
  case atStart => exact ⟨0, Nat.zero_le _, rfl, Lib.hid ((Upd.refl _ _).alloc _), H0⟩
  case round =>
    clear x0 x1
    obtain ⟨wo, rfl⟩ : ∃ wo : World, wo = wr := ⟨_, rfl⟩
    obtain ⟨k, hk, rfl, HU, HO⟩ := hrel
    have x1 := X1.out wo HU.out
    by_cases hlt : k < s.comps.length
    · obtain ⟨bb, off, rfl, s0⟩ := HC.out wo HU.out k hlt
      have hkl : (k : Int) < (s.comps.length : Int) := by omega
      have HTK := Lib.hid (List.take_succ_eq_append_getElem hlt)
      have hln := HLN.out k hk
      clear HC HD HBL HBA X0 H0 HLN X1
      generalize s.comps[k] = c at *
      obtain ⟨dfn, vals⟩ := c
      simp only at *
      obtain ⟨f3, r3, -, -⟩ := HO.out
      have S1 := Lib.hid (putS u3 _ dfn wo f3 r3 (by omega))
      have HW := Lib.hid HU.out.size
      clear HO r3
      go_wp2_with fail
      refine S1.out.mono ?_
      rintro e w2 ⟨⟨v2, rfl, hn2⟩, hu2⟩
      have HU2 := Lib.hid (HU.out.trans hu2)
      have HO2 := Lib.hid (show New R_I1 w w2 v2 (setF ((s.comps.take (k + 1)).map Co.dfn)) by
        rw [HTK.out, List.map_append, List.map_cons, List.map_nil, ← putF_setF]; exact hn2.mono HW.out)
      clear S1 hn2 hu2 s0
      go_wp2_with fail
      go_roundw
      case rel => exact ⟨k + 1, by omega, by go_num, HU2, HO2⟩
      case measure => simp [intOf]; omega
    · obtain rfl : k = s.comps.length := by omega
      have HO1 := Lib.hid (show New R_I1 w wo u3 (setF (s.comps.map Co.dfn)) by have h := HO.out; rwa [List.take_length] at h)
      have HI0 := Lib.hid (UtInv.start s)
      have HU1 := Lib.hid HU.out
      clear HO HU HC H0 HLN X1
      go_wp2_with fail
      go_loopw [3] (fun ov wr => ∃ O : List Int, Hid (UtInv s O) ∧ Hid (New R_I1 w wr ov O) ∧ Hid (Upd [] w wr)) (fun ov _ => 5 - lenOf ov)
      case atStart => exact ⟨_, HI0, HO1, HU1⟩
      case round =>
        clear HI0 HO1 HU1 x1
        obtain ⟨wo, rfl⟩ : ∃ wo : World, wo = wr := ⟨_, rfl⟩
        obtain ⟨O, HI, HO, HU⟩ := hrel
        obtain ⟨oa, oc, rfl⟩ := HO.out.form
        have hol := HI.out.len HOK.out
        obtain ⟨fo, ro, -, -⟩ := HO.out
        have S5 := Lib.hid (ownIS (.slice oa O.length oc) O wo fo (by omega) ro)
        have RO := Lib.hid (fun W2 (hu : Upd [] wo W2) => R_I1k.upd ro hu (by simp))
        have HW := Lib.hid HU.out.size
        clear ro
        go_wp2_with fail
        refine S5.out.mono ?_
        rintro e w5 ⟨⟨v5, rfl, hn5⟩, hu5⟩
        have HN5 := Lib.hid (show New R_I1 w w5 v5 O from hn5.mono HW.out)
        have HU5 := Lib.hid hu5
        clear S5 hn5 hu5
        go_wp2_with fail
        go_loopw [5, 6] (fun nv iv wr => ∃ (i : Nat) (N : List Int), i ≤ O.length ∧ iv = .int .i64 i ∧ Hid (Upd [] wo wr) ∧ Hid (New R_I1 w wr nv N) ∧ Hid (UtInv s N ∧ (∀ x ∈ O, x ∈ N) ∧ ∀ t, t < i → ∀ (ht : t < O.length), ∀ j ∈ callsL (bodyAt s O[t]), j ∈ N)) (fun _ iv _ => O.length - (intOf iv).toNat)
        case atStart => exact ⟨0, O, Nat.zero_le _, rfl, HU5, HN5, Lib.hid ⟨HI.out, fun x h => h, fun t ht => absurd ht (Nat.not_lt_zero _)⟩⟩
        case round =>
          clear HN5 HU5
          obtain ⟨wp, rfl⟩ : ∃ wp : World, wp = wr := ⟨_, rfl⟩
          obtain ⟨i, N, hi, rfl, HUP, HNN, HIN⟩ := hrel
          obtain ⟨na, nc, rfl⟩ := HNN.out.form
          have hnl := HIN.out.1.len HOK.out
          by_cases hlt : i < O.length
          · obtain ⟨ra, rc, hrv, -, hrm, hrc⟩ := slF1_open (RO.out wp HUP.out)
            cases hrv
            obtain ⟨b, o, rfl, -, hbl, q1⟩ := hrc i hlt
            have hil : (i : Int) < (O.length : Int) := by omega
            have hRc := HI.out.rch _ (List.getElem_mem hlt)
            have HST := Lib.hid (fun (N2 : List Int) (h1 : ∀ x ∈ N, x ∈ N2) (h2 : ∀ j ∈ callsL (bodyAt s O[i]), j ∈ N2) => show (∀ x ∈ O, x ∈ N2) ∧ ∀ t, t < i + 1 → ∀ (ht : t < O.length), ∀ j ∈ callsL (bodyAt s O[t]), j ∈ N2 from ⟨fun x hx => h1 x (HIN.out.2.1 x hx), fun t ht htl j hj => by
              by_cases e : t = i
              · subst e; exact h2 j hj
              · exact h1 j (HIN.out.2.2 t (by omega) htl j hj)⟩)
            have HW2 := Lib.hid (HU.out.trans HUP.out)
            generalize O[i] = y at *
            obtain ⟨j0, rfl, hj0⟩ := used_at HOK.out hRc
            have HRC := Lib.hid hRc
            have hjl : (j0 : Int) < (s.defs.length : Int) := by omega
            have z0 := X0.out wp HW2.out
            obtain ⟨bd, od, vd, gd, rfl, d2, rd⟩ := HD.out wp HW2.out j0 hj0
            have S1 := Lib.hid (callsS vd s.defs[j0].body wp.drew gd (R_Pa1k.upd rd (Upd.refl [] wp).drew (by simp)) (HBL.out j0 hj0))
            have HFL := Lib.hid (setF_len2 (callsL s.defs[j0].body) 1000 (by have h1 := callsL_len s.defs[j0].body; have h2 := HBL.out j0 hj0; omega))
            have HTY := Lib.hid (fun x => show x ∈ callsL (bodyAt s j0) ↔ x ∈ setF (callsL s.defs[j0].body) from by rw [HBA.out j0 hj0]; exact (setF_mem _ x).symm)
            clear hrc hRc rd
            generalize setF (callsL s.defs[j0].body) = FO at *
            go_wp2_with fail
            go_region_held3 (fun w' => w'.cell? ⟨Q, 0, none⟩ = some (.slice (some ⟨bd, od, none⟩) s.defs.length c0) ∧ w'.cell? ⟨b, o + i, none⟩ = some (ei (j0 : Int)) ∧ w'.cell? ⟨bd, od + j0 * 3 + 2, none⟩ = some vd) (first | go_keep | simp [*])
              (first
                | ((go_at_call 120); (with_reducible refine S1.out.mono ?_); rintro e w4 ⟨⟨v4, rfl, hn4⟩, hu4⟩; obtain ⟨va, vc, rfl⟩ := hn4.form; obtain ⟨g4, r4, -, -⟩ := hn4; have e0 := hu4.keep z0; have e1 := hu4.keep q1; have e2 := hu4.keep d2))
            have hfl : FO.length ≤ 1000 := HFL.out
            have R4 := Lib.hid (fun W2 (hu : Upd [] w4 W2) => R_I1k.upd r4 hu (by simp))
            have huw4 : Upd [] wp w4 := (Upd.refl [] wp).drew.trans hu4
            have HUP4 := Lib.hid (HUP.out.trans huw4)
            have HNN4 := Lib.hid (show New R_I1 w w4 (.slice na N.length nc) N by
              obtain ⟨g, h1, h2, h3⟩ := HNN.out
              exact ⟨g, R_I1k.upd h1 huw4 (by simp), h2.upd huw4 (by simp), h3⟩)
            have HI4 := Lib.hid (show UtInv s N ∧ (∀ x ∈ N, x ∈ N) ∧ ∀ q ∈ FO.take 0, q ∈ N from ⟨HIN.out.1, fun x h => h, fun q hq => by simp at hq⟩)
            clear S1 e0 e1 e2 z0 q1 d2 hu4 r4 HFL huw4 HNN HIN HW2
            go_wp2_with fail
            go_loopw [5, 8] (fun nv jv wr => ∃ (N2 : List Int) (j : Nat), j ≤ FO.length ∧ jv = .int .i64 j ∧ Hid (UtInv s N2 ∧ (∀ x ∈ N, x ∈ N2) ∧ ∀ q ∈ FO.take j, q ∈ N2) ∧ Hid (New R_I1 w wr nv N2) ∧ Hid (Upd [] w4 wr)) (fun _ jv _ => FO.length - (intOf jv).toNat)
            case atStart => exact ⟨N, 0, Nat.zero_le _, rfl, HI4, HNN4, Lib.hid (Upd.refl _ _)⟩
            case round =>
              clear HI4 HNN4
              obtain ⟨wq, rfl⟩ : ∃ wq : World, wq = wr := ⟨_, rfl⟩
              obtain ⟨N2, j, hj, rfl, HI2, HN2, HX⟩ := hrel
              by_cases hjl9 : j < FO.length
              · obtain ⟨va', vc', hv', -, -, c4⟩ := slF1_open (R4.out wq HX.out)
                cases hv'
                obtain ⟨b4, o4, rfl, -, -, p4⟩ := c4 j hjl9
                have hji : (j : Int) < (FO.length : Int) := by omega
                have HTX := Lib.hid ((HTY.out FO[j]).2 (List.getElem_mem hjl9))
                have HSTP := Lib.hid (show FO.take (j + 1) = FO.take j ++ [FO[j]] from List.take_succ_eq_append_getElem hjl9)
                generalize FO[j] = x at *
                have hn2l := HI2.out.1.len HOK.out
                obtain ⟨f3, r3, -, -⟩ := HN2.out
                have SP := Lib.hid (putS u5 N2 x wq f3 r3 (by omega))
                have HW := Lib.hid (show w.heap.size ≤ wq.heap.size by have h1 := HU.out.size; have h2 := HUP4.out.size; have h3 := HX.out.size; omega)
                have HI9 := Lib.hid (show UtInv s (putF x N2) ∧ (∀ z ∈ N, z ∈ putF x N2) ∧ ∀ q ∈ FO.take (j + 1), q ∈ putF x N2 from ⟨HI2.out.1.put HRC.out HTX.out, fun z hz => putF_sub (HI2.out.2.1 z hz), fun q hq => by
                  rw [HSTP.out] at hq
                  rcases List.mem_append.1 hq with h | h
                  · exact putF_sub (HI2.out.2.2 q h)
                  · simp at h; subst h; exact putF_self _ _⟩)
                clear c4 r3 HI2 HN2
                go_wp2_with fail
                refine SP.out.mono ?_
                rintro e w6 ⟨⟨v6, rfl, hn6⟩, hu6⟩
                have HN6 := Lib.hid (show New R_I1 w w6 v6 (putF x N2) from hn6.mono HW.out)
                have HX6 := Lib.hid (HX.out.trans hu6)
                clear SP hn6 hu6 p4
                go_wp2_with fail
                go_roundw
                case rel => exact ⟨_, j + 1, by omega, by go_num, HI9, HN6, HX6⟩
                case measure => simp [intOf]; omega
              · obtain rfl : j = FO.length := by omega
                have HI9 := Lib.hid (HST.out N2 HI2.out.2.1 (fun q hq => HI2.out.2.2 q (by rw [List.take_length]; exact (HTY.out q).1 hq)))
                have HI8 := Lib.hid HI2.out.1
                have HX9 := Lib.hid (HUP4.out.trans HX.out)
                clear HI2 HUP4 HX
                go_wp2_with fail
                go_roundw
                case rel => exact ⟨i + 1, N2, by omega, by go_num, HX9, HN2, Lib.hid ⟨HI8.out, HI9.out⟩⟩
                case measure => simp [intOf]; omega
          · obtain rfl : i = O.length := by omega
            have hsub := rise_sub HI.out.ris HIN.out.1.ris HIN.out.2.1
            have hle := hsub.length_le
            by_cases he : N.length = O.length
            · have HEQ := Lib.hid (show O = usedF s from by
                have hON : O = N := hsub.eq_of_length he.symm
                refine used_ext HOK.out HI.out.ris (fun c hc => HI.out.cmp c hc) (fun x hx j hj => ?_) (fun x hx => HI.out.rch x hx)
                obtain ⟨t, ht, rfl⟩ := List.mem_iff_getElem.1 hx
                have := HIN.out.2.2 t ht ht j hj
                rwa [← hON] at this)
              have heq : ((N.length : Int) == (O.length : Int)) = true := by rw [he]; simp
              have HUE := Lib.hid (HU.out.trans HUP.out)
              have HNE := Lib.hid (show New R_I1 w wp (.slice oa O.length oc) (usedF s) by
                obtain ⟨g, h1, h2, h3⟩ := HO.out
                rw [← HEQ.out]
                exact ⟨g, R_I1k.upd h1 HUP.out (by simp), h2.upd HUP.out (by simp), h3⟩)
              clear HIN HI HO HNN hsub HEQ HU HUP HD HBL HBA X0 RO he
              go_wp2_with fail
              go_ret
              exact ⟨⟨_, rfl, HNE.out⟩, HUE.out⟩
            · have heq : ((N.length : Int) == (O.length : Int)) = false := by rw [beq_eq_false_iff_ne]; omega
              have HIE := Lib.hid HIN.out.1
              have HUE := Lib.hid (HU.out.trans HUP.out)
              clear HIN HI HO hsub HU HUP HD HBL HBA X0 RO
              go_wp2_with fail
              go_roundw
              case rel => exact ⟨N, HIE, HNN, HUE⟩
              case measure => simp [lenOf]; omega

end Go.Proofs.YtnchmnjkmhfleaaGreat

/-
  What the laws' budget says of definitions.
-/
namespace Go.Proofs.YtnchmnjkmhfleaaGreat
open Go.RowKit

theorem sum_mem {α : Type} {F : α → Int} (h0 : ∀ x, 0 ≤ F x) : ∀ {xs : List α} {x : α}, x ∈ xs → F x ≤ (xs.map F).sum
  | [], _, h => by cases h
  | y :: ys, x, h => by
    have hs : ∀ l : List α, 0 ≤ (l.map F).sum := by
      intro l
      induction l with
      | nil => simp
      | cons z l ih => simp only [List.map_cons, List.sum_cons]; have := h0 z; omega
    simp only [List.map_cons, List.sum_cons]
    rcases List.mem_cons.1 h with rfl | h
    · have := hs ys; omega
    · have := sum_mem h0 h; have := h0 y; omega
theorem des_fit {ds : List De} (h : szF_De1 ds ≤ 1048576) : DesFit ds := by
  have h1 : 0 ≤ (ds.map szF_De).sum := szF_De1_sum ds
  unfold szF_De1 at h
  refine ⟨by omega, fun d hd => ?_⟩
  have h2 := sum_mem szF_De_nonneg hd
  have h3 : szF_De d = (d.name.length : Int) + szF_Pa1 d.body := rfl
  have h4 := szF_Pa1_nonneg d.body
  have h5 : szF_Pa1 d.body = (d.body.length : Int) + (d.body.map szF_Pa).sum := rfl
  have h6 := szF_Pa1_sum d.body
  refine ⟨by omega, by omega, fun p hp => ?_⟩
  have h7 := sum_mem szF_Pa_nonneg hp
  have h8 : szF_Pa p = (p.name.length : Int) + szF_T2 p.args := rfl
  have h9 := szF_T2_nonneg p.args
  have h10 : szF_T2 p.args = (p.args.length : Int) + (p.args.map szF_T1).sum := rfl
  have h11 := szF_T2_sum p.args
  exact ⟨by omega, by omega⟩

end Go.Proofs.YtnchmnjkmhfleaaGreat

/-
  Systems without the definitions that are not used: plain helpers of both walks.
-/
namespace Go.Proofs.YtnchmnjkmhfleaaGreat
open Go.RowKit

/-- a list, the first i of which have been changed. -/
def parG {α : Type} (f : α → α) (xs : List α) (i : Nat) : List α := (xs.take i).map f ++ xs.drop i
theorem parG_len {α : Type} (f : α → α) (xs : List α) (i : Nat) : (parG f xs i).length = xs.length := by
  unfold parG; rw [List.length_append, List.length_map, List.length_take, List.length_drop]; omega
theorem parG_zero {α : Type} (f : α → α) (xs : List α) : parG f xs 0 = xs := by unfold parG; simp
theorem parG_all {α : Type} (f : α → α) (xs : List α) : parG f xs xs.length = xs.map f := by unfold parG; simp
theorem parG_get {α : Type} (f : α → α) (xs : List α) (i : Nat) (h : i < xs.length) (h2 : i < (parG f xs i).length) : (parG f xs i)[i] = xs[i] := by
  have hq : (parG f xs i)[i]? = some xs[i] := by
    unfold parG
    have hl : ((xs.take i).map f).length = i := by rw [List.length_map, List.length_take]; omega
    rw [List.getElem?_append_right (by omega), hl, Nat.sub_self, List.getElem?_drop, Nat.add_zero, List.getElem?_eq_getElem h]
  exact Option.some.inj ((List.getElem?_eq_getElem h2).symm.trans hq)
theorem parG_set {α : Type} (f : α → α) (xs : List α) (i : Nat) (h : i < xs.length) : (parG f xs i).set i (f xs[i]) = parG f xs (i + 1) := by
  unfold parG
  have hl : ((xs.take i).map f).length = i := by rw [List.length_map, List.length_take]; omega
  rw [List.set_append_right _ _ (by omega), hl, Nat.sub_self, List.drop_eq_getElem_cons h, List.set_cons_zero, List.take_succ_eq_append_getElem h, List.map_append]
  simp
theorem parG_same {α : Type} (f : α → α) (xs : List α) (i : Nat) (h : i < xs.length) (he : f xs[i] = xs[i]) : parG f xs (i + 1) = parG f xs i := by
  rw [← parG_set f xs i h, he]
  have h2 : i < (parG f xs i).length := by rw [parG_len]; exact h
  conv => lhs; rw [← parG_get f xs i h h2]
  exact List.set_getElem_self h2

/-- one part of a body that is owned: its cells, and what a store of another number leaves. -/
theorem part_at {fb : List Nat} {w : World} {v : Value} {xs : List Pa} (hR : R_Pa1 fb w [v] xs) (hO : Own fb w) (i : Nat) (hi : i < xs.length) :
    ∃ b off cap pa pc, v = .slice (some ⟨b, off, none⟩) xs.length cap ∧ b ∈ fb ∧ b < w.heap.size ∧ w.cell? ⟨b, off + i * 4, none⟩ = some (ei xs[i].kind) ∧ w.cell? ⟨b, off + i * 4 + 1, none⟩ = some (ei xs[i].num) ∧ w.cell? ⟨b, off + i * 4 + 2, none⟩ = some (es xs[i].name) ∧ w.cell? ⟨b, off + i * 4 + 3, none⟩ = some (.slice pa xs[i].args.length pc) ∧
      ∀ w2 n, Upd [] w w2 → w2.frozen? ⟨b, off + i * 4 + 1, none⟩ = false ∧ R_Pa1 fb (w2.setCell ⟨b, off + i * 4 + 1, none⟩ (ei n)) [v] (xs.set i ⟨xs[i].kind, n, xs[i].name, xs[i].args⟩) ∧ Own fb (w2.setCell ⟨b, off + i * 4 + 1, none⟩ (ei n)) := by
  obtain ⟨a, cap, b, off, u, f, rfl, -, -, rfl, hbf, hbl, hul, hcell, hff, hbnf, hr, of, ob, hset⟩ := slQ_set R_Pak hR hO i hi
  obtain ⟨va, fa, rfl, ha, rfl⟩ := hr
  have ha' := ha
  obtain ⟨pa, pc, rfl, -, -, -⟩ := slP_open ha
  have c0 := hcell 0 _ rfl
  have c1 := hcell 1 _ rfl
  have c2 := hcell 2 _ rfl
  have c3 := hcell 3 _ rfl
  refine ⟨b, off, cap, pa, pc, rfl, hbf, hbl, by simpa using c0, c1, c2, c3, fun w2 n hu => ?_⟩
  have ob2 := ob.upd hu (by simp)
  refine ⟨?_, ?_⟩
  · obtain ⟨cs, ty, hh⟩ := ob2.2 b (by simp)
    simp [World.frozen?, hh]
  · have ub : Upd [b] w (w2.setCell ⟨b, off + i * 4 + 1, none⟩ (ei n)) := ((Upd.refl [b] w).fresh hu (by simp)).setCell (Or.inr (by simp)) _
    have ubf : Upd (b :: (fa ++ [])) w (w2.setCell ⟨b, off + i * 4 + 1, none⟩ (ei n)) := ((Upd.refl (b :: (fa ++ [])) w).fresh hu (by simp)).setCell (Or.inr (by simp)) _
    have hfb : ∀ c ∈ fa, c ∉ [b] := fun c hc hm => by simp at hm; subst hm; exact hbnf (by simp [hc])
    have hother : ∀ o, o ≠ off + i * 4 + 1 → (w2.setCell ⟨b, off + i * 4 + 1, none⟩ (ei n)).cell? ⟨b, o, none⟩ = w.cell? ⟨b, o, none⟩ := fun o ho => by
      rw [World.cell?_setCell_other _ _ _ _ (by intro h; simp only [Addr.mk.injEq] at h; omega)]
      exact hu.cellF (by simp) hbl o
    exact hset _ ⟨xs[i].kind, n, xs[i].name, xs[i].args⟩ [ei xs[i].kind, ei n, es xs[i].name, .slice pa xs[i].args.length pc] ubf (fun o ho => hother o (by omega)) rfl (fun j c hj => by
      match j, hj with
      | 0, hj => cases hj; rw [hother _ (by omega)]; exact c0
      | 1, hj => cases hj; exact World.cell?_setCell_same _ _ _ (hu.keep c1)
      | 2, hj => cases hj; rw [hother _ (by omega)]; exact c2
      | 3, hj => cases hj; rw [hother _ (by omega)]; exact c3) ⟨_, fa, rfl, R_T2k.upd ha' ub hfb, rfl⟩ (of.upd ub (fun c hc => hfb c (by simpa using hc))) (ob2.setCell _ _)

/-- one component of a list that is owned: its cells, and what a store of another definition leaves. -/
theorem comp_at {fb : List Nat} {w : World} {v : Value} {xs : List Co} (hR : R_Co1 fb w [v] xs) (hO : Own fb w) (i : Nat) (hi : i < xs.length) :
    ∃ b off cap pa pc, v = .slice (some ⟨b, off, none⟩) xs.length cap ∧ b ∈ fb ∧ b < w.heap.size ∧ w.cell? ⟨b, off + i * 2, none⟩ = some (ei xs[i].dfn) ∧ w.cell? ⟨b, off + i * 2 + 1, none⟩ = some (.slice pa xs[i].vals.length pc) ∧
      ∀ w2 n, Upd [] w w2 → w2.frozen? ⟨b, off + i * 2, none⟩ = false ∧ R_Co1 fb (w2.setCell ⟨b, off + i * 2, none⟩ (ei n)) [v] (xs.set i ⟨n, xs[i].vals⟩) ∧ Own fb (w2.setCell ⟨b, off + i * 2, none⟩ (ei n)) := by
  obtain ⟨a, cap, b, off, u, f, rfl, -, -, rfl, hbf, hbl, hul, hcell, hff, hbnf, hr, of, ob, hset⟩ := slQ_set R_Cok hR hO i hi
  obtain ⟨va, fa, rfl, ha, rfl⟩ := hr
  have ha' := ha
  obtain ⟨pa, pc, rfl, -, -, -⟩ := slF1_open ha
  have c0 := hcell 0 _ rfl
  have c1 := hcell 1 _ rfl
  refine ⟨b, off, cap, pa, pc, rfl, hbf, hbl, by simpa using c0, c1, fun w2 n hu => ?_⟩
  simp only [Nat.add_zero] at c0
  have ob2 := ob.upd hu (by simp)
  refine ⟨?_, ?_⟩
  · obtain ⟨cs, ty, hh⟩ := ob2.2 b (by simp)
    simp [World.frozen?, hh]
  · have ub : Upd [b] w (w2.setCell ⟨b, off + i * 2, none⟩ (ei n)) := ((Upd.refl [b] w).fresh hu (by simp)).setCell (Or.inr (by simp)) _
    have ubf : Upd (b :: (fa ++ [])) w (w2.setCell ⟨b, off + i * 2, none⟩ (ei n)) := ((Upd.refl (b :: (fa ++ [])) w).fresh hu (by simp)).setCell (Or.inr (by simp)) _
    have hfb : ∀ c ∈ fa, c ∉ [b] := fun c hc hm => by simp at hm; subst hm; exact hbnf (by simp [hc])
    have hother : ∀ o, o ≠ off + i * 2 → (w2.setCell ⟨b, off + i * 2, none⟩ (ei n)).cell? ⟨b, o, none⟩ = w.cell? ⟨b, o, none⟩ := fun o ho => by
      rw [World.cell?_setCell_other _ _ _ _ (by intro h; simp only [Addr.mk.injEq] at h; omega)]
      exact hu.cellF (by simp) hbl o
    exact hset _ ⟨n, xs[i].vals⟩ [ei n, .slice pa xs[i].vals.length pc] ubf (fun o ho => hother o (by omega)) rfl (fun j c hj => by
      match j, hj with
      | 0, hj => cases hj; exact World.cell?_setCell_same _ _ _ (hu.keep c0)
      | 1, hj => cases hj; rw [hother _ (by omega)]; exact c1) ⟨_, fa, rfl, R_I1k.upd ha' ub hfb, rfl⟩ (of.upd ub (fun c hc => hfb c (by simpa using hc))) (ob2.setCell _ _)

theorem far_cell {w : World} {b o D j : Nat} {v c : Value} (h : w.cell? ⟨D, j, none⟩ = some c) (hb : b < D) : (w.setCell ⟨b, o, none⟩ v).drew.cell? ⟨D, j, none⟩ = some c := by
  show (w.setCell ⟨b, o, none⟩ v).cell? _ = _
  rw [World.cell?_setCell_other _ _ _ _ (by intro h; simp only [Addr.mk.injEq] at h; omega)]; exact h

theorem renPa_no {us : List Int} {p : Pa} (h : (p.kind == 5) = false) : renPa us p = p := by unfold renPa; rw [h]; rfl
theorem renPa_yes {us : List Int} {p : Pa} (h : (p.kind == 5) = true) : renPa us p = ⟨p.kind, plcF us p.num, p.name, p.args⟩ := by unfold renPa; rw [if_pos h]

theorem mk_renPa (us : List Int) (p : Pa) : mkF_Pa (renPa us p) = mkF_Pa p := by
  unfold renPa
  split
  · rfl
  · rfl
theorem mk_renDe (us : List Int) (d : De) : mkF_De (renDe us d) = mkF_De d := by
  unfold mkF_De renDe mkF_Pa1
  rw [List.map_map]
  have : (mkF_Pa ∘ renPa us) = mkF_Pa := by funext p; exact mk_renPa us p
  rw [this]
theorem mk_defAt (s : Sy) (j : Int) : mkF_De (defAt s j) ≤ mkF_De1 s.defs + 2 := by
  unfold defAt
  rw [List.getD_eq_getElem?_getD]
  cases h : s.defs[j.toNat]? with
  | none =>
    have := mkF_De1_nonneg s.defs
    show mkF_De ⟨[], 0, []⟩ ≤ _
    have : mkF_De ⟨[], 0, []⟩ = 2 := rfl
    omega
  | some d =>
    have hm := List.mem_of_getElem? h
    have := sum_mem mkF_De_nonneg hm
    show mkF_De d ≤ _
    unfold mkF_De1
    omega
theorem pruneF_b (s : Sy) (h : 1 + mkF_Sy s ≤ 100000000) : 1 + mkF_Sy (pruneF s).1 ≤ 4611686018427387904 := by
  have h0 : mkF_Sy zeroSy = 0 := rfl
  unfold pruneF
  by_cases hok : sysOk s = true
  · rw [if_pos hok]
    have h3 : mkF_Sy s = mkF_De1 s.defs + mkF_Co1 s.comps + mkF_Me1 s.meets + mkF_S1 s.allow + mkF_S1 s.hide := rfl
    have h2 : mkF_Sy (pruneL (usedF s) s) = mkF_De1 ((usedF s).map (fun j => renDe (usedF s) (defAt s j))) + mkF_Co1 (s.comps.map (renCo (usedF s))) + mkF_Me1 s.meets + mkF_S1 s.allow + mkF_S1 s.hide := rfl
    have h4 : mkF_Co1 (s.comps.map (renCo (usedF s))) = mkF_Co1 s.comps := by
      unfold mkF_Co1; rw [List.map_map]; rfl
    have h5 : ∀ l : List Int, mkF_De1 (l.map (fun j => renDe (usedF s) (defAt s j))) ≤ l.length * (mkF_De1 s.defs + 2) := by
      intro l
      induction l with
      | nil => simp [mkF_De1]
      | cons a r ih =>
        have h6 := mk_defAt s a
        have h7 := mk_renDe (usedF s) (defAt s a)
        unfold mkF_De1 at ih h6 ⊢
        simp only [List.map_cons, List.sum_cons, List.length_cons]
        rw [h7]
        have e0 : ((r.length + 1 : Nat) : Int) = (r.length : Int) + 1 := by omega
        rw [e0]
        have e : ((r.length : Int) + 1) * ((s.defs.map mkF_De).sum + 2) = (r.length : Int) * ((s.defs.map mkF_De).sum + 2) + ((s.defs.map mkF_De).sum + 2) := by rw [Int.add_mul, Int.one_mul]
        rw [e]
        omega
    have h8 := h5 (usedF s)
    have h9 := used_len s
    have h10 := (SyGd.of hok).dl
    have n1 := mkF_De1_nonneg s.defs
    have n2 := mkF_Co1_nonneg s.comps
    have n3 := mkF_Me1_nonneg s.meets
    have n4 := mkF_S1_nonneg s.allow
    have n5 := mkF_S1_nonneg s.hide
    have h11 : ((usedF s).length : Int) * (mkF_De1 s.defs + 2) ≤ 4 * (mkF_De1 s.defs + 2) := Int.mul_le_mul_of_nonneg_right (by omega) (by omega)
    show 1 + mkF_Sy (pruneL (usedF s) s) ≤ _
    omega
  · rw [if_neg hok]; show 1 + mkF_Sy zeroSy ≤ _; omega

end Go.Proofs.YtnchmnjkmhfleaaGreat
