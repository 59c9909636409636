/-
  HideLinear: what the program's and the reference's calls return and make.
-/
import Derived.Test.YtnfghgaadnobbaaLinSt
import Derived.Test.YtnfghgaadnobbaaLinRn
import Derived.Test.YtnfghgaadnobbaaLib7
import Derived.Test.YtnfghgaadnobbaaNamI
namespace Go.Proofs.Ytnfghgaadnobbaa
open Go.RowKit

def hidSm (ns : List (List UInt8)) (s : Sm) : Sm := if ns.contains s.name then ⟨s.sums, s.guard, tauL, [], s.next⟩ else s
def hidP (ns : List (List UInt8)) (x : Ln) : Ln := ⟨x.pars, x.start, x.sms.map (hidSm ns)⟩
/-- what a call returns and makes that gives a process. -/
def MadeLn (w : World) (x : Ln) (e : Ending) (w' : World) : Prop := (∃ us, e = .returned (.agg us.toArray) ∧ us.length = 3 ∧ us.toArray.all (·.oneCell') = true ∧ NewQ R_Ln w w' us x) ∧ Upd [] w w'
theorem madeLn_of {w w' : World} {x : Ln} {us : List Value} (h : GaveLn w (x, 0) (.returned (.tuple #[.agg us.toArray, .int .i64 0])) w') : MadeLn w x (.returned (.agg us.toArray)) w' := by
  obtain ⟨⟨us', he, h1, h2, h3⟩, hu⟩ := h
  simp at he
  obtain rfl : us = us' := he
  exact ⟨⟨us, rfl, h1, h2, h3⟩, hu⟩

theorem hidSm_b (ns : List (List UInt8)) (s : Sm) : mkF_Sm (hidSm ns s) ≤ mkF_Sm s := by
  unfold hidSm
  split
  · have := mkF_T2_nonneg s.args
    show mkF_I1 s.sums + mkF_T1 s.guard + 1 + mkF_T2 [] + mkF_T2 s.next ≤ mkF_I1 s.sums + mkF_T1 s.guard + 1 + mkF_T2 s.args + mkF_T2 s.next
    have h0 : mkF_T2 [] = 0 := rfl
    omega
  · exact Int.le_refl _
theorem hid_p (ns : List (List UInt8)) (x : Ln) : mkF_Ln (hidP ns x) ≤ mkF_Ln x := by
  have h1 := sm1_map (hidSm ns) (hidSm_b ns) x.sms
  show mkF_I1 x.start + mkF_Sm1 (x.sms.map (hidSm ns)) ≤ mkF_I1 x.start + mkF_Sm1 x.sms
  omega

/-- one summand of an owned slice gets a name and loses its arguments. -/
theorem sm_wipe {fp : List Nat} {w : World} {b off cap n : Nat} {xs : List Sm} (h : R_Sm1 fp w [.slice (some ⟨b, off, none⟩) n cap] xs) (hO : Own fp w) (i : Nat) (hi : i < xs.length) (nm : List UInt8) (w' : World) (a : Option Addr) (c : Nat) (hc : c ≤ maxLen)
    (hU : Upd [b] w w') (hO' : Own fp w') (hfar : ∀ o, o ≠ off + i * 5 + 2 → o ≠ off + i * 5 + 3 → w'.cell? ⟨b, o, none⟩ = w.cell? ⟨b, o, none⟩) (h2 : w'.cell? ⟨b, off + i * 5 + 2, none⟩ = some (es nm)) (h3 : w'.cell? ⟨b, off + i * 5 + 3, none⟩ = some (.slice a 0 c)) :
    ∃ fp', R_Sm1 fp' w' [.slice (some ⟨b, off, none⟩) n cap] (xs.set i ⟨xs[i].sums, xs[i].guard, nm, [], xs[i].next⟩) ∧ Own fp' w' ∧ ∀ c ∈ fp', c ∈ fp := by
  obtain ⟨u, f, hb, hul, hcell, hr, hbf, hput⟩ := slQ_less R_Smk h hO i hi
  obtain ⟨v0, v1, v3, v4, f0, f1, f3, f4, rfl, q0, q1, q3, q4, rfl⟩ := hr
  have d : ∀ c ∈ f0 ++ (f1 ++ (f3 ++ f4)), c ∉ [b] := fun c hc hm => by simp only [List.mem_singleton] at hm; subst hm; exact hbf hc
  refine hput w' ⟨xs[i].sums, xs[i].guard, nm, [], xs[i].next⟩ [v0, v1, es nm, .slice a 0 c, v4] (f0 ++ (f1 ++ ([] ++ f4))) hU (fun o ho => hfar o (by omega) (by omega)) rfl (fun j c hj => ?_) ⟨v0, v1, .slice a 0 c, v4, f0, f1, [], f4, rfl, R_I1k.upd q0 hU (fun c hc => d c (by simp [hc])), R_T1k.upd q1 hU (fun c hc => d c (by simp [hc])), slP_nil' R_T1 w' a c hc, R_T2k.upd q4 hU (fun c hc => d c (by simp [hc])), rfl⟩ ?_ hO'
  · match j, hj with
    | 0, hj => cases hj; rw [hfar _ (by omega) (by omega)]; exact hcell 0 _ rfl
    | 1, hj => cases hj; rw [hfar _ (by omega) (by omega)]; exact hcell 1 _ rfl
    | 2, hj => cases hj; exact h2
    | 3, hj => cases hj; exact h3
    | 4, hj => cases hj; rw [hfar _ (by omega) (by omega)]; exact hcell 4 _ rfl
  · exact List.Sublist.append (List.Sublist.refl _) (List.Sublist.append (List.Sublist.refl _) (List.Sublist.append (List.nil_sublist _) (List.Sublist.refl _)))

theorem wipe_go {fp : List Nat} {w wu : World} {b o : Nat} {u2 u3 v2 v3 : Value} (hO : Own fp w) (h2 : w.cell? ⟨b, o + 2, none⟩ = some u2) (h3 : w.cell? ⟨b, o + 3, none⟩ = some u3) (hb : b < w.heap.size) (hu : Upd [] (w.setCell ⟨b, o + 2, none⟩ v2) wu) :
    Upd [b] w (wu.setCell ⟨b, o + 3, none⟩ v3) ∧ Own fp (wu.setCell ⟨b, o + 3, none⟩ v3) ∧ (∀ p, p ≠ o + 2 → p ≠ o + 3 → (wu.setCell ⟨b, o + 3, none⟩ v3).cell? ⟨b, p, none⟩ = w.cell? ⟨b, p, none⟩) ∧
      (wu.setCell ⟨b, o + 3, none⟩ v3).cell? ⟨b, o + 2, none⟩ = some v2 ∧ (wu.setCell ⟨b, o + 3, none⟩ v3).cell? ⟨b, o + 3, none⟩ = some v3 := by
  have hb1 : b < (w.setCell ⟨b, o + 2, none⟩ v2).heap.size := by simpa using hb
  have ho : ∀ (W : World) (p q : Nat) (v : Value), p ≠ q → (W.setCell ⟨b, q, none⟩ v).cell? ⟨b, p, none⟩ = W.cell? ⟨b, p, none⟩ := fun W p q v h => World.cell?_setCell_other _ _ _ _ (by intro e; simp only [Addr.mk.injEq] at e; omega)
  have hk : ∀ p, wu.cell? ⟨b, p, none⟩ = (w.setCell ⟨b, o + 2, none⟩ v2).cell? ⟨b, p, none⟩ := fun p => World.cell?_of_block (hu.block b hb1 (by simp))
  refine ⟨(((Upd.refl [b] w).setCell (Or.inr (by simp)) v2).trans (hu.mono (by simp))).setCell (Or.inr (by simp)) v3, ((hO.setCell _ _).upd hu (by simp)).setCell _ _, fun p h1 h2 => ?_, ?_, ?_⟩
  · rw [ho _ _ _ _ h2, hk, ho _ _ _ _ h1]
  · rw [ho _ _ _ _ (by omega), hk]; exact World.cell?_setCell_same _ _ _ h2
  · exact World.cell?_setCell_same _ _ _ (by rw [hk, ho _ _ _ _ (by omega)]; exact h3)

set_option maxRecDepth 20000 in
set_option maxHeartbeats 4000000 in
theorem hideI (cs : List Value) (x : Ln) (v : Value) (ns : List (List UInt8)) (w : World) (fp fs : List Nat) (hR : R_Ln fp w cs x) (hS : R_S1 fs w [v] ns) (hF : LnFits x) :
    Calls Try.prog 67 #[.agg cs.toArray, v] w (MadeLn w (hidP ns x)) := by
  have hR' := hR
  obtain ⟨v1, v2, f1, f2, rfl, r1, r2, rfl⟩ := hR
  obtain ⟨B, hB⟩ : ∃ B, B = w.heap.size := ⟨_, rfl⟩
  obtain ⟨wA, hwA⟩ : ∃ wA, wA = (w.alloc (.cells #[ei x.pars, v1, v2] 29)).alloc (.cells #[.int .i64 0, .slice none 0 0, .slice none 0 0] 29) := ⟨_, rfl⟩
  have s1 : (w.alloc (.cells #[ei x.pars, v1, v2] 29)).heap.size = B + 1 := by rw [hB]; simp
  have uA : Upd [] w wA := by rw [hwA]; exact ((Upd.refl _ _).alloc _).alloc _
  have hA1 : RowAt wA (B + 1) 29 zerosLn := by rw [hwA, ← s1]; exact RowAt.new _ _ _
  have hL : RowAt wA B 29 [ei x.pars, v1, v2] := by rw [hwA, hB]; exact (RowAt.new _ _ _).upd ((Upd.refl [] _).alloc _) (by simp)
  have HA := Lib.hid hA1
  have SC := Lib.hid (fun W (hu : Upd [] w W) y => containsSS v ns y W fs (R_S1k.upd hS hu (by simp)))
  have S3 := Lib.hid (cloneLnI _ x wA _ (R_Lnk.upd hR' uA (by simp)) hF)
  have UA := Lib.hid uA
  have hL1 := hL
  unfold RowAt at hL1
  clear r1 r2 hR' uA s1 hF hL hA1 hS
  go_enter Try.func67, Try.ntmps67
  go_upto_region 1 with (fail)
  rw [← hwA, ← hB]
  have HBB := Lib.hid hB
  clear hwA hB
  go_wp2_with (first
    | (refine wpList_load_row rfl 29 _ rfl B rfl 29 #[ei x.pars, v1, v2] (0, 0) _ hL1 Try.underlying29 rfl Ln_size ?_)
    | fail)
  refine S3.out.mono ?_
  rintro e w3 ⟨⟨us, rfl, hl, hc, hn⟩, hu3⟩
  obtain ⟨p1, q1, p2, q2, rfl⟩ := ln_form hn
  obtain ⟨fx, ⟨vv1, vv2, g1, g2, hvv, rr1, rr2, rfl⟩, oo, ge⟩ := hn
  simp only [List.cons.injEq, and_true] at hvv
  obtain ⟨-, rfl, rfl⟩ := hvv
  obtain ⟨oo1, oo2, dd⟩ := own_split oo
  have lt1 := R_I1k.lt rr1
  have lt2 := R_Sm1k.lt rr2
  obtain ⟨wB, hwB⟩ : ∃ wB, wB = w3.alloc (.cells #[ei x.pars, .slice p1 x.start.length q1, .slice p2 x.sms.length q2] 29) := ⟨_, rfl⟩
  have uB : Upd [] w3 wB := by rw [hwB]; exact (Upd.refl _ _).alloc _
  obtain ⟨C, hC⟩ : ∃ C, C = w3.heap.size := ⟨_, rfl⟩
  have hrC : RowAt wB C 29 [ei x.pars, .slice p1 x.start.length q1, .slice p2 x.sms.length q2] := by rw [hwB, hC]; exact RowAt.new _ _ _
  have HUB := Lib.hid ((UA.out.trans hu3).trans uB)
  have HRC := Lib.hid hrC
  have HAB := Lib.hid ((HA.out.upd hu3 (by simp)).upd uB (by simp))
  have HG1 := Lib.hid (show R_I1 g1 wB [.slice p1 x.start.length q1] x.start ∧ Own g1 wB from ⟨R_I1k.upd rr1 uB (by simp), oo1.upd uB (by simp)⟩)
  have HG2 := Lib.hid (show ∃ g, R_Sm1 g wB [.slice p2 x.sms.length q2] ((x.sms.take 0).map (hidSm ns) ++ x.sms.drop 0) ∧ Own g wB ∧ ∀ c ∈ g, c ∈ g2 from ⟨g2, by simpa using R_Sm1k.upd rr2 uB (by simp), oo2.upd uB (by simp), fun c h => h⟩)
  have HD := Lib.hid (show (∀ c ∈ g1, wA.heap.size ≤ c ∧ c ∉ g2) ∧ (∀ c ∈ g2, wA.heap.size ≤ c ∧ c < C) from ⟨fun c hc => ⟨ge c (by simp [hc]), dd c hc⟩, fun c hc => ⟨ge c (by simp [hc]), by have := lt2 c hc; omega⟩⟩)
  have HBW := Lib.hid (show (B + 1) < wA.heap.size from HA.out.lt)
  have hCB : wA.heap.size ≤ C := by have := hu3.size; omega
  have HBN := Lib.hid (show w.heap.size ≤ (B + 1) by have := HBB.out; omega)
  have hC2 := hrC.cell 2 _ rfl
  clear S3 hu3 uB HA hc rr1 rr2 oo ge oo1 oo2 dd lt1 lt2 hrC hL1
  go_upto_region 2 with (fail)
  rw [← hwB, ← hC]
  clear hwB hC
  go_wp2_with fail
  go_loopw [13] (fun iv wr => ∃ k : Nat, k ≤ x.sms.length ∧ iv = .int .i64 k ∧ Hid (Upd [] w wr) ∧ Hid (RowAt wr C 29 [ei x.pars, .slice p1 x.start.length q1, .slice p2 x.sms.length q2]) ∧ Hid (RowAt wr (B + 1) 29 zerosLn) ∧ Hid (R_I1 g1 wr [.slice p1 x.start.length q1] x.start ∧ Own g1 wr) ∧
    Hid (∃ g, R_Sm1 g wr [.slice p2 x.sms.length q2] ((x.sms.take k).map (hidSm ns) ++ x.sms.drop k) ∧ Own g wr ∧ ∀ c ∈ g, c ∈ g2)) (fun iv _ => x.sms.length - (intOf iv).toNat)
  case atStart => exact ⟨0, Nat.zero_le _, rfl, HUB, HRC, HAB, HG1, HG2⟩
  case round =>
    clear HUB HRC HAB HG1 HG2 hC2
    obtain ⟨wo, rfl⟩ : ∃ wo : World, wo = wr := ⟨_, rfl⟩
    obtain ⟨k, hk, rfl, HU, HR, HA, HG1, HG2⟩ := hrel
    have z2 := HR.out.cell 2 _ rfl
    by_cases hlt : k < x.sms.length
    · obtain ⟨g, hgr, hgo, hgs⟩ := HG2.out
      obtain ⟨a', cap', hv, l9, m9, hcx⟩ := slQ_open hgr
      simp only [Value.slice.injEq] at hv
      obtain ⟨rfl, hlen, rfl⟩ := hv
      obtain ⟨bb, off, u, f, rfl, hbg, -, -, hcell, -, hr⟩ := hcx k (by rw [← hlen]; exact hlt)
      unfold maxLen at m9
      rw [← hlen] at l9
      have e : ((x.sms.take k).map (hidSm ns) ++ x.sms.drop k)[k]'(by rw [← hlen]; exact hlt) = x.sms[k] := so_at _ _ _ hlt
      rw [e] at hr
      have HTK := Lib.hid (show ((x.sms.take k).map (hidSm ns) ++ x.sms.drop k).set k (hidSm ns x.sms[k]) = (x.sms.take (k + 1)).map (hidSm ns) ++ x.sms.drop (k + 1) by
        rw [so_far _ _ _ hlt, so_set _ _ _ hlt])
      have HTI := Lib.hid (show ns.contains x.sms[k].name = false → ((x.sms.take k).map (hidSm ns) ++ x.sms.drop k) = (x.sms.take (k + 1)).map (hidSm ns) ++ x.sms.drop (k + 1) from fun h => by
        rw [so_far _ _ _ hlt, List.drop_eq_getElem_cons hlt]; unfold hidSm; rw [if_neg (by rw [h]; simp)])
      have HE := Lib.hid (show ns.contains x.sms[k].name = true → hidSm ns x.sms[k] = ⟨x.sms[k].sums, x.sms[k].guard, tauL, [], x.sms[k].next⟩ from fun h => by unfold hidSm; rw [if_pos h])
      have HPUT := Lib.hid (fun w' hU hO' a c hc hfar h2 h3 => sm_wipe (w := wo) (off := off) hgr hgo k (by rw [← hlen]; exact hlt) tauL w' a c hc hU hO' hfar h2 h3)
      obtain ⟨e0, e1, e3, e4, f0, f1', f3, f4, rfl, r0, r1, r3, r4, rfl⟩ := hr
      obtain ⟨d0, o0, rfl, -⟩ := slF1_open r0
      obtain ⟨d1, o1, rfl, -⟩ := slF2_open r1
      obtain ⟨d3, o3, rfl, -⟩ := slP_open r3
      obtain ⟨d4, o4, rfl, -⟩ := slP_open r4
      have s0 := hcell 0 _ rfl
      have s1 := hcell 1 _ rfl
      have s2 := hcell 2 _ rfl
      have s3 := hcell 3 _ rfl
      have s4 := hcell 4 _ rfl
      simp only [Nat.add_zero] at s0
      have hkl : (k : Int) < (x.sms.length : Int) := by omega
      have HY := Lib.hid (And.intro s2 s3)
      have HFZ := Lib.hid (hgo.frozen hbg)
      have HGG := Lib.hid (And.intro hgr (And.intro hgo hgs))
      have HBG := Lib.hid (hgs bb hbg)
      have HB5 := Lib.hid (show bb ≠ C ∧ bb ≠ (B + 1) ∧ w.heap.size ≤ bb ∧ bb ∉ g1 from ⟨by have := HD.out.2 bb HBG.out; omega, by have := HD.out.2 bb HBG.out; have := HBW.out; omega, by have := HD.out.2 bb HBG.out; have := UA.out.size; omega, fun h => (HD.out.1 bb h).2 HBG.out⟩)
      have HBI := Lib.hid hbg
      simp only [e] at HPUT
      clear r0 r1 r3 r4 hcell hcx HG2 hlen e hbg hgr hgo hgs
      generalize x.sms[k] = s at *
      obtain ⟨wq, hwq⟩ : ∃ wq, wq = wo.alloc (.cells #[.slice d0 s.sums.length o0, .slice d1 s.guard.length o1, es s.name, .slice d3 s.args.length o3, .slice d4 s.next.length o4] 56) := ⟨_, rfl⟩
      have uq : Upd [] wo wq := by rw [hwq]; exact (Upd.refl _ _).alloc _
      obtain ⟨T, hT⟩ : ∃ T, T = wo.heap.size := ⟨_, rfl⟩
      have hrT : RowAt wq T 56 [.slice d0 s.sums.length o0, .slice d1 s.guard.length o1, es s.name, .slice d3 s.args.length o3, .slice d4 s.next.length o4] := by rw [hwq, hT]; exact RowAt.new _ _ _
      have t2 := hrT.cell 2 _ rfl
      have SQ := SC.out wq (HU.out.trans uq) s.name
      have HUO := Lib.hid uq
      go_upto_region 5 with (fail)
      rw [← hwq, ← hT]
      clear hwq hT s0 s1 s2 s3 s4 z2 hrT uq
      generalize ns.contains s.name = q at *
      go_wp2_with fail
      refine SQ.mono ?_
      rintro e wc ⟨rfl, huc⟩
      have HUC := Lib.hid (HUO.out.trans huc)
      clear SQ huc t2 HUO
      cases q with
      | false =>
        replace HTI := Lib.hid (HTI.out rfl)
        clear HE HPUT
        go_wp2_with fail
        go_roundw
        case rel =>
          obtain ⟨q1', q2', q3'⟩ := HGG.out
          refine ⟨k + 1, by omega, by go_num, Lib.hid (HU.out.trans HUC.out), Lib.hid (HR.out.upd HUC.out (by simp)), Lib.hid (HA.out.upd HUC.out (by simp)), Lib.hid ⟨R_I1k.upd HG1.out.1 HUC.out (by simp), HG1.out.2.upd HUC.out (by simp)⟩, Lib.hid ⟨g, by rw [← HTI.out]; exact R_Sm1k.upd q1' HUC.out (by simp), q2'.upd HUC.out (by simp), q3'⟩⟩
        case measure => simp [intOf]; omega
      | true =>
        replace HTI := Lib.hid (HE.out rfl)
        clear HE
        have y2 := HUC.out.keep HY.out.1
        have y3 := HUC.out.keep HY.out.2
        have yf2 := (Own.frozen (HGG.out.2.1.upd HUC.out (by simp)) HBI.out (off + k * 5 + 2))
        have HRW := Lib.hid (HR.out.upd HUC.out (by simp))
        have zc2 := HRW.out.cell 2 _ rfl
        go_upto_region 7 with (fail)
        obtain ⟨wt, hwt⟩ : ∃ wt, wt = wc.setCell ⟨bb, off + k * 5 + 2, none⟩ (.string ⟨#[116, 97, 117]⟩) := ⟨_, rfl⟩
        rw [← hwt]
        have y3t : wt.cell? ⟨bb, off + k * 5 + 3, none⟩ = some (.slice d3 s.args.length o3) := by rw [hwt, World.cell?_setCell_other _ _ _ _ (by intro h; simp only [Addr.mk.injEq] at h; omega)]; exact y3
        have yf3 : wt.frozen? ⟨bb, off + k * 5 + 3, none⟩ = false := by rw [hwt]; exact Own.frozen ((HGG.out.2.1.upd HUC.out (by simp)).setCell _ _) HBI.out _
        have zt2 : wt.cell? ⟨C, 2, none⟩ = some (.slice (some ⟨bb, off, none⟩) x.sms.length q2) := by rw [hwt]; exact (HRW.out.other bb _ _ HB5.out.1).cell 2 _ rfl
        have HWT := Lib.hid hwt
        have HY23 := Lib.hid (And.intro y2 y3)
        clear hwt y2 y3 yf2 zc2
        go_wp2_with fail
        go_roundw
        case rel =>
          obtain ⟨q1', q2', q3'⟩ := HGG.out
          obtain ⟨W1, W2, W3, W4, W5⟩ := wipe_go (o := off + k * 5) (wu := wt) (v2 := es tauL) (v3 := .slice none 0 0) (q2'.upd HUC.out (by simp)) HY23.out.1 HY23.out.2 (by have := HUC.out.size; have := R_Sm1k.lt q1' bb HBI.out; omega) (by rw [HWT.out]; exact Upd.refl _ _)
          have hbw : bb < wo.heap.size := R_Sm1k.lt q1' bb HBI.out
          have W6 : Upd [bb] wo (wt.setCell ⟨bb, off + k * 5 + 3, none⟩ (.slice none 0 0)) := (HUC.out.mono (by simp)).trans W1
          obtain ⟨g', k1, k2, k3⟩ := HPUT.out _ W6 W2 _ _ (by simp [maxLen]) (fun o ho1 ho2 => (W3 o ho1 ho2).trans (World.cell?_of_block (HUC.out.block bb hbw (by simp)))) W4 W5
          refine ⟨k + 1, by omega, by go_num, Lib.hid (HU.out.fresh W6 (fun c hc => Or.inl (by simp at hc; subst hc; exact HB5.out.2.2.1))), Lib.hid ?_, Lib.hid ?_, Lib.hid ?_, Lib.hid ⟨g', by rw [← HTK.out, HTI.out]; exact k1, k2, fun c hc => q3' c (k3 c hc)⟩⟩
          · exact HR.out.upd W6 (by simp; exact Ne.symm HB5.out.1)
          · exact HA.out.upd W6 (by simp; exact Ne.symm HB5.out.2.1)
          · have hdd : ∀ c ∈ g1, c ∉ [bb] := fun c hc hm => by simp at hm; subst hm; exact HB5.out.2.2.2 hc
            exact ⟨R_I1k.upd HG1.out.1 W6 hdd, HG1.out.2.upd W6 hdd⟩
        case measure => simp [intOf]; omega
    · obtain rfl : k = x.sms.length := by omega
      obtain ⟨g, hgr, hgo, hgs⟩ := HG2.out
      rw [List.take_length, List.drop_length, List.append_nil] at hgr
      have hlen : x.sms.length = (x.sms.map (hidSm ns)).length := by simp
      have HG3 := Lib.hid (And.intro hgr (And.intro hgo hgs))
      have hR5 := HR.out
      have hA5 := HA.out
      unfold RowAt at hR5 hA5
      clear HG2 hgr hgo hgs hlen
      go_wp2_with (first
        | (refine wpList_load_row rfl 29 _ rfl C rfl 29 #[ei x.pars, .slice p1 x.start.length q1, .slice p2 x.sms.length q2] (0, 0) _ hR5 Try.underlying29 rfl Ln_size ?_)
        | (refine wpList_store_row rfl 29 _ _ rfl (B + 1) #[ei x.pars, .slice p1 x.start.length q1, .slice p2 x.sms.length q2] rfl rfl 29 _ hA5 Ln_size rfl (by simp [Value.oneCell']) ?_)
        | fail)
      have hr : RowAt (wo.setRow (B + 1) #[ei x.pars, .slice p1 x.start.length q1, .slice p2 x.sms.length q2]) (B + 1) 29 [ei x.pars, .slice p1 x.start.length q1, .slice p2 x.sms.length q2] := HA.out.row [ei x.pars, .slice p1 x.start.length q1, .slice p2 x.sms.length q2]
      have n0 := hr.cell 0 _ rfl
      have n1 := hr.cell 1 _ rfl
      have n2 := hr.cell 2 _ rfl
      refine bodyPost_ret (v := .agg #[ei x.pars, .slice p1 x.start.length q1, .slice p2 x.sms.length q2]) (by simp [results, Try.results67, go_sem, n0, n1, n2]) rfl ?_
      refine madeLn_of ?_
      obtain ⟨hgr, hgo, hgs⟩ := HG3.out
      refine gaveLn (us := [ei x.pars, .slice p1 x.start.length q1, .slice p2 x.sms.length q2]) (W := wA) (x := hidP ns x) ⟨g1 ++ g, ⟨_, _, g1, g, rfl, HG1.out.1, hgr, rfl⟩, own_join HG1.out.2 hgo (fun c h1 h2 => (HD.out.1 c h1).2 (hgs c h2)), fun c hc => ?_⟩ rfl (by simp [Value.oneCell']) HU.out HBN.out HBW.out UA.out.size
      rcases List.mem_append.1 hc with h | h
      · exact (HD.out.1 c h).1
      · exact (HD.out.2 c (hgs c h)).1

set_option maxRecDepth 20000 in
set_option maxHeartbeats 4000000 in
theorem hideS (P : Nat) (v1 v2 : Value) (x : Ln) (v : Value) (ns : List (List UInt8)) (w : World) (f1 f2 fs : List Nat) (hAt : LnAt w P v1 v2 f1 f2 x) (hS : R_S1 fs w [v] ns) (hF : LnFits x) :
    Calls Try.prog 66 #[.pointer (some ⟨P, 0, none⟩), v] w (MadeLn w (hidP ns x)) := by
  obtain ⟨B, hB⟩ : ∃ B, B = w.heap.size := ⟨_, rfl⟩
  obtain ⟨wA, hwA⟩ : ∃ wA, wA = w.alloc (.cells #[.int .i64 0, .slice none 0 0, .slice none 0 0] 29) := ⟨_, rfl⟩
  have uA : Upd [] w wA := by rw [hwA]; exact (Upd.refl _ _).alloc _
  have hA1 : RowAt wA B 29 zerosLn := by rw [hwA, hB]; exact RowAt.new _ _ _
  have HA := Lib.hid hA1
  have SC := Lib.hid (fun W (hu : Upd [] w W) y => findS v ns y W fs (R_S1k.upd hS hu (by simp)))
  have S3 := Lib.hid (ownLnS P v1 v2 x wA f1 f2 (hAt.upd uA) hF.sf hF.st hF.sm)
  have UA := Lib.hid uA
  clear uA hF hA1 hS hAt
  go_enter Try.func66, Try.ntmps66
  go_upto_region 1 with (fail)
  rw [← hwA, ← hB]
  have HBB := Lib.hid hB
  clear hwA hB
  go_wp2_with fail
  refine S3.out.mono ?_
  rintro e w3 ⟨⟨us, rfl, hl, hc, hn⟩, hu3⟩
  obtain ⟨p1, q1, p2, q2, rfl⟩ := ln_form hn
  obtain ⟨fx, ⟨vv1, vv2, g1, g2, hvv, rr1, rr2, rfl⟩, oo, ge⟩ := hn
  simp only [List.cons.injEq, and_true] at hvv
  obtain ⟨-, rfl, rfl⟩ := hvv
  obtain ⟨oo1, oo2, dd⟩ := own_split oo
  have lt1 := R_I1k.lt rr1
  have lt2 := R_Sm1k.lt rr2
  obtain ⟨wB, hwB⟩ : ∃ wB, wB = w3.alloc (.cells #[ei x.pars, .slice p1 x.start.length q1, .slice p2 x.sms.length q2] 29) := ⟨_, rfl⟩
  have uB : Upd [] w3 wB := by rw [hwB]; exact (Upd.refl _ _).alloc _
  obtain ⟨C, hC⟩ : ∃ C, C = w3.heap.size := ⟨_, rfl⟩
  have hrC : RowAt wB C 29 [ei x.pars, .slice p1 x.start.length q1, .slice p2 x.sms.length q2] := by rw [hwB, hC]; exact RowAt.new _ _ _
  have HUB := Lib.hid ((UA.out.trans hu3).trans uB)
  have HRC := Lib.hid hrC
  have HAB := Lib.hid ((HA.out.upd hu3 (by simp)).upd uB (by simp))
  have HG1 := Lib.hid (show R_I1 g1 wB [.slice p1 x.start.length q1] x.start ∧ Own g1 wB from ⟨R_I1k.upd rr1 uB (by simp), oo1.upd uB (by simp)⟩)
  have HG2 := Lib.hid (show ∃ g, R_Sm1 g wB [.slice p2 x.sms.length q2] ((x.sms.take 0).map (hidSm ns) ++ x.sms.drop 0) ∧ Own g wB ∧ ∀ c ∈ g, c ∈ g2 from ⟨g2, by simpa using R_Sm1k.upd rr2 uB (by simp), oo2.upd uB (by simp), fun c h => h⟩)
  have HD := Lib.hid (show (∀ c ∈ g1, wA.heap.size ≤ c ∧ c ∉ g2) ∧ (∀ c ∈ g2, wA.heap.size ≤ c ∧ c < C) from ⟨fun c hc => ⟨ge c (by simp [hc]), dd c hc⟩, fun c hc => ⟨ge c (by simp [hc]), by have := lt2 c hc; omega⟩⟩)
  have HBW := Lib.hid (show B < wA.heap.size from HA.out.lt)
  have hCB : wA.heap.size ≤ C := by have := hu3.size; omega
  have HBN := Lib.hid (show w.heap.size ≤ B by have := HBB.out; omega)
  have hC2 := hrC.cell 2 _ rfl
  clear S3 hu3 uB HA hc rr1 rr2 oo ge oo1 oo2 dd lt1 lt2 hrC 
  go_upto_region 2 with (fail)
  rw [← hwB, ← hC]
  clear hwB hC
  go_wp2_with fail
  go_loopw [6] (fun iv wr => ∃ k : Nat, k ≤ x.sms.length ∧ iv = .int .i64 k ∧ Hid (Upd [] w wr) ∧ Hid (RowAt wr C 29 [ei x.pars, .slice p1 x.start.length q1, .slice p2 x.sms.length q2]) ∧ Hid (RowAt wr B 29 zerosLn) ∧ Hid (R_I1 g1 wr [.slice p1 x.start.length q1] x.start ∧ Own g1 wr) ∧
    Hid (∃ g, R_Sm1 g wr [.slice p2 x.sms.length q2] ((x.sms.take k).map (hidSm ns) ++ x.sms.drop k) ∧ Own g wr ∧ ∀ c ∈ g, c ∈ g2)) (fun iv _ => x.sms.length - (intOf iv).toNat)
  case atStart => exact ⟨0, Nat.zero_le _, rfl, HUB, HRC, HAB, HG1, HG2⟩
  case round =>
    clear HUB HRC HAB HG1 HG2 hC2
    obtain ⟨wo, rfl⟩ : ∃ wo : World, wo = wr := ⟨_, rfl⟩
    obtain ⟨k, hk, rfl, HU, HR, HA, HG1, HG2⟩ := hrel
    have z2 := HR.out.cell 2 _ rfl
    by_cases hlt : k < x.sms.length
    · obtain ⟨g, hgr, hgo, hgs⟩ := HG2.out
      obtain ⟨a', cap', hv, l9, m9, hcx⟩ := slQ_open hgr
      simp only [Value.slice.injEq] at hv
      obtain ⟨rfl, hlen, rfl⟩ := hv
      obtain ⟨bb, off, u, f, rfl, hbg, -, -, hcell, -, hr⟩ := hcx k (by rw [← hlen]; exact hlt)
      unfold maxLen at m9
      rw [← hlen] at l9
      have e : ((x.sms.take k).map (hidSm ns) ++ x.sms.drop k)[k]'(by rw [← hlen]; exact hlt) = x.sms[k] := so_at _ _ _ hlt
      rw [e] at hr
      have HTK := Lib.hid (show ((x.sms.take k).map (hidSm ns) ++ x.sms.drop k).set k (hidSm ns x.sms[k]) = (x.sms.take (k + 1)).map (hidSm ns) ++ x.sms.drop (k + 1) by
        rw [so_far _ _ _ hlt, so_set _ _ _ hlt])
      have HTI := Lib.hid (show ns.contains x.sms[k].name = false → ((x.sms.take k).map (hidSm ns) ++ x.sms.drop k) = (x.sms.take (k + 1)).map (hidSm ns) ++ x.sms.drop (k + 1) from fun h => by
        rw [so_far _ _ _ hlt, List.drop_eq_getElem_cons hlt]; unfold hidSm; rw [if_neg (by rw [h]; simp)])
      have HE := Lib.hid (show ns.contains x.sms[k].name = true → hidSm ns x.sms[k] = ⟨x.sms[k].sums, x.sms[k].guard, tauL, [], x.sms[k].next⟩ from fun h => by unfold hidSm; rw [if_pos h])
      have HPUT := Lib.hid (fun w' hU hO' a c hc hfar h2 h3 => sm_wipe (w := wo) (off := off) hgr hgo k (by rw [← hlen]; exact hlt) tauL w' a c hc hU hO' hfar h2 h3)
      obtain ⟨e0, e1, e3, e4, f0, f1', f3, f4, rfl, r0, r1, r3, r4, rfl⟩ := hr
      obtain ⟨d0, o0, rfl, -⟩ := slF1_open r0
      obtain ⟨d1, o1, rfl, -⟩ := slF2_open r1
      obtain ⟨d3, o3, rfl, -⟩ := slP_open r3
      obtain ⟨d4, o4, rfl, -⟩ := slP_open r4
      have s0 := hcell 0 _ rfl
      have s1 := hcell 1 _ rfl
      have s2 := hcell 2 _ rfl
      have s3 := hcell 3 _ rfl
      have s4 := hcell 4 _ rfl
      simp only [Nat.add_zero] at s0
      have hkl : (k : Int) < (x.sms.length : Int) := by omega
      have HY := Lib.hid (And.intro s2 s3)
      have HFZ := Lib.hid (hgo.frozen hbg)
      have HGG := Lib.hid (And.intro hgr (And.intro hgo hgs))
      have HBG := Lib.hid (hgs bb hbg)
      have HB5 := Lib.hid (show bb ≠ C ∧ bb ≠ B ∧ w.heap.size ≤ bb ∧ bb ∉ g1 from ⟨by have := HD.out.2 bb HBG.out; omega, by have := HD.out.2 bb HBG.out; have := HBW.out; omega, by have := HD.out.2 bb HBG.out; have := UA.out.size; omega, fun h => (HD.out.1 bb h).2 HBG.out⟩)
      have HBI := Lib.hid hbg
      simp only [e] at HPUT
      clear r0 r1 r3 r4 hcell hcx HG2 hlen e hbg hgr hgo hgs
      generalize x.sms[k] = s at *
      have SQ := SC.out wo HU.out s.name
      have HPN := Lib.hid (placeS_nonneg s.name ns)
      obtain ⟨Z, hZ⟩ : ∃ Z, placeS s.name ns = Z := ⟨_, rfl⟩
      rw [hZ] at SQ HPN
      generalize ns.contains s.name = q at *
      clear hZ s0 s1 s3 s4
      go_wp2_with fail
      refine SQ.mono ?_
      rintro e wc ⟨rfl, rfl⟩
      have HUC := Lib.hid (Upd.refl [] wo)
      clear SQ
      cases q with
      | false =>
        replace HTI := Lib.hid (HTI.out rfl)
        have hz : ¬ (0 : Int) ≤ Z := of_decide_eq_false HPN.out
        clear HE HPUT
        go_wp2_with fail
        go_roundw
        case rel =>
          obtain ⟨q1', q2', q3'⟩ := HGG.out
          exact ⟨k + 1, by omega, by go_num, HU, HR, HA, HG1, Lib.hid ⟨g, by rw [← HTI.out]; exact q1', q2', q3'⟩⟩
        case measure => simp [intOf]; omega
      | true =>
        replace HTI := Lib.hid (HE.out rfl)
        have hz : (0 : Int) ≤ Z := of_decide_eq_true HPN.out
        clear HE
        have y2 := HY.out.1
        have y3 := HY.out.2
        have yf2 := (Own.frozen (HGG.out.2.1.upd HUC.out (by simp)) HBI.out (off + k * 5 + 2))
        have HRW := Lib.hid (HR.out.upd HUC.out (by simp))
        have zc2 := HRW.out.cell 2 _ rfl
        go_upto_region 7 with (fail)
        obtain ⟨wt, hwt⟩ : ∃ wt, wt = wo.setCell ⟨bb, off + k * 5 + 2, none⟩ (.string ⟨#[116, 97, 117]⟩) := ⟨_, rfl⟩
        rw [← hwt]
        have y3t : wt.cell? ⟨bb, off + k * 5 + 3, none⟩ = some (.slice d3 s.args.length o3) := by rw [hwt, World.cell?_setCell_other _ _ _ _ (by intro h; simp only [Addr.mk.injEq] at h; omega)]; exact y3
        have yf3 : wt.frozen? ⟨bb, off + k * 5 + 3, none⟩ = false := by rw [hwt]; exact Own.frozen ((HGG.out.2.1.upd HUC.out (by simp)).setCell _ _) HBI.out _
        have zt2 : wt.cell? ⟨C, 2, none⟩ = some (.slice (some ⟨bb, off, none⟩) x.sms.length q2) := by rw [hwt]; exact (HRW.out.other bb _ _ HB5.out.1).cell 2 _ rfl
        have HWT := Lib.hid hwt
        have HY23 := Lib.hid (And.intro y2 y3)
        have yf3a : (wt.alloc (.cells #[] 53)).frozen? ⟨bb, off + k * 5 + 3, none⟩ = false := by rw [hwt]; exact Own.frozen ((((HGG.out.2.1.upd HUC.out (by simp)).setCell _ _).upd ((Upd.refl [] _).alloc _) (by simp))) HBI.out _
        have y3a : (wt.alloc (.cells #[] 53)).cell? ⟨bb, off + k * 5 + 3, none⟩ = some (.slice d3 s.args.length o3) := ((Upd.refl [] wt).alloc _).keep y3t
        clear hwt y2 y3 yf2 zc2
        go_wp2_with fail
        go_roundw
        case rel =>
          obtain ⟨q1', q2', q3'⟩ := HGG.out
          obtain ⟨W1, W2, W3, W4, W5⟩ := wipe_go (o := off + k * 5) (wu := (wt.alloc (.cells #[] 53))) (v2 := es tauL) (v3 := .slice (some ⟨wt.heap.size, 0, none⟩) 0 0) (q2'.upd HUC.out (by simp)) HY23.out.1 HY23.out.2 (by have := HUC.out.size; have := R_Sm1k.lt q1' bb HBI.out; omega) (by rw [HWT.out]; exact (Upd.refl _ _).alloc _)
          have hbw : bb < wo.heap.size := R_Sm1k.lt q1' bb HBI.out
          have W6 : Upd [bb] wo ((wt.alloc (.cells #[] 53)).setCell ⟨bb, off + k * 5 + 3, none⟩ (.slice (some ⟨wt.heap.size, 0, none⟩) 0 0)) := (HUC.out.mono (by simp)).trans W1
          obtain ⟨g', k1, k2, k3⟩ := HPUT.out _ W6 W2 _ _ (by simp [maxLen]) (fun o ho1 ho2 => (W3 o ho1 ho2).trans (World.cell?_of_block (HUC.out.block bb hbw (by simp)))) W4 W5
          refine ⟨k + 1, by omega, by go_num, Lib.hid (HU.out.fresh W6 (fun c hc => Or.inl (by simp at hc; subst hc; exact HB5.out.2.2.1))), Lib.hid ?_, Lib.hid ?_, Lib.hid ?_, Lib.hid ⟨g', by rw [← HTK.out, HTI.out]; exact k1, k2, fun c hc => q3' c (k3 c hc)⟩⟩
          · exact HR.out.upd W6 (by simp; exact Ne.symm HB5.out.1)
          · exact HA.out.upd W6 (by simp; exact Ne.symm HB5.out.2.1)
          · have hdd : ∀ c ∈ g1, c ∉ [bb] := fun c hc hm => by simp at hm; subst hm; exact HB5.out.2.2.2 hc
            exact ⟨R_I1k.upd HG1.out.1 W6 hdd, HG1.out.2.upd W6 hdd⟩
        case measure => simp [intOf]; omega
    · obtain rfl : k = x.sms.length := by omega
      obtain ⟨g, hgr, hgo, hgs⟩ := HG2.out
      rw [List.take_length, List.drop_length, List.append_nil] at hgr
      have hlen : x.sms.length = (x.sms.map (hidSm ns)).length := by simp
      have HG3 := Lib.hid (And.intro hgr (And.intro hgo hgs))
      have hR5 := HR.out
      have hA5 := HA.out
      unfold RowAt at hR5 hA5
      clear HG2 hgr hgo hgs hlen
      go_wp2_with (first
        | (refine wpList_load_row rfl 29 _ rfl C rfl 29 #[ei x.pars, .slice p1 x.start.length q1, .slice p2 x.sms.length q2] (0, 0) _ hR5 Try.underlying29 rfl Ln_size ?_)
        | (refine wpList_store_row rfl 29 _ _ rfl B #[ei x.pars, .slice p1 x.start.length q1, .slice p2 x.sms.length q2] rfl rfl 29 _ hA5 Ln_size rfl (by simp [Value.oneCell']) ?_)
        | fail)
      have hr : RowAt (wo.setRow B #[ei x.pars, .slice p1 x.start.length q1, .slice p2 x.sms.length q2]) B 29 [ei x.pars, .slice p1 x.start.length q1, .slice p2 x.sms.length q2] := HA.out.row [ei x.pars, .slice p1 x.start.length q1, .slice p2 x.sms.length q2]
      have n0 := hr.cell 0 _ rfl
      have n1 := hr.cell 1 _ rfl
      have n2 := hr.cell 2 _ rfl
      refine bodyPost_ret (v := .agg #[ei x.pars, .slice p1 x.start.length q1, .slice p2 x.sms.length q2]) (by simp [results, Try.results66, go_sem, n0, n1, n2]) rfl ?_
      refine madeLn_of ?_
      obtain ⟨hgr, hgo, hgs⟩ := HG3.out
      refine gaveLn (us := [ei x.pars, .slice p1 x.start.length q1, .slice p2 x.sms.length q2]) (W := wA) (x := hidP ns x) ⟨g1 ++ g, ⟨_, _, g1, g, rfl, HG1.out.1, hgr, rfl⟩, own_join HG1.out.2 hgo (fun c h1 h2 => (HD.out.1 c h1).2 (hgs c h2)), fun c hc => ?_⟩ rfl (by simp [Value.oneCell']) HU.out HBN.out HBW.out UA.out.size
      rcases List.mem_append.1 hc with h | h
      · exact (HD.out.1 c h).1
      · exact (HD.out.2 c (hgs c h)).1

end Go.Proofs.Ytnfghgaadnobbaa
