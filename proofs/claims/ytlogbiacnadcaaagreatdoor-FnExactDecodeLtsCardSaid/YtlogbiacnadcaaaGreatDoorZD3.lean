/-
  Texts joined in one file: EncV, EncL, EncI, DecQ, DecU, DecL, DecP, DecK.
-/
import Derived.Test.YtlogbiacnadcaaaGreatDoorZD1
import Derived.Test.YtlogbiacnadcaaaGreatDoorZD2
/-
  Validity of systems: the parts of both sides' walks.
-/
namespace Go.Proofs.YtlogbiacnadcaaaGreatDoor
open Go.RowKit

def firstNZ : List Int → Int
  | [] => 0
  | x :: r => if x ≠ 0 then x else firstNZ r

set_option maxRecDepth 20000 in
theorem cmpOr (v : Value) (xs : List Int) (w : World) (fp : List Nat) (hR : R1 fp w [v] xs) : Calls Tryz.prog 117 #[v] w fun e w' => e = .returned (.int .i64 (firstNZ xs)) ∧ w = w' := by
  obtain ⟨a, cap, rfl, h1, h2, hc⟩ := slF1_open hR
  unfold maxLen at h2
  clear hR
  go_enter Tryz.func117, Tryz.ntmps117
  go_wp2_with fail
  go_loop [8] (fun iv => ∃ k : Nat, k ≤ xs.length ∧ iv = .int .i64 k ∧ Hid (firstNZ (xs.drop k) = firstNZ xs)) (fun iv => xs.length - (intOf iv).toNat)
  case atStart => exact ⟨0, Nat.zero_le _, rfl, Lib.hid rfl⟩
  case round =>
    obtain ⟨k, hk, rfl, HF⟩ := hrel
    by_cases hlt : k < xs.length
    · obtain ⟨b, o, rfl, -, -, p1⟩ := hc k hlt
      have HG := Lib.hid (show firstNZ xs = if xs[k] ≠ 0 then xs[k] else firstNZ (xs.drop (k + 1)) by rw [← HF.out, List.drop_eq_getElem_cons hlt, firstNZ])
      generalize xs[k] = x at *
      clear hc HF
      by_cases hx : x = 0
      · have HQ := Lib.hid (HG.out.trans (if_neg (by simpa using hx)))
        subst hx
        clear HG
        go_wp2_with fail
        go_round
        case rel => exact ⟨k + 1, by omega, by go_num, Lib.hid HQ.out.symm⟩
        case measure => simp [intOf]; omega
      · have HQ := Lib.hid (HG.out.trans (if_pos hx))
        have hx1 : (x == 0) = false := by simpa using hx
        have hx2 : (x != 0) = true := by simpa using hx
        clear HG
        go_wp2_with fail
        go_ret
        exact ⟨by rw [HQ.out]; rfl, rfl⟩
    · have HQ := Lib.hid (show firstNZ xs = 0 by rw [← HF.out, List.drop_of_length_le (by omega)]; rfl)
      clear HF hc
      go_wp2_with fail
      go_ret
      exact ⟨by rw [HQ.out]; rfl, rfl⟩

theorem cmp1_lt (x y : Int) : cmp1 x y = if x < y then -1 else if y < x then 1 else 0 := rfl
theorem edLt_cmp (a b : Ed) : decide (0 ≤ firstNZ [cmp1 a.fr b.fr, cmp1 a.lb b.lb, cmp1 a.to b.to]) = !edLt a b := by
  unfold edLt firstNZ firstNZ firstNZ firstNZ cmp1
  rcases Int.lt_trichotomy a.fr b.fr with h1 | h1 | h1
  · have h2 : a.fr ≠ b.fr := by omega
    simp [h1, h2]
  · rcases Int.lt_trichotomy a.lb b.lb with h3 | h3 | h3
    · have h4 : a.lb ≠ b.lb := by omega
      simp [h1, h3, h4]
    · rcases Int.lt_trichotomy a.to b.to with h5 | h5 | h5
      · simp [h1, h3, h5]
      · simp [h1, h3, h5]
      · have h6 : ¬ a.to < b.to := by omega
        simp [h1, h3, h5, h6]
    · have h4 : a.lb ≠ b.lb := by omega
      have h5 : ¬ a.lb < b.lb := by omega
      simp [h1, h3, h4, h5]
  · have h2 : a.fr ≠ b.fr := by omega
    have h3 : ¬ a.fr < b.fr := by omega
    simp [h1, h2, h3]

def CmpEd (a b : Ed) (w : World) (e : Ending) (w' : World) : Prop := (∃ c : Int, e = .returned (.int .i64 c) ∧ decide (0 ≤ c) = !edLt a b) ∧ Upd [] w w'

set_option maxRecDepth 20000 in
set_option maxHeartbeats 2000000 in
theorem cmpEdges (a b : Ed) (w : World) : Calls Tryz.prog 84 #[.agg #[ei a.fr, ei a.lb, ei a.to], .agg #[ei b.fr, ei b.lb, ei b.to]] w (CmpEd a b w) := by
  have HE := Lib.hid (edLt_cmp a b)
  have HOR := Lib.hid (fun (W : World) (H : Nat) (hH : W.heap.size = H) (x y z : Int) => show Calls Tryz.prog 117 #[.slice (some ⟨H, 0, none⟩) 3 3] (W.alloc (.cells #[.int .i64 x, .int .i64 y, .int .i64 z] 3)).drew (fun e w' => e = .returned (.int .i64 (firstNZ [x, y, z])) ∧ (W.alloc (.cells #[.int .i64 x, .int .i64 y, .int .i64 z] 3)).drew = w') by
    subst hH
    obtain ⟨fp, h1, -, -⟩ := new_lit (enc := ei) W 3 [x, y, z] (by simp [maxLen])
    exact cmpOr _ [x, y, z] _ fp (R1k.drew h1))
  obtain ⟨a1, a2, a3⟩ := a
  obtain ⟨b1, b2, b3⟩ := b
  simp only at HE ⊢
  go_enter Tryz.func84, Tryz.ntmps84
  go_upto_region 1 with (fail)
  have hs : (w.alloc (.cells #[ei a1, ei a2, ei a3] 62)).heap.size = w.heap.size + 1 := by simp
  go_region_held3 (fun w' => w'.cell? ⟨w.heap.size, 0, none⟩ = some (ei a1) ∧ w'.cell? ⟨w.heap.size, 1, none⟩ = some (ei a2) ∧ w'.cell? ⟨w.heap.size, 2, none⟩ = some (ei a3) ∧ w'.cell? ⟨w.heap.size + 1, 0, none⟩ = some (ei b1) ∧ w'.cell? ⟨w.heap.size + 1, 1, none⟩ = some (ei b2) ∧ w'.cell? ⟨w.heap.size + 1, 2, none⟩ = some (ei b3)) (go_keep)
    (first
      | (go_at_call 118; (with_reducible refine (cmpOne _ _ _).mono ?_); rintro e w1 ⟨rfl, rfl⟩)
      | (go_at_call 117; (with_reducible refine (HOR.out _ _ (by simp) _ _ _).mono ?_); rintro e w1 ⟨rfl, rfl⟩))
  go_wp2_with fail
  go_ret
  exact ⟨⟨_, rfl, HE.out⟩, (((Upd.refl _ _).alloc _).alloc _).alloc _ |>.drew⟩

theorem isStateI (st ini : Int) (v1 v2 : Value) (n : Int) (w : World) (h0 : 1 ≤ st) (h1 : st ≤ 40) :
    Calls Tryz.prog 81 #[.agg #[ei st, ei ini, v1, v2], .int .i64 n] w fun e w' => e = .returned (.bool (inB n 0 (st - 1))) ∧ Upd [] w w' := by
  have S1 := Lib.hid (fun W : World => within n 0 (st - 1) W)
  generalize inB n 0 (st - 1) = b at *
  go_enter Tryz.func81, Tryz.ntmps81
  go_wp2_with fail
  refine (S1.out _).mono ?_
  rintro e w1 ⟨rfl, rfl⟩
  clear S1
  go_wp2_with fail
  go_ret
  exact ⟨rfl, (Upd.refl _ _).alloc _⟩

theorem idxI (n : Int) (m : Nat) (w : World) (hm : m ≤ 1000000) : Calls Tryz.prog 83 #[.int .i64 n, .int .i64 m] w fun e w' => e = .returned (.bool (inB n 0 (m - 1))) ∧ w = w' := by
  have S1 := Lib.hid (within n 0 ((m : Int) - 1) w)
  generalize inB n 0 ((m : Int) - 1) = b at *
  go_enter Tryz.func83, Tryz.ntmps83
  go_wp2_with fail
  refine S1.out.mono ?_
  rintro e w1 ⟨rfl, rfl⟩
  clear S1
  go_wp2_with fail
  go_ret
  exact ⟨rfl, rfl⟩

set_option maxRecDepth 20000 in
set_option maxHeartbeats 2000000 in
theorem lessS (a b : Ed) (p o q o2 : Nat) (w : World) (c1 : w.cell? ⟨p, o, none⟩ = some (ei a.fr)) (c2 : w.cell? ⟨p, o + 1, none⟩ = some (ei a.lb)) (c3 : w.cell? ⟨p, o + 2, none⟩ = some (ei a.to))
    (d1 : w.cell? ⟨q, o2, none⟩ = some (ei b.fr)) (d2 : w.cell? ⟨q, o2 + 1, none⟩ = some (ei b.lb)) (d3 : w.cell? ⟨q, o2 + 2, none⟩ = some (ei b.to)) :
    Calls Tryz.prog 75 #[.pointer (some ⟨p, o, none⟩), .pointer (some ⟨q, o2, none⟩)] w fun e w' => e = .returned (.bool (edLt a b)) ∧ Upd [] w w' := by
  obtain ⟨a1, a2, a3⟩ := a
  obtain ⟨b1, b2, b3⟩ := b
  simp only at c1 c2 c3 d1 d2 d3
  have HE := Lib.hid (show edLt ⟨a1, a2, a3⟩ ⟨b1, b2, b3⟩ = if a1 ≠ b1 then decide (a1 < b1) else if a2 ≠ b2 then decide (a2 < b2) else decide (a3 < b3) from rfl)
  by_cases h1 : a1 = b1
  · have g1 : (a1 != b1) = false := by simp [h1]
    have HE2 := Lib.hid (HE.out.trans (if_neg (by simpa using h1)))
    clear HE h1
    by_cases h2 : a2 = b2
    · have g2 : (a2 != b2) = false := by simp [h2]
      have HE3 := Lib.hid (HE2.out.trans (if_neg (by simpa using h2)))
      clear HE2 h2
      go_enter Tryz.func75, Tryz.ntmps75
      go_wp2_with fail
      go_quiet (fail)
      go_wp2_with fail
      go_quiet (fail)
      go_wp2_with fail
      go_quiet (fail)
      go_wp2_with fail
      go_ret
      exact ⟨by rw [HE3.out]; rfl, by simp only [drewN_add]; exact (Upd.refl _ _).drewN _⟩
    · have g2 : (a2 != b2) = true := by simp [h2]
      have HE3 := Lib.hid (HE2.out.trans (if_pos (by simpa using h2)))
      clear HE2 h2
      go_enter Tryz.func75, Tryz.ntmps75
      go_wp2_with fail
      go_quiet (fail)
      go_wp2_with fail
      go_quiet (fail)
      go_wp2_with fail
      go_quiet (fail)
      go_wp2_with fail
      go_ret
      exact ⟨by rw [HE3.out]; rfl, by simp only [drewN_add]; exact (Upd.refl _ _).drewN _⟩
  · have g1 : (a1 != b1) = true := by simp [h1]
    have HE2 := Lib.hid (HE.out.trans (if_pos (by simpa using h1)))
    clear HE h1
    go_enter Tryz.func75, Tryz.ntmps75
    go_wp2_with fail
    go_quiet (fail)
    go_wp2_with fail
    go_quiet (fail)
    go_wp2_with fail
    go_ret
    exact ⟨by rw [HE2.out]; rfl, by simp only [drewN_add]; exact (Upd.refl _ _).drewN _⟩

end Go.Proofs.YtlogbiacnadcaaaGreatDoor

/-
  Validity of systems: what the program's call returns.
-/
namespace Go.Proofs.YtlogbiacnadcaaaGreatDoor
open Go.RowKit

theorem inB_len (n : Nat) : inB (n : Int) 1 12 = (decide (1 ≤ n) && decide (n ≤ 12)) := by
  rw [Bool.eq_iff_iff]
  constructor
  · intro h
    have := inB_true h
    simp; omega
  · intro h
    simp at h
    exact inB_mk (by omega)

theorem labP_at (labs : List (List UInt8)) (k : Nat) (hk : k < labs.length) : labP labs k = (isLab labs[k] && ((labs[k] == tauL) == decide (k = 0)) && (!decide (1 < k) || bl (labs.getD (k - 1) []) labs[k])) := by
  unfold labP
  rw [List.getD_eq_getElem?_getD, List.getElem?_eq_getElem hk]; rfl

theorem edP_at (x : Sys) (k : Nat) (hk : k < x.eds.length) : edP x k = (inB x.eds[k].fr 0 (x.st - 1) && inB x.eds[k].to 0 (x.st - 1) && inB x.eds[k].lb 0 (x.labs.length - 1) && (decide (k = 0) || edLt (x.eds.getD (k - 1) ⟨0, 0, 0⟩) x.eds[k])) := by
  unfold edP
  rw [List.getD_eq_getElem?_getD, List.getElem?_eq_getElem hk]; rfl

set_option maxRecDepth 20000 in
set_option maxHeartbeats 4000000 in
theorem validI (x : Sys) (v1 v2 : Value) (w : World) (f1 f2 : List Nat) (h1 : RS f1 w [v1] x.labs) (h2 : R_E1 f2 w [v2] x.eds) (hp : ∀ p ∈ x.labs, p.length ≤ 2000000) (he : Env w) :
    Calls Tryz.prog 37 #[.agg #[ei x.st, ei x.ini, v1, v2]] w fun e w' => e = .returned (.bool (sysOk x)) ∧ Upd [] w w' := by
  obtain ⟨st, ini, labs, eds⟩ := x
  simp only at h1 h2 hp ⊢
  have HOK := Lib.hid (show sysOk ⟨st, ini, labs, eds⟩ = (inB st 1 40 && inB ini 0 (st - 1) && labsOk labs && decide (eds.length ≤ 300) && allF (edP ⟨st, ini, labs, eds⟩) 0 eds.length) from rfl)
  have HLO := Lib.hid (show labsOk labs = (inB (labs.length : Int) 1 12 && allF (labP labs) 0 labs.length) by rw [inB_len]; rfl)
  obtain ⟨a1, c1, rfl, hl1, hm1, -⟩ := slF1_open h1
  obtain ⟨a2, c2, rfl, hl2, hm2, -⟩ := slF3_open h2
  unfold maxLen at hm1 hm2
  have H1 := Lib.hid h1
  have H2 := Lib.hid h2
  have HP := Lib.hid hp
  have HE := Lib.hid he
  have S1 := Lib.hid (fun W : World => within st 1 40 W)
  have S3 := Lib.hid (fun W : World => within (labs.length : Int) 1 12 W)
  have HB0 := Lib.hid ((Upd.refl [] w).alloc (.cells #[ei st, ei ini, .slice a1 labs.length c1, .slice a2 eds.length c2] 30))
  have HBX := Lib.hid (fun W => fun (hu : Upd [] (w.alloc (.cells #[ei st, ei ini, .slice a1 labs.length c1, .slice a2 eds.length c2] 30)) W) => show W.cell? ⟨w.heap.size, 0, none⟩ = some (ei st) ∧ W.cell? ⟨w.heap.size, 1, none⟩ = some (ei ini) ∧ W.cell? ⟨w.heap.size, 2, none⟩ = some (.slice a1 labs.length c1) ∧ W.cell? ⟨w.heap.size, 3, none⟩ = some (.slice a2 eds.length c2) from
    ⟨hu.keep (cell_new w _ _ _ rfl 0 _ rfl), hu.keep (cell_new w _ _ _ rfl 1 _ rfl), hu.keep (cell_new w _ _ _ rfl 2 _ rfl), hu.keep (cell_new w _ _ _ rfl 3 _ rfl)⟩)
  clear h1 h2 hp he
  cases hb1 : inB st 1 40 with
  | false =>
    have HR := Lib.hid (show sysOk ⟨st, ini, labs, eds⟩ = false by rw [HOK.out, hb1]; rfl)
    rw [hb1] at S1
    clear HOK HLO hb1 S3
    go_enter Tryz.func37, Tryz.ntmps37
    go_wp2_with fail
    refine (S1.out _).mono ?_
    rintro e w1 ⟨rfl, rfl⟩
    clear S1
    go_wp2_with fail
    go_ret
    exact ⟨by rw [HR.out]; rfl, HB0.out⟩
  | true =>
    have hst := inB_true hb1
    have S2 := Lib.hid (fun W : World => isStateI st ini (.slice a1 labs.length c1) (.slice a2 eds.length c2) ini W hst.1 hst.2)
    rw [hb1] at S1 HOK
    cases hb2 : inB ini 0 (st - 1) with
    | false =>
      have HR := Lib.hid (show sysOk ⟨st, ini, labs, eds⟩ = false by rw [HOK.out, hb2]; rfl)
      rw [hb2] at S2
      clear HOK HLO hb1 hb2 S3
      go_enter Tryz.func37, Tryz.ntmps37
      go_wp2_with fail
      refine (S1.out _).mono ?_
      rintro e w1 ⟨rfl, rfl⟩
      clear S1
      go_wp2_with fail
      refine (S2.out _).mono ?_
      rintro e w2 ⟨rfl, hu2⟩
      have HU2 := Lib.hid (HB0.out.trans hu2)
      clear S2 hu2
      go_wp2_with fail
      go_ret
      exact ⟨by rw [HR.out]; rfl, HU2.out⟩
    | true =>
      rw [hb2] at S2 HOK
      cases hb3 : inB (labs.length : Int) 1 12 with
      | false =>
        have HR := Lib.hid (show sysOk ⟨st, ini, labs, eds⟩ = false by rw [HOK.out, HLO.out, hb3]; rfl)
        rw [hb3] at S3
        clear HOK HLO hb1 hb2 hb3
        go_enter Tryz.func37, Tryz.ntmps37
        go_wp2_with fail
        refine (S1.out _).mono ?_
        rintro e w1 ⟨rfl, rfl⟩
        clear S1
        go_wp2_with fail
        refine (S2.out _).mono ?_
        rintro e w2 ⟨rfl, hu2⟩
        have HU2 := Lib.hid (HB0.out.trans hu2)
        obtain ⟨x0, x1, x2, x3⟩ := HBX.out w2 hu2
        clear S2 hu2
        go_wp2_with fail
        refine (S3.out _).mono ?_
        rintro e w3 ⟨rfl, rfl⟩
        clear S3
        go_wp2_with fail
        go_ret
        exact ⟨by rw [HR.out]; rfl, HU2.out⟩
      | true =>
        have hn3 := inB_true hb3
        rw [hb3] at S3 HLO
        by_cases hel : eds.length ≤ 300
        · have HOK2 := Lib.hid (show sysOk ⟨st, ini, labs, eds⟩ = (allF (labP labs) 0 labs.length && allF (edP ⟨st, ini, labs, eds⟩) 0 eds.length) by
            rw [HOK.out, HLO.out, decide_eq_true hel]; simp)
          have he3 : ¬ (300 : Int) < (eds.length : Int) := by omega
          clear HOK HLO hb1 hb2 hb3
          go_enter Tryz.func37, Tryz.ntmps37
          go_wp2_with fail
          refine (S1.out _).mono ?_
          rintro e w1 ⟨rfl, rfl⟩
          clear S1
          go_wp2_with fail
          refine (S2.out _).mono ?_
          rintro e w2 ⟨rfl, hu2⟩
          have HU2 := Lib.hid hu2
          obtain ⟨x0, x1, x2, x3⟩ := HBX.out w2 hu2
          clear S2 hu2
          go_wp2_with fail
          refine (S3.out _).mono ?_
          rintro e w3 ⟨rfl, rfl⟩
          clear S3
          go_wp2_with fail
          obtain ⟨wb, hwb⟩ : ∃ wb, wb = w.alloc (.cells #[ei st, ei ini, .slice a1 labs.length c1, .slice a2 eds.length c2] 30) := ⟨_, rfl⟩
          rw [← hwb] at HU2 HBX HB0
          clear hwb x0 x1 x2 x3
          go_loopw [34] (fun iv wr => ∃ k : Nat, k ≤ labs.length ∧ iv = .int .i64 k ∧ Hid (allF (labP labs) k (labs.length - k) = allF (labP labs) 0 labs.length) ∧ Upd [] wb wr) (fun iv _ => labs.length - (intOf iv).toNat)
          case atStart => exact ⟨0, Nat.zero_le _, rfl, Lib.hid rfl, HU2.out⟩
          case round =>
            clear HU2
            obtain ⟨k, hk, rfl, HA, hU⟩ := hrel
            by_cases hlt : k < labs.length
            · obtain ⟨a', c', hv, -, -, hc⟩ := slF1_open (RSk.upd H1.out (HB0.out.trans hU) (by simp))
              cases hv
              obtain ⟨b1, o1, rfl, -, -, p1⟩ := hc k hlt
              have HA2 := Lib.hid (HA.out.symm.trans (allF_step (labP labs) k labs.length hlt))
              have HLP := Lib.hid (labP_at labs k hlt)
              have hsl := HP.out labs[k] (List.getElem_mem hlt)
              have hpr : 1 < k → wr.cell? ⟨b1, o1 + (k - 1), none⟩ = some (es (labs.getD (k - 1) [])) := fun h => by
                obtain ⟨b2, o2, hv2, -, -, p2⟩ := hc (k - 1) (by omega)
                cases hv2
                rw [p2, List.getD_eq_getElem?_getD, List.getElem?_eq_getElem (by omega)]; rfl
              have HPR := Lib.hid hpr
              obtain ⟨x0, x1, x2, x3⟩ := HBX.out wr hU
              have SL := Lib.hid (show Calls Tryz.prog 82 #[es labs[k]] wr fun e w' => e = .returned (.bool (isLab labs[k])) ∧ Upd [] wr w' from isLabelI _ wr hsl (HE.out.upd (HB0.out.trans hU)))
              generalize labs[k] = s at *
              have HU := Lib.hid hU
              clear hc HA hU hpr
              cases hls : isLab s with
              | false =>
                have HR := Lib.hid (show sysOk ⟨st, ini, labs, eds⟩ = false by rw [HOK2.out, HA2.out, HLP.out, hls]; rfl)
                rw [hls] at SL
                clear HOK2 HA2 HLP hls HPR
                go_wp2_with fail
                refine SL.out.mono ?_
                rintro e w4 ⟨rfl, hu4⟩
                have HU4 := Lib.hid (HB0.out.trans (HU.out.trans hu4))
                clear SL hu4
                go_wp2_with fail
                go_ret
                exact ⟨by rw [HR.out]; rfl, HU4.out⟩
              | true =>
                rw [hls] at SL HLP
                by_cases ht : s = tauL
                · by_cases k0 : k = 0
                  · have HA3 := Lib.hid (show allF (labP labs) (k + 1) (labs.length - (k + 1)) = allF (labP labs) 0 labs.length by
                      rw [HA2.out, HLP.out, ht, k0]; simp)
                    have g1 : (s == [116, 97, 117]) = true := by simpa [tauL] using ht
                    have g2 : ((k : Int) == 0) = true := by rw [k0]; rfl
                    have g3 : ¬ (1 : Int) < (k : Int) := by omega
                    have K0 := Lib.hid k0
                    clear HA2 HLP ht hls HPR k0
                    go_wp2_with fail
                    refine SL.out.mono ?_
                    rintro e w4 ⟨rfl, hu4⟩
                    have HU4 := Lib.hid (HU.out.trans hu4)
                    clear SL hu4
                    go_wp2_with fail
                    go_roundw
                    case rel => exact ⟨k + 1, by omega, by go_num, HA3, HU4.out⟩
                    case measure => simp [intOf]; omega
                  · have HR := Lib.hid (show sysOk ⟨st, ini, labs, eds⟩ = false by rw [HOK2.out, HA2.out, HLP.out, ht, decide_eq_false k0]; simp)
                    have g1 : (s == [116, 97, 117]) = true := by simpa [tauL] using ht
                    have g2 : ((k : Int) == 0) = false := by simpa using k0
                    clear HOK2 HA2 HLP ht hls HPR k0
                    go_wp2_with fail
                    refine SL.out.mono ?_
                    rintro e w4 ⟨rfl, hu4⟩
                    have HU4 := Lib.hid (HB0.out.trans (HU.out.trans hu4))
                    clear SL hu4
                    go_wp2_with fail
                    go_ret
                    exact ⟨by rw [HR.out]; rfl, HU4.out⟩
                · have g1 : (s == [116, 97, 117]) = false := by simpa [tauL] using ht
                  have hst0 : (s == tauL) = false := by simpa using ht
                  rw [hst0] at HLP
                  by_cases k0 : k = 0
                  · have HR := Lib.hid (show sysOk ⟨st, ini, labs, eds⟩ = false by rw [HOK2.out, HA2.out, HLP.out, decide_eq_true k0]; simp)
                    have g2 : ((k : Int) == 0) = true := by rw [k0]; rfl
                    clear HOK2 HA2 HLP ht hst0 hls HPR k0
                    go_wp2_with fail
                    refine SL.out.mono ?_
                    rintro e w4 ⟨rfl, hu4⟩
                    have HU4 := Lib.hid (HB0.out.trans (HU.out.trans hu4))
                    clear SL hu4
                    go_wp2_with fail
                    go_ret
                    exact ⟨by rw [HR.out]; rfl, HU4.out⟩
                  · have g2 : ((k : Int) == 0) = false := by simpa using k0
                    by_cases k1 : 1 < k
                    · have p0 := HPR.out k1
                      have hk1 : (1 : Int) < (k : Int) := by omega
                      have HLP2 := Lib.hid (show labP labs k = bl (labs.getD (k - 1) []) s by rw [HLP.out, decide_eq_false k0, decide_eq_true k1]; simp)
                      have i1 : ((k : Int) - 1).toNat = k - 1 := by omega
                      have i2 : k - 1 < labs.length := by omega
                      have i3 : (0 : Int) ≤ (k : Int) - 1 := by omega
                      have i4 : (k : Int) - 1 < (labs.length : Int) := by omega
                      generalize labs.getD (k - 1) [] = pv at *
                      have hcmp : (Op.bytesLess s pv || s == pv) = !bl pv s := bl_total s pv
                      cases hbl : bl pv s with
                      | false =>
                        rw [hbl] at HLP2 hcmp
                        have HR := Lib.hid (show sysOk ⟨st, ini, labs, eds⟩ = false by rw [HOK2.out, HA2.out, HLP2.out]; rfl)
                        clear HOK2 HA2 HLP ht hst0 hls HPR k0 HLP2 hbl
                        go_wp2_with fail
                        refine SL.out.mono ?_
                        rintro e w4 ⟨rfl, hu4⟩
                        have q0 := hu4.keep p0
                        obtain ⟨x0, x1, x2, x3⟩ := HBX.out w4 (HU.out.trans hu4)
                        have HU4 := Lib.hid (HB0.out.trans (HU.out.trans hu4))
                        clear SL hu4 p0
                        go_wp2_with fail
                        go_ret
                        exact ⟨by rw [HR.out]; rfl, HU4.out⟩
                      | true =>
                        rw [hbl] at HLP2 hcmp
                        have HA3 := Lib.hid (show allF (labP labs) (k + 1) (labs.length - (k + 1)) = allF (labP labs) 0 labs.length by
                          rw [HA2.out, HLP2.out]; simp)
                        clear HA2 HLP ht hst0 hls HPR k0 HLP2 hbl
                        go_wp2_with fail
                        refine SL.out.mono ?_
                        rintro e w4 ⟨rfl, hu4⟩
                        have q0 := hu4.keep p0
                        have HU4 := Lib.hid (HU.out.trans hu4)
                        obtain ⟨x0, x1, x2, x3⟩ := HBX.out w4 HU4.out
                        clear SL hu4 p0
                        go_wp2_with fail
                        go_roundw
                        case rel => exact ⟨k + 1, by omega, by go_num, HA3, HU4.out⟩
                        case measure => simp [intOf]; omega
                    · have HA3 := Lib.hid (show allF (labP labs) (k + 1) (labs.length - (k + 1)) = allF (labP labs) 0 labs.length by
                        rw [HA2.out, HLP.out, decide_eq_false k0, decide_eq_false k1]; simp)
                      have g3 : ¬ (1 : Int) < (k : Int) := by omega
                      clear HA2 HLP ht hst0 hls HPR k0 k1
                      go_wp2_with fail
                      refine SL.out.mono ?_
                      rintro e w4 ⟨rfl, hu4⟩
                      have HU4 := Lib.hid (HU.out.trans hu4)
                      clear SL hu4
                      go_wp2_with fail
                      go_roundw
                      case rel => exact ⟨k + 1, by omega, by go_num, HA3, HU4.out⟩
                      case measure => simp [intOf]; omega
            · obtain rfl : k = labs.length := by omega
              have HLT := Lib.hid (show allF (labP labs) 0 labs.length = true by rw [← HA.out, allF_end])
              have HOK3 := Lib.hid (show sysOk ⟨st, ini, labs, eds⟩ = allF (edP ⟨st, ini, labs, eds⟩) 0 eds.length by rw [HOK2.out, HLT.out]; rfl)
              obtain ⟨wo, rfl⟩ : ∃ wo : World, wo = wr := ⟨_, rfl⟩
              obtain ⟨x0, x1, x2, x3⟩ := HBX.out wo hU
              have HU := Lib.hid hU
              have HIS := Lib.hid (fun (n : Int) (W : World) => isStateI st ini (.slice a1 labs.length c1) (.slice a2 eds.length c2) n W hst.1 hst.2)
              have HIX := Lib.hid (fun (n : Int) (W : World) => idxI n labs.length W (by omega))
              clear HA HLT HOK2 hU H1 HP HE
              go_wp2_with fail
              clear x0 x1 x2 x3
              go_loopw [67] (fun iv wr => ∃ k : Nat, k ≤ eds.length ∧ iv = .int .i64 k ∧ Hid (allF (edP ⟨st, ini, labs, eds⟩) k (eds.length - k) = allF (edP ⟨st, ini, labs, eds⟩) 0 eds.length) ∧ Upd [] wb wr) (fun iv _ => eds.length - (intOf iv).toNat)
              case atStart => exact ⟨0, Nat.zero_le _, rfl, Lib.hid rfl, HU.out⟩
              case round =>
                clear HU
                obtain ⟨k, hk, rfl, HA, hU⟩ := hrel
                by_cases hlt : k < eds.length
                · obtain ⟨a', c', hv, -, -, hc⟩ := slF3_open (R_E1k.upd H2.out (HB0.out.trans hU) (by simp))
                  cases hv
                  obtain ⟨b1, o1, rfl, -, -, p1, p2, p3⟩ := hc k hlt
                  have HA2 := Lib.hid (HA.out.symm.trans (allF_step (edP ⟨st, ini, labs, eds⟩) k eds.length hlt))
                  have HEP := Lib.hid (edP_at ⟨st, ini, labs, eds⟩ k hlt)
                  have hpr : 0 < k → wr.cell? ⟨b1, o1 + (k - 1) * 3, none⟩ = some (ei (eds.getD (k - 1) ⟨0, 0, 0⟩).fr) ∧ wr.cell? ⟨b1, o1 + (k - 1) * 3 + 1, none⟩ = some (ei (eds.getD (k - 1) ⟨0, 0, 0⟩).lb) ∧ wr.cell? ⟨b1, o1 + (k - 1) * 3 + 2, none⟩ = some (ei (eds.getD (k - 1) ⟨0, 0, 0⟩).to) := fun h => by
                    obtain ⟨b2, o2, hv2, -, -, q1, q2, q3⟩ := hc (k - 1) (by omega)
                    cases hv2
                    rw [List.getD_eq_getElem?_getD, List.getElem?_eq_getElem (by omega)]
                    exact ⟨q1, q2, q3⟩
                  have HPR := Lib.hid hpr
                  have hx := HBX.out wr hU
                  simp only at HEP
                  generalize eds[k] = ek at *
                  generalize eds.getD (k - 1) ⟨0, 0, 0⟩ = pk at *
                  obtain ⟨fr, lb, td⟩ := ek
                  simp only at p1 p2 p3 HEP
                  have HU := Lib.hid hU
                  have SF := Lib.hid (HIS.out fr)
                  have ST := Lib.hid (HIS.out td)
                  have SI := Lib.hid (HIX.out lb)
                  have SC := Lib.hid (fun W : World => show Calls Tryz.prog 84 #[.agg #[ei pk.fr, ei pk.lb, ei pk.to], .agg #[ei fr, ei lb, ei td]] W (fun e w' => (∃ c : Int, e = .returned (.int .i64 c) ∧ decide (0 ≤ c) = !edLt pk ⟨fr, lb, td⟩) ∧ Upd [] W w') from cmpEdges pk ⟨fr, lb, td⟩ W)
                  have hbl := (HBX.out wr hU).1
                  have hbs : w.heap.size < wr.heap.size := World.block_lt_of_cell? wr ⟨w.heap.size, 0, none⟩ hbl
                  obtain ⟨x0, x1, x2, x3⟩ := hx
                  clear hc HA hU hpr hbl HIS HIX
                  go_wp2_with fail
                  obtain ⟨w5, hw5⟩ : ∃ w5, w5 = wr.alloc (.cells #[.int .i64 fr, .int .i64 lb, .int .i64 td] 62) := ⟨_, rfl⟩
                  rw [← hw5]
                  have hu5 : Upd [] wr w5 := by rw [hw5]; exact (Upd.refl _ _).alloc _
                  obtain ⟨BB, hBB⟩ : ∃ BB, BB = wr.heap.size := ⟨_, rfl⟩
                  have z0 : w5.cell? ⟨BB, 0, none⟩ = some (ei fr) := by rw [hw5]; exact cell_new wr _ _ _ hBB.symm 0 _ rfl
                  have z1 : w5.cell? ⟨BB, 1, none⟩ = some (ei lb) := by rw [hw5]; exact cell_new wr _ _ _ hBB.symm 1 _ rfl
                  have z2 : w5.cell? ⟨BB, 2, none⟩ = some (ei td) := by rw [hw5]; exact cell_new wr _ _ _ hBB.symm 2 _ rfl
                  have y0 := hu5.keep x0
                  have y1 := hu5.keep x1
                  have y2 := hu5.keep x2
                  have y3 := hu5.keep x3
                  have HPR5 := Lib.hid (fun h : 0 < k => show w5.cell? ⟨b1, o1 + (k - 1) * 3, none⟩ = some (ei pk.fr) ∧ w5.cell? ⟨b1, o1 + (k - 1) * 3 + 1, none⟩ = some (ei pk.lb) ∧ w5.cell? ⟨b1, o1 + (k - 1) * 3 + 2, none⟩ = some (ei pk.to) from ⟨hu5.keep (HPR.out h).1, hu5.keep (HPR.out h).2.1, hu5.keep (HPR.out h).2.2⟩)
                  have HU5 := Lib.hid (HU.out.trans hu5)
                  rw [← hBB]
                  clear hw5 hu5 hBB x0 x1 x2 x3 p1 p2 p3 HPR HU hbs
                  cases hf1 : inB fr 0 (st - 1) with
                  | false =>
                    rw [hf1] at SF
                    have HR := Lib.hid (show sysOk ⟨st, ini, labs, eds⟩ = false by rw [HOK3.out, HA2.out, HEP.out, hf1]; simp)
                    clear HOK3 HA2 HEP
                    clear hf1
                    refine wp_region_held_drew (S := fun w' => w'.cell? ⟨w.heap.size, 0, none⟩ = some (ei st) ∧ w'.cell? ⟨w.heap.size, 1, none⟩ = some (ei ini) ∧ w'.cell? ⟨w.heap.size, 2, none⟩ = some (.slice a1 labs.length c1) ∧ w'.cell? ⟨w.heap.size, 3, none⟩ = some (.slice (some ⟨b1, o1, none⟩) eds.length c2) ∧ w'.cell? ⟨BB, 0, none⟩ = some (ei fr) ∧ w'.cell? ⟨BB, 1, none⟩ = some (ei lb) ∧ w'.cell? ⟨BB, 2, none⟩ = some (ei td)) (by kernel_rfl) ?_ (fun hHeld => ?_)
                    · exact ⟨y0, y1, y2, y3, z0, z1, z2⟩
                    refine wpAnyH_take (i := 0) (v := ?_) rfl (by kernel_rfl) (by kernel_rfl) (by kernel_rfl) (fun _ _ _ h => h) (Or.inl ⟨by rfl, ?_⟩) (by assumption) ?_
                    rotate_left
                    · (intro w hSw; (try dsimp only at hSw); go_simp)
                      first | done | with_reducible rfl
                    simp only [Act.put, List.getElem_toArray, List.getElem_cons_zero, List.setIfInBounds_toArray, List.set_cons_zero, List.set_cons_succ]
                    refine wpAnyH_take (i := 1) (v := ?_) rfl (by kernel_rfl) (by kernel_rfl) (by kernel_rfl) (fun _ _ _ h => h) (Or.inl ⟨by rfl, ?_⟩) (by assumption) ?_
                    rotate_left
                    · (intro w hSw; (try dsimp only at hSw); go_simp)
                      first | done | with_reducible rfl
                    simp only [Act.put, List.getElem_toArray, List.getElem_cons_zero, List.getElem_cons_succ, List.setIfInBounds_toArray, List.set_cons_zero, List.set_cons_succ]
                    refine wpAnyH_take (i := 2) (v := ?_) rfl (by kernel_rfl) (by kernel_rfl) (by kernel_rfl) (fun _ _ _ h => h) (Or.inl ⟨by rfl, ?_⟩) (by assumption) ?_
                    rotate_left
                    · (intro w hSw; (try dsimp only at hSw); go_simp)
                      first | done | with_reducible rfl
                    simp only [Act.put, List.getElem_toArray, List.getElem_cons_zero, List.getElem_cons_succ, List.setIfInBounds_toArray, List.set_cons_zero, List.set_cons_succ]
                    refine wpAnyH_ready (rs := [3]) (by kernel_rfl) (by simp) ?_
                    refine AllReadyH.cons rfl (fun K hK => ?_) AllReadyH.nil
                    go_simp
                    refine (SF.out _).mono ?_
                    rintro e w3 ⟨rfl, hu1⟩
                    refine hK.out _ _ ?_ (fun hHeld => ?_)
                    · exact ⟨hu1.keep hHeld.1, hu1.keep hHeld.2.1, hu1.keep hHeld.2.2.1, hu1.keep hHeld.2.2.2.1, hu1.keep hHeld.2.2.2.2.1, hu1.keep hHeld.2.2.2.2.2.1, hu1.keep hHeld.2.2.2.2.2.2⟩
                    clear hK K
                    try simp only [Act.put, List.getElem_toArray, List.getElem_cons_zero, List.getElem_cons_succ, List.setIfInBounds_toArray, List.set_cons_zero, List.set_cons_succ]
                    refine wpAnyH_take (i := 4) (v := ?_) rfl (by kernel_rfl) (by kernel_rfl) (by kernel_rfl) (fun _ _ _ h => h) (Or.inl ⟨by rfl, ?_⟩) (by assumption) ?_
                    rotate_left
                    · (intro w hSw; (try dsimp only at hSw); go_simp)
                      first | done | with_reducible rfl
                    simp only [Act.put, List.getElem_toArray, List.getElem_cons_zero, List.getElem_cons_succ, List.setIfInBounds_toArray, List.set_cons_zero, List.set_cons_succ]
                    refine wpAnyH_take (i := 5) (v := ?_) rfl (by kernel_rfl) (by kernel_rfl) (by kernel_rfl) (fun _ _ _ h => h) (Or.inl ⟨by rfl, ?_⟩) (by assumption) ?_
                    rotate_left
                    · (intro w hSw; (try dsimp only at hSw); go_simp)
                      first | done | with_reducible rfl
                    simp only [Act.put, List.getElem_toArray, List.getElem_cons_zero, List.getElem_cons_succ, List.setIfInBounds_toArray, List.set_cons_zero, List.set_cons_succ]
                    refine wpAnyH_take (i := 6) rfl (by kernel_rfl) (by kernel_rfl) (by kernel_rfl) (fun _ _ _ h => h) (Or.inr ⟨by rfl, rfl⟩) (by assumption) ?_
                    simp only [Act.put, List.getElem_toArray, List.getElem_cons_zero, List.getElem_cons_succ, List.setIfInBounds_toArray, List.set_cons_zero, List.set_cons_succ]
                    refine wpAnyH_take (i := 7) rfl (by kernel_rfl) (by kernel_rfl) (by kernel_rfl) (fun _ _ _ h => h) (Or.inr ⟨by rfl, rfl⟩) (by assumption) ?_
                    simp only [Act.put, List.getElem_toArray, List.getElem_cons_zero, List.getElem_cons_succ, List.setIfInBounds_toArray, List.set_cons_zero, List.set_cons_succ]
                    refine wpAnyH_take (i := 8) rfl (by kernel_rfl) (by kernel_rfl) (by kernel_rfl) (fun _ _ _ h => h) (Or.inr ⟨by rfl, rfl⟩) (by assumption) ?_
                    simp only [Act.put, List.getElem_toArray, List.getElem_cons_zero, List.getElem_cons_succ, List.setIfInBounds_toArray, List.set_cons_zero, List.set_cons_succ]
                    refine wpAnyH_take (i := 9) rfl (by kernel_rfl) (by kernel_rfl) (by kernel_rfl) (fun _ _ _ h => h) (Or.inr ⟨by rfl, rfl⟩) (by assumption) ?_
                    simp only [Act.put, List.getElem_toArray, List.getElem_cons_zero, List.getElem_cons_succ, List.setIfInBounds_toArray, List.set_cons_zero, List.set_cons_succ]
                    refine wpAnyH_take (i := 10) rfl (by kernel_rfl) (by kernel_rfl) (by kernel_rfl) (fun _ _ _ h => h) (Or.inr ⟨by rfl, rfl⟩) (by assumption) ?_
                    simp only [Act.put, List.getElem_toArray, List.getElem_cons_zero, List.getElem_cons_succ, List.setIfInBounds_toArray, List.set_cons_zero, List.set_cons_succ]
                    refine wpAnyH_take (i := 11) (v := ?_) rfl (by kernel_rfl) (by kernel_rfl) (by kernel_rfl) (fun _ _ _ h => h) (Or.inl ⟨by rfl, ?_⟩) (by assumption) ?_
                    rotate_left
                    · (intro w hSw; (try dsimp only at hSw); go_simp)
                      first | done | with_reducible rfl
                    simp only [Act.put, List.getElem_toArray, List.getElem_cons_zero, List.getElem_cons_succ, List.setIfInBounds_toArray, List.set_cons_zero, List.set_cons_succ]
                    refine wpAnyH_take (i := 12) (v := ?_) rfl (by kernel_rfl) (by kernel_rfl) (by kernel_rfl) (fun _ _ _ h => h) (Or.inl ⟨by rfl, ?_⟩) (by assumption) ?_
                    rotate_left
                    · (intro w hSw; (try dsimp only at hSw); go_simp)
                      first | done | with_reducible rfl
                    simp only [Act.put, List.getElem_toArray, List.getElem_cons_zero, List.getElem_cons_succ, List.setIfInBounds_toArray, List.set_cons_zero, List.set_cons_succ]
                    refine wpAnyH_take (i := 13) rfl (by kernel_rfl) (by kernel_rfl) (by kernel_rfl) (fun _ _ _ h => h) (Or.inr ⟨by rfl, rfl⟩) (by assumption) ?_
                    simp only [Act.put, List.getElem_toArray, List.getElem_cons_zero, List.getElem_cons_succ, List.setIfInBounds_toArray, List.set_cons_zero, List.set_cons_succ]
                    refine wpAnyH_take (i := 14) rfl (by kernel_rfl) (by kernel_rfl) (by kernel_rfl) (fun _ _ _ h => h) (Or.inr ⟨by rfl, rfl⟩) (by assumption) ?_
                    simp only [Act.put, List.getElem_toArray, List.getElem_cons_zero, List.getElem_cons_succ, List.setIfInBounds_toArray, List.set_cons_zero, List.set_cons_succ]
                    refine wpAnyH_take (i := 15) rfl (by kernel_rfl) (by kernel_rfl) (by kernel_rfl) (fun _ _ _ h => h) (Or.inr ⟨by rfl, rfl⟩) (by assumption) ?_
                    simp only [Act.put, List.getElem_toArray, List.getElem_cons_zero, List.getElem_cons_succ, List.setIfInBounds_toArray, List.set_cons_zero, List.set_cons_succ]
                    refine wpAnyH_take (i := 16) rfl (by kernel_rfl) (by kernel_rfl) (by kernel_rfl) (fun _ _ _ h => h) (Or.inr ⟨by rfl, rfl⟩) (by assumption) ?_
                    simp only [Act.put, List.getElem_toArray, List.getElem_cons_zero, List.getElem_cons_succ, List.setIfInBounds_toArray, List.set_cons_zero, List.set_cons_succ]
                    refine wpAnyH_take (i := 17) rfl (by kernel_rfl) (by kernel_rfl) (by kernel_rfl) (fun _ _ _ h => h) (Or.inr ⟨by rfl, rfl⟩) (by assumption) ?_
                    simp only [Act.put, List.getElem_toArray, List.getElem_cons_zero, List.getElem_cons_succ, List.setIfInBounds_toArray, List.set_cons_zero, List.set_cons_succ]
                    refine wpAnyH_take (i := 18) rfl (by kernel_rfl) (by kernel_rfl) (by kernel_rfl) (fun _ _ _ h => h) (Or.inr ⟨by rfl, rfl⟩) (by assumption) ?_
                    simp only [Act.put, List.getElem_toArray, List.getElem_cons_zero, List.getElem_cons_succ, List.setIfInBounds_toArray, List.set_cons_zero, List.set_cons_succ]
                    refine wpAnyH_take (i := 19) rfl (by kernel_rfl) (by kernel_rfl) (by kernel_rfl) (fun _ _ _ h => h) (Or.inr ⟨by rfl, rfl⟩) (by assumption) ?_
                    simp only [Act.put, List.getElem_toArray, List.getElem_cons_zero, List.getElem_cons_succ, List.setIfInBounds_toArray, List.set_cons_zero, List.set_cons_succ]
                    refine wpAnyH_take (i := 20) (v := ?_) rfl (by kernel_rfl) (by kernel_rfl) (by kernel_rfl) (fun _ _ _ h => h) (Or.inl ⟨by rfl, ?_⟩) (by assumption) ?_
                    rotate_left
                    · (intro w hSw; (try dsimp only at hSw); go_simp)
                      first | done | with_reducible rfl
                    simp only [Act.put, List.getElem_toArray, List.getElem_cons_zero, List.getElem_cons_succ, List.setIfInBounds_toArray, List.set_cons_zero, List.set_cons_succ]
                    refine wpAnyH_take (i := 21) (v := ?_) rfl (by kernel_rfl) (by kernel_rfl) (by kernel_rfl) (fun _ _ _ h => h) (Or.inl ⟨by rfl, ?_⟩) (by assumption) ?_
                    rotate_left
                    · (intro w hSw; (try dsimp only at hSw); go_simp)
                      first | done | with_reducible rfl
                    simp only [Act.put, List.getElem_toArray, List.getElem_cons_zero, List.getElem_cons_succ, List.setIfInBounds_toArray, List.set_cons_zero, List.set_cons_succ]
                    refine wpAnyH_take (i := 22) rfl (by kernel_rfl) (by kernel_rfl) (by kernel_rfl) (fun _ _ _ h => h) (Or.inr ⟨by rfl, rfl⟩) (by assumption) ?_
                    simp only [Act.put, List.getElem_toArray, List.getElem_cons_zero, List.getElem_cons_succ, List.setIfInBounds_toArray, List.set_cons_zero, List.set_cons_succ]
                    refine wpAnyH_take (i := 23) rfl (by kernel_rfl) (by kernel_rfl) (by kernel_rfl) (fun _ _ _ h => h) (Or.inr ⟨by rfl, rfl⟩) (by assumption) ?_
                    simp only [Act.put, List.getElem_toArray, List.getElem_cons_zero, List.getElem_cons_succ, List.setIfInBounds_toArray, List.set_cons_zero, List.set_cons_succ]
                    refine wpAnyH_take (i := 24) rfl (by kernel_rfl) (by kernel_rfl) (by kernel_rfl) (fun _ _ _ h => h) (Or.inr ⟨by rfl, rfl⟩) (by assumption) ?_
                    simp only [Act.put, List.getElem_toArray, List.getElem_cons_zero, List.getElem_cons_succ, List.setIfInBounds_toArray, List.set_cons_zero, List.set_cons_succ]
                    refine wpAnyH_take (i := 25) rfl (by kernel_rfl) (by kernel_rfl) (by kernel_rfl) (fun _ _ _ h => h) (Or.inr ⟨by rfl, rfl⟩) (by assumption) ?_
                    simp only [Act.put, List.getElem_toArray, List.getElem_cons_zero, List.getElem_cons_succ, List.setIfInBounds_toArray, List.set_cons_zero, List.set_cons_succ]
                    refine wpAnyH_take (i := 26) rfl (by kernel_rfl) (by kernel_rfl) (by kernel_rfl) (fun _ _ _ h => h) (Or.inr ⟨by rfl, rfl⟩) (by assumption) ?_
                    simp only [Act.put, List.getElem_toArray, List.getElem_cons_zero, List.getElem_cons_succ, List.setIfInBounds_toArray, List.set_cons_zero, List.set_cons_succ]
                    refine wpAnyH_take (i := 27) rfl (by kernel_rfl) (by kernel_rfl) (by kernel_rfl) (fun _ _ _ h => h) (Or.inr ⟨by rfl, rfl⟩) (by assumption) ?_
                    simp only [Act.put, List.getElem_toArray, List.getElem_cons_zero, List.getElem_cons_succ, List.setIfInBounds_toArray, List.set_cons_zero, List.set_cons_succ]
                    refine wpAnyH_take (i := 28) rfl (by kernel_rfl) (by kernel_rfl) (by kernel_rfl) (fun _ _ _ h => h) (Or.inr ⟨by rfl, rfl⟩) (by assumption) ?_
                    simp only [Act.put, List.getElem_toArray, List.getElem_cons_zero, List.getElem_cons_succ, List.setIfInBounds_toArray, List.set_cons_zero, List.set_cons_succ]
                    refine wpAnyH_take (i := 29) rfl (by kernel_rfl) (by kernel_rfl) (by kernel_rfl) (fun _ _ _ h => h) (Or.inr ⟨by rfl, rfl⟩) (by assumption) ?_
                    simp only [Act.put, List.getElem_toArray, List.getElem_cons_zero, List.getElem_cons_succ, List.setIfInBounds_toArray, List.set_cons_zero, List.set_cons_succ]
                    refine wpAnyH_take (i := 30) rfl (by kernel_rfl) (by kernel_rfl) (by kernel_rfl) (fun _ _ _ h => h) (Or.inr ⟨by rfl, rfl⟩) (by assumption) ?_
                    simp only [Act.put, List.getElem_toArray, List.getElem_cons_zero, List.getElem_cons_succ, List.setIfInBounds_toArray, List.set_cons_zero, List.set_cons_succ]
                    refine wpAnyH_take (i := 31) rfl (by kernel_rfl) (by kernel_rfl) (by kernel_rfl) (fun _ _ _ h => h) (Or.inr ⟨by rfl, rfl⟩) (by assumption) ?_
                    simp only [Act.put, List.getElem_toArray, List.getElem_cons_zero, List.getElem_cons_succ, List.setIfInBounds_toArray, List.set_cons_zero, List.set_cons_succ]
                    refine wpAnyH_take (i := 32) rfl (by kernel_rfl) (by kernel_rfl) (by kernel_rfl) (fun _ _ _ h => h) (Or.inr ⟨by rfl, rfl⟩) (by assumption) ?_
                    simp only [Act.put, List.getElem_toArray, List.getElem_cons_zero, List.getElem_cons_succ, List.setIfInBounds_toArray, List.set_cons_zero, List.set_cons_succ]
                    refine wpAnyH_take (i := 33) rfl (by kernel_rfl) (by kernel_rfl) (by kernel_rfl) (fun _ _ _ h => h) (Or.inr ⟨by rfl, rfl⟩) (by assumption) ?_
                    simp only [Act.put, List.getElem_toArray, List.getElem_cons_zero, List.getElem_cons_succ, List.setIfInBounds_toArray, List.set_cons_zero, List.set_cons_succ]
                    refine wpAnyH_take (i := 34) rfl (by kernel_rfl) (by kernel_rfl) (by kernel_rfl) (fun _ _ _ h => h) (Or.inr ⟨by rfl, rfl⟩) (by assumption) ?_
                    simp only [Act.put, List.getElem_toArray, List.getElem_cons_zero, List.getElem_cons_succ, List.setIfInBounds_toArray, List.set_cons_zero, List.set_cons_succ]
                    refine wpAnyH_take (i := 35) (v := ?_) rfl (by kernel_rfl) (by kernel_rfl) (by kernel_rfl) (fun _ _ _ h => h) (Or.inl ⟨by rfl, ?_⟩) (by assumption) ?_
                    rotate_left
                    · (intro w hSw; (try dsimp only at hSw); go_simp)
                      first | done | with_reducible rfl
                    simp only [Act.put, List.getElem_toArray, List.getElem_cons_zero, List.getElem_cons_succ, List.setIfInBounds_toArray, List.set_cons_zero, List.set_cons_succ]
                    refine wpAnyH_done (by kernel_rfl) ?_ _
                    have HU9 := Lib.hid (HB0.out.trans (HU5.out.drew.trans hu1))
                    clear HU5 hHeld y0 y1 y2 y3 z0 z1 z2
                    go_wp2_with fail
                    go_ret
                    exact ⟨by rw [HR.out]; rfl, HU9.out⟩
                  | true =>
                    rw [hf1] at SF HEP
                    clear hf1
                    cases hf2 : inB td 0 (st - 1) with
                    | false =>
                      rw [hf2] at ST
                      have HR := Lib.hid (show sysOk ⟨st, ini, labs, eds⟩ = false by rw [HOK3.out, HA2.out, HEP.out, hf2]; simp)
                      clear HOK3 HA2 HEP
                      clear hf2
                      refine wp_region_held_drew (S := fun w' => w'.cell? ⟨w.heap.size, 0, none⟩ = some (ei st) ∧ w'.cell? ⟨w.heap.size, 1, none⟩ = some (ei ini) ∧ w'.cell? ⟨w.heap.size, 2, none⟩ = some (.slice a1 labs.length c1) ∧ w'.cell? ⟨w.heap.size, 3, none⟩ = some (.slice (some ⟨b1, o1, none⟩) eds.length c2) ∧ w'.cell? ⟨BB, 0, none⟩ = some (ei fr) ∧ w'.cell? ⟨BB, 1, none⟩ = some (ei lb) ∧ w'.cell? ⟨BB, 2, none⟩ = some (ei td)) (by kernel_rfl) ?_ (fun hHeld => ?_)
                      · exact ⟨y0, y1, y2, y3, z0, z1, z2⟩
                      refine wpAnyH_take (i := 0) (v := ?_) rfl (by kernel_rfl) (by kernel_rfl) (by kernel_rfl) (fun _ _ _ h => h) (Or.inl ⟨by rfl, ?_⟩) (by assumption) ?_
                      rotate_left
                      · (intro w hSw; (try dsimp only at hSw); go_simp)
                        first | done | with_reducible rfl
                      simp only [Act.put, List.getElem_toArray, List.getElem_cons_zero, List.setIfInBounds_toArray, List.set_cons_zero, List.set_cons_succ]
                      refine wpAnyH_take (i := 1) (v := ?_) rfl (by kernel_rfl) (by kernel_rfl) (by kernel_rfl) (fun _ _ _ h => h) (Or.inl ⟨by rfl, ?_⟩) (by assumption) ?_
                      rotate_left
                      · (intro w hSw; (try dsimp only at hSw); go_simp)
                        first | done | with_reducible rfl
                      simp only [Act.put, List.getElem_toArray, List.getElem_cons_zero, List.getElem_cons_succ, List.setIfInBounds_toArray, List.set_cons_zero, List.set_cons_succ]
                      refine wpAnyH_take (i := 2) (v := ?_) rfl (by kernel_rfl) (by kernel_rfl) (by kernel_rfl) (fun _ _ _ h => h) (Or.inl ⟨by rfl, ?_⟩) (by assumption) ?_
                      rotate_left
                      · (intro w hSw; (try dsimp only at hSw); go_simp)
                        first | done | with_reducible rfl
                      simp only [Act.put, List.getElem_toArray, List.getElem_cons_zero, List.getElem_cons_succ, List.setIfInBounds_toArray, List.set_cons_zero, List.set_cons_succ]
                      refine wpAnyH_ready (rs := [3]) (by kernel_rfl) (by simp) ?_
                      refine AllReadyH.cons rfl (fun K hK => ?_) AllReadyH.nil
                      go_simp
                      refine (SF.out _).mono ?_
                      rintro e w3 ⟨rfl, hu1⟩
                      refine hK.out _ _ ?_ (fun hHeld => ?_)
                      · exact ⟨hu1.keep hHeld.1, hu1.keep hHeld.2.1, hu1.keep hHeld.2.2.1, hu1.keep hHeld.2.2.2.1, hu1.keep hHeld.2.2.2.2.1, hu1.keep hHeld.2.2.2.2.2.1, hu1.keep hHeld.2.2.2.2.2.2⟩
                      clear hK K
                      try simp only [Act.put, List.getElem_toArray, List.getElem_cons_zero, List.getElem_cons_succ, List.setIfInBounds_toArray, List.set_cons_zero, List.set_cons_succ]
                      refine wpAnyH_take (i := 4) (v := ?_) rfl (by kernel_rfl) (by kernel_rfl) (by kernel_rfl) (fun _ _ _ h => h) (Or.inl ⟨by rfl, ?_⟩) (by assumption) ?_
                      rotate_left
                      · (intro w hSw; (try dsimp only at hSw); go_simp)
                        first | done | with_reducible rfl
                      simp only [Act.put, List.getElem_toArray, List.getElem_cons_zero, List.getElem_cons_succ, List.setIfInBounds_toArray, List.set_cons_zero, List.set_cons_succ]
                      refine wpAnyH_take (i := 5) (v := ?_) rfl (by kernel_rfl) (by kernel_rfl) (by kernel_rfl) (fun _ _ _ h => h) (Or.inl ⟨by rfl, ?_⟩) (by assumption) ?_
                      rotate_left
                      · (intro w hSw; (try dsimp only at hSw); go_simp)
                        first | done | with_reducible rfl
                      simp only [Act.put, List.getElem_toArray, List.getElem_cons_zero, List.getElem_cons_succ, List.setIfInBounds_toArray, List.set_cons_zero, List.set_cons_succ]
                      refine wpAnyH_take (i := 6) (v := ?_) rfl (by kernel_rfl) (by kernel_rfl) (by kernel_rfl) (fun _ _ _ h => h) (Or.inl ⟨by rfl, ?_⟩) (by assumption) ?_
                      rotate_left
                      · (intro w hSw; (try dsimp only at hSw); go_simp)
                        first | done | with_reducible rfl
                      simp only [Act.put, List.getElem_toArray, List.getElem_cons_zero, List.getElem_cons_succ, List.setIfInBounds_toArray, List.set_cons_zero, List.set_cons_succ]
                      refine wpAnyH_take (i := 7) (v := ?_) rfl (by kernel_rfl) (by kernel_rfl) (by kernel_rfl) (fun _ _ _ h => h) (Or.inl ⟨by rfl, ?_⟩) (by assumption) ?_
                      rotate_left
                      · (intro w hSw; (try dsimp only at hSw); go_simp)
                        first | done | with_reducible rfl
                      simp only [Act.put, List.getElem_toArray, List.getElem_cons_zero, List.getElem_cons_succ, List.setIfInBounds_toArray, List.set_cons_zero, List.set_cons_succ]
                      refine wpAnyH_take (i := 8) (v := ?_) rfl (by kernel_rfl) (by kernel_rfl) (by kernel_rfl) (fun _ _ _ h => h) (Or.inl ⟨by rfl, ?_⟩) (by assumption) ?_
                      rotate_left
                      · (intro w hSw; (try dsimp only at hSw); go_simp)
                        first | done | with_reducible rfl
                      simp only [Act.put, List.getElem_toArray, List.getElem_cons_zero, List.getElem_cons_succ, List.setIfInBounds_toArray, List.set_cons_zero, List.set_cons_succ]
                      refine wpAnyH_ready (rs := [9]) (by kernel_rfl) (by simp) ?_
                      refine AllReadyH.cons rfl (fun K hK => ?_) AllReadyH.nil
                      go_simp
                      refine (ST.out _).mono ?_
                      rintro e w9 ⟨rfl, hu2⟩
                      refine hK.out _ _ ?_ (fun hHeld => ?_)
                      · exact ⟨hu2.keep hHeld.1, hu2.keep hHeld.2.1, hu2.keep hHeld.2.2.1, hu2.keep hHeld.2.2.2.1, hu2.keep hHeld.2.2.2.2.1, hu2.keep hHeld.2.2.2.2.2.1, hu2.keep hHeld.2.2.2.2.2.2⟩
                      clear hK K
                      try simp only [Act.put, List.getElem_toArray, List.getElem_cons_zero, List.getElem_cons_succ, List.setIfInBounds_toArray, List.set_cons_zero, List.set_cons_succ]
                      refine wpAnyH_take (i := 10) (v := ?_) rfl (by kernel_rfl) (by kernel_rfl) (by kernel_rfl) (fun _ _ _ h => h) (Or.inl ⟨by rfl, ?_⟩) (by assumption) ?_
                      rotate_left
                      · (intro w hSw; (try dsimp only at hSw); go_simp)
                        first | done | with_reducible rfl
                      simp only [Act.put, List.getElem_toArray, List.getElem_cons_zero, List.getElem_cons_succ, List.setIfInBounds_toArray, List.set_cons_zero, List.set_cons_succ]
                      refine wpAnyH_take (i := 11) (v := ?_) rfl (by kernel_rfl) (by kernel_rfl) (by kernel_rfl) (fun _ _ _ h => h) (Or.inl ⟨by rfl, ?_⟩) (by assumption) ?_
                      rotate_left
                      · (intro w hSw; (try dsimp only at hSw); go_simp)
                        first | done | with_reducible rfl
                      simp only [Act.put, List.getElem_toArray, List.getElem_cons_zero, List.getElem_cons_succ, List.setIfInBounds_toArray, List.set_cons_zero, List.set_cons_succ]
                      refine wpAnyH_take (i := 12) (v := ?_) rfl (by kernel_rfl) (by kernel_rfl) (by kernel_rfl) (fun _ _ _ h => h) (Or.inl ⟨by rfl, ?_⟩) (by assumption) ?_
                      rotate_left
                      · (intro w hSw; (try dsimp only at hSw); go_simp)
                        first | done | with_reducible rfl
                      simp only [Act.put, List.getElem_toArray, List.getElem_cons_zero, List.getElem_cons_succ, List.setIfInBounds_toArray, List.set_cons_zero, List.set_cons_succ]
                      refine wpAnyH_take (i := 13) rfl (by kernel_rfl) (by kernel_rfl) (by kernel_rfl) (fun _ _ _ h => h) (Or.inr ⟨by rfl, rfl⟩) (by assumption) ?_
                      simp only [Act.put, List.getElem_toArray, List.getElem_cons_zero, List.getElem_cons_succ, List.setIfInBounds_toArray, List.set_cons_zero, List.set_cons_succ]
                      refine wpAnyH_take (i := 14) rfl (by kernel_rfl) (by kernel_rfl) (by kernel_rfl) (fun _ _ _ h => h) (Or.inr ⟨by rfl, rfl⟩) (by assumption) ?_
                      simp only [Act.put, List.getElem_toArray, List.getElem_cons_zero, List.getElem_cons_succ, List.setIfInBounds_toArray, List.set_cons_zero, List.set_cons_succ]
                      refine wpAnyH_take (i := 15) rfl (by kernel_rfl) (by kernel_rfl) (by kernel_rfl) (fun _ _ _ h => h) (Or.inr ⟨by rfl, rfl⟩) (by assumption) ?_
                      simp only [Act.put, List.getElem_toArray, List.getElem_cons_zero, List.getElem_cons_succ, List.setIfInBounds_toArray, List.set_cons_zero, List.set_cons_succ]
                      refine wpAnyH_take (i := 16) rfl (by kernel_rfl) (by kernel_rfl) (by kernel_rfl) (fun _ _ _ h => h) (Or.inr ⟨by rfl, rfl⟩) (by assumption) ?_
                      simp only [Act.put, List.getElem_toArray, List.getElem_cons_zero, List.getElem_cons_succ, List.setIfInBounds_toArray, List.set_cons_zero, List.set_cons_succ]
                      refine wpAnyH_take (i := 17) rfl (by kernel_rfl) (by kernel_rfl) (by kernel_rfl) (fun _ _ _ h => h) (Or.inr ⟨by rfl, rfl⟩) (by assumption) ?_
                      simp only [Act.put, List.getElem_toArray, List.getElem_cons_zero, List.getElem_cons_succ, List.setIfInBounds_toArray, List.set_cons_zero, List.set_cons_succ]
                      refine wpAnyH_take (i := 18) rfl (by kernel_rfl) (by kernel_rfl) (by kernel_rfl) (fun _ _ _ h => h) (Or.inr ⟨by rfl, rfl⟩) (by assumption) ?_
                      simp only [Act.put, List.getElem_toArray, List.getElem_cons_zero, List.getElem_cons_succ, List.setIfInBounds_toArray, List.set_cons_zero, List.set_cons_succ]
                      refine wpAnyH_take (i := 19) rfl (by kernel_rfl) (by kernel_rfl) (by kernel_rfl) (fun _ _ _ h => h) (Or.inr ⟨by rfl, rfl⟩) (by assumption) ?_
                      simp only [Act.put, List.getElem_toArray, List.getElem_cons_zero, List.getElem_cons_succ, List.setIfInBounds_toArray, List.set_cons_zero, List.set_cons_succ]
                      refine wpAnyH_take (i := 20) (v := ?_) rfl (by kernel_rfl) (by kernel_rfl) (by kernel_rfl) (fun _ _ _ h => h) (Or.inl ⟨by rfl, ?_⟩) (by assumption) ?_
                      rotate_left
                      · (intro w hSw; (try dsimp only at hSw); go_simp)
                        first | done | with_reducible rfl
                      simp only [Act.put, List.getElem_toArray, List.getElem_cons_zero, List.getElem_cons_succ, List.setIfInBounds_toArray, List.set_cons_zero, List.set_cons_succ]
                      refine wpAnyH_take (i := 21) (v := ?_) rfl (by kernel_rfl) (by kernel_rfl) (by kernel_rfl) (fun _ _ _ h => h) (Or.inl ⟨by rfl, ?_⟩) (by assumption) ?_
                      rotate_left
                      · (intro w hSw; (try dsimp only at hSw); go_simp)
                        first | done | with_reducible rfl
                      simp only [Act.put, List.getElem_toArray, List.getElem_cons_zero, List.getElem_cons_succ, List.setIfInBounds_toArray, List.set_cons_zero, List.set_cons_succ]
                      refine wpAnyH_take (i := 22) rfl (by kernel_rfl) (by kernel_rfl) (by kernel_rfl) (fun _ _ _ h => h) (Or.inr ⟨by rfl, rfl⟩) (by assumption) ?_
                      simp only [Act.put, List.getElem_toArray, List.getElem_cons_zero, List.getElem_cons_succ, List.setIfInBounds_toArray, List.set_cons_zero, List.set_cons_succ]
                      refine wpAnyH_take (i := 23) rfl (by kernel_rfl) (by kernel_rfl) (by kernel_rfl) (fun _ _ _ h => h) (Or.inr ⟨by rfl, rfl⟩) (by assumption) ?_
                      simp only [Act.put, List.getElem_toArray, List.getElem_cons_zero, List.getElem_cons_succ, List.setIfInBounds_toArray, List.set_cons_zero, List.set_cons_succ]
                      refine wpAnyH_take (i := 24) rfl (by kernel_rfl) (by kernel_rfl) (by kernel_rfl) (fun _ _ _ h => h) (Or.inr ⟨by rfl, rfl⟩) (by assumption) ?_
                      simp only [Act.put, List.getElem_toArray, List.getElem_cons_zero, List.getElem_cons_succ, List.setIfInBounds_toArray, List.set_cons_zero, List.set_cons_succ]
                      refine wpAnyH_take (i := 25) rfl (by kernel_rfl) (by kernel_rfl) (by kernel_rfl) (fun _ _ _ h => h) (Or.inr ⟨by rfl, rfl⟩) (by assumption) ?_
                      simp only [Act.put, List.getElem_toArray, List.getElem_cons_zero, List.getElem_cons_succ, List.setIfInBounds_toArray, List.set_cons_zero, List.set_cons_succ]
                      refine wpAnyH_take (i := 26) rfl (by kernel_rfl) (by kernel_rfl) (by kernel_rfl) (fun _ _ _ h => h) (Or.inr ⟨by rfl, rfl⟩) (by assumption) ?_
                      simp only [Act.put, List.getElem_toArray, List.getElem_cons_zero, List.getElem_cons_succ, List.setIfInBounds_toArray, List.set_cons_zero, List.set_cons_succ]
                      refine wpAnyH_take (i := 27) rfl (by kernel_rfl) (by kernel_rfl) (by kernel_rfl) (fun _ _ _ h => h) (Or.inr ⟨by rfl, rfl⟩) (by assumption) ?_
                      simp only [Act.put, List.getElem_toArray, List.getElem_cons_zero, List.getElem_cons_succ, List.setIfInBounds_toArray, List.set_cons_zero, List.set_cons_succ]
                      refine wpAnyH_take (i := 28) rfl (by kernel_rfl) (by kernel_rfl) (by kernel_rfl) (fun _ _ _ h => h) (Or.inr ⟨by rfl, rfl⟩) (by assumption) ?_
                      simp only [Act.put, List.getElem_toArray, List.getElem_cons_zero, List.getElem_cons_succ, List.setIfInBounds_toArray, List.set_cons_zero, List.set_cons_succ]
                      refine wpAnyH_take (i := 29) rfl (by kernel_rfl) (by kernel_rfl) (by kernel_rfl) (fun _ _ _ h => h) (Or.inr ⟨by rfl, rfl⟩) (by assumption) ?_
                      simp only [Act.put, List.getElem_toArray, List.getElem_cons_zero, List.getElem_cons_succ, List.setIfInBounds_toArray, List.set_cons_zero, List.set_cons_succ]
                      refine wpAnyH_take (i := 30) rfl (by kernel_rfl) (by kernel_rfl) (by kernel_rfl) (fun _ _ _ h => h) (Or.inr ⟨by rfl, rfl⟩) (by assumption) ?_
                      simp only [Act.put, List.getElem_toArray, List.getElem_cons_zero, List.getElem_cons_succ, List.setIfInBounds_toArray, List.set_cons_zero, List.set_cons_succ]
                      refine wpAnyH_take (i := 31) rfl (by kernel_rfl) (by kernel_rfl) (by kernel_rfl) (fun _ _ _ h => h) (Or.inr ⟨by rfl, rfl⟩) (by assumption) ?_
                      simp only [Act.put, List.getElem_toArray, List.getElem_cons_zero, List.getElem_cons_succ, List.setIfInBounds_toArray, List.set_cons_zero, List.set_cons_succ]
                      refine wpAnyH_take (i := 32) rfl (by kernel_rfl) (by kernel_rfl) (by kernel_rfl) (fun _ _ _ h => h) (Or.inr ⟨by rfl, rfl⟩) (by assumption) ?_
                      simp only [Act.put, List.getElem_toArray, List.getElem_cons_zero, List.getElem_cons_succ, List.setIfInBounds_toArray, List.set_cons_zero, List.set_cons_succ]
                      refine wpAnyH_take (i := 33) rfl (by kernel_rfl) (by kernel_rfl) (by kernel_rfl) (fun _ _ _ h => h) (Or.inr ⟨by rfl, rfl⟩) (by assumption) ?_
                      simp only [Act.put, List.getElem_toArray, List.getElem_cons_zero, List.getElem_cons_succ, List.setIfInBounds_toArray, List.set_cons_zero, List.set_cons_succ]
                      refine wpAnyH_take (i := 34) rfl (by kernel_rfl) (by kernel_rfl) (by kernel_rfl) (fun _ _ _ h => h) (Or.inr ⟨by rfl, rfl⟩) (by assumption) ?_
                      simp only [Act.put, List.getElem_toArray, List.getElem_cons_zero, List.getElem_cons_succ, List.setIfInBounds_toArray, List.set_cons_zero, List.set_cons_succ]
                      refine wpAnyH_take (i := 35) (v := ?_) rfl (by kernel_rfl) (by kernel_rfl) (by kernel_rfl) (fun _ _ _ h => h) (Or.inl ⟨by rfl, ?_⟩) (by assumption) ?_
                      rotate_left
                      · (intro w hSw; (try dsimp only at hSw); go_simp)
                        first | done | with_reducible rfl
                      simp only [Act.put, List.getElem_toArray, List.getElem_cons_zero, List.getElem_cons_succ, List.setIfInBounds_toArray, List.set_cons_zero, List.set_cons_succ]
                      refine wpAnyH_done (by kernel_rfl) ?_ _
                      have HU9 := Lib.hid (HB0.out.trans ((HU5.out.drew.trans hu1).trans hu2))
                      clear HU5 hHeld y0 y1 y2 y3 z0 z1 z2
                      go_wp2_with fail
                      go_ret
                      exact ⟨by rw [HR.out]; rfl, HU9.out⟩
                    | true =>
                      rw [hf2] at ST HEP
                      clear hf2
                      cases hf3 : inB lb 0 ((labs.length : Int) - 1) with
                      | false =>
                        rw [hf3] at SI
                        have HR := Lib.hid (show sysOk ⟨st, ini, labs, eds⟩ = false by rw [HOK3.out, HA2.out, HEP.out, hf3]; simp)
                        clear HOK3 HA2 HEP
                        clear hf3
                        refine wp_region_held_drew (S := fun w' => w'.cell? ⟨w.heap.size, 0, none⟩ = some (ei st) ∧ w'.cell? ⟨w.heap.size, 1, none⟩ = some (ei ini) ∧ w'.cell? ⟨w.heap.size, 2, none⟩ = some (.slice a1 labs.length c1) ∧ w'.cell? ⟨w.heap.size, 3, none⟩ = some (.slice (some ⟨b1, o1, none⟩) eds.length c2) ∧ w'.cell? ⟨BB, 0, none⟩ = some (ei fr) ∧ w'.cell? ⟨BB, 1, none⟩ = some (ei lb) ∧ w'.cell? ⟨BB, 2, none⟩ = some (ei td)) (by kernel_rfl) ?_ (fun hHeld => ?_)
                        · exact ⟨y0, y1, y2, y3, z0, z1, z2⟩
                        refine wpAnyH_take (i := 0) (v := ?_) rfl (by kernel_rfl) (by kernel_rfl) (by kernel_rfl) (fun _ _ _ h => h) (Or.inl ⟨by rfl, ?_⟩) (by assumption) ?_
                        rotate_left
                        · (intro w hSw; (try dsimp only at hSw); go_simp)
                          first | done | with_reducible rfl
                        simp only [Act.put, List.getElem_toArray, List.getElem_cons_zero, List.setIfInBounds_toArray, List.set_cons_zero, List.set_cons_succ]
                        refine wpAnyH_take (i := 1) (v := ?_) rfl (by kernel_rfl) (by kernel_rfl) (by kernel_rfl) (fun _ _ _ h => h) (Or.inl ⟨by rfl, ?_⟩) (by assumption) ?_
                        rotate_left
                        · (intro w hSw; (try dsimp only at hSw); go_simp)
                          first | done | with_reducible rfl
                        simp only [Act.put, List.getElem_toArray, List.getElem_cons_zero, List.getElem_cons_succ, List.setIfInBounds_toArray, List.set_cons_zero, List.set_cons_succ]
                        refine wpAnyH_take (i := 2) (v := ?_) rfl (by kernel_rfl) (by kernel_rfl) (by kernel_rfl) (fun _ _ _ h => h) (Or.inl ⟨by rfl, ?_⟩) (by assumption) ?_
                        rotate_left
                        · (intro w hSw; (try dsimp only at hSw); go_simp)
                          first | done | with_reducible rfl
                        simp only [Act.put, List.getElem_toArray, List.getElem_cons_zero, List.getElem_cons_succ, List.setIfInBounds_toArray, List.set_cons_zero, List.set_cons_succ]
                        refine wpAnyH_ready (rs := [3]) (by kernel_rfl) (by simp) ?_
                        refine AllReadyH.cons rfl (fun K hK => ?_) AllReadyH.nil
                        go_simp
                        refine (SF.out _).mono ?_
                        rintro e w3 ⟨rfl, hu1⟩
                        refine hK.out _ _ ?_ (fun hHeld => ?_)
                        · exact ⟨hu1.keep hHeld.1, hu1.keep hHeld.2.1, hu1.keep hHeld.2.2.1, hu1.keep hHeld.2.2.2.1, hu1.keep hHeld.2.2.2.2.1, hu1.keep hHeld.2.2.2.2.2.1, hu1.keep hHeld.2.2.2.2.2.2⟩
                        clear hK K
                        try simp only [Act.put, List.getElem_toArray, List.getElem_cons_zero, List.getElem_cons_succ, List.setIfInBounds_toArray, List.set_cons_zero, List.set_cons_succ]
                        refine wpAnyH_take (i := 4) (v := ?_) rfl (by kernel_rfl) (by kernel_rfl) (by kernel_rfl) (fun _ _ _ h => h) (Or.inl ⟨by rfl, ?_⟩) (by assumption) ?_
                        rotate_left
                        · (intro w hSw; (try dsimp only at hSw); go_simp)
                          first | done | with_reducible rfl
                        simp only [Act.put, List.getElem_toArray, List.getElem_cons_zero, List.getElem_cons_succ, List.setIfInBounds_toArray, List.set_cons_zero, List.set_cons_succ]
                        refine wpAnyH_take (i := 5) (v := ?_) rfl (by kernel_rfl) (by kernel_rfl) (by kernel_rfl) (fun _ _ _ h => h) (Or.inl ⟨by rfl, ?_⟩) (by assumption) ?_
                        rotate_left
                        · (intro w hSw; (try dsimp only at hSw); go_simp)
                          first | done | with_reducible rfl
                        simp only [Act.put, List.getElem_toArray, List.getElem_cons_zero, List.getElem_cons_succ, List.setIfInBounds_toArray, List.set_cons_zero, List.set_cons_succ]
                        refine wpAnyH_take (i := 6) (v := ?_) rfl (by kernel_rfl) (by kernel_rfl) (by kernel_rfl) (fun _ _ _ h => h) (Or.inl ⟨by rfl, ?_⟩) (by assumption) ?_
                        rotate_left
                        · (intro w hSw; (try dsimp only at hSw); go_simp)
                          first | done | with_reducible rfl
                        simp only [Act.put, List.getElem_toArray, List.getElem_cons_zero, List.getElem_cons_succ, List.setIfInBounds_toArray, List.set_cons_zero, List.set_cons_succ]
                        refine wpAnyH_take (i := 7) (v := ?_) rfl (by kernel_rfl) (by kernel_rfl) (by kernel_rfl) (fun _ _ _ h => h) (Or.inl ⟨by rfl, ?_⟩) (by assumption) ?_
                        rotate_left
                        · (intro w hSw; (try dsimp only at hSw); go_simp)
                          first | done | with_reducible rfl
                        simp only [Act.put, List.getElem_toArray, List.getElem_cons_zero, List.getElem_cons_succ, List.setIfInBounds_toArray, List.set_cons_zero, List.set_cons_succ]
                        refine wpAnyH_take (i := 8) (v := ?_) rfl (by kernel_rfl) (by kernel_rfl) (by kernel_rfl) (fun _ _ _ h => h) (Or.inl ⟨by rfl, ?_⟩) (by assumption) ?_
                        rotate_left
                        · (intro w hSw; (try dsimp only at hSw); go_simp)
                          first | done | with_reducible rfl
                        simp only [Act.put, List.getElem_toArray, List.getElem_cons_zero, List.getElem_cons_succ, List.setIfInBounds_toArray, List.set_cons_zero, List.set_cons_succ]
                        refine wpAnyH_ready (rs := [9]) (by kernel_rfl) (by simp) ?_
                        refine AllReadyH.cons rfl (fun K hK => ?_) AllReadyH.nil
                        go_simp
                        refine (ST.out _).mono ?_
                        rintro e w9 ⟨rfl, hu2⟩
                        refine hK.out _ _ ?_ (fun hHeld => ?_)
                        · exact ⟨hu2.keep hHeld.1, hu2.keep hHeld.2.1, hu2.keep hHeld.2.2.1, hu2.keep hHeld.2.2.2.1, hu2.keep hHeld.2.2.2.2.1, hu2.keep hHeld.2.2.2.2.2.1, hu2.keep hHeld.2.2.2.2.2.2⟩
                        clear hK K
                        try simp only [Act.put, List.getElem_toArray, List.getElem_cons_zero, List.getElem_cons_succ, List.setIfInBounds_toArray, List.set_cons_zero, List.set_cons_succ]
                        refine wpAnyH_take (i := 10) (v := ?_) rfl (by kernel_rfl) (by kernel_rfl) (by kernel_rfl) (fun _ _ _ h => h) (Or.inl ⟨by rfl, ?_⟩) (by assumption) ?_
                        rotate_left
                        · (intro w hSw; (try dsimp only at hSw); go_simp)
                          first | done | with_reducible rfl
                        simp only [Act.put, List.getElem_toArray, List.getElem_cons_zero, List.getElem_cons_succ, List.setIfInBounds_toArray, List.set_cons_zero, List.set_cons_succ]
                        refine wpAnyH_take (i := 11) (v := ?_) rfl (by kernel_rfl) (by kernel_rfl) (by kernel_rfl) (fun _ _ _ h => h) (Or.inl ⟨by rfl, ?_⟩) (by assumption) ?_
                        rotate_left
                        · (intro w hSw; (try dsimp only at hSw); go_simp)
                          first | done | with_reducible rfl
                        simp only [Act.put, List.getElem_toArray, List.getElem_cons_zero, List.getElem_cons_succ, List.setIfInBounds_toArray, List.set_cons_zero, List.set_cons_succ]
                        refine wpAnyH_take (i := 12) (v := ?_) rfl (by kernel_rfl) (by kernel_rfl) (by kernel_rfl) (fun _ _ _ h => h) (Or.inl ⟨by rfl, ?_⟩) (by assumption) ?_
                        rotate_left
                        · (intro w hSw; (try dsimp only at hSw); go_simp)
                          first | done | with_reducible rfl
                        simp only [Act.put, List.getElem_toArray, List.getElem_cons_zero, List.getElem_cons_succ, List.setIfInBounds_toArray, List.set_cons_zero, List.set_cons_succ]
                        refine wpAnyH_take (i := 13) (v := ?_) rfl (by kernel_rfl) (by kernel_rfl) (by kernel_rfl) (fun _ _ _ h => h) (Or.inl ⟨by rfl, ?_⟩) (by assumption) ?_
                        rotate_left
                        · (intro w hSw; (try dsimp only at hSw); go_simp)
                          first | done | with_reducible rfl
                        simp only [Act.put, List.getElem_toArray, List.getElem_cons_zero, List.getElem_cons_succ, List.setIfInBounds_toArray, List.set_cons_zero, List.set_cons_succ]
                        refine wpAnyH_take (i := 14) (v := ?_) rfl (by kernel_rfl) (by kernel_rfl) (by kernel_rfl) (fun _ _ _ h => h) (Or.inl ⟨by rfl, ?_⟩) (by assumption) ?_
                        rotate_left
                        · (intro w hSw; (try dsimp only at hSw); go_simp)
                          first | done | with_reducible rfl
                        simp only [Act.put, List.getElem_toArray, List.getElem_cons_zero, List.getElem_cons_succ, List.setIfInBounds_toArray, List.set_cons_zero, List.set_cons_succ]
                        refine wpAnyH_take (i := 15) (v := ?_) rfl (by kernel_rfl) (by kernel_rfl) (by kernel_rfl) (fun _ _ _ h => h) (Or.inl ⟨by rfl, ?_⟩) (by assumption) ?_
                        rotate_left
                        · (intro w hSw; (try dsimp only at hSw); go_simp)
                          first | done | with_reducible rfl
                        simp only [Act.put, List.getElem_toArray, List.getElem_cons_zero, List.getElem_cons_succ, List.setIfInBounds_toArray, List.set_cons_zero, List.set_cons_succ]
                        refine wpAnyH_take (i := 16) (v := ?_) rfl (by kernel_rfl) (by kernel_rfl) (by kernel_rfl) (fun _ _ _ h => h) (Or.inl ⟨by rfl, ?_⟩) (by assumption) ?_
                        rotate_left
                        · (intro w hSw; (try dsimp only at hSw); go_simp)
                          first | done | with_reducible rfl
                        simp only [Act.put, List.getElem_toArray, List.getElem_cons_zero, List.getElem_cons_succ, List.setIfInBounds_toArray, List.set_cons_zero, List.set_cons_succ]
                        refine wpAnyH_take (i := 17) (v := ?_) rfl (by kernel_rfl) (by kernel_rfl) (by kernel_rfl) (fun _ _ _ h => h) (Or.inl ⟨by rfl, ?_⟩) (by assumption) ?_
                        rotate_left
                        · (intro w hSw; (try dsimp only at hSw); go_simp)
                          first | done | with_reducible rfl
                        simp only [Act.put, List.getElem_toArray, List.getElem_cons_zero, List.getElem_cons_succ, List.setIfInBounds_toArray, List.set_cons_zero, List.set_cons_succ]
                        refine wpAnyH_ready (rs := [18]) (by kernel_rfl) (by simp) ?_
                        refine AllReadyH.cons rfl (fun K hK => ?_) AllReadyH.nil
                        go_simp
                        refine (SI.out _).mono ?_
                        rintro e w18 ⟨rfl, rfl⟩
                        refine hK.out _ _ ?_ (fun hHeld => ?_)
                        · exact ⟨hHeld.1, hHeld.2.1, hHeld.2.2.1, hHeld.2.2.2.1, hHeld.2.2.2.2.1, hHeld.2.2.2.2.2.1, hHeld.2.2.2.2.2.2⟩
                        clear hK K
                        try simp only [Act.put, List.getElem_toArray, List.getElem_cons_zero, List.getElem_cons_succ, List.setIfInBounds_toArray, List.set_cons_zero, List.set_cons_succ]
                        refine wpAnyH_take (i := 19) (v := ?_) rfl (by kernel_rfl) (by kernel_rfl) (by kernel_rfl) (fun _ _ _ h => h) (Or.inl ⟨by rfl, ?_⟩) (by assumption) ?_
                        rotate_left
                        · (intro w hSw; (try dsimp only at hSw); go_simp)
                          first | done | with_reducible rfl
                        simp only [Act.put, List.getElem_toArray, List.getElem_cons_zero, List.getElem_cons_succ, List.setIfInBounds_toArray, List.set_cons_zero, List.set_cons_succ]
                        refine wpAnyH_take (i := 20) (v := ?_) rfl (by kernel_rfl) (by kernel_rfl) (by kernel_rfl) (fun _ _ _ h => h) (Or.inl ⟨by rfl, ?_⟩) (by assumption) ?_
                        rotate_left
                        · (intro w hSw; (try dsimp only at hSw); go_simp)
                          first | done | with_reducible rfl
                        simp only [Act.put, List.getElem_toArray, List.getElem_cons_zero, List.getElem_cons_succ, List.setIfInBounds_toArray, List.set_cons_zero, List.set_cons_succ]
                        refine wpAnyH_take (i := 21) (v := ?_) rfl (by kernel_rfl) (by kernel_rfl) (by kernel_rfl) (fun _ _ _ h => h) (Or.inl ⟨by rfl, ?_⟩) (by assumption) ?_
                        rotate_left
                        · (intro w hSw; (try dsimp only at hSw); go_simp)
                          first | done | with_reducible rfl
                        simp only [Act.put, List.getElem_toArray, List.getElem_cons_zero, List.getElem_cons_succ, List.setIfInBounds_toArray, List.set_cons_zero, List.set_cons_succ]
                        refine wpAnyH_take (i := 22) rfl (by kernel_rfl) (by kernel_rfl) (by kernel_rfl) (fun _ _ _ h => h) (Or.inr ⟨by rfl, rfl⟩) (by assumption) ?_
                        simp only [Act.put, List.getElem_toArray, List.getElem_cons_zero, List.getElem_cons_succ, List.setIfInBounds_toArray, List.set_cons_zero, List.set_cons_succ]
                        refine wpAnyH_take (i := 23) rfl (by kernel_rfl) (by kernel_rfl) (by kernel_rfl) (fun _ _ _ h => h) (Or.inr ⟨by rfl, rfl⟩) (by assumption) ?_
                        simp only [Act.put, List.getElem_toArray, List.getElem_cons_zero, List.getElem_cons_succ, List.setIfInBounds_toArray, List.set_cons_zero, List.set_cons_succ]
                        refine wpAnyH_take (i := 24) rfl (by kernel_rfl) (by kernel_rfl) (by kernel_rfl) (fun _ _ _ h => h) (Or.inr ⟨by rfl, rfl⟩) (by assumption) ?_
                        simp only [Act.put, List.getElem_toArray, List.getElem_cons_zero, List.getElem_cons_succ, List.setIfInBounds_toArray, List.set_cons_zero, List.set_cons_succ]
                        refine wpAnyH_take (i := 25) rfl (by kernel_rfl) (by kernel_rfl) (by kernel_rfl) (fun _ _ _ h => h) (Or.inr ⟨by rfl, rfl⟩) (by assumption) ?_
                        simp only [Act.put, List.getElem_toArray, List.getElem_cons_zero, List.getElem_cons_succ, List.setIfInBounds_toArray, List.set_cons_zero, List.set_cons_succ]
                        refine wpAnyH_take (i := 26) rfl (by kernel_rfl) (by kernel_rfl) (by kernel_rfl) (fun _ _ _ h => h) (Or.inr ⟨by rfl, rfl⟩) (by assumption) ?_
                        simp only [Act.put, List.getElem_toArray, List.getElem_cons_zero, List.getElem_cons_succ, List.setIfInBounds_toArray, List.set_cons_zero, List.set_cons_succ]
                        refine wpAnyH_take (i := 27) rfl (by kernel_rfl) (by kernel_rfl) (by kernel_rfl) (fun _ _ _ h => h) (Or.inr ⟨by rfl, rfl⟩) (by assumption) ?_
                        simp only [Act.put, List.getElem_toArray, List.getElem_cons_zero, List.getElem_cons_succ, List.setIfInBounds_toArray, List.set_cons_zero, List.set_cons_succ]
                        refine wpAnyH_take (i := 28) rfl (by kernel_rfl) (by kernel_rfl) (by kernel_rfl) (fun _ _ _ h => h) (Or.inr ⟨by rfl, rfl⟩) (by assumption) ?_
                        simp only [Act.put, List.getElem_toArray, List.getElem_cons_zero, List.getElem_cons_succ, List.setIfInBounds_toArray, List.set_cons_zero, List.set_cons_succ]
                        refine wpAnyH_take (i := 29) rfl (by kernel_rfl) (by kernel_rfl) (by kernel_rfl) (fun _ _ _ h => h) (Or.inr ⟨by rfl, rfl⟩) (by assumption) ?_
                        simp only [Act.put, List.getElem_toArray, List.getElem_cons_zero, List.getElem_cons_succ, List.setIfInBounds_toArray, List.set_cons_zero, List.set_cons_succ]
                        refine wpAnyH_take (i := 30) rfl (by kernel_rfl) (by kernel_rfl) (by kernel_rfl) (fun _ _ _ h => h) (Or.inr ⟨by rfl, rfl⟩) (by assumption) ?_
                        simp only [Act.put, List.getElem_toArray, List.getElem_cons_zero, List.getElem_cons_succ, List.setIfInBounds_toArray, List.set_cons_zero, List.set_cons_succ]
                        refine wpAnyH_take (i := 31) rfl (by kernel_rfl) (by kernel_rfl) (by kernel_rfl) (fun _ _ _ h => h) (Or.inr ⟨by rfl, rfl⟩) (by assumption) ?_
                        simp only [Act.put, List.getElem_toArray, List.getElem_cons_zero, List.getElem_cons_succ, List.setIfInBounds_toArray, List.set_cons_zero, List.set_cons_succ]
                        refine wpAnyH_take (i := 32) rfl (by kernel_rfl) (by kernel_rfl) (by kernel_rfl) (fun _ _ _ h => h) (Or.inr ⟨by rfl, rfl⟩) (by assumption) ?_
                        simp only [Act.put, List.getElem_toArray, List.getElem_cons_zero, List.getElem_cons_succ, List.setIfInBounds_toArray, List.set_cons_zero, List.set_cons_succ]
                        refine wpAnyH_take (i := 33) rfl (by kernel_rfl) (by kernel_rfl) (by kernel_rfl) (fun _ _ _ h => h) (Or.inr ⟨by rfl, rfl⟩) (by assumption) ?_
                        simp only [Act.put, List.getElem_toArray, List.getElem_cons_zero, List.getElem_cons_succ, List.setIfInBounds_toArray, List.set_cons_zero, List.set_cons_succ]
                        refine wpAnyH_take (i := 34) rfl (by kernel_rfl) (by kernel_rfl) (by kernel_rfl) (fun _ _ _ h => h) (Or.inr ⟨by rfl, rfl⟩) (by assumption) ?_
                        simp only [Act.put, List.getElem_toArray, List.getElem_cons_zero, List.getElem_cons_succ, List.setIfInBounds_toArray, List.set_cons_zero, List.set_cons_succ]
                        refine wpAnyH_take (i := 35) (v := ?_) rfl (by kernel_rfl) (by kernel_rfl) (by kernel_rfl) (fun _ _ _ h => h) (Or.inl ⟨by rfl, ?_⟩) (by assumption) ?_
                        rotate_left
                        · (intro w hSw; (try dsimp only at hSw); go_simp)
                          first | done | with_reducible rfl
                        simp only [Act.put, List.getElem_toArray, List.getElem_cons_zero, List.getElem_cons_succ, List.setIfInBounds_toArray, List.set_cons_zero, List.set_cons_succ]
                        refine wpAnyH_done (by kernel_rfl) ?_ _
                        have HU9 := Lib.hid (HB0.out.trans ((HU5.out.drew.trans hu1).trans hu2))
                        clear HU5 hHeld y0 y1 y2 y3 z0 z1 z2
                        go_wp2_with fail
                        go_ret
                        exact ⟨by rw [HR.out]; rfl, HU9.out⟩
                      | true =>
                        rw [hf3] at SI HEP
                        clear hf3
                        by_cases k0 : k = 0
                        · have HA3 := Lib.hid (show allF (edP ⟨st, ini, labs, eds⟩) (k + 1) (eds.length - (k + 1)) = allF (edP ⟨st, ini, labs, eds⟩) 0 eds.length by rw [HA2.out, HEP.out, decide_eq_true k0]; simp)
                          have kk : decide (0 < k) = false := by rw [k0]; rfl
                          have kk2 : ¬ (0 : Int) < (k : Int) := by omega
                          clear HA2 HEP k0
                          refine wp_region_held_drew (S := fun w' => w'.cell? ⟨w.heap.size, 0, none⟩ = some (ei st) ∧ w'.cell? ⟨w.heap.size, 1, none⟩ = some (ei ini) ∧ w'.cell? ⟨w.heap.size, 2, none⟩ = some (.slice a1 labs.length c1) ∧ w'.cell? ⟨w.heap.size, 3, none⟩ = some (.slice (some ⟨b1, o1, none⟩) eds.length c2) ∧ w'.cell? ⟨BB, 0, none⟩ = some (ei fr) ∧ w'.cell? ⟨BB, 1, none⟩ = some (ei lb) ∧ w'.cell? ⟨BB, 2, none⟩ = some (ei td)) (by kernel_rfl) ?_ (fun hHeld => ?_)
                          · exact ⟨y0, y1, y2, y3, z0, z1, z2⟩
                          refine wpAnyH_take (i := 0) (v := ?_) rfl (by kernel_rfl) (by kernel_rfl) (by kernel_rfl) (fun _ _ _ h => h) (Or.inl ⟨by rfl, ?_⟩) (by assumption) ?_
                          rotate_left
                          · (intro w hSw; (try dsimp only at hSw); go_simp)
                            first | done | with_reducible rfl
                          simp only [Act.put, List.getElem_toArray, List.getElem_cons_zero, List.setIfInBounds_toArray, List.set_cons_zero, List.set_cons_succ]
                          refine wpAnyH_take (i := 1) (v := ?_) rfl (by kernel_rfl) (by kernel_rfl) (by kernel_rfl) (fun _ _ _ h => h) (Or.inl ⟨by rfl, ?_⟩) (by assumption) ?_
                          rotate_left
                          · (intro w hSw; (try dsimp only at hSw); go_simp)
                            first | done | with_reducible rfl
                          simp only [Act.put, List.getElem_toArray, List.getElem_cons_zero, List.getElem_cons_succ, List.setIfInBounds_toArray, List.set_cons_zero, List.set_cons_succ]
                          refine wpAnyH_take (i := 2) (v := ?_) rfl (by kernel_rfl) (by kernel_rfl) (by kernel_rfl) (fun _ _ _ h => h) (Or.inl ⟨by rfl, ?_⟩) (by assumption) ?_
                          rotate_left
                          · (intro w hSw; (try dsimp only at hSw); go_simp)
                            first | done | with_reducible rfl
                          simp only [Act.put, List.getElem_toArray, List.getElem_cons_zero, List.getElem_cons_succ, List.setIfInBounds_toArray, List.set_cons_zero, List.set_cons_succ]
                          refine wpAnyH_ready (rs := [3]) (by kernel_rfl) (by simp) ?_
                          refine AllReadyH.cons rfl (fun K hK => ?_) AllReadyH.nil
                          go_simp
                          refine (SF.out _).mono ?_
                          rintro e w3 ⟨rfl, hu1⟩
                          refine hK.out _ _ ?_ (fun hHeld => ?_)
                          · exact ⟨hu1.keep hHeld.1, hu1.keep hHeld.2.1, hu1.keep hHeld.2.2.1, hu1.keep hHeld.2.2.2.1, hu1.keep hHeld.2.2.2.2.1, hu1.keep hHeld.2.2.2.2.2.1, hu1.keep hHeld.2.2.2.2.2.2⟩
                          clear hK K
                          try simp only [Act.put, List.getElem_toArray, List.getElem_cons_zero, List.getElem_cons_succ, List.setIfInBounds_toArray, List.set_cons_zero, List.set_cons_succ]
                          refine wpAnyH_take (i := 4) (v := ?_) rfl (by kernel_rfl) (by kernel_rfl) (by kernel_rfl) (fun _ _ _ h => h) (Or.inl ⟨by rfl, ?_⟩) (by assumption) ?_
                          rotate_left
                          · (intro w hSw; (try dsimp only at hSw); go_simp)
                            first | done | with_reducible rfl
                          simp only [Act.put, List.getElem_toArray, List.getElem_cons_zero, List.getElem_cons_succ, List.setIfInBounds_toArray, List.set_cons_zero, List.set_cons_succ]
                          refine wpAnyH_take (i := 5) (v := ?_) rfl (by kernel_rfl) (by kernel_rfl) (by kernel_rfl) (fun _ _ _ h => h) (Or.inl ⟨by rfl, ?_⟩) (by assumption) ?_
                          rotate_left
                          · (intro w hSw; (try dsimp only at hSw); go_simp)
                            first | done | with_reducible rfl
                          simp only [Act.put, List.getElem_toArray, List.getElem_cons_zero, List.getElem_cons_succ, List.setIfInBounds_toArray, List.set_cons_zero, List.set_cons_succ]
                          refine wpAnyH_take (i := 6) (v := ?_) rfl (by kernel_rfl) (by kernel_rfl) (by kernel_rfl) (fun _ _ _ h => h) (Or.inl ⟨by rfl, ?_⟩) (by assumption) ?_
                          rotate_left
                          · (intro w hSw; (try dsimp only at hSw); go_simp)
                            first | done | with_reducible rfl
                          simp only [Act.put, List.getElem_toArray, List.getElem_cons_zero, List.getElem_cons_succ, List.setIfInBounds_toArray, List.set_cons_zero, List.set_cons_succ]
                          refine wpAnyH_take (i := 7) (v := ?_) rfl (by kernel_rfl) (by kernel_rfl) (by kernel_rfl) (fun _ _ _ h => h) (Or.inl ⟨by rfl, ?_⟩) (by assumption) ?_
                          rotate_left
                          · (intro w hSw; (try dsimp only at hSw); go_simp)
                            first | done | with_reducible rfl
                          simp only [Act.put, List.getElem_toArray, List.getElem_cons_zero, List.getElem_cons_succ, List.setIfInBounds_toArray, List.set_cons_zero, List.set_cons_succ]
                          refine wpAnyH_take (i := 8) (v := ?_) rfl (by kernel_rfl) (by kernel_rfl) (by kernel_rfl) (fun _ _ _ h => h) (Or.inl ⟨by rfl, ?_⟩) (by assumption) ?_
                          rotate_left
                          · (intro w hSw; (try dsimp only at hSw); go_simp)
                            first | done | with_reducible rfl
                          simp only [Act.put, List.getElem_toArray, List.getElem_cons_zero, List.getElem_cons_succ, List.setIfInBounds_toArray, List.set_cons_zero, List.set_cons_succ]
                          refine wpAnyH_ready (rs := [9]) (by kernel_rfl) (by simp) ?_
                          refine AllReadyH.cons rfl (fun K hK => ?_) AllReadyH.nil
                          go_simp
                          refine (ST.out _).mono ?_
                          rintro e w9 ⟨rfl, hu2⟩
                          refine hK.out _ _ ?_ (fun hHeld => ?_)
                          · exact ⟨hu2.keep hHeld.1, hu2.keep hHeld.2.1, hu2.keep hHeld.2.2.1, hu2.keep hHeld.2.2.2.1, hu2.keep hHeld.2.2.2.2.1, hu2.keep hHeld.2.2.2.2.2.1, hu2.keep hHeld.2.2.2.2.2.2⟩
                          clear hK K
                          try simp only [Act.put, List.getElem_toArray, List.getElem_cons_zero, List.getElem_cons_succ, List.setIfInBounds_toArray, List.set_cons_zero, List.set_cons_succ]
                          refine wpAnyH_take (i := 10) (v := ?_) rfl (by kernel_rfl) (by kernel_rfl) (by kernel_rfl) (fun _ _ _ h => h) (Or.inl ⟨by rfl, ?_⟩) (by assumption) ?_
                          rotate_left
                          · (intro w hSw; (try dsimp only at hSw); go_simp)
                            first | done | with_reducible rfl
                          simp only [Act.put, List.getElem_toArray, List.getElem_cons_zero, List.getElem_cons_succ, List.setIfInBounds_toArray, List.set_cons_zero, List.set_cons_succ]
                          refine wpAnyH_take (i := 11) (v := ?_) rfl (by kernel_rfl) (by kernel_rfl) (by kernel_rfl) (fun _ _ _ h => h) (Or.inl ⟨by rfl, ?_⟩) (by assumption) ?_
                          rotate_left
                          · (intro w hSw; (try dsimp only at hSw); go_simp)
                            first | done | with_reducible rfl
                          simp only [Act.put, List.getElem_toArray, List.getElem_cons_zero, List.getElem_cons_succ, List.setIfInBounds_toArray, List.set_cons_zero, List.set_cons_succ]
                          refine wpAnyH_take (i := 12) (v := ?_) rfl (by kernel_rfl) (by kernel_rfl) (by kernel_rfl) (fun _ _ _ h => h) (Or.inl ⟨by rfl, ?_⟩) (by assumption) ?_
                          rotate_left
                          · (intro w hSw; (try dsimp only at hSw); go_simp)
                            first | done | with_reducible rfl
                          simp only [Act.put, List.getElem_toArray, List.getElem_cons_zero, List.getElem_cons_succ, List.setIfInBounds_toArray, List.set_cons_zero, List.set_cons_succ]
                          refine wpAnyH_take (i := 13) (v := ?_) rfl (by kernel_rfl) (by kernel_rfl) (by kernel_rfl) (fun _ _ _ h => h) (Or.inl ⟨by rfl, ?_⟩) (by assumption) ?_
                          rotate_left
                          · (intro w hSw; (try dsimp only at hSw); go_simp)
                            first | done | with_reducible rfl
                          simp only [Act.put, List.getElem_toArray, List.getElem_cons_zero, List.getElem_cons_succ, List.setIfInBounds_toArray, List.set_cons_zero, List.set_cons_succ]
                          refine wpAnyH_take (i := 14) (v := ?_) rfl (by kernel_rfl) (by kernel_rfl) (by kernel_rfl) (fun _ _ _ h => h) (Or.inl ⟨by rfl, ?_⟩) (by assumption) ?_
                          rotate_left
                          · (intro w hSw; (try dsimp only at hSw); go_simp)
                            first | done | with_reducible rfl
                          simp only [Act.put, List.getElem_toArray, List.getElem_cons_zero, List.getElem_cons_succ, List.setIfInBounds_toArray, List.set_cons_zero, List.set_cons_succ]
                          refine wpAnyH_take (i := 15) (v := ?_) rfl (by kernel_rfl) (by kernel_rfl) (by kernel_rfl) (fun _ _ _ h => h) (Or.inl ⟨by rfl, ?_⟩) (by assumption) ?_
                          rotate_left
                          · (intro w hSw; (try dsimp only at hSw); go_simp)
                            first | done | with_reducible rfl
                          simp only [Act.put, List.getElem_toArray, List.getElem_cons_zero, List.getElem_cons_succ, List.setIfInBounds_toArray, List.set_cons_zero, List.set_cons_succ]
                          refine wpAnyH_take (i := 16) (v := ?_) rfl (by kernel_rfl) (by kernel_rfl) (by kernel_rfl) (fun _ _ _ h => h) (Or.inl ⟨by rfl, ?_⟩) (by assumption) ?_
                          rotate_left
                          · (intro w hSw; (try dsimp only at hSw); go_simp)
                            first | done | with_reducible rfl
                          simp only [Act.put, List.getElem_toArray, List.getElem_cons_zero, List.getElem_cons_succ, List.setIfInBounds_toArray, List.set_cons_zero, List.set_cons_succ]
                          refine wpAnyH_take (i := 17) (v := ?_) rfl (by kernel_rfl) (by kernel_rfl) (by kernel_rfl) (fun _ _ _ h => h) (Or.inl ⟨by rfl, ?_⟩) (by assumption) ?_
                          rotate_left
                          · (intro w hSw; (try dsimp only at hSw); go_simp)
                            first | done | with_reducible rfl
                          simp only [Act.put, List.getElem_toArray, List.getElem_cons_zero, List.getElem_cons_succ, List.setIfInBounds_toArray, List.set_cons_zero, List.set_cons_succ]
                          refine wpAnyH_ready (rs := [18]) (by kernel_rfl) (by simp) ?_
                          refine AllReadyH.cons rfl (fun K hK => ?_) AllReadyH.nil
                          go_simp
                          refine (SI.out _).mono ?_
                          rintro e w18 ⟨rfl, rfl⟩
                          refine hK.out _ _ ?_ (fun hHeld => ?_)
                          · exact ⟨hHeld.1, hHeld.2.1, hHeld.2.2.1, hHeld.2.2.2.1, hHeld.2.2.2.2.1, hHeld.2.2.2.2.2.1, hHeld.2.2.2.2.2.2⟩
                          clear hK K
                          try simp only [Act.put, List.getElem_toArray, List.getElem_cons_zero, List.getElem_cons_succ, List.setIfInBounds_toArray, List.set_cons_zero, List.set_cons_succ]
                          refine wpAnyH_take (i := 19) (v := ?_) rfl (by kernel_rfl) (by kernel_rfl) (by kernel_rfl) (fun _ _ _ h => h) (Or.inl ⟨by rfl, ?_⟩) (by assumption) ?_
                          rotate_left
                          · (intro w hSw; (try dsimp only at hSw); go_simp)
                            first | done | with_reducible rfl
                          simp only [Act.put, List.getElem_toArray, List.getElem_cons_zero, List.getElem_cons_succ, List.setIfInBounds_toArray, List.set_cons_zero, List.set_cons_succ]
                          refine wpAnyH_take (i := 20) (v := ?_) rfl (by kernel_rfl) (by kernel_rfl) (by kernel_rfl) (fun _ _ _ h => h) (Or.inl ⟨by rfl, ?_⟩) (by assumption) ?_
                          rotate_left
                          · (intro w hSw; (try dsimp only at hSw); go_simp)
                            first | done | with_reducible rfl
                          simp only [Act.put, List.getElem_toArray, List.getElem_cons_zero, List.getElem_cons_succ, List.setIfInBounds_toArray, List.set_cons_zero, List.set_cons_succ]
                          refine wpAnyH_take (i := 21) (v := ?_) rfl (by kernel_rfl) (by kernel_rfl) (by kernel_rfl) (fun _ _ _ h => h) (Or.inl ⟨by rfl, ?_⟩) (by assumption) ?_
                          rotate_left
                          · (intro w hSw; (try dsimp only at hSw); go_simp)
                            first | done | with_reducible rfl
                          simp only [Act.put, List.getElem_toArray, List.getElem_cons_zero, List.getElem_cons_succ, List.setIfInBounds_toArray, List.set_cons_zero, List.set_cons_succ]
                          refine wpAnyH_take (i := 22) (v := ?_) rfl (by kernel_rfl) (by kernel_rfl) (by kernel_rfl) (fun _ _ _ h => h) (Or.inl ⟨by rfl, ?_⟩) (by assumption) ?_
                          rotate_left
                          · (intro w hSw; (try dsimp only at hSw); go_simp)
                            first | done | with_reducible rfl
                          simp only [Act.put, List.getElem_toArray, List.getElem_cons_zero, List.getElem_cons_succ, List.setIfInBounds_toArray, List.set_cons_zero, List.set_cons_succ]
                          refine wpAnyH_take (i := 23) (v := ?_) rfl (by kernel_rfl) (by kernel_rfl) (by kernel_rfl) (fun _ _ _ h => h) (Or.inl ⟨by rfl, ?_⟩) (by assumption) ?_
                          rotate_left
                          · (intro w hSw; (try dsimp only at hSw); go_simp)
                            first | done | with_reducible rfl
                          simp only [Act.put, List.getElem_toArray, List.getElem_cons_zero, List.getElem_cons_succ, List.setIfInBounds_toArray, List.set_cons_zero, List.set_cons_succ]
                          try simp only [kk]
                          refine wpAnyH_take (i := 24) (v := ?_) rfl (by kernel_rfl) (by kernel_rfl) (by kernel_rfl) (fun _ _ _ h => h) (Or.inl ⟨by rfl, ?_⟩) (by assumption) ?_
                          rotate_left
                          · (intro w hSw; (try dsimp only at hSw); go_simp)
                            first | done | with_reducible rfl
                          simp only [Act.put, List.getElem_toArray, List.getElem_cons_zero, List.getElem_cons_succ, List.setIfInBounds_toArray, List.set_cons_zero, List.set_cons_succ]
                          refine wpAnyH_take (i := 25) rfl (by kernel_rfl) (by kernel_rfl) (by kernel_rfl) (fun _ _ _ h => h) (Or.inr ⟨by rfl, rfl⟩) (by assumption) ?_
                          simp only [Act.put, List.getElem_toArray, List.getElem_cons_zero, List.getElem_cons_succ, List.setIfInBounds_toArray, List.set_cons_zero, List.set_cons_succ]
                          refine wpAnyH_take (i := 26) rfl (by kernel_rfl) (by kernel_rfl) (by kernel_rfl) (fun _ _ _ h => h) (Or.inr ⟨by rfl, rfl⟩) (by assumption) ?_
                          simp only [Act.put, List.getElem_toArray, List.getElem_cons_zero, List.getElem_cons_succ, List.setIfInBounds_toArray, List.set_cons_zero, List.set_cons_succ]
                          refine wpAnyH_take (i := 27) rfl (by kernel_rfl) (by kernel_rfl) (by kernel_rfl) (fun _ _ _ h => h) (Or.inr ⟨by rfl, rfl⟩) (by assumption) ?_
                          simp only [Act.put, List.getElem_toArray, List.getElem_cons_zero, List.getElem_cons_succ, List.setIfInBounds_toArray, List.set_cons_zero, List.set_cons_succ]
                          refine wpAnyH_take (i := 28) rfl (by kernel_rfl) (by kernel_rfl) (by kernel_rfl) (fun _ _ _ h => h) (Or.inr ⟨by rfl, rfl⟩) (by assumption) ?_
                          simp only [Act.put, List.getElem_toArray, List.getElem_cons_zero, List.getElem_cons_succ, List.setIfInBounds_toArray, List.set_cons_zero, List.set_cons_succ]
                          refine wpAnyH_take (i := 29) rfl (by kernel_rfl) (by kernel_rfl) (by kernel_rfl) (fun _ _ _ h => h) (Or.inr ⟨by rfl, rfl⟩) (by assumption) ?_
                          simp only [Act.put, List.getElem_toArray, List.getElem_cons_zero, List.getElem_cons_succ, List.setIfInBounds_toArray, List.set_cons_zero, List.set_cons_succ]
                          refine wpAnyH_take (i := 30) rfl (by kernel_rfl) (by kernel_rfl) (by kernel_rfl) (fun _ _ _ h => h) (Or.inr ⟨by rfl, rfl⟩) (by assumption) ?_
                          simp only [Act.put, List.getElem_toArray, List.getElem_cons_zero, List.getElem_cons_succ, List.setIfInBounds_toArray, List.set_cons_zero, List.set_cons_succ]
                          refine wpAnyH_take (i := 31) rfl (by kernel_rfl) (by kernel_rfl) (by kernel_rfl) (fun _ _ _ h => h) (Or.inr ⟨by rfl, rfl⟩) (by assumption) ?_
                          simp only [Act.put, List.getElem_toArray, List.getElem_cons_zero, List.getElem_cons_succ, List.setIfInBounds_toArray, List.set_cons_zero, List.set_cons_succ]
                          refine wpAnyH_take (i := 32) rfl (by kernel_rfl) (by kernel_rfl) (by kernel_rfl) (fun _ _ _ h => h) (Or.inr ⟨by rfl, rfl⟩) (by assumption) ?_
                          simp only [Act.put, List.getElem_toArray, List.getElem_cons_zero, List.getElem_cons_succ, List.setIfInBounds_toArray, List.set_cons_zero, List.set_cons_succ]
                          refine wpAnyH_take (i := 33) rfl (by kernel_rfl) (by kernel_rfl) (by kernel_rfl) (fun _ _ _ h => h) (Or.inr ⟨by rfl, rfl⟩) (by assumption) ?_
                          simp only [Act.put, List.getElem_toArray, List.getElem_cons_zero, List.getElem_cons_succ, List.setIfInBounds_toArray, List.set_cons_zero, List.set_cons_succ]
                          refine wpAnyH_take (i := 34) (v := ?_) rfl (by kernel_rfl) (by kernel_rfl) (by kernel_rfl) (fun _ _ _ h => h) (Or.inl ⟨by rfl, ?_⟩) (by assumption) ?_
                          rotate_left
                          · (intro w hSw; (try dsimp only at hSw); go_simp)
                            first | done | with_reducible rfl
                          simp only [Act.put, List.getElem_toArray, List.getElem_cons_zero, List.getElem_cons_succ, List.setIfInBounds_toArray, List.set_cons_zero, List.set_cons_succ]
                          refine wpAnyH_take (i := 35) (v := ?_) rfl (by kernel_rfl) (by kernel_rfl) (by kernel_rfl) (fun _ _ _ h => h) (Or.inl ⟨by rfl, ?_⟩) (by assumption) ?_
                          rotate_left
                          · (intro w hSw; (try dsimp only at hSw); go_simp)
                            first | done | with_reducible rfl
                          simp only [Act.put, List.getElem_toArray, List.getElem_cons_zero, List.getElem_cons_succ, List.setIfInBounds_toArray, List.set_cons_zero, List.set_cons_succ]
                          refine wpAnyH_done (by kernel_rfl) ?_ _
                          have HU9 := Lib.hid ((HU5.out.drew.trans hu1).trans hu2)
                          clear HU5 hHeld y0 y1 y2 y3 z0 z1 z2
                          go_wp2_with fail
                          go_roundw
                          case rel => exact ⟨k + 1, by omega, by go_num, HA3, HU9.out⟩
                          case measure => simp [intOf]; omega
                        · obtain ⟨q0, q1, q2⟩ := HPR5.out (by omega)
                          have kk : (0 : Int) < (k : Int) := by omega
                          have kkT : decide (0 < k) = true := decide_eq_true (by omega)
                          have i0 : IntKind.i64.wrap ((k : Int) - 1) = (k : Int) - 1 := IntWalk.i64_in _ (by omega)
                          have i1 : ((k : Int) - 1).toNat = k - 1 := by omega
                          have i3 : (0 : Int) ≤ (k : Int) - 1 := by omega
                          have i5 : (1 : Int) ≤ (k : Int) := by omega
                          have i4 : (k : Int) - 1 < (eds.length : Int) := by omega
                          cases hlt9 : edLt pk ⟨fr, lb, td⟩ with
                          | false =>
                            rw [hlt9] at SC
                            have HR := Lib.hid (show sysOk ⟨st, ini, labs, eds⟩ = false by rw [HOK3.out, HA2.out, HEP.out, hlt9, decide_eq_false k0]; simp)
                            clear HOK3 HA2 HEP
                            clear hlt9 k0 HPR5
                            refine wp_region_held_drew (S := fun w' => w'.cell? ⟨w.heap.size, 0, none⟩ = some (ei st) ∧ w'.cell? ⟨w.heap.size, 1, none⟩ = some (ei ini) ∧ w'.cell? ⟨w.heap.size, 2, none⟩ = some (.slice a1 labs.length c1) ∧ w'.cell? ⟨w.heap.size, 3, none⟩ = some (.slice (some ⟨b1, o1, none⟩) eds.length c2) ∧ w'.cell? ⟨BB, 0, none⟩ = some (ei fr) ∧ w'.cell? ⟨BB, 1, none⟩ = some (ei lb) ∧ w'.cell? ⟨BB, 2, none⟩ = some (ei td) ∧ w'.cell? ⟨b1, o1 + (k - 1) * 3, none⟩ = some (ei pk.fr) ∧ w'.cell? ⟨b1, o1 + (k - 1) * 3 + 1, none⟩ = some (ei pk.lb) ∧ w'.cell? ⟨b1, o1 + (k - 1) * 3 + 2, none⟩ = some (ei pk.to)) (by kernel_rfl) ?_ (fun hHeld => ?_)
                            · exact ⟨y0, y1, y2, y3, z0, z1, z2, q0, q1, q2⟩
                            refine wpAnyH_take (i := 0) (v := ?_) rfl (by kernel_rfl) (by kernel_rfl) (by kernel_rfl) (fun _ _ _ h => h) (Or.inl ⟨by rfl, ?_⟩) (by assumption) ?_
                            rotate_left
                            · (intro w hSw; (try dsimp only at hSw); go_simp)
                              first | done | with_reducible rfl
                            simp only [Act.put, List.getElem_toArray, List.getElem_cons_zero, List.setIfInBounds_toArray, List.set_cons_zero, List.set_cons_succ]
                            refine wpAnyH_take (i := 1) (v := ?_) rfl (by kernel_rfl) (by kernel_rfl) (by kernel_rfl) (fun _ _ _ h => h) (Or.inl ⟨by rfl, ?_⟩) (by assumption) ?_
                            rotate_left
                            · (intro w hSw; (try dsimp only at hSw); go_simp)
                              first | done | with_reducible rfl
                            simp only [Act.put, List.getElem_toArray, List.getElem_cons_zero, List.getElem_cons_succ, List.setIfInBounds_toArray, List.set_cons_zero, List.set_cons_succ]
                            refine wpAnyH_take (i := 2) (v := ?_) rfl (by kernel_rfl) (by kernel_rfl) (by kernel_rfl) (fun _ _ _ h => h) (Or.inl ⟨by rfl, ?_⟩) (by assumption) ?_
                            rotate_left
                            · (intro w hSw; (try dsimp only at hSw); go_simp)
                              first | done | with_reducible rfl
                            simp only [Act.put, List.getElem_toArray, List.getElem_cons_zero, List.getElem_cons_succ, List.setIfInBounds_toArray, List.set_cons_zero, List.set_cons_succ]
                            refine wpAnyH_ready (rs := [3]) (by kernel_rfl) (by simp) ?_
                            refine AllReadyH.cons rfl (fun K hK => ?_) AllReadyH.nil
                            go_simp
                            refine (SF.out _).mono ?_
                            rintro e w3 ⟨rfl, hu1⟩
                            refine hK.out _ _ ?_ (fun hHeld => ?_)
                            · exact ⟨hu1.keep hHeld.1, hu1.keep hHeld.2.1, hu1.keep hHeld.2.2.1, hu1.keep hHeld.2.2.2.1, hu1.keep hHeld.2.2.2.2.1, hu1.keep hHeld.2.2.2.2.2.1, hu1.keep hHeld.2.2.2.2.2.2.1, hu1.keep hHeld.2.2.2.2.2.2.2.1, hu1.keep hHeld.2.2.2.2.2.2.2.2.1, hu1.keep hHeld.2.2.2.2.2.2.2.2.2⟩
                            clear hK K
                            try simp only [Act.put, List.getElem_toArray, List.getElem_cons_zero, List.getElem_cons_succ, List.setIfInBounds_toArray, List.set_cons_zero, List.set_cons_succ]
                            refine wpAnyH_take (i := 4) (v := ?_) rfl (by kernel_rfl) (by kernel_rfl) (by kernel_rfl) (fun _ _ _ h => h) (Or.inl ⟨by rfl, ?_⟩) (by assumption) ?_
                            rotate_left
                            · (intro w hSw; (try dsimp only at hSw); go_simp)
                              first | done | with_reducible rfl
                            simp only [Act.put, List.getElem_toArray, List.getElem_cons_zero, List.getElem_cons_succ, List.setIfInBounds_toArray, List.set_cons_zero, List.set_cons_succ]
                            refine wpAnyH_take (i := 5) (v := ?_) rfl (by kernel_rfl) (by kernel_rfl) (by kernel_rfl) (fun _ _ _ h => h) (Or.inl ⟨by rfl, ?_⟩) (by assumption) ?_
                            rotate_left
                            · (intro w hSw; (try dsimp only at hSw); go_simp)
                              first | done | with_reducible rfl
                            simp only [Act.put, List.getElem_toArray, List.getElem_cons_zero, List.getElem_cons_succ, List.setIfInBounds_toArray, List.set_cons_zero, List.set_cons_succ]
                            refine wpAnyH_take (i := 6) (v := ?_) rfl (by kernel_rfl) (by kernel_rfl) (by kernel_rfl) (fun _ _ _ h => h) (Or.inl ⟨by rfl, ?_⟩) (by assumption) ?_
                            rotate_left
                            · (intro w hSw; (try dsimp only at hSw); go_simp)
                              first | done | with_reducible rfl
                            simp only [Act.put, List.getElem_toArray, List.getElem_cons_zero, List.getElem_cons_succ, List.setIfInBounds_toArray, List.set_cons_zero, List.set_cons_succ]
                            refine wpAnyH_take (i := 7) (v := ?_) rfl (by kernel_rfl) (by kernel_rfl) (by kernel_rfl) (fun _ _ _ h => h) (Or.inl ⟨by rfl, ?_⟩) (by assumption) ?_
                            rotate_left
                            · (intro w hSw; (try dsimp only at hSw); go_simp)
                              first | done | with_reducible rfl
                            simp only [Act.put, List.getElem_toArray, List.getElem_cons_zero, List.getElem_cons_succ, List.setIfInBounds_toArray, List.set_cons_zero, List.set_cons_succ]
                            refine wpAnyH_take (i := 8) (v := ?_) rfl (by kernel_rfl) (by kernel_rfl) (by kernel_rfl) (fun _ _ _ h => h) (Or.inl ⟨by rfl, ?_⟩) (by assumption) ?_
                            rotate_left
                            · (intro w hSw; (try dsimp only at hSw); go_simp)
                              first | done | with_reducible rfl
                            simp only [Act.put, List.getElem_toArray, List.getElem_cons_zero, List.getElem_cons_succ, List.setIfInBounds_toArray, List.set_cons_zero, List.set_cons_succ]
                            refine wpAnyH_ready (rs := [9]) (by kernel_rfl) (by simp) ?_
                            refine AllReadyH.cons rfl (fun K hK => ?_) AllReadyH.nil
                            go_simp
                            refine (ST.out _).mono ?_
                            rintro e w9 ⟨rfl, hu2⟩
                            refine hK.out _ _ ?_ (fun hHeld => ?_)
                            · exact ⟨hu2.keep hHeld.1, hu2.keep hHeld.2.1, hu2.keep hHeld.2.2.1, hu2.keep hHeld.2.2.2.1, hu2.keep hHeld.2.2.2.2.1, hu2.keep hHeld.2.2.2.2.2.1, hu2.keep hHeld.2.2.2.2.2.2.1, hu2.keep hHeld.2.2.2.2.2.2.2.1, hu2.keep hHeld.2.2.2.2.2.2.2.2.1, hu2.keep hHeld.2.2.2.2.2.2.2.2.2⟩
                            clear hK K
                            try simp only [Act.put, List.getElem_toArray, List.getElem_cons_zero, List.getElem_cons_succ, List.setIfInBounds_toArray, List.set_cons_zero, List.set_cons_succ]
                            refine wpAnyH_take (i := 10) (v := ?_) rfl (by kernel_rfl) (by kernel_rfl) (by kernel_rfl) (fun _ _ _ h => h) (Or.inl ⟨by rfl, ?_⟩) (by assumption) ?_
                            rotate_left
                            · (intro w hSw; (try dsimp only at hSw); go_simp)
                              first | done | with_reducible rfl
                            simp only [Act.put, List.getElem_toArray, List.getElem_cons_zero, List.getElem_cons_succ, List.setIfInBounds_toArray, List.set_cons_zero, List.set_cons_succ]
                            refine wpAnyH_take (i := 11) (v := ?_) rfl (by kernel_rfl) (by kernel_rfl) (by kernel_rfl) (fun _ _ _ h => h) (Or.inl ⟨by rfl, ?_⟩) (by assumption) ?_
                            rotate_left
                            · (intro w hSw; (try dsimp only at hSw); go_simp)
                              first | done | with_reducible rfl
                            simp only [Act.put, List.getElem_toArray, List.getElem_cons_zero, List.getElem_cons_succ, List.setIfInBounds_toArray, List.set_cons_zero, List.set_cons_succ]
                            refine wpAnyH_take (i := 12) (v := ?_) rfl (by kernel_rfl) (by kernel_rfl) (by kernel_rfl) (fun _ _ _ h => h) (Or.inl ⟨by rfl, ?_⟩) (by assumption) ?_
                            rotate_left
                            · (intro w hSw; (try dsimp only at hSw); go_simp)
                              first | done | with_reducible rfl
                            simp only [Act.put, List.getElem_toArray, List.getElem_cons_zero, List.getElem_cons_succ, List.setIfInBounds_toArray, List.set_cons_zero, List.set_cons_succ]
                            refine wpAnyH_take (i := 13) (v := ?_) rfl (by kernel_rfl) (by kernel_rfl) (by kernel_rfl) (fun _ _ _ h => h) (Or.inl ⟨by rfl, ?_⟩) (by assumption) ?_
                            rotate_left
                            · (intro w hSw; (try dsimp only at hSw); go_simp)
                              first | done | with_reducible rfl
                            simp only [Act.put, List.getElem_toArray, List.getElem_cons_zero, List.getElem_cons_succ, List.setIfInBounds_toArray, List.set_cons_zero, List.set_cons_succ]
                            refine wpAnyH_take (i := 14) (v := ?_) rfl (by kernel_rfl) (by kernel_rfl) (by kernel_rfl) (fun _ _ _ h => h) (Or.inl ⟨by rfl, ?_⟩) (by assumption) ?_
                            rotate_left
                            · (intro w hSw; (try dsimp only at hSw); go_simp)
                              first | done | with_reducible rfl
                            simp only [Act.put, List.getElem_toArray, List.getElem_cons_zero, List.getElem_cons_succ, List.setIfInBounds_toArray, List.set_cons_zero, List.set_cons_succ]
                            refine wpAnyH_take (i := 15) (v := ?_) rfl (by kernel_rfl) (by kernel_rfl) (by kernel_rfl) (fun _ _ _ h => h) (Or.inl ⟨by rfl, ?_⟩) (by assumption) ?_
                            rotate_left
                            · (intro w hSw; (try dsimp only at hSw); go_simp)
                              first | done | with_reducible rfl
                            simp only [Act.put, List.getElem_toArray, List.getElem_cons_zero, List.getElem_cons_succ, List.setIfInBounds_toArray, List.set_cons_zero, List.set_cons_succ]
                            refine wpAnyH_take (i := 16) (v := ?_) rfl (by kernel_rfl) (by kernel_rfl) (by kernel_rfl) (fun _ _ _ h => h) (Or.inl ⟨by rfl, ?_⟩) (by assumption) ?_
                            rotate_left
                            · (intro w hSw; (try dsimp only at hSw); go_simp)
                              first | done | with_reducible rfl
                            simp only [Act.put, List.getElem_toArray, List.getElem_cons_zero, List.getElem_cons_succ, List.setIfInBounds_toArray, List.set_cons_zero, List.set_cons_succ]
                            refine wpAnyH_take (i := 17) (v := ?_) rfl (by kernel_rfl) (by kernel_rfl) (by kernel_rfl) (fun _ _ _ h => h) (Or.inl ⟨by rfl, ?_⟩) (by assumption) ?_
                            rotate_left
                            · (intro w hSw; (try dsimp only at hSw); go_simp)
                              first | done | with_reducible rfl
                            simp only [Act.put, List.getElem_toArray, List.getElem_cons_zero, List.getElem_cons_succ, List.setIfInBounds_toArray, List.set_cons_zero, List.set_cons_succ]
                            refine wpAnyH_ready (rs := [18]) (by kernel_rfl) (by simp) ?_
                            refine AllReadyH.cons rfl (fun K hK => ?_) AllReadyH.nil
                            go_simp
                            refine (SI.out _).mono ?_
                            rintro e w18 ⟨rfl, rfl⟩
                            refine hK.out _ _ ?_ (fun hHeld => ?_)
                            · exact ⟨hHeld.1, hHeld.2.1, hHeld.2.2.1, hHeld.2.2.2.1, hHeld.2.2.2.2.1, hHeld.2.2.2.2.2.1, hHeld.2.2.2.2.2.2.1, hHeld.2.2.2.2.2.2.2.1, hHeld.2.2.2.2.2.2.2.2.1, hHeld.2.2.2.2.2.2.2.2.2⟩
                            clear hK K
                            try simp only [Act.put, List.getElem_toArray, List.getElem_cons_zero, List.getElem_cons_succ, List.setIfInBounds_toArray, List.set_cons_zero, List.set_cons_succ]
                            refine wpAnyH_take (i := 19) (v := ?_) rfl (by kernel_rfl) (by kernel_rfl) (by kernel_rfl) (fun _ _ _ h => h) (Or.inl ⟨by rfl, ?_⟩) (by assumption) ?_
                            rotate_left
                            · (intro w hSw; (try dsimp only at hSw); go_simp)
                              first | done | with_reducible rfl
                            simp only [Act.put, List.getElem_toArray, List.getElem_cons_zero, List.getElem_cons_succ, List.setIfInBounds_toArray, List.set_cons_zero, List.set_cons_succ]
                            refine wpAnyH_take (i := 20) (v := ?_) rfl (by kernel_rfl) (by kernel_rfl) (by kernel_rfl) (fun _ _ _ h => h) (Or.inl ⟨by rfl, ?_⟩) (by assumption) ?_
                            rotate_left
                            · (intro w hSw; (try dsimp only at hSw); go_simp)
                              first | done | with_reducible rfl
                            simp only [Act.put, List.getElem_toArray, List.getElem_cons_zero, List.getElem_cons_succ, List.setIfInBounds_toArray, List.set_cons_zero, List.set_cons_succ]
                            refine wpAnyH_take (i := 21) (v := ?_) rfl (by kernel_rfl) (by kernel_rfl) (by kernel_rfl) (fun _ _ _ h => h) (Or.inl ⟨by rfl, ?_⟩) (by assumption) ?_
                            rotate_left
                            · (intro w hSw; (try dsimp only at hSw); go_simp)
                              first | done | with_reducible rfl
                            simp only [Act.put, List.getElem_toArray, List.getElem_cons_zero, List.getElem_cons_succ, List.setIfInBounds_toArray, List.set_cons_zero, List.set_cons_succ]
                            refine wpAnyH_take (i := 22) (v := ?_) rfl (by kernel_rfl) (by kernel_rfl) (by kernel_rfl) (fun _ _ _ h => h) (Or.inl ⟨by rfl, ?_⟩) (by assumption) ?_
                            rotate_left
                            · (intro w hSw; (try dsimp only at hSw); go_simp)
                              first | done | with_reducible rfl
                            simp only [Act.put, List.getElem_toArray, List.getElem_cons_zero, List.getElem_cons_succ, List.setIfInBounds_toArray, List.set_cons_zero, List.set_cons_succ]
                            refine wpAnyH_take (i := 23) (v := ?_) rfl (by kernel_rfl) (by kernel_rfl) (by kernel_rfl) (fun _ _ _ h => h) (Or.inl ⟨by rfl, ?_⟩) (by assumption) ?_
                            rotate_left
                            · (intro w hSw; (try dsimp only at hSw); go_simp)
                              first | done | with_reducible rfl
                            simp only [Act.put, List.getElem_toArray, List.getElem_cons_zero, List.getElem_cons_succ, List.setIfInBounds_toArray, List.set_cons_zero, List.set_cons_succ]
                            try simp only [kkT]
                            refine wpAnyH_take (i := 24) (v := ?_) rfl (by kernel_rfl) (by kernel_rfl) (by kernel_rfl) (fun _ _ _ h => h) (Or.inl ⟨by rfl, ?_⟩) (by assumption) ?_
                            rotate_left
                            · (intro w hSw; (try dsimp only at hSw); go_simp)
                              first | done | with_reducible rfl
                            simp only [Act.put, List.getElem_toArray, List.getElem_cons_zero, List.getElem_cons_succ, List.setIfInBounds_toArray, List.set_cons_zero, List.set_cons_succ]
                            refine wpAnyH_take (i := 25) (v := ?_) rfl (by kernel_rfl) (by kernel_rfl) (by kernel_rfl) (fun _ _ _ h => h) (Or.inl ⟨by rfl, ?_⟩) (by assumption) ?_
                            rotate_left
                            · (intro w hSw; (try dsimp only at hSw); go_simp)
                              first | done | with_reducible rfl
                            simp only [Act.put, List.getElem_toArray, List.getElem_cons_zero, List.getElem_cons_succ, List.setIfInBounds_toArray, List.set_cons_zero, List.set_cons_succ]
                            refine wpAnyH_take (i := 26) (v := ?_) rfl (by kernel_rfl) (by kernel_rfl) (by kernel_rfl) (fun _ _ _ h => h) (Or.inl ⟨by rfl, ?_⟩) (by assumption) ?_
                            rotate_left
                            · (intro w hSw; (try dsimp only at hSw); go_simp)
                              first | done | with_reducible rfl
                            simp only [Act.put, List.getElem_toArray, List.getElem_cons_zero, List.getElem_cons_succ, List.setIfInBounds_toArray, List.set_cons_zero, List.set_cons_succ]
                            refine wpAnyH_take (i := 27) (v := ?_) rfl (by kernel_rfl) (by kernel_rfl) (by kernel_rfl) (fun _ _ _ h => h) (Or.inl ⟨by rfl, ?_⟩) (by assumption) ?_
                            rotate_left
                            · (intro w hSw; (try dsimp only at hSw); go_simp)
                              first | done | with_reducible rfl
                            simp only [Act.put, List.getElem_toArray, List.getElem_cons_zero, List.getElem_cons_succ, List.setIfInBounds_toArray, List.set_cons_zero, List.set_cons_succ]
                            refine wpAnyH_take (i := 28) (v := ?_) rfl (by kernel_rfl) (by kernel_rfl) (by kernel_rfl) (fun _ _ _ h => h) (Or.inl ⟨by rfl, ?_⟩) (by assumption) ?_
                            rotate_left
                            · (intro w hSw; (try dsimp only at hSw); go_simp)
                              first | done | with_reducible rfl
                            simp only [Act.put, List.getElem_toArray, List.getElem_cons_zero, List.getElem_cons_succ, List.setIfInBounds_toArray, List.set_cons_zero, List.set_cons_succ]
                            try simp only [i0]
                            refine wpAnyH_take (i := 29) (v := ?_) rfl (by kernel_rfl) (by kernel_rfl) (by kernel_rfl) (fun _ _ _ h => h) (Or.inl ⟨by rfl, ?_⟩) (by assumption) ?_
                            rotate_left
                            · (intro w hSw; (try dsimp only at hSw); go_simp)
                              first | done | with_reducible rfl
                            simp only [Act.put, List.getElem_toArray, List.getElem_cons_zero, List.getElem_cons_succ, List.setIfInBounds_toArray, List.set_cons_zero, List.set_cons_succ]
                            try simp only [i1]
                            refine wpAnyH_take (i := 30) (v := ?_) rfl (by kernel_rfl) (by kernel_rfl) (by kernel_rfl) (fun _ _ _ h => h) (Or.inl ⟨by rfl, ?_⟩) (by assumption) ?_
                            rotate_left
                            · (intro w hSw; (try dsimp only at hSw); go_simp)
                              first | done | with_reducible rfl
                            simp only [Act.put, List.getElem_toArray, List.getElem_cons_zero, List.getElem_cons_succ, List.setIfInBounds_toArray, List.set_cons_zero, List.set_cons_succ]
                            refine wpAnyH_take (i := 31) (v := ?_) rfl (by kernel_rfl) (by kernel_rfl) (by kernel_rfl) (fun _ _ _ h => h) (Or.inl ⟨by rfl, ?_⟩) (by assumption) ?_
                            rotate_left
                            · (intro w hSw; (try dsimp only at hSw); go_simp)
                              first | done | with_reducible rfl
                            simp only [Act.put, List.getElem_toArray, List.getElem_cons_zero, List.getElem_cons_succ, List.setIfInBounds_toArray, List.set_cons_zero, List.set_cons_succ]
                            refine wpAnyH_ready (rs := [32]) (by kernel_rfl) (by simp) ?_
                            refine AllReadyH.cons rfl (fun K hK => ?_) AllReadyH.nil
                            go_simp
                            refine (SC.out _).mono ?_
                            rintro e w32 ⟨⟨cc, rfl, hcc⟩, hu4⟩
                            have hc9 : (0 : Int) ≤ cc := by simpa using hcc
                            clear hcc
                            refine hK.out _ _ ?_ (fun hHeld => ?_)
                            · exact ⟨hu4.keep hHeld.1, hu4.keep hHeld.2.1, hu4.keep hHeld.2.2.1, hu4.keep hHeld.2.2.2.1, hu4.keep hHeld.2.2.2.2.1, hu4.keep hHeld.2.2.2.2.2.1, hu4.keep hHeld.2.2.2.2.2.2.1, hu4.keep hHeld.2.2.2.2.2.2.2.1, hu4.keep hHeld.2.2.2.2.2.2.2.2.1, hu4.keep hHeld.2.2.2.2.2.2.2.2.2⟩
                            clear hK K
                            try simp only [Act.put, List.getElem_toArray, List.getElem_cons_zero, List.getElem_cons_succ, List.setIfInBounds_toArray, List.set_cons_zero, List.set_cons_succ]
                            refine wpAnyH_take (i := 33) (v := ?_) rfl (by kernel_rfl) (by kernel_rfl) (by kernel_rfl) (fun _ _ _ h => h) (Or.inl ⟨by rfl, ?_⟩) (by assumption) ?_
                            rotate_left
                            · (intro w hSw; (try dsimp only at hSw); go_simp)
                              first | done | with_reducible rfl
                            simp only [Act.put, List.getElem_toArray, List.getElem_cons_zero, List.getElem_cons_succ, List.setIfInBounds_toArray, List.set_cons_zero, List.set_cons_succ]
                            refine wpAnyH_take (i := 34) (v := ?_) rfl (by kernel_rfl) (by kernel_rfl) (by kernel_rfl) (fun _ _ _ h => h) (Or.inl ⟨by rfl, ?_⟩) (by assumption) ?_
                            rotate_left
                            · (intro w hSw; (try dsimp only at hSw); go_simp)
                              first | done | with_reducible rfl
                            simp only [Act.put, List.getElem_toArray, List.getElem_cons_zero, List.getElem_cons_succ, List.setIfInBounds_toArray, List.set_cons_zero, List.set_cons_succ]
                            refine wpAnyH_take (i := 35) (v := ?_) rfl (by kernel_rfl) (by kernel_rfl) (by kernel_rfl) (fun _ _ _ h => h) (Or.inl ⟨by rfl, ?_⟩) (by assumption) ?_
                            rotate_left
                            · (intro w hSw; (try dsimp only at hSw); go_simp)
                              first | done | with_reducible rfl
                            simp only [Act.put, List.getElem_toArray, List.getElem_cons_zero, List.getElem_cons_succ, List.setIfInBounds_toArray, List.set_cons_zero, List.set_cons_succ]
                            refine wpAnyH_done (by kernel_rfl) ?_ _
                            have HU9 := Lib.hid (HB0.out.trans (((HU5.out.drew.trans hu1).trans hu2).trans hu4))
                            clear q0 q1 q2 HU5 hHeld y0 y1 y2 y3 z0 z1 z2
                            go_wp2_with fail
                            go_ret
                            exact ⟨by rw [HR.out]; rfl, HU9.out⟩
                          | true =>
                            rw [hlt9] at SC
                            have HA3 := Lib.hid (show allF (edP ⟨st, ini, labs, eds⟩) (k + 1) (eds.length - (k + 1)) = allF (edP ⟨st, ini, labs, eds⟩) 0 eds.length by rw [HA2.out, HEP.out, hlt9]; simp)
                            clear HA2 HEP hlt9 k0 HPR5
                            refine wp_region_held_drew (S := fun w' => w'.cell? ⟨w.heap.size, 0, none⟩ = some (ei st) ∧ w'.cell? ⟨w.heap.size, 1, none⟩ = some (ei ini) ∧ w'.cell? ⟨w.heap.size, 2, none⟩ = some (.slice a1 labs.length c1) ∧ w'.cell? ⟨w.heap.size, 3, none⟩ = some (.slice (some ⟨b1, o1, none⟩) eds.length c2) ∧ w'.cell? ⟨BB, 0, none⟩ = some (ei fr) ∧ w'.cell? ⟨BB, 1, none⟩ = some (ei lb) ∧ w'.cell? ⟨BB, 2, none⟩ = some (ei td) ∧ w'.cell? ⟨b1, o1 + (k - 1) * 3, none⟩ = some (ei pk.fr) ∧ w'.cell? ⟨b1, o1 + (k - 1) * 3 + 1, none⟩ = some (ei pk.lb) ∧ w'.cell? ⟨b1, o1 + (k - 1) * 3 + 2, none⟩ = some (ei pk.to)) (by kernel_rfl) ?_ (fun hHeld => ?_)
                            · exact ⟨y0, y1, y2, y3, z0, z1, z2, q0, q1, q2⟩
                            refine wpAnyH_take (i := 0) (v := ?_) rfl (by kernel_rfl) (by kernel_rfl) (by kernel_rfl) (fun _ _ _ h => h) (Or.inl ⟨by rfl, ?_⟩) (by assumption) ?_
                            rotate_left
                            · (intro w hSw; (try dsimp only at hSw); go_simp)
                              first | done | with_reducible rfl
                            simp only [Act.put, List.getElem_toArray, List.getElem_cons_zero, List.setIfInBounds_toArray, List.set_cons_zero, List.set_cons_succ]
                            refine wpAnyH_take (i := 1) (v := ?_) rfl (by kernel_rfl) (by kernel_rfl) (by kernel_rfl) (fun _ _ _ h => h) (Or.inl ⟨by rfl, ?_⟩) (by assumption) ?_
                            rotate_left
                            · (intro w hSw; (try dsimp only at hSw); go_simp)
                              first | done | with_reducible rfl
                            simp only [Act.put, List.getElem_toArray, List.getElem_cons_zero, List.getElem_cons_succ, List.setIfInBounds_toArray, List.set_cons_zero, List.set_cons_succ]
                            refine wpAnyH_take (i := 2) (v := ?_) rfl (by kernel_rfl) (by kernel_rfl) (by kernel_rfl) (fun _ _ _ h => h) (Or.inl ⟨by rfl, ?_⟩) (by assumption) ?_
                            rotate_left
                            · (intro w hSw; (try dsimp only at hSw); go_simp)
                              first | done | with_reducible rfl
                            simp only [Act.put, List.getElem_toArray, List.getElem_cons_zero, List.getElem_cons_succ, List.setIfInBounds_toArray, List.set_cons_zero, List.set_cons_succ]
                            refine wpAnyH_ready (rs := [3]) (by kernel_rfl) (by simp) ?_
                            refine AllReadyH.cons rfl (fun K hK => ?_) AllReadyH.nil
                            go_simp
                            refine (SF.out _).mono ?_
                            rintro e w3 ⟨rfl, hu1⟩
                            refine hK.out _ _ ?_ (fun hHeld => ?_)
                            · exact ⟨hu1.keep hHeld.1, hu1.keep hHeld.2.1, hu1.keep hHeld.2.2.1, hu1.keep hHeld.2.2.2.1, hu1.keep hHeld.2.2.2.2.1, hu1.keep hHeld.2.2.2.2.2.1, hu1.keep hHeld.2.2.2.2.2.2.1, hu1.keep hHeld.2.2.2.2.2.2.2.1, hu1.keep hHeld.2.2.2.2.2.2.2.2.1, hu1.keep hHeld.2.2.2.2.2.2.2.2.2⟩
                            clear hK K
                            try simp only [Act.put, List.getElem_toArray, List.getElem_cons_zero, List.getElem_cons_succ, List.setIfInBounds_toArray, List.set_cons_zero, List.set_cons_succ]
                            refine wpAnyH_take (i := 4) (v := ?_) rfl (by kernel_rfl) (by kernel_rfl) (by kernel_rfl) (fun _ _ _ h => h) (Or.inl ⟨by rfl, ?_⟩) (by assumption) ?_
                            rotate_left
                            · (intro w hSw; (try dsimp only at hSw); go_simp)
                              first | done | with_reducible rfl
                            simp only [Act.put, List.getElem_toArray, List.getElem_cons_zero, List.getElem_cons_succ, List.setIfInBounds_toArray, List.set_cons_zero, List.set_cons_succ]
                            refine wpAnyH_take (i := 5) (v := ?_) rfl (by kernel_rfl) (by kernel_rfl) (by kernel_rfl) (fun _ _ _ h => h) (Or.inl ⟨by rfl, ?_⟩) (by assumption) ?_
                            rotate_left
                            · (intro w hSw; (try dsimp only at hSw); go_simp)
                              first | done | with_reducible rfl
                            simp only [Act.put, List.getElem_toArray, List.getElem_cons_zero, List.getElem_cons_succ, List.setIfInBounds_toArray, List.set_cons_zero, List.set_cons_succ]
                            refine wpAnyH_take (i := 6) (v := ?_) rfl (by kernel_rfl) (by kernel_rfl) (by kernel_rfl) (fun _ _ _ h => h) (Or.inl ⟨by rfl, ?_⟩) (by assumption) ?_
                            rotate_left
                            · (intro w hSw; (try dsimp only at hSw); go_simp)
                              first | done | with_reducible rfl
                            simp only [Act.put, List.getElem_toArray, List.getElem_cons_zero, List.getElem_cons_succ, List.setIfInBounds_toArray, List.set_cons_zero, List.set_cons_succ]
                            refine wpAnyH_take (i := 7) (v := ?_) rfl (by kernel_rfl) (by kernel_rfl) (by kernel_rfl) (fun _ _ _ h => h) (Or.inl ⟨by rfl, ?_⟩) (by assumption) ?_
                            rotate_left
                            · (intro w hSw; (try dsimp only at hSw); go_simp)
                              first | done | with_reducible rfl
                            simp only [Act.put, List.getElem_toArray, List.getElem_cons_zero, List.getElem_cons_succ, List.setIfInBounds_toArray, List.set_cons_zero, List.set_cons_succ]
                            refine wpAnyH_take (i := 8) (v := ?_) rfl (by kernel_rfl) (by kernel_rfl) (by kernel_rfl) (fun _ _ _ h => h) (Or.inl ⟨by rfl, ?_⟩) (by assumption) ?_
                            rotate_left
                            · (intro w hSw; (try dsimp only at hSw); go_simp)
                              first | done | with_reducible rfl
                            simp only [Act.put, List.getElem_toArray, List.getElem_cons_zero, List.getElem_cons_succ, List.setIfInBounds_toArray, List.set_cons_zero, List.set_cons_succ]
                            refine wpAnyH_ready (rs := [9]) (by kernel_rfl) (by simp) ?_
                            refine AllReadyH.cons rfl (fun K hK => ?_) AllReadyH.nil
                            go_simp
                            refine (ST.out _).mono ?_
                            rintro e w9 ⟨rfl, hu2⟩
                            refine hK.out _ _ ?_ (fun hHeld => ?_)
                            · exact ⟨hu2.keep hHeld.1, hu2.keep hHeld.2.1, hu2.keep hHeld.2.2.1, hu2.keep hHeld.2.2.2.1, hu2.keep hHeld.2.2.2.2.1, hu2.keep hHeld.2.2.2.2.2.1, hu2.keep hHeld.2.2.2.2.2.2.1, hu2.keep hHeld.2.2.2.2.2.2.2.1, hu2.keep hHeld.2.2.2.2.2.2.2.2.1, hu2.keep hHeld.2.2.2.2.2.2.2.2.2⟩
                            clear hK K
                            try simp only [Act.put, List.getElem_toArray, List.getElem_cons_zero, List.getElem_cons_succ, List.setIfInBounds_toArray, List.set_cons_zero, List.set_cons_succ]
                            refine wpAnyH_take (i := 10) (v := ?_) rfl (by kernel_rfl) (by kernel_rfl) (by kernel_rfl) (fun _ _ _ h => h) (Or.inl ⟨by rfl, ?_⟩) (by assumption) ?_
                            rotate_left
                            · (intro w hSw; (try dsimp only at hSw); go_simp)
                              first | done | with_reducible rfl
                            simp only [Act.put, List.getElem_toArray, List.getElem_cons_zero, List.getElem_cons_succ, List.setIfInBounds_toArray, List.set_cons_zero, List.set_cons_succ]
                            refine wpAnyH_take (i := 11) (v := ?_) rfl (by kernel_rfl) (by kernel_rfl) (by kernel_rfl) (fun _ _ _ h => h) (Or.inl ⟨by rfl, ?_⟩) (by assumption) ?_
                            rotate_left
                            · (intro w hSw; (try dsimp only at hSw); go_simp)
                              first | done | with_reducible rfl
                            simp only [Act.put, List.getElem_toArray, List.getElem_cons_zero, List.getElem_cons_succ, List.setIfInBounds_toArray, List.set_cons_zero, List.set_cons_succ]
                            refine wpAnyH_take (i := 12) (v := ?_) rfl (by kernel_rfl) (by kernel_rfl) (by kernel_rfl) (fun _ _ _ h => h) (Or.inl ⟨by rfl, ?_⟩) (by assumption) ?_
                            rotate_left
                            · (intro w hSw; (try dsimp only at hSw); go_simp)
                              first | done | with_reducible rfl
                            simp only [Act.put, List.getElem_toArray, List.getElem_cons_zero, List.getElem_cons_succ, List.setIfInBounds_toArray, List.set_cons_zero, List.set_cons_succ]
                            refine wpAnyH_take (i := 13) (v := ?_) rfl (by kernel_rfl) (by kernel_rfl) (by kernel_rfl) (fun _ _ _ h => h) (Or.inl ⟨by rfl, ?_⟩) (by assumption) ?_
                            rotate_left
                            · (intro w hSw; (try dsimp only at hSw); go_simp)
                              first | done | with_reducible rfl
                            simp only [Act.put, List.getElem_toArray, List.getElem_cons_zero, List.getElem_cons_succ, List.setIfInBounds_toArray, List.set_cons_zero, List.set_cons_succ]
                            refine wpAnyH_take (i := 14) (v := ?_) rfl (by kernel_rfl) (by kernel_rfl) (by kernel_rfl) (fun _ _ _ h => h) (Or.inl ⟨by rfl, ?_⟩) (by assumption) ?_
                            rotate_left
                            · (intro w hSw; (try dsimp only at hSw); go_simp)
                              first | done | with_reducible rfl
                            simp only [Act.put, List.getElem_toArray, List.getElem_cons_zero, List.getElem_cons_succ, List.setIfInBounds_toArray, List.set_cons_zero, List.set_cons_succ]
                            refine wpAnyH_take (i := 15) (v := ?_) rfl (by kernel_rfl) (by kernel_rfl) (by kernel_rfl) (fun _ _ _ h => h) (Or.inl ⟨by rfl, ?_⟩) (by assumption) ?_
                            rotate_left
                            · (intro w hSw; (try dsimp only at hSw); go_simp)
                              first | done | with_reducible rfl
                            simp only [Act.put, List.getElem_toArray, List.getElem_cons_zero, List.getElem_cons_succ, List.setIfInBounds_toArray, List.set_cons_zero, List.set_cons_succ]
                            refine wpAnyH_take (i := 16) (v := ?_) rfl (by kernel_rfl) (by kernel_rfl) (by kernel_rfl) (fun _ _ _ h => h) (Or.inl ⟨by rfl, ?_⟩) (by assumption) ?_
                            rotate_left
                            · (intro w hSw; (try dsimp only at hSw); go_simp)
                              first | done | with_reducible rfl
                            simp only [Act.put, List.getElem_toArray, List.getElem_cons_zero, List.getElem_cons_succ, List.setIfInBounds_toArray, List.set_cons_zero, List.set_cons_succ]
                            refine wpAnyH_take (i := 17) (v := ?_) rfl (by kernel_rfl) (by kernel_rfl) (by kernel_rfl) (fun _ _ _ h => h) (Or.inl ⟨by rfl, ?_⟩) (by assumption) ?_
                            rotate_left
                            · (intro w hSw; (try dsimp only at hSw); go_simp)
                              first | done | with_reducible rfl
                            simp only [Act.put, List.getElem_toArray, List.getElem_cons_zero, List.getElem_cons_succ, List.setIfInBounds_toArray, List.set_cons_zero, List.set_cons_succ]
                            refine wpAnyH_ready (rs := [18]) (by kernel_rfl) (by simp) ?_
                            refine AllReadyH.cons rfl (fun K hK => ?_) AllReadyH.nil
                            go_simp
                            refine (SI.out _).mono ?_
                            rintro e w18 ⟨rfl, rfl⟩
                            refine hK.out _ _ ?_ (fun hHeld => ?_)
                            · exact ⟨hHeld.1, hHeld.2.1, hHeld.2.2.1, hHeld.2.2.2.1, hHeld.2.2.2.2.1, hHeld.2.2.2.2.2.1, hHeld.2.2.2.2.2.2.1, hHeld.2.2.2.2.2.2.2.1, hHeld.2.2.2.2.2.2.2.2.1, hHeld.2.2.2.2.2.2.2.2.2⟩
                            clear hK K
                            try simp only [Act.put, List.getElem_toArray, List.getElem_cons_zero, List.getElem_cons_succ, List.setIfInBounds_toArray, List.set_cons_zero, List.set_cons_succ]
                            refine wpAnyH_take (i := 19) (v := ?_) rfl (by kernel_rfl) (by kernel_rfl) (by kernel_rfl) (fun _ _ _ h => h) (Or.inl ⟨by rfl, ?_⟩) (by assumption) ?_
                            rotate_left
                            · (intro w hSw; (try dsimp only at hSw); go_simp)
                              first | done | with_reducible rfl
                            simp only [Act.put, List.getElem_toArray, List.getElem_cons_zero, List.getElem_cons_succ, List.setIfInBounds_toArray, List.set_cons_zero, List.set_cons_succ]
                            refine wpAnyH_take (i := 20) (v := ?_) rfl (by kernel_rfl) (by kernel_rfl) (by kernel_rfl) (fun _ _ _ h => h) (Or.inl ⟨by rfl, ?_⟩) (by assumption) ?_
                            rotate_left
                            · (intro w hSw; (try dsimp only at hSw); go_simp)
                              first | done | with_reducible rfl
                            simp only [Act.put, List.getElem_toArray, List.getElem_cons_zero, List.getElem_cons_succ, List.setIfInBounds_toArray, List.set_cons_zero, List.set_cons_succ]
                            refine wpAnyH_take (i := 21) (v := ?_) rfl (by kernel_rfl) (by kernel_rfl) (by kernel_rfl) (fun _ _ _ h => h) (Or.inl ⟨by rfl, ?_⟩) (by assumption) ?_
                            rotate_left
                            · (intro w hSw; (try dsimp only at hSw); go_simp)
                              first | done | with_reducible rfl
                            simp only [Act.put, List.getElem_toArray, List.getElem_cons_zero, List.getElem_cons_succ, List.setIfInBounds_toArray, List.set_cons_zero, List.set_cons_succ]
                            refine wpAnyH_take (i := 22) (v := ?_) rfl (by kernel_rfl) (by kernel_rfl) (by kernel_rfl) (fun _ _ _ h => h) (Or.inl ⟨by rfl, ?_⟩) (by assumption) ?_
                            rotate_left
                            · (intro w hSw; (try dsimp only at hSw); go_simp)
                              first | done | with_reducible rfl
                            simp only [Act.put, List.getElem_toArray, List.getElem_cons_zero, List.getElem_cons_succ, List.setIfInBounds_toArray, List.set_cons_zero, List.set_cons_succ]
                            refine wpAnyH_take (i := 23) (v := ?_) rfl (by kernel_rfl) (by kernel_rfl) (by kernel_rfl) (fun _ _ _ h => h) (Or.inl ⟨by rfl, ?_⟩) (by assumption) ?_
                            rotate_left
                            · (intro w hSw; (try dsimp only at hSw); go_simp)
                              first | done | with_reducible rfl
                            simp only [Act.put, List.getElem_toArray, List.getElem_cons_zero, List.getElem_cons_succ, List.setIfInBounds_toArray, List.set_cons_zero, List.set_cons_succ]
                            try simp only [kkT]
                            refine wpAnyH_take (i := 24) (v := ?_) rfl (by kernel_rfl) (by kernel_rfl) (by kernel_rfl) (fun _ _ _ h => h) (Or.inl ⟨by rfl, ?_⟩) (by assumption) ?_
                            rotate_left
                            · (intro w hSw; (try dsimp only at hSw); go_simp)
                              first | done | with_reducible rfl
                            simp only [Act.put, List.getElem_toArray, List.getElem_cons_zero, List.getElem_cons_succ, List.setIfInBounds_toArray, List.set_cons_zero, List.set_cons_succ]
                            refine wpAnyH_take (i := 25) (v := ?_) rfl (by kernel_rfl) (by kernel_rfl) (by kernel_rfl) (fun _ _ _ h => h) (Or.inl ⟨by rfl, ?_⟩) (by assumption) ?_
                            rotate_left
                            · (intro w hSw; (try dsimp only at hSw); go_simp)
                              first | done | with_reducible rfl
                            simp only [Act.put, List.getElem_toArray, List.getElem_cons_zero, List.getElem_cons_succ, List.setIfInBounds_toArray, List.set_cons_zero, List.set_cons_succ]
                            refine wpAnyH_take (i := 26) (v := ?_) rfl (by kernel_rfl) (by kernel_rfl) (by kernel_rfl) (fun _ _ _ h => h) (Or.inl ⟨by rfl, ?_⟩) (by assumption) ?_
                            rotate_left
                            · (intro w hSw; (try dsimp only at hSw); go_simp)
                              first | done | with_reducible rfl
                            simp only [Act.put, List.getElem_toArray, List.getElem_cons_zero, List.getElem_cons_succ, List.setIfInBounds_toArray, List.set_cons_zero, List.set_cons_succ]
                            refine wpAnyH_take (i := 27) (v := ?_) rfl (by kernel_rfl) (by kernel_rfl) (by kernel_rfl) (fun _ _ _ h => h) (Or.inl ⟨by rfl, ?_⟩) (by assumption) ?_
                            rotate_left
                            · (intro w hSw; (try dsimp only at hSw); go_simp)
                              first | done | with_reducible rfl
                            simp only [Act.put, List.getElem_toArray, List.getElem_cons_zero, List.getElem_cons_succ, List.setIfInBounds_toArray, List.set_cons_zero, List.set_cons_succ]
                            refine wpAnyH_take (i := 28) (v := ?_) rfl (by kernel_rfl) (by kernel_rfl) (by kernel_rfl) (fun _ _ _ h => h) (Or.inl ⟨by rfl, ?_⟩) (by assumption) ?_
                            rotate_left
                            · (intro w hSw; (try dsimp only at hSw); go_simp)
                              first | done | with_reducible rfl
                            simp only [Act.put, List.getElem_toArray, List.getElem_cons_zero, List.getElem_cons_succ, List.setIfInBounds_toArray, List.set_cons_zero, List.set_cons_succ]
                            try simp only [i0]
                            refine wpAnyH_take (i := 29) (v := ?_) rfl (by kernel_rfl) (by kernel_rfl) (by kernel_rfl) (fun _ _ _ h => h) (Or.inl ⟨by rfl, ?_⟩) (by assumption) ?_
                            rotate_left
                            · (intro w hSw; (try dsimp only at hSw); go_simp)
                              first | done | with_reducible rfl
                            simp only [Act.put, List.getElem_toArray, List.getElem_cons_zero, List.getElem_cons_succ, List.setIfInBounds_toArray, List.set_cons_zero, List.set_cons_succ]
                            try simp only [i1]
                            refine wpAnyH_take (i := 30) (v := ?_) rfl (by kernel_rfl) (by kernel_rfl) (by kernel_rfl) (fun _ _ _ h => h) (Or.inl ⟨by rfl, ?_⟩) (by assumption) ?_
                            rotate_left
                            · (intro w hSw; (try dsimp only at hSw); go_simp)
                              first | done | with_reducible rfl
                            simp only [Act.put, List.getElem_toArray, List.getElem_cons_zero, List.getElem_cons_succ, List.setIfInBounds_toArray, List.set_cons_zero, List.set_cons_succ]
                            refine wpAnyH_take (i := 31) (v := ?_) rfl (by kernel_rfl) (by kernel_rfl) (by kernel_rfl) (fun _ _ _ h => h) (Or.inl ⟨by rfl, ?_⟩) (by assumption) ?_
                            rotate_left
                            · (intro w hSw; (try dsimp only at hSw); go_simp)
                              first | done | with_reducible rfl
                            simp only [Act.put, List.getElem_toArray, List.getElem_cons_zero, List.getElem_cons_succ, List.setIfInBounds_toArray, List.set_cons_zero, List.set_cons_succ]
                            refine wpAnyH_ready (rs := [32]) (by kernel_rfl) (by simp) ?_
                            refine AllReadyH.cons rfl (fun K hK => ?_) AllReadyH.nil
                            go_simp
                            refine (SC.out _).mono ?_
                            rintro e w32 ⟨⟨cc, rfl, hcc⟩, hu4⟩
                            have hc9 : ¬ (0 : Int) ≤ cc := by simpa using hcc
                            clear hcc
                            refine hK.out _ _ ?_ (fun hHeld => ?_)
                            · exact ⟨hu4.keep hHeld.1, hu4.keep hHeld.2.1, hu4.keep hHeld.2.2.1, hu4.keep hHeld.2.2.2.1, hu4.keep hHeld.2.2.2.2.1, hu4.keep hHeld.2.2.2.2.2.1, hu4.keep hHeld.2.2.2.2.2.2.1, hu4.keep hHeld.2.2.2.2.2.2.2.1, hu4.keep hHeld.2.2.2.2.2.2.2.2.1, hu4.keep hHeld.2.2.2.2.2.2.2.2.2⟩
                            clear hK K
                            try simp only [Act.put, List.getElem_toArray, List.getElem_cons_zero, List.getElem_cons_succ, List.setIfInBounds_toArray, List.set_cons_zero, List.set_cons_succ]
                            refine wpAnyH_take (i := 33) (v := ?_) rfl (by kernel_rfl) (by kernel_rfl) (by kernel_rfl) (fun _ _ _ h => h) (Or.inl ⟨by rfl, ?_⟩) (by assumption) ?_
                            rotate_left
                            · (intro w hSw; (try dsimp only at hSw); go_simp)
                              first | done | with_reducible rfl
                            simp only [Act.put, List.getElem_toArray, List.getElem_cons_zero, List.getElem_cons_succ, List.setIfInBounds_toArray, List.set_cons_zero, List.set_cons_succ]
                            refine wpAnyH_take (i := 34) (v := ?_) rfl (by kernel_rfl) (by kernel_rfl) (by kernel_rfl) (fun _ _ _ h => h) (Or.inl ⟨by rfl, ?_⟩) (by assumption) ?_
                            rotate_left
                            · (intro w hSw; (try dsimp only at hSw); go_simp)
                              first | done | with_reducible rfl
                            simp only [Act.put, List.getElem_toArray, List.getElem_cons_zero, List.getElem_cons_succ, List.setIfInBounds_toArray, List.set_cons_zero, List.set_cons_succ]
                            refine wpAnyH_take (i := 35) (v := ?_) rfl (by kernel_rfl) (by kernel_rfl) (by kernel_rfl) (fun _ _ _ h => h) (Or.inl ⟨by rfl, ?_⟩) (by assumption) ?_
                            rotate_left
                            · (intro w hSw; (try dsimp only at hSw); go_simp)
                              first | done | with_reducible rfl
                            simp only [Act.put, List.getElem_toArray, List.getElem_cons_zero, List.getElem_cons_succ, List.setIfInBounds_toArray, List.set_cons_zero, List.set_cons_succ]
                            refine wpAnyH_done (by kernel_rfl) ?_ _
                            have HU9 := Lib.hid (((HU5.out.drew.trans hu1).trans hu2).trans hu4)
                            clear q0 q1 q2 HU5 hHeld y0 y1 y2 y3 z0 z1 z2
                            go_wp2_with fail
                            go_roundw
                            case rel => exact ⟨k + 1, by omega, by go_num, HA3, HU9.out⟩
                            case measure => simp [intOf]; omega
                · have HR := Lib.hid (show sysOk ⟨st, ini, labs, eds⟩ = true by rw [HOK3.out, ← HA.out, show k = eds.length by omega, allF_end])
                  have HU := Lib.hid (HB0.out.trans hU)
                  clear HA hU
                  go_wp2_with fail
                  go_ret
                  exact ⟨by rw [HR.out]; rfl, HU.out⟩
        · have HR := Lib.hid (show sysOk ⟨st, ini, labs, eds⟩ = false by rw [HOK.out, decide_eq_false hel]; simp)
          have he3 : (300 : Int) < (eds.length : Int) := by omega
          clear HOK HLO hb1 hb2 hb3 hel
          go_enter Tryz.func37, Tryz.ntmps37
          go_wp2_with fail
          refine (S1.out _).mono ?_
          rintro e w1 ⟨rfl, rfl⟩
          clear S1
          go_wp2_with fail
          refine (S2.out _).mono ?_
          rintro e w2 ⟨rfl, hu2⟩
          have HU2 := Lib.hid (HB0.out.trans hu2)
          obtain ⟨x0, x1, x2, x3⟩ := HBX.out w2 hu2
          clear S2 hu2
          go_wp2_with fail
          refine (S3.out _).mono ?_
          rintro e w3 ⟨rfl, rfl⟩
          clear S3
          go_wp2_with fail
          go_ret
          exact ⟨by rw [HR.out]; rfl, HU2.out⟩

end Go.Proofs.YtlogbiacnadcaaaGreatDoor

/-
  The image of a system: what the program's call returns.
-/
namespace Go.Proofs.YtlogbiacnadcaaaGreatDoor
open Go.RowKit

theorem isLab_le {s : List UInt8} (h : isLab s = true) : s.length ≤ 100 := by
  obtain ⟨nm, vs, hl⟩ : ∃ nm vs, labT nm vs = some s := by
    unfold isLab readF at h
    split at h
    · split at h
      · simp at h
      · split at h
        · next hq => exact ⟨_, _, hq⟩
        · simp at h
    · split at h
      · next hq => exact ⟨_, _, hq⟩
      · simp at h
  unfold labT at hl
  split at hl
  · split at hl
    · cases hl; simp [tauL]
    · simp at hl
  · split at hl
    · next hc =>
      simp only [Bool.and_eq_true, decide_eq_true_eq] at hc
      obtain ⟨⟨ha, h2⟩, hv⟩ := hc
      have hn : nm.length ≤ 10 := by unfold actF nameF at ha; simp only [Bool.and_eq_true, decide_eq_true_eq] at ha; omega
      split at hl
      · cases hl; omega
      · cases hl
        have := joinC_le 44 30 (vs.map Lib.itoa) (by
          intro p hp
          obtain ⟨x, hx, rfl⟩ := List.mem_map.1 hp
          exact (isV_itoa (List.all_eq_true.1 hv x hx)).2)
        have h3 : (vs.map Lib.itoa).length * (30 + 1) ≤ 2 * 31 := Nat.mul_le_mul (by simpa using h2) (by omega)
        simp only [List.length_append, List.length_cons, List.length_nil, txtV]
        omega
    · simp at hl

theorem allF_get {P : Nat → Bool} : ∀ {k m : Nat}, allF P k m = true → ∀ i, k ≤ i → i < k + m → P i = true
  | _, 0, _, i, h1, h2 => by omega
  | k, m + 1, h, i, h1, h2 => by
    rw [allF, Bool.and_eq_true] at h
    by_cases hk : i = k
    · rw [hk]; exact h.1
    · exact allF_get h.2 i (by omega) (by omega)

/-- what a valid system's parts are. -/
theorem sys_parts {x : Sys} (h : sysOk x = true) : (1 ≤ x.st ∧ x.st ≤ 40) ∧ (0 ≤ x.ini ∧ x.ini ≤ 39) ∧ (1 ≤ x.labs.length ∧ x.labs.length ≤ 12) ∧ x.eds.length ≤ 300 ∧ (∀ s ∈ x.labs, s.length ≤ 100) ∧
    ∀ e ∈ x.eds, (0 ≤ e.fr ∧ e.fr ≤ 2000000) ∧ (0 ≤ e.lb ∧ e.lb ≤ 2000000) ∧ (0 ≤ e.to ∧ e.to ≤ 2000000) := by
  unfold sysOk labsOk at h
  simp only [Bool.and_eq_true, decide_eq_true_eq] at h
  obtain ⟨⟨⟨⟨h1, h2⟩, ⟨h3, h4⟩, h5⟩, h6⟩, h7⟩ := h
  have g1 := inB_true h1
  have g2 := inB_true h2
  refine ⟨g1, by omega, ⟨h3, h4⟩, h6, ?_, ?_⟩
  · intro s hs
    obtain ⟨i, hi, rfl⟩ := List.getElem_of_mem hs
    have := allF_get h5 i (by omega) (by omega)
    rw [labP_at _ _ hi] at this
    simp only [Bool.and_eq_true] at this
    exact isLab_le this.1.1
  · intro e he
    obtain ⟨i, hi, rfl⟩ := List.getElem_of_mem he
    have := allF_get h7 i (by omega) (by omega)
    rw [edP_at _ _ hi] at this
    simp only [Bool.and_eq_true] at this
    obtain ⟨⟨⟨q1, q2⟩, q3⟩, -⟩ := this
    have r1 := inB_true q1
    have r2 := inB_true q2
    have r3 := inB_true q3
    omega

theorem flat_le {α : Type} (f : α → List UInt8) (c : Nat) : ∀ l : List α, (∀ x ∈ l, (f x).length ≤ c) → (l.flatMap f).length ≤ c * l.length
  | [], _ => by simp
  | x :: l, h => by
    have h1 := h x (by simp)
    have h2 := flat_le f c l (fun y hy => h y (by simp [hy]))
    rw [List.flatMap_cons, List.length_append, List.length_cons, Nat.mul_succ]
    omega

def edB (e : Ed) : List UInt8 := (numL e.fr.toNat ++ numL e.lb.toNat) ++ numL e.to.toNat
theorem textL_le {s : List UInt8} (h : s.length ≤ 100) : (textL s).length ≤ 103 := by
  unfold textL
  have := numL_len s.length 2 (by omega)
  simp only [List.length_append]; omega
theorem num3 {n : Int} (h0 : 0 ≤ n) (h : n ≤ 2000000) : (numL n.toNat).length ≤ 3 := numL_len n.toNat 2 (by omega)
theorem edB_le {e : Ed} (h : (0 ≤ e.fr ∧ e.fr ≤ 2000000) ∧ (0 ≤ e.lb ∧ e.lb ≤ 2000000) ∧ (0 ≤ e.to ∧ e.to ≤ 2000000)) : (edB e).length ≤ 9 := by
  unfold edB
  have h1 := num3 h.1.1 h.1.2
  have h2 := num3 h.2.1.1 h.2.1.2
  have h3 := num3 h.2.2.1 h.2.2.2
  simp only [List.length_append]; omega

set_option maxRecDepth 20000 in
set_option maxHeartbeats 4000000 in
theorem encI (x : Sys) (v1 v2 : Value) (w : World) (f1 f2 : List Nat) (h1 : RS f1 w [v1] x.labs) (h2 : R_E1 f2 w [v2] x.eds) (hp : ∀ p ∈ x.labs, p.length ≤ 2000000) (he : Env w) :
    Calls Tryz.prog 12 #[.agg #[ei x.st, ei x.ini, v1, v2]] w fun e w' => e = .returned (es (if sysOk x then sysImg x else [])) ∧ Upd [] w w' := by
  obtain ⟨wb, hwb⟩ : ∃ wb, wb = w.alloc (.cells #[ei x.st, ei x.ini, v1, v2] 30) := ⟨_, rfl⟩
  have hub : Upd [] w wb := by rw [hwb]; exact (Upd.refl _ _).alloc _
  have S1 := Lib.hid (validI x v1 v2 wb f1 f2 (RSk.upd h1 hub (by simp)) (R_E1k.upd h2 hub (by simp)) hp (he.upd hub))
  have HBX := Lib.hid (fun W => fun (hu : Upd [] wb W) => show W.cell? ⟨w.heap.size, 0, none⟩ = some (ei x.st) ∧ W.cell? ⟨w.heap.size, 1, none⟩ = some (ei x.ini) ∧ W.cell? ⟨w.heap.size, 2, none⟩ = some v1 ∧ W.cell? ⟨w.heap.size, 3, none⟩ = some v2 from by
    rw [hwb] at hu
    exact ⟨hu.keep (cell_new w _ _ _ rfl 0 _ rfl), hu.keep (cell_new w _ _ _ rfl 1 _ rfl), hu.keep (cell_new w _ _ _ rfl 2 _ rfl), hu.keep (cell_new w _ _ _ rfl 3 _ rfl)⟩)
  have H1 := Lib.hid (fun W (hu : Upd [] wb W) => RSk.upd h1 (hub.trans hu) (by simp))
  have H2 := Lib.hid (fun W (hu : Upd [] wb W) => R_E1k.upd h2 (hub.trans hu) (by simp))
  have HUB := Lib.hid hub
  obtain ⟨a1, c1, rfl, hl1, hm1, -⟩ := slF1_open h1
  obtain ⟨a2, c2, rfl, hl2, hm2, -⟩ := slF3_open h2
  unfold maxLen at hm1 hm2
  clear h1 h2 hp he hub
  cases hok : sysOk x with
  | false =>
    rw [hok] at S1
    clear hok H1 H2 HBX
    go_enter Tryz.func12, Tryz.ntmps12
    go_wp2_with fail
    rw [← hwb]
    clear hwb
    refine S1.out.mono ?_
    rintro e w1 ⟨rfl, hu⟩
    have HU := Lib.hid (HUB.out.trans hu)
    clear S1 hu
    go_wp2_with fail
    go_ret
    exact ⟨by simp, HU.out⟩
  | true =>
    obtain ⟨hst, hini, hln, hel, hls, hes⟩ := sys_parts hok
    rw [hok] at S1
    clear hok
    obtain ⟨st, ini, labs, eds⟩ := x
    simp only at *
    obtain ⟨l0, ls, rfl⟩ : ∃ l0 ls, labs = l0 :: ls := by
      cases labs with
      | nil => simp at hln
      | cons a b => exact ⟨a, b, rfl⟩
    obtain ⟨aa, cc, hv0, -, -, hc0⟩ := slF1_open (H1.out wb (Upd.refl _ _))
    cases hv0
    obtain ⟨b1, o1, rfl, -, -, -⟩ := hc0 0 (by simp)
    clear hc0
    have hll : ls.length ≤ 11 := by simp at hln; omega
    have hl3 : ls.length + 1 ≤ c1 := by simpa using hl1
    have HLS := Lib.hid (fun s (hs : s ∈ ls) => hls s (by simp [hs]))
    have HES := Lib.hid hes
    have HIN := Lib.hid (And.intro hst hini)
    have HIMG := Lib.hid (show sealL ((((([1] : List UInt8) ++ [st, ini, (ls.length : Int) + 1].flatMap fun n => numL n.toNat) ++ ls.flatMap textL) ++ [(eds.length : Int)].flatMap fun n => numL n.toNat) ++ eds.flatMap edB) = sysImg ⟨st, ini, l0 :: ls, eds⟩ by
      have e1 : ((ls.length : Int) + 1).toNat = ls.length + 1 := by omega
      have e2 : edB = fun e : Ed => (numL e.fr.toNat ++ numL e.lb.toNat) ++ numL e.to.toNat := rfl
      unfold sysImg sysB
      rw [e2]
      simp only [List.flatMap_cons, List.flatMap_nil, List.append_nil, List.append_assoc, List.length_cons, List.drop_succ_cons, List.drop_zero, List.cons_append, List.nil_append, Int.toNat_natCast, e1])
    have hE1 : (([1] : List UInt8) ++ [st, ini, (ls.length : Int) + 1].flatMap fun n => numL n.toNat).length ≤ 10 := by
      have g1 := num3 (n := st) (by omega) (by omega)
      have g2 := num3 (n := ini) (by omega) (by omega)
      have g3 := num3 (n := (ls.length : Int) + 1) (by omega) (by omega)
      simp only [List.flatMap_cons, List.flatMap_nil, List.length_append, List.length_cons, List.length_nil]
      omega
    have hE1p : 1 ≤ (([1] : List UInt8) ++ [st, ini, (ls.length : Int) + 1].flatMap fun n => numL n.toNat).length := by simp
    have hE3 : ([(eds.length : Int)].flatMap fun n => numL n.toNat).length ≤ 3 := by
      have g3 := num3 (n := (eds.length : Int)) (by omega) (by omega)
      simp only [List.flatMap_cons, List.flatMap_nil, List.length_append, List.length_nil]
      omega
    simp only [List.length_cons] at *
    clear hls hes hln hl1 hst hini
    go_enter Tryz.func12, Tryz.ntmps12
    go_wp2_with fail
    rw [← hwb]
    clear hwb
    refine S1.out.mono ?_
    rintro e w1 ⟨rfl, hu⟩
    obtain ⟨x0, x1, x2, x3⟩ := HBX.out w1 hu
    obtain ⟨w3, hw3⟩ : ∃ w3, w3 = (w1.alloc (.cells #[.int .u8 1] 5)).alloc (.cells #[.slice (some ⟨w1.heap.size, 0, none⟩) 1 1] 58) := ⟨_, rfl⟩
    have hu3 : Upd [] w1 w3 := by rw [hw3]; exact ((Upd.refl _ _).alloc _).alloc _
    have hW3 : WrAt w1.heap.size (w1.heap.size + 1) w3 [1] := by
      have hlit := World.ownsRow_lit (base := w1.heap.size) (e := 5) (size := 1) w1 #[.int .u8 1] 1 (Nat.le_refl _) (by simp [maxLen]) (by simp)
      refine ⟨.slice (some ⟨w1.heap.size, 0, none⟩) 1 1, ?_, ?_, by omega⟩
      · rw [hw3]
        have := heap_alloc_new (w1.alloc (.cells #[.int .u8 1] 5)) (.cells #[.slice (some ⟨w1.heap.size, 0, none⟩) 1 1] 58)
        simpa using this
      · rw [hw3]; exact hlit.alloc _
    obtain ⟨fl, r1, r2⟩ := lit_int w3 [st, ini, (ls.length : Int) + 1] (by simp)
    have S3 := Lib.hid (numW w1.heap.size (w1.heap.size + 1) _ [st, ini, (ls.length : Int) + 1] [1] _ fl (hW3.upd ((Upd.refl [] w3).alloc (.cells ([st, ini, (ls.length : Int) + 1].map ei).toArray 2))) (by simp) r1 (by simp)
      (by have := HIN.out; intro n hn; simp only [List.mem_cons, List.not_mem_nil, or_false] at hn; rcases hn with rfl | rfl | rfl <;> omega) r2)
    have HF3 := Lib.hid (hu3.alloc (.cells ([st, ini, (ls.length : Int) + 1].map ei).toArray 2))
    have hsz3 : w3.heap.size = w1.heap.size + 2 := by rw [hw3]; simp
    have HU1 := Lib.hid hu
    generalize (([1] : List UInt8) ++ [st, ini, (ls.length : Int) + 1].flatMap fun n => numL n.toNat) = E1 at *
    generalize hE3e : ([(eds.length : Int)].flatMap fun n => numL n.toNat) = E3 at *
    have HE3 := Lib.hid hE3e
    clear hE3e
    have y0 := hu3.keep x0
    have y1 := hu3.keep x1
    have y2 := hu3.keep x2
    rw [hw3] at y0 y1 y2
    clear S1 r1 r2 hW3 hu3 hu
    go_wp2_with fail
    rw [← hw3]
    rw [hsz3] at S3
    clear hsz3 hw3 y0 y1 y2
    refine S3.out.mono ?_
    rintro e w5 ⟨rfl, hW5, hF5, hsz5⟩
    have HW := Lib.hid hW5
    have HU := Lib.hid (hF5 w1 (Nat.le_refl _) HF3.out)
    obtain ⟨y0, y1, y2, y3⟩ := HBX.out w5 (HU1.out.trans HU.out)
    clear S3 HF3 hW5 hF5 hsz5 x0 x1 x2 x3
    have hi1 : (1 : Int) ≤ (ls.length : Int) + 1 := by omega
    by_cases hc1 : c1 = 1
    · skip
      go_wp2_with fail
      go_loopw [28] (fun iv wr => ∃ k : Nat, k ≤ ls.length ∧ iv = .int .i64 k ∧ Hid (WrAt w1.heap.size (w1.heap.size + 1) wr (E1 ++ (ls.take k).flatMap textL)) ∧ Upd [] w1 wr) (fun iv _ => ls.length - (intOf iv).toNat)
      case atStart => exact ⟨0, Nat.zero_le _, rfl, Lib.hid (by simpa using HW.out), HU.out⟩
      case round =>
        clear HW HU y0 y1 y2 y3
        obtain ⟨wo, rfl⟩ : ∃ wo : World, wo = wr := ⟨_, rfl⟩
        obtain ⟨k, hk, rfl, HW, hU⟩ := hrel
        by_cases hlt : k < ls.length
        · obtain ⟨aa, cc, hv0, -, -, hc0⟩ := slF1_open (H1.out wo (HU1.out.trans hU))
          cases hv0
          obtain ⟨b0, o0, hab, -, -, p1⟩ := hc0 (k + 1) (by simp; omega)
          cases hab
          rw [List.getElem_cons_succ] at p1
          have p2 : wo.cell? ⟨b1, o1 + k, none⟩ = some (es ls[k]) := by exfalso; omega
          have hsl := HLS.out ls[k] (List.getElem_mem hlt)
          have hDl : (E1 ++ (ls.take k).flatMap textL).length ≤ 900000 := by
            have := flat_le textL 103 (ls.take k) (fun s hs => textL_le (HLS.out s (List.mem_of_mem_take hs)))
            rw [List.length_append]; simp only [List.length_take] at this; omega
          have S5 := Lib.hid (textW w1.heap.size (w1.heap.size + 1) ls[k] _ wo HW.out hDl (by omega))
          have HD := Lib.hid (show E1 ++ (ls.take (k + 1)).flatMap textL = (E1 ++ (ls.take k).flatMap textL) ++ textL ls[k] by
            rw [List.take_succ_eq_append_getElem hlt, List.flatMap_append, ← List.append_assoc]; simp)
          have HU := Lib.hid hU
          clear hc0 p1 HW hU hDl
          generalize ls[k] = s at *
          go_wp2_with fail
          refine S5.out.mono ?_
          rintro e w6 ⟨rfl, hW6, hF6, hsz6⟩
          have HW6 := Lib.hid hW6
          have HU6 := Lib.hid (hF6 w1 (Nat.le_refl _) HU.out)
          clear S5 hW6 hF6 hsz6
          go_wp2_with fail
          go_roundw
          case rel => exact ⟨k + 1, by omega, by go_num, Lib.hid (by rw [HD.out]; exact HW6.out), HU6.out⟩
          case measure => simp [intOf]; omega
        · obtain rfl : k = ls.length := by omega
          rw [List.take_length] at HW
          have hE2 : (E1 ++ ls.flatMap textL).length ≤ 2000 := by
            have := flat_le textL 103 ls (fun s hs => textL_le (HLS.out s hs))
            rw [List.length_append]; omega
          have hE2p : 1 ≤ (E1 ++ ls.flatMap textL).length := by rw [List.length_append]; omega
          generalize E1 ++ ls.flatMap textL = E2 at *
          obtain ⟨fl, r1, r2⟩ := lit_int wo [(eds.length : Int)] (by simp)
          have S5 := Lib.hid (numW w1.heap.size (w1.heap.size + 1) _ [(eds.length : Int)] E2 _ fl (HW.out.upd ((Upd.refl [] wo).alloc (.cells ([(eds.length : Int)].map ei).toArray 2))) (by omega) r1 (by simp)
            (by intro n hn; simp only [List.mem_cons, List.not_mem_nil, or_false] at hn; rcases hn with rfl; omega) r2)
          obtain ⟨x0, x1, x2, x3⟩ := HBX.out wo (HU1.out.trans hU)
          have HU := Lib.hid (hU.alloc (.cells ([(eds.length : Int)].map ei).toArray 2))
          clear r1 r2 HW hU hlt hk
          go_wp2_with fail
          refine S5.out.mono ?_
          rintro e w7 ⟨rfl, hW7, hF7, hsz7⟩
          have HW7 := Lib.hid hW7
          have HU7 := Lib.hid (hF7 w1 (Nat.le_refl _) HU.out)
          obtain ⟨y0, y1, y2, y3⟩ := HBX.out w7 (HU1.out.trans HU7.out)
          have hE4 : (E2 ++ E3).length ≤ 2003 := by rw [List.length_append]; omega
          rw [HE3.out] at HW7
          have hE4p : 1 ≤ (E2 ++ E3).length := by rw [List.length_append]; omega
          generalize E2 ++ E3 = E4 at *
          clear S5 HU hW7 hF7 hsz7 x0 x1 x2 x3 hE2 hE3 hE2p
          go_wp2_with fail
          go_loopw [45] (fun iv wr => ∃ k : Nat, k ≤ eds.length ∧ iv = .int .i64 k ∧ Hid (WrAt w1.heap.size (w1.heap.size + 1) wr (E4 ++ (eds.take k).flatMap edB)) ∧ Upd [] w1 wr) (fun iv _ => eds.length - (intOf iv).toNat)
          case atStart => exact ⟨0, Nat.zero_le _, rfl, Lib.hid (by simpa using HW7.out), HU7.out⟩
          case round =>
            clear HW7 HU7 y0 y1 y2 y3
            obtain ⟨wo, rfl⟩ : ∃ wo : World, wo = wr := ⟨_, rfl⟩
            obtain ⟨k, hk, rfl, HW, hU⟩ := hrel
            by_cases hlt : k < eds.length
            · obtain ⟨aa, cc, hv0, -, -, hc0⟩ := slF3_open (H2.out wo (HU1.out.trans hU))
              cases hv0
              obtain ⟨b2, o2, rfl, -, -, p1, p2, p3⟩ := hc0 k hlt
              have hel3 := HES.out eds[k] (List.getElem_mem hlt)
              have hDl : (E4 ++ (eds.take k).flatMap edB).length ≤ 900000 := by
                have := flat_le edB 9 (eds.take k) (fun s hs => edB_le (HES.out s (List.mem_of_mem_take hs)))
                rw [List.length_append]; simp only [List.length_take] at this; omega
              have HD := Lib.hid (show E4 ++ (eds.take (k + 1)).flatMap edB = (E4 ++ (eds.take k).flatMap edB) ++ [eds[k].fr, eds[k].lb, eds[k].to].flatMap (fun n => numL n.toNat) by
                rw [List.take_succ_eq_append_getElem hlt, List.flatMap_append, ← List.append_assoc]; simp [edB])
              generalize eds[k].fr = fr at *
              generalize eds[k].lb = lb at *
              generalize eds[k].to = td at *
              obtain ⟨w8, hw8⟩ : ∃ w8, w8 = wo.alloc (.cells #[.int .i64 fr, .int .i64 lb, .int .i64 td] 62) := ⟨_, rfl⟩
              have hu8 : Upd [] wo w8 := by rw [hw8]; exact (Upd.refl _ _).alloc _
              have hz8 : w8.heap.size = wo.heap.size + 1 := by rw [hw8]; simp
              obtain ⟨fl, r1, r2⟩ := lit_int w8 [fr, lb, td] (by simp)
              have S5 := Lib.hid (numW w1.heap.size (w1.heap.size + 1) _ [fr, lb, td] _ _ fl (HW.out.upd (hu8.alloc (.cells ([fr, lb, td].map ei).toArray 2))) (by omega) r1 (by simp)
                (by intro n hn; simp only [List.mem_cons, List.not_mem_nil, or_false] at hn; rcases hn with rfl | rfl | rfl <;> omega) r2)
              rw [hz8] at S5
              have HU := Lib.hid ((hU.trans hu8).alloc (.cells ([fr, lb, td].map ei).toArray 2))
              clear hc0 HW hU hDl r1 r2 hel3 hu8 hz8
              go_wp2_with fail
              rw [← hw8]
              clear hw8
              refine S5.out.mono ?_
              rintro e w9 ⟨rfl, hW9, hF9, hsz9⟩
              have HW9 := Lib.hid hW9
              have HU9 := Lib.hid (hF9 w1 (Nat.le_refl _) HU.out)
              clear S5 HU hW9 hF9 hsz9
              go_wp2_with fail
              go_roundw
              case rel => exact ⟨k + 1, by omega, by go_num, Lib.hid (by rw [HD.out]; exact HW9.out), HU9.out⟩
              case measure => simp [intOf]; omega
            · obtain rfl : k = eds.length := by omega
              rw [List.take_length] at HW
              have hE5 : (E4 ++ eds.flatMap edB).length ≤ 900000 := by
                have := flat_le edB 9 eds (fun s hs => edB_le (HES.out s hs))
                rw [List.length_append]; omega
              have hE6 : 0 < (E4 ++ eds.flatMap edB).length := by rw [List.length_append]; omega
              · have S6 := Lib.hid (imageW w1.heap.size (w1.heap.size + 1) _ wo HW.out hE5 hE6)
                have HU := Lib.hid hU
                generalize E4 ++ eds.flatMap edB = E5 at *
                clear HW hU hlt hk hE5 hE6
                go_wp2_with fail
                refine S6.out.mono ?_
                rintro e w9 ⟨rfl, hF9⟩
                have HU9 := Lib.hid (HUB.out.trans (HU1.out.trans (hF9 w1 (Nat.le_refl _) HU.out)))
                rw [HIMG.out]
                clear S6 HU hF9 HIMG
                go_wp2_with fail
                go_ret
                exact ⟨by simp, HU9.out⟩
    · skip
      go_wp2_with fail
      go_loopw [28] (fun iv wr => ∃ k : Nat, k ≤ ls.length ∧ iv = .int .i64 k ∧ Hid (WrAt w1.heap.size (w1.heap.size + 1) wr (E1 ++ (ls.take k).flatMap textL)) ∧ Upd [] w1 wr) (fun iv _ => ls.length - (intOf iv).toNat)
      case atStart => exact ⟨0, Nat.zero_le _, rfl, Lib.hid (by simpa using HW.out), HU.out⟩
      case round =>
        clear HW HU y0 y1 y2 y3
        obtain ⟨wo, rfl⟩ : ∃ wo : World, wo = wr := ⟨_, rfl⟩
        obtain ⟨k, hk, rfl, HW, hU⟩ := hrel
        by_cases hlt : k < ls.length
        · obtain ⟨aa, cc, hv0, -, -, hc0⟩ := slF1_open (H1.out wo (HU1.out.trans hU))
          cases hv0
          obtain ⟨b0, o0, hab, -, -, p1⟩ := hc0 (k + 1) (by simp; omega)
          cases hab
          rw [List.getElem_cons_succ] at p1
          have p2 : wo.cell? ⟨b1, o1 + 1 + k, none⟩ = some (es ls[k]) := by rw [Nat.add_assoc, Nat.add_comm 1 k]; exact p1
          have hsl := HLS.out ls[k] (List.getElem_mem hlt)
          have hDl : (E1 ++ (ls.take k).flatMap textL).length ≤ 900000 := by
            have := flat_le textL 103 (ls.take k) (fun s hs => textL_le (HLS.out s (List.mem_of_mem_take hs)))
            rw [List.length_append]; simp only [List.length_take] at this; omega
          have S5 := Lib.hid (textW w1.heap.size (w1.heap.size + 1) ls[k] _ wo HW.out hDl (by omega))
          have HD := Lib.hid (show E1 ++ (ls.take (k + 1)).flatMap textL = (E1 ++ (ls.take k).flatMap textL) ++ textL ls[k] by
            rw [List.take_succ_eq_append_getElem hlt, List.flatMap_append, ← List.append_assoc]; simp)
          have HU := Lib.hid hU
          clear hc0 p1 HW hU hDl
          generalize ls[k] = s at *
          go_wp2_with fail
          refine S5.out.mono ?_
          rintro e w6 ⟨rfl, hW6, hF6, hsz6⟩
          have HW6 := Lib.hid hW6
          have HU6 := Lib.hid (hF6 w1 (Nat.le_refl _) HU.out)
          clear S5 hW6 hF6 hsz6
          go_wp2_with fail
          go_roundw
          case rel => exact ⟨k + 1, by omega, by go_num, Lib.hid (by rw [HD.out]; exact HW6.out), HU6.out⟩
          case measure => simp [intOf]; omega
        · obtain rfl : k = ls.length := by omega
          rw [List.take_length] at HW
          have hE2 : (E1 ++ ls.flatMap textL).length ≤ 2000 := by
            have := flat_le textL 103 ls (fun s hs => textL_le (HLS.out s hs))
            rw [List.length_append]; omega
          have hE2p : 1 ≤ (E1 ++ ls.flatMap textL).length := by rw [List.length_append]; omega
          generalize E1 ++ ls.flatMap textL = E2 at *
          obtain ⟨fl, r1, r2⟩ := lit_int wo [(eds.length : Int)] (by simp)
          have S5 := Lib.hid (numW w1.heap.size (w1.heap.size + 1) _ [(eds.length : Int)] E2 _ fl (HW.out.upd ((Upd.refl [] wo).alloc (.cells ([(eds.length : Int)].map ei).toArray 2))) (by omega) r1 (by simp)
            (by intro n hn; simp only [List.mem_cons, List.not_mem_nil, or_false] at hn; rcases hn with rfl; omega) r2)
          obtain ⟨x0, x1, x2, x3⟩ := HBX.out wo (HU1.out.trans hU)
          have HU := Lib.hid (hU.alloc (.cells ([(eds.length : Int)].map ei).toArray 2))
          clear r1 r2 HW hU hlt hk
          go_wp2_with fail
          refine S5.out.mono ?_
          rintro e w7 ⟨rfl, hW7, hF7, hsz7⟩
          have HW7 := Lib.hid hW7
          have HU7 := Lib.hid (hF7 w1 (Nat.le_refl _) HU.out)
          obtain ⟨y0, y1, y2, y3⟩ := HBX.out w7 (HU1.out.trans HU7.out)
          have hE4 : (E2 ++ E3).length ≤ 2003 := by rw [List.length_append]; omega
          rw [HE3.out] at HW7
          have hE4p : 1 ≤ (E2 ++ E3).length := by rw [List.length_append]; omega
          generalize E2 ++ E3 = E4 at *
          clear S5 HU hW7 hF7 hsz7 x0 x1 x2 x3 hE2 hE3 hE2p
          go_wp2_with fail
          go_loopw [45] (fun iv wr => ∃ k : Nat, k ≤ eds.length ∧ iv = .int .i64 k ∧ Hid (WrAt w1.heap.size (w1.heap.size + 1) wr (E4 ++ (eds.take k).flatMap edB)) ∧ Upd [] w1 wr) (fun iv _ => eds.length - (intOf iv).toNat)
          case atStart => exact ⟨0, Nat.zero_le _, rfl, Lib.hid (by simpa using HW7.out), HU7.out⟩
          case round =>
            clear HW7 HU7 y0 y1 y2 y3
            obtain ⟨wo, rfl⟩ : ∃ wo : World, wo = wr := ⟨_, rfl⟩
            obtain ⟨k, hk, rfl, HW, hU⟩ := hrel
            by_cases hlt : k < eds.length
            · obtain ⟨aa, cc, hv0, -, -, hc0⟩ := slF3_open (H2.out wo (HU1.out.trans hU))
              cases hv0
              obtain ⟨b2, o2, rfl, -, -, p1, p2, p3⟩ := hc0 k hlt
              have hel3 := HES.out eds[k] (List.getElem_mem hlt)
              have hDl : (E4 ++ (eds.take k).flatMap edB).length ≤ 900000 := by
                have := flat_le edB 9 (eds.take k) (fun s hs => edB_le (HES.out s (List.mem_of_mem_take hs)))
                rw [List.length_append]; simp only [List.length_take] at this; omega
              have HD := Lib.hid (show E4 ++ (eds.take (k + 1)).flatMap edB = (E4 ++ (eds.take k).flatMap edB) ++ [eds[k].fr, eds[k].lb, eds[k].to].flatMap (fun n => numL n.toNat) by
                rw [List.take_succ_eq_append_getElem hlt, List.flatMap_append, ← List.append_assoc]; simp [edB])
              generalize eds[k].fr = fr at *
              generalize eds[k].lb = lb at *
              generalize eds[k].to = td at *
              obtain ⟨w8, hw8⟩ : ∃ w8, w8 = wo.alloc (.cells #[.int .i64 fr, .int .i64 lb, .int .i64 td] 62) := ⟨_, rfl⟩
              have hu8 : Upd [] wo w8 := by rw [hw8]; exact (Upd.refl _ _).alloc _
              have hz8 : w8.heap.size = wo.heap.size + 1 := by rw [hw8]; simp
              obtain ⟨fl, r1, r2⟩ := lit_int w8 [fr, lb, td] (by simp)
              have S5 := Lib.hid (numW w1.heap.size (w1.heap.size + 1) _ [fr, lb, td] _ _ fl (HW.out.upd (hu8.alloc (.cells ([fr, lb, td].map ei).toArray 2))) (by omega) r1 (by simp)
                (by intro n hn; simp only [List.mem_cons, List.not_mem_nil, or_false] at hn; rcases hn with rfl | rfl | rfl <;> omega) r2)
              rw [hz8] at S5
              have HU := Lib.hid ((hU.trans hu8).alloc (.cells ([fr, lb, td].map ei).toArray 2))
              clear hc0 HW hU hDl r1 r2 hel3 hu8 hz8
              go_wp2_with fail
              rw [← hw8]
              clear hw8
              refine S5.out.mono ?_
              rintro e w9 ⟨rfl, hW9, hF9, hsz9⟩
              have HW9 := Lib.hid hW9
              have HU9 := Lib.hid (hF9 w1 (Nat.le_refl _) HU.out)
              clear S5 HU hW9 hF9 hsz9
              go_wp2_with fail
              go_roundw
              case rel => exact ⟨k + 1, by omega, by go_num, Lib.hid (by rw [HD.out]; exact HW9.out), HU9.out⟩
              case measure => simp [intOf]; omega
            · obtain rfl : k = eds.length := by omega
              rw [List.take_length] at HW
              have hE5 : (E4 ++ eds.flatMap edB).length ≤ 900000 := by
                have := flat_le edB 9 eds (fun s hs => edB_le (HES.out s hs))
                rw [List.length_append]; omega
              have hE6 : 0 < (E4 ++ eds.flatMap edB).length := by rw [List.length_append]; omega
              · have S6 := Lib.hid (imageW w1.heap.size (w1.heap.size + 1) _ wo HW.out hE5 hE6)
                have HU := Lib.hid hU
                generalize E4 ++ eds.flatMap edB = E5 at *
                clear HW hU hlt hk hE5 hE6
                go_wp2_with fail
                refine S6.out.mono ?_
                rintro e w9 ⟨rfl, hF9⟩
                have HU9 := Lib.hid (HUB.out.trans (HU1.out.trans (hF9 w1 (Nat.le_refl _) HU.out)))
                rw [HIMG.out]
                clear S6 HU hF9 HIMG
                go_wp2_with fail
                go_ret
                exact ⟨by simp, HU9.out⟩

end Go.Proofs.YtlogbiacnadcaaaGreatDoor

/-
  Reading numbers, texts and edges, plainly: a reader of a given number of bytes a number.
-/
namespace Go.Proofs.YtlogbiacnadcaaaGreatDoor
open Go.RowKit

/-- a number of at most k bytes, behind n with the next unit t: the number, the rest, and whether it is bad. -/
def rdN (z : Nat → Nat) : Nat → Nat → Nat → List UInt8 → Bool → Nat × List UInt8 × Bool
  | 0, _, _, r, _ => (0, r, true)
  | _ + 1, n, _, [], _ => (z n, [], true)
  | k + 1, n, t, c :: r, b => if c.toNat < 128 then (n + c.toNat * t, r, b) else rdN z k (n + c.toNat % 128 * t) (t * 128) r b
/-- what is read of a number that has no end: the program gives what it has, the reference 0. -/
def zF (K n : Nat) : Nat := if K = 4 then n else 0
theorem zF_le (K n : Nat) : zF K n ≤ n := by unfold zF; split <;> omega
/-- the number is small; the rest is shorter, or the reader is bad. -/
theorem rdN_fits (z : Nat → Nat) (hz : ∀ n, z n ≤ n) : ∀ (k n t : Nat) (r : List UInt8) (b : Bool), n < t → (rdN z k n t r b).1 < t * 128 ^ k ∧ (rdN z k n t r b).2.1.length ≤ r.length ∧ ((rdN z k n t r b).2.2 = false → (rdN z k n t r b).2.1.length < r.length) ∧ (b = true → (rdN z k n t r b).2.2 = true) := by
  intro k
  induction k with
  | zero => intro n t r b h; rw [rdN]; refine ⟨by show 0 < t * 128 ^ 0; omega, Nat.le_refl _, by simp, by simp⟩
  | succ k ih =>
    intro n t r b h
    have hp : 1 ≤ 128 ^ k := Nat.pow_pos (by omega)
    cases r with
    | nil =>
      rw [rdN]
      refine ⟨?_, Nat.le_refl _, by simp, by simp⟩
      show z n < t * 128 ^ (k + 1)
      have := hz n
      have : t * 1 ≤ t * 128 ^ (k + 1) := Nat.mul_le_mul_left t (Nat.pow_pos (by omega))
      omega
    | cons c r =>
      rw [rdN]
      by_cases hc : c.toNat < 128
      · rw [if_pos hc]
        refine ⟨?_, by simp, by simp, by simp⟩
        show n + c.toNat * t < t * 128 ^ (k + 1)
        have h1 : c.toNat * t ≤ 127 * t := Nat.mul_le_mul_right t (by omega)
        have h2 : t * 128 ≤ t * 128 ^ (k + 1) := Nat.mul_le_mul_left t (by rw [Nat.pow_succ]; omega)
        omega
      · rw [if_neg hc]
        have h1 : c.toNat % 128 * t ≤ 127 * t := Nat.mul_le_mul_right t (by omega)
        obtain ⟨a1, a2, a3, a4⟩ := ih (n + c.toNat % 128 * t) (t * 128) r b (by omega)
        refine ⟨?_, by simp; omega, fun hq => by have := a3 hq; simp; omega, a4⟩
        rw [Nat.pow_succ, Nat.mul_comm (128 ^ k) 128, ← Nat.mul_assoc]; exact a1

/-- the next number, of at most K bytes. -/
def rN (K : Nat) (r : List UInt8) (b : Bool) : Nat × List UInt8 × Bool := rdN (zF K) K 0 1 r b
/-- the next text. -/
def rT (K : Nat) (r : List UInt8) (b : Bool) : List UInt8 × List UInt8 × Bool :=
  if (K ≠ 4 ∧ (rN K r b).2.2 = true) ∨ (rN K r b).2.1.length < (rN K r b).1 then ([], (rN K r b).2.1, true) else ((rN K r b).2.1.take (rN K r b).1, (rN K r b).2.1.drop (rN K r b).1, (rN K r b).2.2)
/-- at most n texts behind L. -/
def rLs (K : Nat) : Nat → List (List UInt8) → List UInt8 → Bool → List (List UInt8) × List UInt8 × Bool
  | 0, L, r, b => (L, r, b)
  | n + 1, L, r, b => if b then (L, r, b) else rLs K n (L ++ [(rT K r b).1]) (rT K r b).2.1 (rT K r b).2.2
/-- the next edge. -/
def rE (K : Nat) (r : List UInt8) (b : Bool) : Ed × List UInt8 × Bool :=
  (⟨(rN K r b).1, (rN K (rN K r b).2.1 (rN K r b).2.2).1, (rN K (rN K (rN K r b).2.1 (rN K r b).2.2).2.1 (rN K (rN K r b).2.1 (rN K r b).2.2).2.2).1⟩,
    (rN K (rN K (rN K r b).2.1 (rN K r b).2.2).2.1 (rN K (rN K r b).2.1 (rN K r b).2.2).2.2).2)
def rEs (K : Nat) : Nat → List Ed → List UInt8 → Bool → List Ed × List UInt8 × Bool
  | 0, L, r, b => (L, r, b)
  | n + 1, L, r, b => if b then (L, r, b) else rEs K n (L ++ [(rE K r b).1]) (rE K r b).2.1 (rE K r b).2.2

theorem rN_fits (K : Nat) (r : List UInt8) (b : Bool) : (rN K r b).1 < 128 ^ K ∧ (rN K r b).2.1.length ≤ r.length ∧ ((rN K r b).2.2 = false → (rN K r b).2.1.length < r.length) ∧ (b = true → (rN K r b).2.2 = true) := by
  have := rdN_fits (zF K) (zF_le K) K 0 1 r b (by omega)
  rw [Nat.one_mul] at this
  exact this
theorem rT_fits (K : Nat) (r : List UInt8) (b : Bool) : (rT K r b).2.1.length ≤ r.length ∧ ((rT K r b).2.2 = false → (rT K r b).2.1.length < r.length) ∧ (rT K r b).1.length ≤ r.length := by
  obtain ⟨-, h2, h3, -⟩ := rN_fits K r b
  unfold rT
  split
  · exact ⟨h2, by simp, by simp⟩
  · refine ⟨by simp; omega, fun hq => by have := h3 hq; simp; omega, by simp; omega⟩
theorem rE_fits (K : Nat) (r : List UInt8) (b : Bool) : (rE K r b).2.1.length ≤ r.length ∧ ((rE K r b).2.2 = false → (rE K r b).2.1.length < r.length) ∧
    (0 ≤ (rE K r b).1.fr ∧ (rE K r b).1.fr < 128 ^ K) ∧ (0 ≤ (rE K r b).1.lb ∧ (rE K r b).1.lb < 128 ^ K) ∧ (0 ≤ (rE K r b).1.to ∧ (rE K r b).1.to < 128 ^ K) := by
  obtain ⟨a1, a2, a3, a4⟩ := rN_fits K r b
  obtain ⟨b1, b2, b3, b4⟩ := rN_fits K (rN K r b).2.1 (rN K r b).2.2
  obtain ⟨c1, c2, c3, c4⟩ := rN_fits K (rN K (rN K r b).2.1 (rN K r b).2.2).2.1 (rN K (rN K r b).2.1 (rN K r b).2.2).2.2
  unfold rE
  refine ⟨by simp only; omega, fun hq => ?_, ⟨by simp only; omega, by simp only; exact_mod_cast a1⟩, ⟨by simp only; omega, by simp only; exact_mod_cast b1⟩, ⟨by simp only; omega, by simp only; exact_mod_cast c1⟩⟩
  have := c3 hq
  simp only; omega

theorem rLs_len (K : Nat) : ∀ (n : Nat) (L : List (List UInt8)) (r : List UInt8) (b : Bool), (rLs K n L r b).2.1.length ≤ r.length
  | 0, L, r, b => Nat.le_refl _
  | n + 1, L, r, b => by
    rw [rLs]
    split
    · exact Nat.le_refl _
    · exact Nat.le_trans (rLs_len K n _ _ _) (rT_fits K r b).1
theorem rLs_go (K k : Nat) (L : List (List UInt8)) (r : List UInt8) (h : 1 < k) : rLs K (k - 1) L r false = rLs K (k - 1 - 1) (L ++ [(rT K r false).1]) (rT K r false).2.1 (rT K r false).2.2 := by
  obtain ⟨m, rfl⟩ : ∃ m, k = m + 2 := ⟨k - 2, by omega⟩
  simp [rLs]
theorem rLs_bad (K k : Nat) (L : List (List UInt8)) (r : List UInt8) : rLs K k L r true = (L, r, true) := by
  cases k <;> simp [rLs]
theorem rEs_go (K k : Nat) (L : List Ed) (r : List UInt8) (h : 0 < k) : rEs K k L r false = rEs K (k - 1) (L ++ [(rE K r false).1]) (rE K r false).2.1 (rE K r false).2.2 := by
  obtain ⟨m, rfl⟩ : ∃ m, k = m + 1 := ⟨k - 1, by omega⟩
  simp [rEs]
theorem rEs_bad (K k : Nat) (L : List Ed) (r : List UInt8) : rEs K k L r true = (L, r, true) := by
  cases k <;> simp [rEs]

end Go.Proofs.YtlogbiacnadcaaaGreatDoor

/-
  The kind of an image and its contents, plainly.
-/
namespace Go.Proofs.YtlogbiacnadcaaaGreatDoor
open Go.RowKit

/-- the contents of an image. -/
def midL (s : List UInt8) : List UInt8 := (s.take (s.length - 2)).drop 1
/-- the last two bytes as a check value. -/
def chkF (s : List UInt8) : Nat := (s.getD (s.length - 2) 0).toNat * 256 + (s.getD (s.length - 1) 0).toNat
def k0F (s : List UInt8) : Nat := (s.getD 0 0).toNat
/-- the kind of an image and a code: 0, or the program's numbers for an image that is too short, has another check value, or another form. -/
def kindF (s : List UInt8) : Nat × Nat :=
  if s.length < 3 then (0, 11)
  else if chkF s ≠ crcL (s.take (s.length - 2)) 65535 then (0, 10)
  else if inB (k0F s : Int) 1 3 = false ∨ 6000 < s.length then (0, 9)
  else (k0F s, 0)

/-- what opening a system's image gives: 0, or a code. -/
def opF (s : List UInt8) : Nat := if (kindF s).2 ≠ 0 then (kindF s).2 else if (kindF s).1 ≠ 1 then 6 else 0
theorem opF_len {s : List UInt8} (h : opF s = 0) : 3 ≤ s.length := by
  rcases Nat.lt_or_ge s.length 3 with h3 | h3
  · unfold opF kindF at h
    rw [if_pos h3] at h
    simp at h
  · exact h3
theorem kind_code_le (s : List UInt8) : (kindF s).2 ≤ 11 ∧ (kindF s).1 ≤ 255 := by
  unfold kindF
  split
  · simp
  · split
    · simp
    · split
      · simp
      · have := (s.getD 0 0).toNat_lt
        unfold k0F; simp only; omega

end Go.Proofs.YtlogbiacnadcaaaGreatDoor

/-
  A system that is being read: its block, its two rows, and what appends to them leave.
-/
namespace Go.Proofs.YtlogbiacnadcaaaGreatDoor
open Go.RowKit

theorem ownsRow_keep {w w' : World} {base : Nat} {e : TypeId} {size : Nat} {v : Value} {n : Nat} {xs : List Value} (h : w.ownsRow base e size v n xs) (hk : ∀ g, v.ownBlock = some g → w'.heap[g]? = w.heap[g]?) : w'.ownsRow base e size v n xs := by
  refine ⟨h.1, ?_⟩
  rcases h.2 with h2 | ⟨g, cap, cur, rfl, hb, hh, r⟩
  · exact Or.inl h2
  · exact Or.inr ⟨g, cap, cur, rfl, hb, by rw [hk g rfl]; exact hh, r⟩
theorem ownsRow_base {w : World} {base base' : Nat} {e : TypeId} {size : Nat} {v : Value} {n : Nat} {xs : List Value} (h : w.ownsRow base e size v n xs) (hb : base' ≤ base) : w.ownsRow base' e size v n xs := by
  refine ⟨h.1, ?_⟩
  rcases h.2 with h2 | ⟨g, cap, cur, rfl, hb2, r⟩
  · exact Or.inl h2
  · exact Or.inr ⟨g, cap, cur, rfl, Nat.le_trans hb hb2, r⟩
theorem row_type {w : World} {base g : Nat} {v : Value} {n sz : Nat} {xs : List Value} {e : TypeId} (h : w.ownsRow base e sz v n xs) (hg : v.ownBlock = some g) : base ≤ g ∧ ∃ c, w.heap[g]? = some (.cells c e (0, 0)) := by
  rcases h.2 with ⟨rfl, -⟩ | ⟨g', cap, cur, rfl, hb, hh, -⟩
  · simp [Value.ownBlock] at hg
  · simp [Value.ownBlock] at hg
    subst hg
    exact ⟨hb, _, hh⟩
theorem row_ne {w : World} {base g : Nat} {v : Value} {n sz : Nat} {xs : List Value} {e T : TypeId} {c : Array Value} (h : w.ownsRow base e sz v n xs) (hp : w.heap[g]? = some (.cells c T (0, 0))) (hne : e ≠ T) : v.ownBlock ≠ some g := by
  intro hb
  obtain ⟨-, c', h2⟩ := row_type h hb
  rw [hp] at h2
  simp only [Option.some.injEq, Obj.cells.injEq] at h2
  exact hne h2.2.1.symm

/-- a system's four cells in a block of their own. -/
def SysAt (T : Nat) (W : World) (st ini : Int) (v1 v2 : Value) : Prop := W.heap[T]? = some (.cells #[ei st, ei ini, v1, v2] 30 (0, 0))
theorem SysAt.lt {T : Nat} {W : World} {st ini : Int} {v1 v2 : Value} (h : SysAt T W st ini v1 v2) : T < W.heap.size := (Array.getElem?_eq_some_iff.1 h).1
theorem SysAt.facts {T : Nat} {W : World} {st ini : Int} {v1 v2 : Value} (h : SysAt T W st ini v1 v2) : W.cell? ⟨T, 0, none⟩ = some (ei st) ∧ W.cell? ⟨T, 1, none⟩ = some (ei ini) ∧ W.cell? ⟨T, 2, none⟩ = some v1 ∧ W.cell? ⟨T, 3, none⟩ = some v2 ∧ ∀ j, W.frozen? ⟨T, j, none⟩ = false := by
  unfold SysAt at h
  refine ⟨?_, ?_, ?_, ?_, fun j => ?_⟩
  · simp [World.cell?, h]
  · simp [World.cell?, h]
  · simp [World.cell?, h]
  · simp [World.cell?, h]
  · simp [World.frozen?, h]
theorem SysAt.upd {T : Nat} {w w1 : World} {st ini : Int} {v1 v2 : Value} (h : SysAt T w st ini v1 v2) {f : List Nat} (hu : Upd f w w1) (hf : T ∉ f) : SysAt T w1 st ini v1 v2 := by
  unfold SysAt at *
  rw [hu.block T (Array.getElem?_eq_some_iff.1 h).1 hf]; exact h
theorem SysAt.set2 {T : Nat} {w : World} {st ini : Int} {v1 v2 : Value} (h : SysAt T w st ini v1 v2) (u : Value) : SysAt T (w.setCell ⟨T, 2, none⟩ u) st ini u v2 := by
  unfold SysAt
  have := heap_setCell_same w T 2 _ _ u h
  simpa using this
theorem SysAt.set3 {T : Nat} {w : World} {st ini : Int} {v1 v2 : Value} (h : SysAt T w st ini v1 v2) (u : Value) : SysAt T (w.setCell ⟨T, 3, none⟩ u) st ini v1 u := by
  unfold SysAt
  have := heap_setCell_same w T 3 _ _ u h
  simpa using this
theorem SysAt.set0 {T : Nat} {w : World} {st ini : Int} {v1 v2 : Value} (h : SysAt T w st ini v1 v2) (n : Int) : SysAt T (w.setCell ⟨T, 0, none⟩ (ei n)) n ini v1 v2 := by
  unfold SysAt
  have := heap_setCell_same w T 0 _ _ (ei n) h
  simpa using this
theorem SysAt.set1 {T : Nat} {w : World} {st ini : Int} {v1 v2 : Value} (h : SysAt T w st ini v1 v2) (n : Int) : SysAt T (w.setCell ⟨T, 1, none⟩ (ei n)) st n v1 v2 := by
  unfold SysAt
  have := heap_setCell_same w T 1 _ _ (ei n) h
  simpa using this

theorem SysAt.store {T : Nat} {w : World} {st ini : Int} {v1 v2 : Value} (h : SysAt T w st ini v1 v2) (a b : Int) (u v : Value) : SysAt T ((((w.setCell ⟨T, 0, none⟩ (ei a)).setCell ⟨T, 1, none⟩ (ei b)).setCell ⟨T, 2, none⟩ u).setCell ⟨T, 3, none⟩ v) a b u v := ((((h.set0 a).set1 b).set2 u).set3 v)
theorem str_ne_lts : (9 : TypeId) ≠ 30 := by decide
theorem edge_ne_lts : (62 : TypeId) ≠ 30 := by decide
theorem str_ne_edge : (9 : TypeId) ≠ 62 := by decide

/-- behind an append to a row of the system in block T and the store of cell j. -/
theorem sys_push {T base n n4 sz j : Nat} {w w4 : World} {st ini : Int} {v1 v2 v v4 : Value} {xs xs4 : List Value} {e : TypeId} (h0 : SysAt T w st ini v1 v2) (he : e ≠ 30) (hown : w.ownsRow base e sz v n xs)
    (hown4 : w4.ownsRow base e sz v4 n4 xs4) (hg : w.grownBy w4 v.ownBlock) :
    SysAt T w4 st ini v1 v2 ∧ (w4.setCell ⟨T, j, none⟩ v4).ownsRow base e sz v4 n4 xs4 ∧ w.heap.size ≤ (w4.setCell ⟨T, j, none⟩ v4).heap.size ∧
    (∀ b, b < w.heap.size → b ≠ T → v.ownBlock ≠ some b → (w4.setCell ⟨T, j, none⟩ v4).heap[b]? = w.heap[b]?) ∧
    (∀ w0 : World, w0.heap.size ≤ base → w0.heap.size ≤ T → Upd [] w0 w → Upd [] w0 (w4.setCell ⟨T, j, none⟩ v4)) := by
  have hlt := h0.lt
  have hne := row_ne hown h0 he
  have hT : SysAt T w4 st ini v1 v2 := by
    unfold SysAt at *
    rw [hg.block T hlt (fun e => hne e.symm)]; exact h0
  have hne4 := row_ne hown4 hT he
  refine ⟨hT, ?_, ?_, ?_, ?_⟩
  · refine ownsRow_keep hown4 (fun g hg2 => ?_)
    rw [heap_setCell_other _ _ _ _ (fun hh => hne4 (by rw [hg2, hh]))]
  · have := hg.size
    simp [World.setCell]; omega
  · intro b hb hbT hbv
    rw [heap_setCell_other _ _ _ _ hbT]
    exact hg.block b hb (fun e => hbv e.symm)
  · intro w0 hw0 hT0 hu
    exact (hu.grown hg (fun b hb => Or.inl (by have := (hown.lt b hb).1; omega))).setCell (Or.inl hT0) _

def zeroSys : Sys := ⟨0, 0, [], []⟩
/-- the two rows as a system of its own. -/
theorem new_sys {w W : World} {base : Nat} {st ini : Int} {v1 v2 : Value} {L : List (List UInt8)} {E : List Ed} (hb : w.heap.size ≤ base)
    (h1 : W.ownsRow base 9 1 v1 L.length (L.map es)) (h2 : W.ownsRow base 62 3 v2 E.length (E.flatMap fun t => [ei t.fr, ei t.lb, ei t.to])) :
    ∃ f1 f2, RS f1 W [v1] L ∧ R_E1 f2 W [v2] E ∧ New R_L1 w W (.agg #[ei st, ei ini, v1, v2]) ⟨st, ini, L, E⟩ := by
  obtain ⟨f1, a1, a2, a3, a4⟩ := Flat.ofOwns h1
  obtain ⟨f2, b1, b2, b3, b4⟩ := Flat.ofOwns h2
  have r1 : RS f1 W [v1] L := ⟨v1, rfl, by rw [flatMap_single]; exact a1⟩
  have r2 : R_E1 f2 W [v2] E := ⟨v2, rfl, b1⟩
  refine ⟨f1, f2, r1, r2, f1 ++ f2, ⟨v1, v2, f1, f2, rfl, r1, r2, rfl⟩, ⟨?_, ?_⟩, ?_⟩
  · rw [List.nodup_append]
    refine ⟨a2.1, b2.1, ?_⟩
    intro x hx y hy hxy
    obtain ⟨-, c1, p1⟩ := row_type h1 (a4 x hx)
    obtain ⟨-, c2, p2⟩ := row_type h2 (b4 y hy)
    rw [← hxy, p1] at p2
    simp only [Option.some.injEq, Obj.cells.injEq] at p2
    exact str_ne_edge p2.2.1
  · intro b hbm
    rcases List.mem_append.1 hbm with h | h
    · exact a2.2 b h
    · exact b2.2 b h
  · intro b hbm
    rcases List.mem_append.1 hbm with h | h
    · have := a3 b h; omega
    · have := b3 b h; omega
theorem new_zero (w W : World) : New R_L1 w W (.agg #[ei 0, ei 0, .slice none 0 0, .slice none 0 0]) zeroSys := by
  obtain ⟨f1, f2, -, -, h⟩ := new_sys (w := w) (W := W) (base := w.heap.size) (st := 0) (ini := 0) (v1 := .slice none 0 0) (v2 := .slice none 0 0) (L := []) (E := []) (Nat.le_refl _) (World.ownsRow_nil _ _ _ _) (World.ownsRow_nil _ _ _ _)
  exact h

def edCs (t : Ed) : List Value := [ei t.fr, ei t.lb, ei t.to]
/-- all that is under way while a system is read: H the result's block, p the reader's, T the system's. -/
structure DL (H p T : Nat) (w W : World) (a b : Int) (L : List (List UInt8)) (E : List Ed) (v1 v2 : Value) (o : Obj) : Prop where
  rd : W.heap[p]? = some o
  sys : SysAt T W a b v1 v2
  out : SysAt H W 0 0 (.slice none 0 0) (.slice none 0 0)
  row1 : W.ownsRow (p + 1) 9 1 v1 L.length (L.map es)
  row2 : W.ownsRow (p + 1) 62 3 v2 E.length (E.flatMap edCs)
  upd : Upd [] w W
  hw : w.heap.size = H
  hHp : H < p
  hpT : p < T
namespace DL
variable {H p T : Nat} {w W W' : World} {a b : Int} {L : List (List UInt8)} {E : List Ed} {v1 v2 : Value} {o o' : Obj}
theorem dlCall (h : DL H p T w W a b L E v1 v2 o) (hu : Upd [p] W W') (ho : W'.heap[p]? = some o') : DL H p T w W' a b L E v1 v2 o' := by
  have hp := h.hHp
  have hT := h.hpT
  have hH := h.hw
  refine ⟨ho, h.sys.upd hu (by simp; omega), h.out.upd hu (by simp; omega), ownsRow_keep h.row1 (fun g hg => ?_), ownsRow_keep h.row2 (fun g hg => ?_), h.upd.fresh hu (fun q hq => Or.inl (by simp at hq; omega)), hH, hp, hT⟩
  · have := (h.row1.lt g hg)
    exact hu.block g this.2 (by simp; omega)
  · have := (h.row2.lt g hg)
    exact hu.block g this.2 (by simp; omega)
theorem dlQuiet (h : DL H p T w W a b L E v1 v2 o) (hu : Upd [] W W') : DL H p T w W' a b L E v1 v2 o :=
  h.dlCall (hu.mono (by simp)) (by rw [hu.block p (Array.getElem?_eq_some_iff.1 h.rd).1 (by simp)]; exact h.rd)
theorem dlSetA (h : DL H p T w W a b L E v1 v2 o) (n : Int) : DL H p T w (W.setCell ⟨T, 0, none⟩ (ei n)) n b L E v1 v2 o := by
  have hp := h.hHp
  have hT := h.hpT
  have hH := h.hw
  have hs := h.sys
  unfold SysAt at hs
  have hk : ∀ g, g ≠ T → (W.setCell ⟨T, 0, none⟩ (ei n)).heap[g]? = W.heap[g]? := fun g hg => heap_setCell_other _ _ _ _ hg
  refine ⟨by rw [hk p (by omega)]; exact h.rd, h.sys.set0 n, by unfold SysAt; rw [hk H (by omega)]; exact h.out, ownsRow_keep h.row1 (fun g hg => hk g (fun e => row_ne h.row1 hs str_ne_lts (by rw [hg, e]))), ownsRow_keep h.row2 (fun g hg => hk g (fun e => row_ne h.row2 hs edge_ne_lts (by rw [hg, e]))), h.upd.setCell (Or.inl (by simp; omega)) _, hH, hp, hT⟩
theorem dlSetB (h : DL H p T w W a b L E v1 v2 o) (n : Int) : DL H p T w (W.setCell ⟨T, 1, none⟩ (ei n)) a n L E v1 v2 o := by
  have hp := h.hHp
  have hT := h.hpT
  have hH := h.hw
  have hs := h.sys
  unfold SysAt at hs
  have hk : ∀ g, g ≠ T → (W.setCell ⟨T, 1, none⟩ (ei n)).heap[g]? = W.heap[g]? := fun g hg => heap_setCell_other _ _ _ _ hg
  refine ⟨by rw [hk p (by omega)]; exact h.rd, h.sys.set1 n, by unfold SysAt; rw [hk H (by omega)]; exact h.out, ownsRow_keep h.row1 (fun g hg => hk g (fun e => row_ne h.row1 hs str_ne_lts (by rw [hg, e]))), ownsRow_keep h.row2 (fun g hg => hk g (fun e => row_ne h.row2 hs edge_ne_lts (by rw [hg, e]))), h.upd.setCell (Or.inl (by simp; omega)) _, hH, hp, hT⟩
theorem dlPushL (h : DL H p T w W a b L E v1 v2 o) {w4 : World} {v4 : Value} {s : List UInt8} (hown : w4.ownsRow (p + 1) 9 1 v4 (L.length + 1) (L.map es ++ [es s])) (hg : W.grownBy w4 v1.ownBlock) :
    w4.cell? ⟨T, 2, none⟩ = some v1 ∧ w4.frozen? ⟨T, 2, none⟩ = false ∧ Hid (DL H p T w (w4.setCell ⟨T, 2, none⟩ v4) a b (L ++ [s]) E v4 v2 o) := by
  obtain ⟨q1, q2, q3, q4, q5⟩ := sys_push (j := 2) h.sys str_ne_lts h.row1 hown hg
  obtain ⟨c0, c1, c2, c3, fz⟩ := q1.facts
  have hp := h.hHp
  have hT := h.hpT
  have hH := h.hw
  have hpl := (Array.getElem?_eq_some_iff.1 h.rd).1
  have hHl := h.out.lt
  have hn1 : v1.ownBlock ≠ some p := fun e => by have := (h.row1.lt p e).1; omega
  have hn2 : v1.ownBlock ≠ some H := fun e => by have := (h.row1.lt H e).1; omega
  refine ⟨c2, fz 2, Lib.hid ⟨?_, q1.set2 v4, ?_, ?_, ?_, q5 w (by omega) (by omega) h.upd, hH, hp, hT⟩⟩
  · rw [q4 p hpl (by omega) hn1]; exact h.rd
  · unfold SysAt
    rw [q4 H hHl (by omega) hn2]; exact h.out
  · simpa using q2
  · refine ownsRow_keep h.row2 (fun g hg2 => ?_)
    obtain ⟨-, c, hc⟩ := row_type h.row2 hg2
    refine q4 g (h.row2.lt g hg2).2 ?_ (row_ne h.row1 hc str_ne_edge)
    intro e
    have hs := h.sys
    unfold SysAt at hs
    rw [e, hs] at hc
    simp only [Option.some.injEq, Obj.cells.injEq] at hc
    exact edge_ne_lts hc.2.1.symm
theorem dlPushE (h : DL H p T w W a b L E v1 v2 o) {w4 : World} {v4 : Value} {t : Ed} (hown : w4.ownsRow (p + 1) 62 3 v4 (E.length + 1) (E.flatMap edCs ++ edCs t)) (hg : W.grownBy w4 v2.ownBlock) :
    w4.cell? ⟨T, 3, none⟩ = some v2 ∧ w4.frozen? ⟨T, 3, none⟩ = false ∧ Hid (DL H p T w (w4.setCell ⟨T, 3, none⟩ v4) a b L (E ++ [t]) v1 v4 o) := by
  obtain ⟨q1, q2, q3, q4, q5⟩ := sys_push (j := 3) h.sys edge_ne_lts h.row2 hown hg
  obtain ⟨c0, c1, c2, c3, fz⟩ := q1.facts
  have hp := h.hHp
  have hT := h.hpT
  have hH := h.hw
  have hpl := (Array.getElem?_eq_some_iff.1 h.rd).1
  have hHl := h.out.lt
  have hn1 : v2.ownBlock ≠ some p := fun e => by have := (h.row2.lt p e).1; omega
  have hn2 : v2.ownBlock ≠ some H := fun e => by have := (h.row2.lt H e).1; omega
  refine ⟨c3, fz 3, Lib.hid ⟨?_, q1.set3 v4, ?_, ?_, ?_, q5 w (by omega) (by omega) h.upd, hH, hp, hT⟩⟩
  · rw [q4 p hpl (by omega) hn1]; exact h.rd
  · unfold SysAt
    rw [q4 H hHl (by omega) hn2]; exact h.out
  · refine ownsRow_keep h.row1 (fun g hg2 => ?_)
    obtain ⟨-, c, hc⟩ := row_type h.row1 hg2
    refine q4 g (h.row1.lt g hg2).2 ?_ (row_ne h.row2 hc (fun e => str_ne_edge e.symm))
    intro e
    have hs := h.sys
    unfold SysAt at hs
    rw [e, hs] at hc
    simp only [Option.some.injEq, Obj.cells.injEq] at hc
    exact str_ne_lts hc.2.1.symm
  · simpa using q2
/-- the system's readings, and what storing it to the result's block leaves. -/
theorem dlFin (h : DL H p T w W a b L E v1 v2 o) : ∃ f1 f2, RS f1 W [v1] L ∧ R_E1 f2 W [v2] E := by
  have hH := h.hw
  have hp := h.hHp
  obtain ⟨f1, f2, r1, r2, -⟩ := new_sys (w := w) (st := a) (ini := b) (by omega) h.row1 h.row2
  exact ⟨f1, f2, r1, r2⟩
theorem dlStored (h : DL H p T w W a b L E v1 v2 o) : SysAt H ((((W.setCell ⟨H, 0, none⟩ (ei a)).setCell ⟨H, 1, none⟩ (ei b)).setCell ⟨H, 2, none⟩ v1).setCell ⟨H, 3, none⟩ v2) a b v1 v2 ∧
    New R_L1 w ((((W.setCell ⟨H, 0, none⟩ (ei a)).setCell ⟨H, 1, none⟩ (ei b)).setCell ⟨H, 2, none⟩ v1).setCell ⟨H, 3, none⟩ v2) (.agg #[ei a, ei b, v1, v2]) ⟨a, b, L, E⟩ ∧
    Upd [] w ((((W.setCell ⟨H, 0, none⟩ (ei a)).setCell ⟨H, 1, none⟩ (ei b)).setCell ⟨H, 2, none⟩ v1).setCell ⟨H, 3, none⟩ v2) := by
  have hH := h.hw
  have hp := h.hHp
  refine ⟨h.out.store a b v1 v2, ?_, ?_⟩
  · obtain ⟨-, -, -, -, hn⟩ := new_sys (w := w) (W := (((W.setCell ⟨H, 0, none⟩ (ei a)).setCell ⟨H, 1, none⟩ (ei b)).setCell ⟨H, 2, none⟩ v1).setCell ⟨H, 3, none⟩ v2) (st := a) (ini := b) (L := L) (E := E) (base := p + 1) (v1 := v1) (v2 := v2) (by omega)
      (ownsRow_keep h.row1 (fun g hg => by
        have := (h.row1.lt g hg).1
        rw [heap_setCell_other _ _ _ _ (by simp; omega), heap_setCell_other _ _ _ _ (by simp; omega), heap_setCell_other _ _ _ _ (by simp; omega), heap_setCell_other _ _ _ _ (by simp; omega)]))
      (ownsRow_keep h.row2 (fun g hg => by
        have := (h.row2.lt g hg).1
        rw [heap_setCell_other _ _ _ _ (by simp; omega), heap_setCell_other _ _ _ _ (by simp; omega), heap_setCell_other _ _ _ _ (by simp; omega), heap_setCell_other _ _ _ _ (by simp; omega)]))
    exact hn
  · exact (((h.upd.setCell (Or.inl (by simp; omega)) _).setCell (Or.inl (by simp; omega)) _).setCell (Or.inl (by simp; omega)) _).setCell (Or.inl (by simp; omega)) _
theorem dlCleared (h : DL H p T w W a b L E v1 v2 o) : SysAt H ((((W.setCell ⟨H, 0, none⟩ (ei 0)).setCell ⟨H, 1, none⟩ (ei 0)).setCell ⟨H, 2, none⟩ (.slice none 0 0)).setCell ⟨H, 3, none⟩ (.slice none 0 0)) 0 0 (.slice none 0 0) (.slice none 0 0) ∧
    Upd [] w ((((W.setCell ⟨H, 0, none⟩ (ei 0)).setCell ⟨H, 1, none⟩ (ei 0)).setCell ⟨H, 2, none⟩ (.slice none 0 0)).setCell ⟨H, 3, none⟩ (.slice none 0 0)) := by
  have hH := h.hw
  refine ⟨h.out.store 0 0 _ _, ?_⟩
  exact (((h.upd.setCell (Or.inl (by simp; omega)) _).setCell (Or.inl (by simp; omega)) _).setCell (Or.inl (by simp; omega)) _).setCell (Or.inl (by simp; omega)) _
end DL

end Go.Proofs.YtlogbiacnadcaaaGreatDoor

/-
  Images read back, plainly: the reader of a given number of bytes a number, and what it reads of an image.
-/
namespace Go.Proofs.YtlogbiacnadcaaaGreatDoor
open Go.RowKit

theorem rdN_num (z : Nat → Nat) : ∀ (k j n m t : Nat) (r : List UInt8) (b : Bool), m < 128 ^ (j + 1) → j < k → rdN z k n t (numL m ++ r) b = (n + m * t, r, b) := by
  intro k
  induction k with
  | zero => intro j n m t r b _ h; omega
  | succ k ih =>
    intro j n m t r b hm hj
    by_cases h : m < 128
    · rw [numL_small h, List.singleton_append, rdN]
      have h1 : (UInt8.ofNat m).toNat = m := UInt8.toNat_ofNat_of_lt' (by show m < 256; omega)
      rw [h1, if_pos h]
    · rw [numL_big h, List.cons_append, rdN]
      have h1 : (UInt8.ofNat (128 + m % 128)).toNat = 128 + m % 128 := UInt8.toNat_ofNat_of_lt' (by show 128 + m % 128 < 256; omega)
      rw [h1, if_neg (by omega)]
      obtain ⟨q, rfl⟩ : ∃ q, j = q + 1 := ⟨j - 1, by
        rcases Nat.eq_zero_or_pos j with h | h
        · subst h; simp at hm; omega
        · omega⟩
      rw [ih q _ _ _ _ _ (by rw [Nat.pow_succ] at hm; omega) (by omega)]
      congr 1
      have e1 : (128 + m % 128) % 128 = m % 128 := by omega
      have e2 : m = m % 128 + 128 * (m / 128) := by omega
      rw [e1]
      conv => rhs; rw [e2, Nat.add_mul]
      rw [Nat.mul_comm t 128, ← Nat.mul_assoc, Nat.mul_comm (m / 128) 128]; omega
theorem rN_num (K m : Nat) (r : List UInt8) (b : Bool) (hK : 2 < K) (hm : m < 2097152) : rN K (numL m ++ r) b = (m, r, b) := by
  unfold rN
  rw [rdN_num (zF K) K 2 0 m 1 r b (by omega) hK]; simp
theorem rT_text (K : Nat) (s r : List UInt8) (hK : 2 < K) (hs : s.length ≤ 100) : rT K (textL s ++ r) false = (s, r, false) := by
  unfold rT textL
  rw [List.append_assoc, rN_num K _ _ _ hK (by omega)]
  simp
theorem rE_edge (K : Nat) (e : Ed) (r : List UInt8) (hK : 2 < K) (h : (0 ≤ e.fr ∧ e.fr ≤ 2000000) ∧ (0 ≤ e.lb ∧ e.lb ≤ 2000000) ∧ (0 ≤ e.to ∧ e.to ≤ 2000000)) : rE K (edB e ++ r) false = (e, r, false) := by
  obtain ⟨a, b, c⟩ := e
  simp only at h
  unfold rE edB
  simp only [List.append_assoc]
  rw [rN_num K _ _ _ hK (by omega)]
  simp only
  rw [rN_num K _ _ _ hK (by omega)]
  simp only
  rw [rN_num K _ _ _ hK (by omega)]
  simp only [Prod.mk.injEq, Ed.mk.injEq, and_true]
  omega
theorem rLs_texts (K : Nat) (hK : 2 < K) : ∀ (ls L : List (List UInt8)) (r : List UInt8), (∀ s ∈ ls, s.length ≤ 100) → rLs K ls.length L (ls.flatMap textL ++ r) false = (L ++ ls, r, false)
  | [], L, r, _ => by simp [rLs]
  | s :: ls, L, r, h => by
    rw [List.length_cons, rLs, List.flatMap_cons, List.append_assoc, rT_text K s _ hK (h s (by simp))]
    simp only [Bool.false_eq_true, if_false]
    rw [rLs_texts K hK ls _ r (fun q hq => h q (by simp [hq]))]; simp
theorem rEs_edges (K : Nat) (hK : 2 < K) : ∀ (es L : List Ed) (r : List UInt8), (∀ e ∈ es, (0 ≤ e.fr ∧ e.fr ≤ 2000000) ∧ (0 ≤ e.lb ∧ e.lb ≤ 2000000) ∧ (0 ≤ e.to ∧ e.to ≤ 2000000)) → rEs K es.length L (es.flatMap edB ++ r) false = (L ++ es, r, false)
  | [], L, r, _ => by simp [rEs]
  | s :: ls, L, r, h => by
    rw [List.length_cons, rEs, List.flatMap_cons, List.append_assoc, rE_edge K s _ hK (h s (by simp))]
    simp only [Bool.false_eq_true, if_false]
    rw [rEs_edges K hK ls _ r (fun q hq => h q (by simp [hq]))]; simp

/-- the parts of a system that a reader reads in turn. -/
def rA (K : Nat) (c : List UInt8) := rN K c false
def rB (K : Nat) (c : List UInt8) := rN K (rA K c).2.1 (rA K c).2.2
def rC (K : Nat) (c : List UInt8) := rN K (rB K c).2.1 (rB K c).2.2
def rD (K : Nat) (c : List UInt8) := rLs K ((rC K c).1 - 1) [tauL] (rC K c).2.1 (rC K c).2.2
def rF (K : Nat) (c : List UInt8) := rN K (rD K c).2.1 (rD K c).2.2
def rG (K : Nat) (c : List UInt8) := rEs K (rF K c).1 [] (rF K c).2.1 (rF K c).2.2
/-- the system that a reader of K bytes a number reads. -/
def rdSys (K : Nat) (c : List UInt8) : Sys := ⟨(rA K c).1, (rB K c).1, (rD K c).1, (rG K c).1⟩
def rdBad (K : Nat) (c : List UInt8) : Bool := (rG K c).2.2

theorem rd_img (K : Nat) (hK : 2 < K) (x : Sys) (h : sysOk x = true) : rdSys K (sysB x) = x ∧ rdBad K (sysB x) = false := by
  obtain ⟨hst, hini, hln, hel, hls, hes⟩ := sys_parts h
  have h0 : x.labs.head? = some tauL := by
    unfold sysOk labsOk at h
    simp only [Bool.and_eq_true, decide_eq_true_eq] at h
    obtain ⟨⟨⟨-, ⟨h3, -⟩, h5⟩, -⟩, -⟩ := h
    have h6 := allF_get h5 0 (by omega) (by omega)
    rw [labP_at _ _ (by omega)] at h6
    simp only [Bool.and_eq_true, decide_true, beq_true] at h6
    rw [List.head?_eq_getElem?, List.getElem?_eq_getElem (by omega)]
    have := h6.1.2
    simp at this
    rw [this]
  obtain ⟨st, ini, labs, eds⟩ := x
  simp only at *
  obtain ⟨ls, rfl⟩ : ∃ ls, labs = tauL :: ls := by
    cases labs with
    | nil => simp at h0
    | cons a l => simp at h0; exact ⟨l, by rw [h0]⟩
  have hll : ls.length ≤ 11 := by simp at hln; omega
  have e2 : (fun e : Ed => (numL e.fr.toNat ++ numL e.lb.toNat) ++ numL e.to.toNat) = edB := rfl
  obtain ⟨c, hc⟩ : ∃ c, c = sysB ⟨st, ini, tauL :: ls, eds⟩ := ⟨_, rfl⟩
  have hc2 : c = numL st.toNat ++ (numL ini.toNat ++ (numL (ls.length + 1) ++ (ls.flatMap textL ++ (numL eds.length ++ (eds.flatMap edB ++ []))))) := by
    rw [hc]; unfold sysB
    rw [e2]
    simp only [List.length_cons, List.drop_succ_cons, List.drop_zero, List.append_assoc, List.append_nil]
  have A : rA K c = (st.toNat, numL ini.toNat ++ (numL (ls.length + 1) ++ (ls.flatMap textL ++ (numL eds.length ++ (eds.flatMap edB ++ [])))), false) := by
    unfold rA; rw [hc2]; exact rN_num K _ _ _ hK (by omega)
  have B : rB K c = (ini.toNat, numL (ls.length + 1) ++ (ls.flatMap textL ++ (numL eds.length ++ (eds.flatMap edB ++ []))), false) := by
    unfold rB; rw [A]; exact rN_num K _ _ _ hK (by omega)
  have C : rC K c = (ls.length + 1, ls.flatMap textL ++ (numL eds.length ++ (eds.flatMap edB ++ [])), false) := by
    unfold rC; rw [B]; exact rN_num K _ _ _ hK (by omega)
  have D : rD K c = (tauL :: ls, numL eds.length ++ (eds.flatMap edB ++ []), false) := by
    unfold rD; rw [C]
    simp only [Nat.add_sub_cancel]
    rw [rLs_texts K hK ls _ _ (fun s hs => hls s (by simp [hs]))]; rfl
  have F : rF K c = (eds.length, eds.flatMap edB ++ [], false) := by
    unfold rF; rw [D]; exact rN_num K _ _ _ hK (by omega)
  have G : rG K c = (eds, [], false) := by
    unfold rG; rw [F]
    simp only
    rw [rEs_edges K hK eds _ _ hes]; rfl
  rw [← hc]
  constructor
  · unfold rdSys
    rw [A, B, D, G]
    simp only [Sys.mk.injEq, and_true]
    omega
  · unfold rdBad; rw [G]

theorem mid_img {x : Sys} {s : List UInt8} (h : sysImg x = s) (h0 : 0 < s.length) : midL s = sysB x := by
  unfold sysImg sealL at h
  split at h
  · rw [← h] at h0; simp at h0
  · unfold midL
    rw [← h]
    simp only [List.length_append, List.length_cons, List.length_nil, Nat.add_sub_cancel, Nat.zero_add, Nat.reduceAdd]
    have e : (1 :: sysB x ++ [UInt8.ofNat (crcL (1 :: sysB x) 65535 / 256), UInt8.ofNat (crcL (1 :: sysB x) 65535 % 256)]).take ((sysB x).length + 1) = 1 :: sysB x :=
      List.take_left' (by simp)
    rw [e]; rfl

/-- the system that an image is of. -/
def imgSys (s : List UInt8) : Option Sys := if sysOk (rdSys 4 (midL s)) && (sysImg (rdSys 4 (midL s)) == s) then some (rdSys 4 (midL s)) else none
theorem imgSys_alt (s : List UInt8) (h0 : 0 < s.length) : imgSys s = if !rdBad 3 (midL s) && sysOk (rdSys 3 (midL s)) && (sysImg (rdSys 3 (midL s)) == s) then some (rdSys 3 (midL s)) else none := by
  unfold imgSys
  by_cases h1 : (sysOk (rdSys 4 (midL s)) && (sysImg (rdSys 4 (midL s)) == s)) = true
  · rw [if_pos h1]
    simp only [Bool.and_eq_true, beq_iff_eq] at h1
    obtain ⟨p, q⟩ := rd_img 3 (by omega) _ h1.1
    have hm := mid_img h1.2 h0
    generalize rdSys 4 (midL s) = x at *
    rw [hm, p, q, h1.1, h1.2]
    simp
  · rw [if_neg h1]
    split
    · next h2 =>
      exfalso
      apply h1
      simp only [Bool.and_eq_true, beq_iff_eq, Bool.not_eq_true'] at h2
      obtain ⟨p, q⟩ := rd_img 4 (by omega) _ h2.1.2
      have hm := mid_img h2.2 h0
      rw [(congrArg (rdSys 4) hm).trans p, h2.1.2, h2.2]
      simp
    · rfl


/-- what reading an image returns: a system and a code. -/
def decF (s : List UInt8) : Sys × Nat := if opF s ≠ 0 then (zeroSys, opF s) else match imgSys s with
  | some x => (x, 0)
  | none => (zeroSys, 9)
theorem decF_no {s : List UInt8} (h : opF s ≠ 0) : decF s = (zeroSys, opF s) := by unfold decF; rw [if_pos h]
theorem decF_some {s : List UInt8} {x : Sys} (h : opF s = 0) (hx : imgSys s = some x) : decF s = (x, 0) := by unfold decF; rw [if_neg (by simpa using h), hx]
theorem decF_none {s : List UInt8} (h : opF s = 0) (hx : imgSys s = none) : decF s = (zeroSys, 9) := by unfold decF; rw [if_neg (by simpa using h), hx]

theorem img_case {s : List UInt8} {X : Sys} (h0 : 0 < s.length) (h : imgSys s = if sysOk X && (sysImg X == s) then some X else none) :
    ((if sysOk X then sysImg X else []) = s ∧ imgSys s = some X) ∨ ((if sysOk X then sysImg X else []) ≠ s ∧ imgSys s = none) := by
  have hne : ([] : List UInt8) ≠ s := fun e => by rw [← e] at h0; simp at h0
  cases hok : sysOk X with
  | false => exact Or.inr ⟨by simpa using hne, by rw [h, hok]; simp⟩
  | true =>
    by_cases hs : sysImg X = s
    · exact Or.inl ⟨by simpa using hs, by rw [h, hok, hs]; simp⟩
    · exact Or.inr ⟨by simpa using hs, by rw [h, hok]; simp [hs]⟩

theorem img_caseS {s : List UInt8} {X : Sys} {bd : Bool} (h : imgSys s = if !bd && sysOk X && (sysImg X == s) then some X else none) :
    (bd = true ∧ imgSys s = none) ∨ (bd = false ∧ sysOk X = false ∧ imgSys s = none) ∨ (bd = false ∧ sysOk X = true ∧ sysImg X = s ∧ imgSys s = some X) ∨ (bd = false ∧ sysOk X = true ∧ sysImg X ≠ s ∧ imgSys s = none) := by
  cases bd with
  | true => exact Or.inl ⟨rfl, by rw [h]; simp⟩
  | false =>
    cases hok : sysOk X with
    | false => exact Or.inr (Or.inl ⟨rfl, rfl, by rw [h, hok]; simp⟩)
    | true =>
      by_cases hs : sysImg X = s
      · exact Or.inr (Or.inr (Or.inl ⟨rfl, rfl, hs, by rw [h, hok, hs]; simp⟩))
      · exact Or.inr (Or.inr (Or.inr ⟨rfl, rfl, hs, by rw [h, hok]; simp [hs]⟩))

end Go.Proofs.YtlogbiacnadcaaaGreatDoor

/-
  The kind of an image, and the reader of its contents: what both sides' calls return.
-/
namespace Go.Proofs.YtlogbiacnadcaaaGreatDoor
open Go.RowKit

theorem kindF_short {s : List UInt8} (h : s.length < 3) : kindF s = (0, 11) := by unfold kindF; rw [if_pos h]
theorem kindF_bad {s : List UInt8} (h : ¬ s.length < 3) (h1 : chkF s ≠ crcL (s.take (s.length - 2)) 65535) : kindF s = (0, 10) := by unfold kindF; rw [if_neg h, if_pos h1]
theorem kindF_form {s : List UInt8} (h : ¬ s.length < 3) (h1 : chkF s = crcL (s.take (s.length - 2)) 65535) (h2 : inB (k0F s : Int) 1 3 = false ∨ 6000 < s.length) : kindF s = (0, 9) := by
  unfold kindF; rw [if_neg h, if_neg (by simpa using h1), if_pos h2]
theorem kindF_ok {s : List UInt8} (h : ¬ s.length < 3) (h1 : chkF s = crcL (s.take (s.length - 2)) 65535) (h2 : inB (k0F s : Int) 1 3 = true) (h3 : ¬ 6000 < s.length) : kindF s = (k0F s, 0) := by
  unfold kindF; rw [if_neg h, if_neg (by simpa using h1), if_neg (by rw [h2]; simpa using h3)]
theorem at_byte {s : List UInt8} {i : Nat} (h : i < s.length) : ∃ hs, (⟨s.toArray⟩ : ByteArray)[i]'hs = s.getD i 0 := by
  refine ⟨by simpa [ByteArray.size] using h, ?_⟩
  simp [ByteArray.getElem_eq_getElem_data, List.getElem?_eq_getElem h]

set_option maxRecDepth 20000 in
set_option maxHeartbeats 4000000 in
theorem kindI (s : List UInt8) (w : World) (hs : s.length ≤ 2000000) : Calls Tryz.prog 88 #[es s] w fun e w' => e = .returned (.tuple #[.int .i64 (kindF s).1, .int .i64 (kindF s).2]) ∧ Upd [] w w' := by
  by_cases h3 : s.length < 3
  · have HK := Lib.hid (kindF_short h3)
    have h3' : (s.length : Int) < 3 := by omega
    go_enter Tryz.func88, Tryz.ntmps88
    go_wp2_with fail
    go_ret2
    exact ⟨by rw [HK.out]; rfl, Upd.refl _ _⟩
  · obtain ⟨M, hM⟩ : ∃ M : Nat, s.length = M + 2 := ⟨s.length - 2, by omega⟩
    have e1 : s.length - 2 = M := by omega
    have e2 : s.length - 1 = M + 1 := by omega
    have HKB := Lib.hid (kindF_bad h3)
    have HKF := Lib.hid (kindF_form h3)
    have HKO := Lib.hid (kindF_ok h3)
    have hch : chkF s = (s.getD M 0).toNat * 256 + (s.getD (M + 1) 0).toNat := by unfold chkF; rw [e1, e2]
    rw [e1] at HKB HKF HKO
    have hext := extract_list s 0 M
    rw [List.drop_zero, Nat.sub_zero] at hext
    obtain ⟨z0, b0⟩ := at_byte (s := s) (i := 0) (by omega)
    obtain ⟨z1, b1⟩ := at_byte (s := s) (i := M) (by omega)
    obtain ⟨z2, b2⟩ := at_byte (s := s) (i := M + 1) (by omega)
    have S1 := Lib.hid (fun W => crcI (s.take M) 65535 W (by simp; omega) (by omega))
    have S2 := Lib.hid (fun W : World => within (k0F s : Int) 1 3 W)
    have hk0 : (k0F s : Int) ≤ 255 := by unfold k0F; have := (s.getD 0 0).toNat_lt; omega
    have hcc : (chkF s : Int) ≤ 65535 := by rw [hch]; have := (s.getD M 0).toNat_lt; have := (s.getD (M + 1) 0).toNat_lt; omega
    have hchk : ((s.getD M 0).toNat : Int) * 256 + ((s.getD (M + 1) 0).toNat : Int) = (chkF s : Int) := by rw [hch]; omega
    have hkk : ((s.getD 0 0).toNat : Int) = (k0F s : Int) := rfl
    generalize (s.getD M 0) = x1 at *
    generalize (s.getD (M + 1) 0) = x2 at *
    generalize (s.getD 0 0) = x0 at *
    generalize s.take M = body at *
    generalize crcL body 65535 = c at *
    have hx1 : (x1.toNat : Int) ≤ 255 := by have := x1.toNat_lt; omega
    have hx2 : (x2.toNat : Int) ≤ 255 := by have := x2.toNat_lt; omega
    have hMl : M ≤ 2000000 := by omega
    have hMi : ¬ (M : Int) + 2 < 3 := by omega
    have hm1 : (M : Int) + 2 - 1 = (M : Int) + 1 := by omega
    have hm2 : 0 ≤ (M : Int) + 1 := by omega
    have hm4 : (M : Int) ≤ (M : Int) + 2 := by omega
    have hm3 : ((M : Int) + 1).toNat = M + 1 := by omega
    clear e1 e2 hch hs
    by_cases hc : chkF s = c
    · have hc1 : ((chkF s : Int) != (c : Int)) = false := by simp [hc]
      cases hin : inB (k0F s : Int) 1 3 with
      | false =>
        have HR := Lib.hid (HKF.out hc (Or.inl hin))
        rw [hin] at S2
        clear HKB HKF HKO hin hc
        go_enter Tryz.func88, Tryz.ntmps88
        go_wp2_with fail
        refine (S1.out _).mono ?_
        rintro e w1 ⟨rfl, rfl⟩
        clear S1
        go_wp2_with fail
        go_quiet (fail)
        go_wp2_with fail
        refine (S2.out _).mono ?_
        rintro e w1 ⟨rfl, rfl⟩
        clear S2
        go_wp2_with fail
        go_ret2
        exact ⟨by rw [HR.out]; rfl, (Upd.refl _ _).drewN _⟩
      | true =>
        by_cases hbig : 6000 < s.length
        · have HR := Lib.hid (HKF.out hc (Or.inr hbig))
          have hb2 : (6000 : Int) < (M : Int) + 2 := by omega
          rw [hin] at S2
          clear HKB HKF HKO hin hc hbig
          go_enter Tryz.func88, Tryz.ntmps88
          go_wp2_with fail
          refine (S1.out _).mono ?_
          rintro e w1 ⟨rfl, rfl⟩
          clear S1
          go_wp2_with fail
          go_quiet (fail)
          go_wp2_with fail
          refine (S2.out _).mono ?_
          rintro e w1 ⟨rfl, rfl⟩
          have hb3 : (6000 : Int) < (s.length : Int) := by omega
          clear S2 hMi hm1 hm2 hm3 hm4 hMl hext b0 b1 b2 hchk hkk hb2 hM
          go_wp2_with fail
          go_ret2
          exact ⟨by rw [HR.out]; rfl, (Upd.refl _ _).drewN _⟩
        · have HR := Lib.hid (HKO.out hc hin hbig)
          have hb2 : ¬ (6000 : Int) < (M : Int) + 2 := by omega
          rw [hin] at S2
          clear HKB HKF HKO hin hc hbig
          go_enter Tryz.func88, Tryz.ntmps88
          go_wp2_with fail
          refine (S1.out _).mono ?_
          rintro e w1 ⟨rfl, rfl⟩
          clear S1
          go_wp2_with fail
          go_quiet (fail)
          go_wp2_with fail
          refine (S2.out _).mono ?_
          rintro e w1 ⟨rfl, rfl⟩
          have hb3 : ¬ (6000 : Int) < (s.length : Int) := by omega
          clear S2 hMi hm1 hm2 hm3 hm4 hMl hext b0 b1 b2 hchk hkk hb2 hM
          go_wp2_with fail
          go_ret2
          exact ⟨by rw [HR.out]; rfl, (Upd.refl _ _).drewN _⟩
    · have hc1 : ((chkF s : Int) != (c : Int)) = true := by simp; omega
      have HR := Lib.hid (HKB.out hc)
      clear HKB HKF HKO S2
      go_enter Tryz.func88, Tryz.ntmps88
      go_wp2_with fail
      refine (S1.out _).mono ?_
      rintro e w1 ⟨rfl, rfl⟩
      clear S1
      go_wp2_with fail
      go_quiet (fail)
      go_wp2_with fail
      go_ret2
      exact ⟨by rw [HR.out]; rfl, (Upd.refl _ _).drewN _⟩

set_option maxRecDepth 20000 in
set_option maxHeartbeats 4000000 in
theorem kindS (s : List UInt8) (w : World) (hs : s.length ≤ 2000000) : Calls Tryz.prog 87 #[es s] w fun e w' => e = .returned (.tuple #[.int .i64 (kindF s).1, .int .i64 (kindF s).2]) ∧ Upd [] w w' := by
  by_cases h3 : s.length < 3
  · have HK := Lib.hid (kindF_short h3)
    have h3' : (s.length : Int) < 3 := by omega
    go_enter Tryz.func87, Tryz.ntmps87
    go_wp2_with fail
    go_ret2
    exact ⟨by rw [HK.out]; rfl, Upd.refl _ _⟩
  · obtain ⟨M, hM⟩ : ∃ M : Nat, s.length = M + 2 := ⟨s.length - 2, by omega⟩
    have e1 : s.length - 2 = M := by omega
    have e2 : s.length - 1 = M + 1 := by omega
    have HKB := Lib.hid (kindF_bad h3)
    have HKF := Lib.hid (kindF_form h3)
    have HKO := Lib.hid (kindF_ok h3)
    have hch : chkF s = (s.getD M 0).toNat * 256 + (s.getD (M + 1) 0).toNat := by unfold chkF; rw [e1, e2]
    rw [e1] at HKB HKF HKO
    have hext := extract_list s 0 M
    rw [List.drop_zero, Nat.sub_zero] at hext
    obtain ⟨z0, b0⟩ := at_byte (s := s) (i := 0) (by omega)
    obtain ⟨z1, b1⟩ := at_byte (s := s) (i := M) (by omega)
    obtain ⟨z2, b2⟩ := at_byte (s := s) (i := M + 1) (by omega)
    have S1 := Lib.hid (fun (W : World) (n : Nat) => (crcS (s.take M) 65535 (W.drewN n) (by simp; omega) (by omega)).mono (fun e w' h => (⟨h.1, n, h.2.symm⟩ : _ ∧ ∃ m, w' = W.drewN m)))
    have S2 := Lib.hid (fun W : World => l00In (k0F s : Int) 1 3 W)
    have hk0 : (k0F s : Int) ≤ 255 := by unfold k0F; have := (s.getD 0 0).toNat_lt; omega
    have hcc : (chkF s : Int) ≤ 65535 := by rw [hch]; have := (s.getD M 0).toNat_lt; have := (s.getD (M + 1) 0).toNat_lt; omega
    have hchk : ((s.getD M 0).toNat : Int) * 256 + ((s.getD (M + 1) 0).toNat : Int) = (chkF s : Int) := by rw [hch]; omega
    have hkk : ((s.getD 0 0).toNat : Int) = (k0F s : Int) := rfl
    generalize (s.getD M 0) = x1 at *
    generalize (s.getD (M + 1) 0) = x2 at *
    generalize (s.getD 0 0) = x0 at *
    generalize s.take M = body at *
    generalize crcL body 65535 = c at *
    have hx1 : (x1.toNat : Int) ≤ 255 := by have := x1.toNat_lt; omega
    have hx2 : (x2.toNat : Int) ≤ 255 := by have := x2.toNat_lt; omega
    have hMl : M ≤ 2000000 := by omega
    have hMi : ¬ (M : Int) + 2 < 3 := by omega
    have hm1 : (M : Int) + 2 - 1 = (M : Int) + 1 := by omega
    have hm2 : 0 ≤ (M : Int) + 1 := by omega
    have hm4 : (M : Int) ≤ (M : Int) + 2 := by omega
    have hm3 : ((M : Int) + 1).toNat = M + 1 := by omega
    clear e1 e2 hch hs
    by_cases hc : chkF s = c
    · have hc1 : ((c : Int) != (chkF s : Int)) = false := by simp [hc]
      cases hin : inB (k0F s : Int) 1 3 with
      | false =>
        have HR := Lib.hid (HKF.out hc (Or.inl hin))
        rw [hin] at S2
        clear HKB HKF HKO hin hc
        go_enter Tryz.func87, Tryz.ntmps87
        go_wp2_with fail
        go_quiet ((go_at_call 115; exact S1.out _ _))
        clear S1
        go_wp2_with fail
        refine (S2.out _).mono ?_
        rintro e w1 ⟨rfl, rfl⟩
        clear S2
        go_wp2_with fail
        go_ret2
        exact ⟨by rw [HR.out]; rfl, (Upd.refl _ _).drewN _⟩
      | true =>
        by_cases hbig : 6000 < s.length
        · have HR := Lib.hid (HKF.out hc (Or.inr hbig))
          have hb2 : (6000 : Int) < (M : Int) + 2 := by omega
          rw [hin] at S2
          clear HKB HKF HKO hin hc hbig
          go_enter Tryz.func87, Tryz.ntmps87
          go_wp2_with fail
          go_quiet ((go_at_call 115; exact S1.out _ _))
          clear S1
          go_wp2_with fail
          refine (S2.out _).mono ?_
          rintro e w1 ⟨rfl, rfl⟩
          obtain ⟨Z, hZ⟩ : ∃ Z : Int, (M : Int) + 2 = Z := ⟨_, rfl⟩
          rw [hZ]
          have hb3 : (6000 : Int) < Z := by omega
          clear hZ
          clear S2 hMi hm1 hm2 hm3 hm4 hMl hext b0 b1 b2 hchk hkk hb2 hM
          go_wp2_with fail
          go_ret2
          exact ⟨by rw [HR.out]; rfl, (Upd.refl _ _).drewN _⟩
        · have HR := Lib.hid (HKO.out hc hin hbig)
          have hb2 : ¬ (6000 : Int) < (M : Int) + 2 := by omega
          rw [hin] at S2
          clear HKB HKF HKO hin hc hbig
          go_enter Tryz.func87, Tryz.ntmps87
          go_wp2_with fail
          go_quiet ((go_at_call 115; exact S1.out _ _))
          clear S1
          go_wp2_with fail
          refine (S2.out _).mono ?_
          rintro e w1 ⟨rfl, rfl⟩
          obtain ⟨Z, hZ⟩ : ∃ Z : Int, (M : Int) + 2 = Z := ⟨_, rfl⟩
          rw [hZ]
          have hb3 : ¬ (6000 : Int) < Z := by omega
          clear hZ
          clear S2 hMi hm1 hm2 hm3 hm4 hMl hext b0 b1 b2 hchk hkk hb2 hM
          go_wp2_with fail
          go_ret2
          exact ⟨by rw [HR.out]; rfl, (Upd.refl _ _).drewN _⟩
    · have hc1 : ((c : Int) != (chkF s : Int)) = true := by simp; omega
      have HR := Lib.hid (HKB.out hc)
      clear HKB HKF HKO S2
      go_enter Tryz.func87, Tryz.ntmps87
      go_wp2_with fail
      go_quiet ((go_at_call 115; exact S1.out _ _))
      clear S1
      go_wp2_with fail
      go_ret2
      exact ⟨by rw [HR.out]; rfl, (Upd.refl _ _).drewN _⟩

theorem mid_ext {s : List UInt8} {M : Nat} (hM : s.length = M + 3) : (⟨s.toArray⟩ : ByteArray).extract 1 (M + 1) = ⟨(midL s).toArray⟩ := by
  rw [extract_list]
  unfold midL
  rw [hM, List.drop_take]
  simp

set_option maxRecDepth 20000 in
set_option maxHeartbeats 4000000 in
theorem contI (s : List UInt8) (w : World) (hs : s.length ≤ 2000000) : Calls Tryz.prog 46 #[es s, .int .i64 1] w fun e w' => Upd [] w w' ∧
    ((opF s ≠ 0 ∧ e = .returned (.tuple #[.pointer none, .int .i64 (opF s)])) ∨ (opF s = 0 ∧ ∃ p, w.heap.size ≤ p ∧ e = .returned (.tuple #[.pointer (some ⟨p, 0, none⟩), .int .i64 0]) ∧ w'.heap[p]? = some (.cells #[es (midL s), .bool false] 76 (0, 0)))) := by
  have S1 := Lib.hid (kindI s w hs)
  have HO := Lib.hid (show opF s = if (kindF s).2 ≠ 0 then (kindF s).2 else if (kindF s).1 ≠ 1 then 6 else 0 from rfl)
  obtain ⟨hk2, hk1⟩ := kind_code_le s
  have HL := Lib.hid (fun h => @opF_len s h)
  generalize opF s = o at *
  generalize (kindF s).1 = k1 at *
  generalize (kindF s).2 = k2 at *
  by_cases h2 : k2 = 0
  · subst h2
    have b2 : ((0 : Int) != 0) = false := by decide
    by_cases h1 : k1 = 1
    · subst h1
      have HO2 := Lib.hid (show o = 0 by rw [HO.out]; simp)
      have h3 := HL.out HO2.out
      obtain ⟨M, hM⟩ : ∃ M : Nat, s.length = M + 3 := ⟨s.length - 3, by omega⟩
      have hext := mid_ext hM
      have hm1 : (M : Int) + 3 - 2 = (M : Int) + 1 := by omega
      have hm2 : 0 ≤ (M : Int) + 1 := by omega
      have hm3 : ((M : Int) + 1).toNat = M + 1 := by omega
      have hMl : M ≤ 2000000 := by omega
      generalize midL s = R at *
      clear HO HL h3 hs hk1 hk2
      go_enter Tryz.func46, Tryz.ntmps46
      go_wp2_with fail
      refine S1.out.mono ?_
      rintro e w1 ⟨rfl, hu1⟩
      have HU := Lib.hid hu1
      have hsz := hu1.size
      clear S1 hu1
      go_wp2_with fail
      go_ret2
      exact ⟨HU.out.alloc _, Or.inr ⟨HO2.out, w1.heap.size, hsz, rfl, by simpa using heap_alloc_new w1 (.cells #[es R, .bool false] 76)⟩⟩
    · have HO2 := Lib.hid (show o = 6 by rw [HO.out]; simp [h1])
      have b1 : ((k1 : Int) != 1) = true := by simp; omega
      clear HO HL h1
      go_enter Tryz.func46, Tryz.ntmps46
      go_wp2_with fail
      refine S1.out.mono ?_
      rintro e w1 ⟨rfl, hu1⟩
      have HU := Lib.hid hu1
      clear S1 hu1
      go_wp2_with fail
      go_ret2
      exact ⟨HU.out, Or.inl ⟨by rw [HO2.out]; decide, by rw [HO2.out]; rfl⟩⟩
  · have HO2 := Lib.hid (show o = k2 by rw [HO.out, if_pos h2])
    have b2 : ((k2 : Int) != 0) = true := by simpa using h2
    have H2 := Lib.hid h2
    clear HO HL h2
    go_enter Tryz.func46, Tryz.ntmps46
    go_wp2_with fail
    refine S1.out.mono ?_
    rintro e w1 ⟨rfl, hu1⟩
    have HU := Lib.hid hu1
    clear S1 hu1
    go_wp2_with fail
    go_ret2
    exact ⟨HU.out, Or.inl ⟨by rw [HO2.out]; exact H2.out, by rw [HO2.out]; rfl⟩⟩

set_option maxRecDepth 20000 in
set_option maxHeartbeats 4000000 in
theorem contS (s : List UInt8) (w : World) (hs : s.length ≤ 2000000) : Calls Tryz.prog 43 #[es s, .int .i64 1] w fun e w' => Upd [] w w' ∧
    ((opF s ≠ 0 ∧ e = .returned (.tuple #[.pointer none, .int .i64 (opF s)])) ∨ (opF s = 0 ∧ ∃ p, w.heap.size ≤ p ∧ e = .returned (.tuple #[.pointer (some ⟨p, 0, none⟩), .int .i64 0]) ∧ w'.heap[p]? = some (.cells #[es (midL s), .int .i64 0, .bool false] 71 (0, 0)))) := by
  have S1 := Lib.hid (kindS s w hs)
  have HO := Lib.hid (show opF s = if (kindF s).2 ≠ 0 then (kindF s).2 else if (kindF s).1 ≠ 1 then 6 else 0 from rfl)
  obtain ⟨hk2, hk1⟩ := kind_code_le s
  have HL := Lib.hid (fun h => @opF_len s h)
  generalize opF s = o at *
  generalize (kindF s).1 = k1 at *
  generalize (kindF s).2 = k2 at *
  by_cases h2 : k2 = 0
  · subst h2
    have b2 : ((0 : Int) != 0) = false := by decide
    by_cases h1 : k1 = 1
    · subst h1
      have HO2 := Lib.hid (show o = 0 by rw [HO.out]; simp)
      have h3 := HL.out HO2.out
      obtain ⟨M, hM⟩ : ∃ M : Nat, s.length = M + 3 := ⟨s.length - 3, by omega⟩
      have hext := mid_ext hM
      have hm1 : (M : Int) + 3 - 2 = (M : Int) + 1 := by omega
      have hm2 : 0 ≤ (M : Int) + 1 := by omega
      have hm3 : ((M : Int) + 1).toNat = M + 1 := by omega
      have hMl : M ≤ 2000000 := by omega
      generalize midL s = R at *
      clear HO HL h3 hs hk1 hk2
      go_enter Tryz.func43, Tryz.ntmps43
      go_wp2_with fail
      refine S1.out.mono ?_
      rintro e w1 ⟨rfl, hu1⟩
      have HU := Lib.hid hu1
      have hsz := hu1.size
      clear S1 hu1
      go_wp2_with fail
      go_ret2
      exact ⟨HU.out.alloc _, Or.inr ⟨HO2.out, w1.heap.size, hsz, rfl, by simpa using heap_alloc_new w1 (.cells #[es R, .int .i64 0, .bool false] 71)⟩⟩
    · have HO2 := Lib.hid (show o = 6 by rw [HO.out]; simp [h1])
      have b1 : ((k1 : Int) != 1) = true := by simp; omega
      clear HO HL h1
      go_enter Tryz.func43, Tryz.ntmps43
      go_wp2_with fail
      refine S1.out.mono ?_
      rintro e w1 ⟨rfl, hu1⟩
      have HU := Lib.hid hu1
      clear S1 hu1
      go_wp2_with fail
      go_ret2
      exact ⟨HU.out, Or.inl ⟨by rw [HO2.out]; decide, by rw [HO2.out]; rfl⟩⟩
  · have HO2 := Lib.hid (show o = k2 by rw [HO.out, if_pos h2])
    have b2 : ((k2 : Int) != 0) = true := by simpa using h2
    have H2 := Lib.hid h2
    clear HO HL h2
    go_enter Tryz.func43, Tryz.ntmps43
    go_wp2_with fail
    refine S1.out.mono ?_
    rintro e w1 ⟨rfl, hu1⟩
    have HU := Lib.hid hu1
    clear S1 hu1
    go_wp2_with fail
    go_ret2
    exact ⟨HU.out, Or.inl ⟨by rw [HO2.out]; exact H2.out, by rw [HO2.out]; rfl⟩⟩

end Go.Proofs.YtlogbiacnadcaaaGreatDoor
