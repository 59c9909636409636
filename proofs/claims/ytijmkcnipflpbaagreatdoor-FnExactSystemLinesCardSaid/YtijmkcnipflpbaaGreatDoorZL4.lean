/-
  Texts joined in one file: SyM, HarnPa2, HarnDe2, HarnCo2, HarnMe2, HarnSy, SyV, DfZ, DfDt, SyJ, DfS, DfSc, DfU, DfW.
-/
import Derived.Test.YtijmkcnipflpbaaGreatDoorZL1
import Derived.Test.YtijmkcnipflpbaaGreatDoorZL2
import Derived.Test.YtijmkcnipflpbaaGreatDoorZL3
import Derived.Deep.DeepCutAuto
import Derived.Deep.RegionHeld3
/-
  Meetings: what the program's check returns.
-/
namespace Go.Proofs.YtijmkcnipflpbaaGreatDoor
open Go.RowKit

set_option maxRecDepth 20000 in
set_option maxHeartbeats 16000000 in
theorem meetingsOkI (v : Value) (l : List Me) (w : World) (fp : List Nat) (hR : R_Me1 fp w [v] l) (hl : l.length ≤ 2000000) (ht : ∀ m ∈ l, m.left.length ≤ 2000000 ∧ m.right.length ≤ 2000000 ∧ m.result.length ≤ 2000000) :
    Calls Tryz.prog 71 #[v] w fun e w' => e = .returned (.bool (meetsF l)) ∧ Upd [] w w' := by
  have hR' := hR
  obtain ⟨a, cap, rfl, g1, g2, hc⟩ := slQ_open hR
  unfold maxLen at g2
  have HC := Lib.hid hc
  have HRD := Lib.hid (fun W (hu : Upd [] w W) => R_Me1k.upd hR' hu (by simp))
  have HT := Lib.hid ht
  have HNO := Lib.hid (fun k (hk : k < l.length) (h : goodM l k l[k] = false) => meetsF_no hk h)
  have HYE := Lib.hid (fun (h : ∀ j (hj : j < l.length), goodM l j l[j] = true) => meetsF_yes h)
  clear hR hR' hc ht
  generalize hZ : meetsF l = Z at *
  clear hZ
  go_enter Tryz.func71, Tryz.ntmps71
  go_wp2_with fail
  go_loopw [7] (fun iv wr => ∃ k : Nat, k ≤ l.length ∧ iv = .int .i64 k ∧ Hid (Upd [] w wr) ∧ Hid (∀ j (_ : j < k) (hj : j < l.length), goodM l j l[j] = true)) (fun iv _ => l.length - (intOf iv).toNat)
  case atStart => exact ⟨0, Nat.zero_le _, rfl, Lib.hid (Upd.refl _ _), Lib.hid (fun j hj => absurd hj (Nat.not_lt_zero _))⟩
  case round =>
    obtain ⟨wo, rfl⟩ : ∃ wo : World, wo = wr := ⟨_, rfl⟩
    obtain ⟨k, hk, rfl, HU, HG⟩ := hrel
    by_cases hlt : k < l.length
    · obtain ⟨bb, off, u, f', rfl, -, -, -, hcell, -, hr⟩ := HC.out k hlt
      obtain ⟨rfl, rfl⟩ := hr
      have s0 := HU.out.keep (hcell 0 _ rfl)
      have s1 := HU.out.keep (hcell 1 _ rfl)
      have s2 := HU.out.keep (hcell 2 _ rfl)
      simp only [Nat.add_zero] at s0
      have htk := HT.out l[k] (List.getElem_mem hlt)
      have HNK := Lib.hid (HNO.out k hlt)
      have HGK := Lib.hid (fun (h : goodM l k l[k] = true) j (hjk : j < k + 1) (hj : j < l.length) => (show goodM l j l[j] = true by
        by_cases e : j = k
        · subst e; exact h
        · exact HG.out j (by omega) hj))
      have HGD := Lib.hid (show goodM l k l[k] = ((actF l[k].left && actF l[k].right && actF l[k].result && !bl l[k].right l[k].left) && (decide (k = 0) || lessM (l.getD (k - 1) ⟨[], [], []⟩) l[k]) && l.all (fun o => !(o.left == l[k].result || o.right == l[k].result))) from rfl)
      have HPV := Lib.hid (fun i (hi : k = i + 1) => show ∃ pm : Me, l.getD (k - 1) ⟨[], [], []⟩ = pm ∧ wo.cell? ⟨bb, off + i * 3, none⟩ = some (es pm.left) ∧ wo.cell? ⟨bb, off + i * 3 + 1, none⟩ = some (es pm.right) ∧ wo.cell? ⟨bb, off + i * 3 + 2, none⟩ = some (es pm.result) from by
        subst hi
        have hil : i < l.length := by omega
        obtain ⟨b', o', u', f'', he, -, -, -, hc', -, hr'⟩ := HC.out i hil
        simp only [Option.some.injEq, Addr.mk.injEq, and_true] at he
        obtain ⟨rfl, rfl⟩ := he
        obtain ⟨rfl, rfl⟩ := hr'
        refine ⟨l[i], ?_, HU.out.keep (by simpa using hc' 0 _ rfl), HU.out.keep (hc' 1 _ rfl), HU.out.keep (hc' 2 _ rfl)⟩
        rw [Nat.add_sub_cancel, List.getD_eq_getElem?_getD, List.getElem?_eq_getElem hil]; rfl)
      have HAN := Lib.hid (show l.all (fun o => !(o.left == l[k].result || o.right == l[k].result)) = !(l.any fun o => (o.left == l[k].result || o.right == l[k].result)) by
        rw [List.all_eq_not_any_not]; simp)
      have hkl : (k : Int) < (l.length : Int) := by omega
      clear hcell HG
      generalize goodM l k l[k] = gz at *
      generalize l[k] = m at *
      obtain ⟨wP, hwP⟩ : ∃ q, q = wo.alloc (.cells #[es m.left, es m.right, es m.result] 82) := ⟨_, rfl⟩
      obtain ⟨BP, hBP⟩ : ∃ q, q = wo.heap.size := ⟨_, rfl⟩
      have uP : Upd [] wo wP := by rw [hwP]; exact (Upd.refl _ _).alloc _
      have x0 : wP.cell? ⟨BP, 0, none⟩ = some (es m.left) := by rw [hwP, hBP]; exact cell_new wo _ _ _ rfl 0 _ rfl
      have x1 : wP.cell? ⟨BP, 1, none⟩ = some (es m.right) := by rw [hwP, hBP]; exact cell_new wo _ _ _ rfl 1 _ rfl
      have x2 : wP.cell? ⟨BP, 2, none⟩ = some (es m.result) := by rw [hwP, hBP]; exact cell_new wo _ _ _ rfl 2 _ rfl
      have UP := Lib.hid uP
      have SQ0 := Lib.hid (fun n => Calls.quiet_of_same (n := n) ((isActionI m.left (wP.drewN n) htk.1).mono (fun e w' h => ⟨h.1, h.2.symm⟩)))
      have SQ1 := Lib.hid (fun n => Calls.quiet_of_same (n := n) ((isActionI m.right (wP.drewN n) htk.2.1).mono (fun e w' h => ⟨h.1, h.2.symm⟩)))
      have SQ2 := Lib.hid (fun n => Calls.quiet_of_same (n := n) ((isActionI m.result (wP.drewN n) htk.2.2).mono (fun e w' h => ⟨h.1, h.2.symm⟩)))
      have SA0 := Lib.hid (fun W => isActionI m.left W htk.1)
      have SA1 := Lib.hid (fun W => isActionI m.right W htk.2.1)
      have SA2 := Lib.hid (fun W => isActionI m.result W htk.2.2)
      have SC := Lib.hid (fun W (hu : Upd [] wP W) => show Calls Tryz.prog 99 #[.slice (some ⟨bb, off, none⟩) l.length cap, .func (.func 100) #[] #[.pointer (some ⟨BP, 0, none⟩)]] W (fun e w' => e = .returned (.bool (l.any fun o => (o.left == m.result || o.right == m.result))) ∧ Upd [] W w') from
        conFuncMe (fun o => o.left == m.result || o.right == m.result) 100 #[.pointer (some ⟨BP, 0, none⟩)] _ l W fp (HRD.out W (HU.out.trans (UP.out.trans hu))) enter_meets1 (fun wr us g s _ hu2 hs => by
          obtain ⟨rfl, -⟩ := hs
          exact meets1I s m.result BP wr (hu2.keep (hu.keep x2))))
      rw [HAN.out] at HGD
      generalize (l.any fun o => (o.left == m.result || o.right == m.result)) = qn at *
      obtain ⟨A0, hA0⟩ : ∃ q, actF m.left = q := ⟨_, rfl⟩
      obtain ⟨A1, hA1⟩ : ∃ q, actF m.right = q := ⟨_, rfl⟩
      obtain ⟨A2, hA2⟩ : ∃ q, actF m.result = q := ⟨_, rfl⟩
      obtain ⟨gg, hgg⟩ : ∃ q, bl m.right m.left = q := ⟨_, rfl⟩
      have hgt : (Op.bytesLess m.left m.right || m.left == m.right) = !gg := by rw [← hgg]; exact bl_total m.left m.right
      rw [hA0, hA1, hA2, hgg] at HGD
      rw [hA0] at SQ0 SA0
      rw [hA1] at SQ1 SA1
      rw [hA2] at SQ2 SA2
      have HPM := Lib.hid (fun (pm : Me) (h : l.getD (k - 1) ⟨[], [], []⟩ = pm) => show decide (0 ≤ cmpM pm m) = !lessM (l.getD (k - 1) ⟨[], [], []⟩) m by rw [h]; exact cmpM_less pm m)
      generalize lessM (l.getD (k - 1) ⟨[], [], []⟩) m = lz at *
      have hent := enter_meets1
      clear uP htk hA0 hA1 hA2 hgg HAN
      go_upto_region 4 with (fail)
      rw [← hwP, ← hBP]
      clear hwP hBP s0 s1 s2
      cases A0 with
      | false =>
        have HZ := Lib.hid (HNK.out (by rw [HGD.out]; rfl))
        clear HNK HGK HGD SC HPV
        go_quiet ((go_at_call 97; with_reducible exact SQ0.out _))
        have HU9 := Lib.hid (HU.out.trans (UP.out.drewN nq))
        go_wp2_with fail
        go_ret
        exact ⟨by rw [HZ.out]; rfl, HU9.out⟩
      | true =>
        cases A1 with
        | false =>
          have HZ := Lib.hid (HNK.out (by rw [HGD.out]; rfl))
          clear HNK HGK HGD SC HPV
          go_quiet ((go_at_call 97; first | (with_reducible exact SQ0.out _) | (with_reducible exact SQ1.out _)))
          have HU9 := Lib.hid (HU.out.trans (UP.out.drewN nq))
          go_wp2_with fail
          go_ret
          exact ⟨by rw [HZ.out]; rfl, HU9.out⟩
        | true =>
          cases A2 with
          | false =>
            have HZ := Lib.hid (HNK.out (by rw [HGD.out]; rfl))
            clear HNK HGK HGD SC HPV
            go_quiet ((go_at_call 97; first | (with_reducible exact SQ0.out _) | (with_reducible exact SQ1.out _) | (with_reducible exact SQ2.out _)))
            have HU9 := Lib.hid (HU.out.trans (UP.out.drewN nq))
            go_wp2_with fail
            go_ret
            exact ⟨by rw [HZ.out]; rfl, HU9.out⟩
          | true =>
            cases gg with
            | true =>
              have HZ := Lib.hid (HNK.out (by rw [HGD.out]; rfl))
              simp only [Bool.not_true] at hgt
              clear HNK HGK HGD SC HPV
              go_quiet ((go_at_call 97; first | (with_reducible exact SQ0.out _) | (with_reducible exact SQ1.out _) | (with_reducible exact SQ2.out _)))
              have HU9 := Lib.hid (HU.out.trans (UP.out.drewN nq))
              go_wp2_with fail
              go_ret
              exact ⟨by rw [HZ.out]; rfl, HU9.out⟩
            | false =>
              simp only [Bool.not_false] at hgt
              by_cases hk0 : k = 0
              · subst hk0
                have hki : ¬ (0 : Int) < ((0 : Nat) : Int) := by omega
                go_quiet ((go_at_call 97; first | (with_reducible exact SQ0.out _) | (with_reducible exact SQ1.out _) | (with_reducible exact SQ2.out _)))
                have TT := Lib.hid (SC.out (wP.drewN nq) ((Upd.refl [] wP).drewN nq))
                clear SC
                go_wp2_with fail
                refine TT.out.mono ?_
                rintro e w9 ⟨rfl, hu9⟩
                have HU9 := Lib.hid (HU.out.trans (UP.out.trans (((Upd.refl [] wP).drewN nq).trans hu9)))
                clear TT hu9 x0 x1 x2
                cases qn with
                | true =>
                  have HZ := Lib.hid (HNK.out (by rw [HGD.out]; simp))
                  clear HNK HGK HGD
                  go_wp2_with fail
                  go_ret
                  exact ⟨by rw [HZ.out]; rfl, HU9.out⟩
                | false =>
                  have HG2 := Lib.hid (HGK.out (by rw [HGD.out]; simp))
                  clear HNK HGK HGD
                  go_wp2_with fail
                  go_roundw
                  case rel => exact ⟨0 + 1, by omega, by go_num, HU9, HG2⟩
                  case measure => simp [intOf]; omega
              · obtain ⟨i, rfl⟩ : ∃ i, k = i + 1 := ⟨k - 1, by omega⟩
                obtain ⟨pm, hpm, r0, r1, r2⟩ := HPV.out i rfl
                have y0' := UP.out.keep r0
                have y1' := UP.out.keep r1
                have y2' := UP.out.keep r2
                have TC := Lib.hid (fun W => compareMeetingsI pm m W)
                have HLZ := HPM.out pm hpm
                have HLZ := Lib.hid HLZ
                obtain ⟨zc0, zc1⟩ := cmpM_bd pm m
                have hi0 : (0 : Int) ≤ (i : Int) := by omega
                have hi1 : (i : Int) < (l.length : Int) := by omega
                have hw1 : IntKind.i64.wrap (((i : Int) + 1) - 1) = (i : Int) := by rw [IntKind.wrap_i64]; omega
                have hw2 : IntKind.i64.wrap (i : Int) = (i : Int) := by rw [IntKind.wrap_i64]; omega
                have hp0 : (0 : Int) < (i : Int) + 1 := by omega
                clear HPV HPM r0 r1 r2 hpm
                generalize cmpM pm m = zc at *
                go_region_held3 (fun w' => w'.cell? ⟨BP, 0, none⟩ = some (es m.left) ∧ w'.cell? ⟨BP, 1, none⟩ = some (es m.right) ∧ w'.cell? ⟨BP, 2, none⟩ = some (es m.result) ∧ w'.cell? ⟨bb, off + i * 3, none⟩ = some (es pm.left) ∧ w'.cell? ⟨bb, off + i * 3 + 1, none⟩ = some (es pm.right) ∧ w'.cell? ⟨bb, off + i * 3 + 2, none⟩ = some (es pm.result)) (go_keep)
                  (first
                    | (go_at_call 97; (first | (with_reducible refine (SA0.out _).mono ?_) | (with_reducible refine (SA1.out _).mono ?_) | (with_reducible refine (SA2.out _).mono ?_)); rintro e wq ⟨rfl, rfl⟩)
                    | (go_at_call 98; (with_reducible refine (TC.out _).mono ?_); rintro e w5 ⟨rfl, hu5⟩; have k0 := hu5.keep x0; have k1 := hu5.keep x1; have k2 := hu5.keep x2; have k3 := hu5.keep y0'; have k4 := hu5.keep y1'; have k5 := hu5.keep y2'))
                all_goals
                  try rw [show decide (0 ≤ zc) = !lz from HLZ.out]
                  have hu6 := (Upd.refl [] wP).drew.trans hu5
                  clear k0 k1 k2 k3 k4 k5 y0' y1' y2' TC SA0 SA1 SA2 SQ0 SQ1 SQ2 HLZ hu5
                  cases lz with
                  | false =>
                    have HZ := Lib.hid (HNK.out (by rw [HGD.out]; simp))
                    have HU9 := Lib.hid (HU.out.trans (UP.out.trans hu6))
                    clear HNK HGK HGD SC
                    go_wp2_with fail
                    go_ret
                    exact ⟨by rw [HZ.out]; rfl, HU9.out⟩
                  | true =>
                    have TT := Lib.hid (SC.out w5 hu6)
                    clear SC
                    go_wp2_with fail
                    refine TT.out.mono ?_
                    rintro e w9 ⟨rfl, hu9⟩
                    have HU9 := Lib.hid (HU.out.trans (UP.out.trans ((hu6).trans hu9)))
                    clear TT hu9 x0 x1 x2 hu6
                    cases qn with
                    | true =>
                      have HZ := Lib.hid (HNK.out (by rw [HGD.out]; simp))
                      clear HNK HGK HGD
                      go_wp2_with fail
                      go_ret
                      exact ⟨by rw [HZ.out]; rfl, HU9.out⟩
                    | false =>
                      have HG2 := Lib.hid (HGK.out (by rw [HGD.out]; simp))
                      clear HNK HGK HGD
                      go_wp2_with fail
                      go_roundw
                      case rel => exact ⟨(i + 1) + 1, by omega, by go_num, HU9, HG2⟩
                      case measure => simp [intOf]; omega
    · have hkk : ¬ (k : Int) < (l.length : Int) := by omega
      have HZ := Lib.hid (HYE.out (fun j hj => HG.out j (by omega) hj))
      obtain ⟨qs, hqs⟩ : ∃ q, decide (l.length ≤ 6) = q := ⟨_, rfl⟩
      have hqi : decide ((l.length : Int) ≤ 6) = qs := by rw [← hqs]; congr 1; rw [eq_iff_iff]; omega
      rw [hqs] at HZ
      clear HG HNO HYE hqs
      go_wp2_with fail
      go_ret
      exact ⟨by rw [HZ.out]; first | rfl | (rw [← hqi]; rfl), HU.out⟩

end Go.Proofs.YtijmkcnipflpbaaGreatDoor

/-
  Bodies, marked: readings, and what the laws' helper functions return and make.
-/
namespace Go.Proofs.YtijmkcnipflpbaaGreatDoor
open Go.RowKit


set_option maxRecDepth 20000 in
set_option maxHeartbeats 4000000 in
theorem mark_Pa1 (v : Value) (xs : List Pa) (k0 : Int) (w : World) (fp : List Nat) (hk0 : 0 ≤ k0) (hk1 : k0 + mkF_Pa1 xs ≤ 4611686018427387904) (hR : R_Pa1 fp w [v] xs) (hO : Own fp w) :
    Calls Tryz.prog 56 #[v, .int .i64 k0] w fun e w' => e = .returned (.int .i64 (k0 + mkF_Pa1 xs)) ∧ R_Pa1 fp w' [v] (mkd_Pa1 k0 xs) ∧ Own fp w' ∧ Upd fp w w' := by
  obtain ⟨a, cap, rfl, h1, h2, -⟩ := slQ_open hR
  unfold maxLen at h2
  go_enter Tryz.func56, Tryz.ntmps56
  go_wp2_with fail
  go_loopw [1, 5] (fun kk i wr => ∃ (k : Nat) (q : Int), k ≤ xs.length ∧ i = .int .i64 k ∧ kk = .int .i64 q ∧ Hid (q = k0 + mkF_Pa1 (xs.take k)) ∧ Hid (Upd fp w wr) ∧ Hid (Own fp wr) ∧
      Hid (R_Pa1 fp wr [.slice a xs.length cap] (mkd_Pa1 k0 (xs.take k) ++ xs.drop k)))
    (fun _ i _ => xs.length - (intOf i).toNat)
  case atStart => exact ⟨0, k0, Nat.zero_le _, rfl, rfl, Lib.hid (by simp [mkF_Pa1]), Lib.hid (Upd.refl _ _), Lib.hid hO, Lib.hid (by simpa [mkd_Pa1] using hR)⟩
  case round =>
    clear hO hR
    obtain ⟨wo, rfl⟩ : ∃ wo : World, wo = wr := ⟨_, rfl⟩
    obtain ⟨k, q, hk, rfl, rfl, HQ, HU, HO, HF⟩ := hrel
    by_cases hlt : k < xs.length
    · obtain ⟨a', cap', b, off, u, f, hv, -, -, rfl, hb, hbl, hul, hcell, hsub, hbf, hr, hof, hob, hput⟩ := slQ_set R_Pak HF.out HO.out k (by simp; omega)
      simp only [Value.slice.injEq] at hv
      obtain ⟨rfl, -, rfl⟩ := hv
      have e : (mkd_Pa1 k0 (xs.take k) ++ xs.drop k)[k]'(by simp; omega) = xs[k] := by
        rw [List.getElem_append_right (by simp; omega)]; simp [Nat.min_eq_left hk]
      rw [e] at hr
      have hq0 : 0 ≤ q := by have := mkF_Pa1_nonneg (xs.take k); have := HQ.out; omega
      have hq1 : q + mkF_Pa xs[k] ≤ 4611686018427387904 := by
        have ht2 := mkF_Pa1_snoc xs k hlt
        have ht3 := mkF_Pa1_take xs (k + 1)
        have := HQ.out
        omega
      have HT := Lib.hid (mkF_Pa1_snoc xs k hlt)
      have HP := Lib.hid hput
      have HST := Lib.hid (mkd_Pa1_set xs k0 k hlt)
      rw [← HQ.out] at HST
      clear hput e HO
      generalize xs[k] = x at *
      have HMX := Lib.hid (show mkF_Pa x = 1 + 1 + 1 + mkF_T2 x.args from rfl)
      unfold mkF_Pa at hq1
      obtain ⟨v3, f3, rfl, h3, rfl⟩ := hr
      have hn3 := mkF_T2_nonneg x.args
      have o3 : Own f3 wo := by simpa using hof
      have p0 := hcell 0 _ rfl
      have p1 := hcell 1 _ rfl
      have p2 := hcell 2 _ rfl
      have p3 := hcell 3 _ rfl
      simp only [Nat.add_zero] at p0
      have nb3 : b ∉ f3 := fun h => hbf (by simp [h])
      have HB := Lib.hid (And.intro hsub (And.intro hbf hob))
      have hB := hob
      have UA := Lib.hid (Upd.refl (b :: (f3 ++ [])) wo)
      have FAR := Lib.hid (FarEq.refl wo b (off + k * 4) (off + k * 4 + 4))
      have hbz := hbl
      clear hcell hsub hob hof
      have fz := hB.frozen (b := b) (by simp) (off + k * 4)
      obtain ⟨nx0, htx⟩ : ∃ nx, nx = q := ⟨_, rfl⟩
      have HTX0 := Lib.hid htx
      obtain ⟨W0, hW0⟩ : ∃ W0, W0 = wo.setCell ⟨b, off + k * 4, none⟩ (ei nx0) := ⟨_, rfl⟩
      have hu2 : Upd [b] wo W0 := by rw [hW0]; exact (Upd.refl _ _).setCell (Or.inr (by simp)) _
      have hc2 : W0.cell? ⟨b, off + k * 4, none⟩ = some (ei nx0) := by rw [hW0]; exact World.cell?_setCell_same _ _ _ p0
      have hc3 : ∀ o, o ≠ off + k * 4 → W0.cell? ⟨b, o, none⟩ = wo.cell? ⟨b, o, none⟩ := fun o ho => by rw [hW0]; exact World.cell?_setCell_other _ _ _ _ (by intro h; simp only [Addr.mk.injEq] at h; omega)
      have hB2 : Own [b] W0 := by rw [hW0]; exact hB.setCell _ _
      rw [htx] at hW0
      clear htx
      go_upto_region 5 with (fail)
      rw [← hW0]
      clear fz hB
      replace h3 := R_T2k.upd h3 hu2 (by intro c hc h; simp at h; subst h; exact nb3 hc)
      replace o3 := o3.upd hu2 (by intro c hc h; simp at h; subst h; exact nb3 hc)
      replace p1 := (hc3 _ (by omega)).trans p1
      replace p2 := (hc3 _ (by omega)).trans p2
      replace p3 := (hc3 _ (by omega)).trans p3
      replace p0 := hc2
      have hB := hB2
      replace FAR := Lib.hid (FAR.out.put hc3 (by omega))
      replace hbz := Nat.lt_of_lt_of_le hbz hu2.size
      replace UA := Lib.hid (UA.out.trans (hu2.mono (by intro c hc; simp at hc; simp [hc])))
      clear hu2 hc2 hc3 hB2 hW0
      have fz := hB.frozen (b := b) (by simp) (off + k * 4 + 1)
      obtain ⟨nx1, htx⟩ : ∃ nx, nx = q + 1 := ⟨_, rfl⟩
      have HTX1 := Lib.hid htx
      obtain ⟨W1, hW1⟩ : ∃ W1, W1 = W0.setCell ⟨b, off + k * 4 + 1, none⟩ (ei nx1) := ⟨_, rfl⟩
      have hu2 : Upd [b] W0 W1 := by rw [hW1]; exact (Upd.refl _ _).setCell (Or.inr (by simp)) _
      have hc2 : W1.cell? ⟨b, off + k * 4 + 1, none⟩ = some (ei nx1) := by rw [hW1]; exact World.cell?_setCell_same _ _ _ p1
      have hc3 : ∀ o, o ≠ off + k * 4 + 1 → W1.cell? ⟨b, o, none⟩ = W0.cell? ⟨b, o, none⟩ := fun o ho => by rw [hW1]; exact World.cell?_setCell_other _ _ _ _ (by intro h; simp only [Addr.mk.injEq] at h; omega)
      have hB2 : Own [b] W1 := by rw [hW1]; exact hB.setCell _ _
      rw [htx] at hW1
      clear htx
      go_upto_region 7 with (fail)
      rw [← hW1]
      clear fz hB
      replace h3 := R_T2k.upd h3 hu2 (by intro c hc h; simp at h; subst h; exact nb3 hc)
      replace o3 := o3.upd hu2 (by intro c hc h; simp at h; subst h; exact nb3 hc)
      replace p0 := (hc3 _ (by omega)).trans p0
      replace p2 := (hc3 _ (by omega)).trans p2
      replace p3 := (hc3 _ (by omega)).trans p3
      replace p1 := hc2
      have hB := hB2
      replace FAR := Lib.hid (FAR.out.put hc3 (by omega))
      replace hbz := Nat.lt_of_lt_of_le hbz hu2.size
      replace UA := Lib.hid (UA.out.trans (hu2.mono (by intro c hc; simp at hc; simp [hc])))
      clear hu2 hc2 hc3 hB2 hW1
      have M2 := Lib.hid (markText (q + 1 + 1) W1 (by omega) (by omega))
      have fz := hB.frozen (b := b) (by simp) (off + k * 4 + 2)
      go_wp2_with fail
      refine M2.out.mono ?_
      rintro e w2 ⟨rfl, hu⟩
      clear M2 fz
      replace h3 := R_T2k.upd h3 hu (by simp)
      replace o3 := o3.upd hu (by simp)
      replace p0 := hu.keep p0
      replace p1 := hu.keep p1
      replace p2 := hu.keep p2
      replace p3 := hu.keep p3
      replace hB := hB.upd hu (by simp)
      replace FAR := Lib.hid (FAR.out.upd hu (by simp) hbz)
      replace hbz := Nat.lt_of_lt_of_le hbz hu.size
      replace UA := Lib.hid (UA.out.trans (hu.mono (by simp)))
      have fz := hB.frozen (b := b) (by simp) (off + k * 4 + 2)
      obtain ⟨tx2, htx⟩ : ∃ tx, tx = mtx (q + 1 + 1) := ⟨_, rfl⟩
      rw [← htx]
      have HTX2 := Lib.hid htx
      obtain ⟨W2, hW2⟩ : ∃ W2, W2 = w2.setCell ⟨b, off + k * 4 + 2, none⟩ (es tx2) := ⟨_, rfl⟩
      have hu2 : Upd [b] w2 W2 := by rw [hW2]; exact (Upd.refl _ _).setCell (Or.inr (by simp)) _
      have hc2 : W2.cell? ⟨b, off + k * 4 + 2, none⟩ = some (es tx2) := by rw [hW2]; exact World.cell?_setCell_same _ _ _ p2
      have hc3 : ∀ o, o ≠ off + k * 4 + 2 → W2.cell? ⟨b, o, none⟩ = w2.cell? ⟨b, o, none⟩ := fun o ho => by rw [hW2]; exact World.cell?_setCell_other _ _ _ _ (by intro h; simp only [Addr.mk.injEq] at h; omega)
      have hB2 : Own [b] W2 := by rw [hW2]; exact hB.setCell _ _
      clear htx hu
      go_upto_region 9 with (fail)
      rw [← hW2]
      clear fz hB
      replace h3 := R_T2k.upd h3 hu2 (by intro c hc h; simp at h; subst h; exact nb3 hc)
      replace o3 := o3.upd hu2 (by intro c hc h; simp at h; subst h; exact nb3 hc)
      replace p0 := (hc3 _ (by omega)).trans p0
      replace p1 := (hc3 _ (by omega)).trans p1
      replace p3 := (hc3 _ (by omega)).trans p3
      replace p2 := hc2
      have hB := hB2
      replace FAR := Lib.hid (FAR.out.put hc3 (by omega))
      replace hbz := Nat.lt_of_lt_of_le hbz hu2.size
      replace UA := Lib.hid (UA.out.trans (hu2.mono (by intro c hc; simp at hc; simp [hc])))
      clear hu2 hc2 hc3 hB2 hW2
      have M3 := Lib.hid (mark_T2 v3 x.args (q + 1 + 1 + 1) W2 f3 (by omega) (by omega) h3 o3)
      clear h3 o3
      go_wp2_with fail
      refine M3.out.mono ?_
      rintro e w3 ⟨rfl, h3, o3, hu⟩
      clear M3
      replace p0 := hu.keepF nb3 p0
      replace p1 := hu.keepF nb3 p1
      replace p2 := hu.keepF nb3 p2
      replace p3 := hu.keepF nb3 p3
      replace hB := hB.upd hu (by intro c hc h; simp at hc; subst hc; exact nb3 h)
      replace FAR := Lib.hid (FAR.out.upd hu nb3 hbz)
      replace hbz := Nat.lt_of_lt_of_le hbz hu.size
      replace UA := Lib.hid (UA.out.trans (hu.mono (by intro c hc; simp [hc])))
      clear hu
      have hRN : R_Pa (f3 ++ []) w3 [ei nx0, ei nx1, es tx2, v3] (up_Pa q x) := by
        exact ⟨v3, f3, by rw [HTX0.out, HTX1.out, HTX2.out]; rfl, h3, rfl⟩
      have hP := HP.out w3 (up_Pa q x) [ei nx0, ei nx1, es tx2, v3] UA.out (fun o ho => FAR.out o ho) rfl (fun j c hj => by
        match j, hj with
        | 0, hj => cases hj; exact p0
        | 1, hj => cases hj; exact p1
        | 2, hj => cases hj; exact p2
        | 3, hj => cases hj; exact p3
        ) hRN (by simpa using o3) hB
      rw [HST.out] at hP
      have hsub2 : ∀ c ∈ b :: (f3 ++ []), c ∈ fp := fun c hc => by
        rcases List.mem_cons.1 hc with rfl | h
        · exact hb
        · exact HB.out.1 c h
      have HE := Lib.hid (And.intro hP (HU.out.trans (UA.out.mono hsub2)))
      have hacc : q + 1 + 1 + 1 + mkF_T2 x.args = q + mkF_Pa x := by rw [HMX.out]; omega
      have HACC := Lib.hid hacc
      clear hP hRN hsub2 hacc h3 o3 hB p0 p1 p2 p3 UA FAR HP HB
      go_wp2_with fail
      go_roundw
      case rel => exact ⟨k + 1, _, by omega, by go_num, rfl, Lib.hid (by have := HACC.out; rw [HT.out]; have := HQ.out; omega), Lib.hid HE.out.2, Lib.hid HE.out.1.2, Lib.hid HE.out.1.1⟩
      case measure => simp [intOf]; omega
    · obtain rfl : k = xs.length := by omega
      have hq := HQ.out
      rw [List.take_length] at hq
      subst hq
      go_wp2_with fail
      go_ret
      exact ⟨rfl, by simpa using HF.out, HO.out, HU.out⟩

end Go.Proofs.YtijmkcnipflpbaaGreatDoor

/-
  Lists of definitions, marked: readings, and what the laws' helper functions return and make.
-/
namespace Go.Proofs.YtijmkcnipflpbaaGreatDoor
open Go.RowKit


set_option maxRecDepth 20000 in
set_option maxHeartbeats 4000000 in
theorem mark_De1 (v : Value) (xs : List De) (k0 : Int) (w : World) (fp : List Nat) (hk0 : 0 ≤ k0) (hk1 : k0 + mkF_De1 xs ≤ 4611686018427387904) (hR : R_De1 fp w [v] xs) (hO : Own fp w) :
    Calls Tryz.prog 33 #[v, .int .i64 k0] w fun e w' => e = .returned (.int .i64 (k0 + mkF_De1 xs)) ∧ R_De1 fp w' [v] (mkd_De1 k0 xs) ∧ Own fp w' ∧ Upd fp w w' := by
  obtain ⟨a, cap, rfl, h1, h2, -⟩ := slQ_open hR
  unfold maxLen at h2
  go_enter Tryz.func33, Tryz.ntmps33
  go_wp2_with fail
  go_loopw [1, 5] (fun kk i wr => ∃ (k : Nat) (q : Int), k ≤ xs.length ∧ i = .int .i64 k ∧ kk = .int .i64 q ∧ Hid (q = k0 + mkF_De1 (xs.take k)) ∧ Hid (Upd fp w wr) ∧ Hid (Own fp wr) ∧
      Hid (R_De1 fp wr [.slice a xs.length cap] (mkd_De1 k0 (xs.take k) ++ xs.drop k)))
    (fun _ i _ => xs.length - (intOf i).toNat)
  case atStart => exact ⟨0, k0, Nat.zero_le _, rfl, rfl, Lib.hid (by simp [mkF_De1]), Lib.hid (Upd.refl _ _), Lib.hid hO, Lib.hid (by simpa [mkd_De1] using hR)⟩
  case round =>
    clear hO hR
    obtain ⟨wo, rfl⟩ : ∃ wo : World, wo = wr := ⟨_, rfl⟩
    obtain ⟨k, q, hk, rfl, rfl, HQ, HU, HO, HF⟩ := hrel
    by_cases hlt : k < xs.length
    · obtain ⟨a', cap', b, off, u, f, hv, -, -, rfl, hb, hbl, hul, hcell, hsub, hbf, hr, hof, hob, hput⟩ := slQ_set R_Dek HF.out HO.out k (by simp; omega)
      simp only [Value.slice.injEq] at hv
      obtain ⟨rfl, -, rfl⟩ := hv
      have e : (mkd_De1 k0 (xs.take k) ++ xs.drop k)[k]'(by simp; omega) = xs[k] := by
        rw [List.getElem_append_right (by simp; omega)]; simp [Nat.min_eq_left hk]
      rw [e] at hr
      have hq0 : 0 ≤ q := by have := mkF_De1_nonneg (xs.take k); have := HQ.out; omega
      have hq1 : q + mkF_De xs[k] ≤ 4611686018427387904 := by
        have ht2 := mkF_De1_snoc xs k hlt
        have ht3 := mkF_De1_take xs (k + 1)
        have := HQ.out
        omega
      have HT := Lib.hid (mkF_De1_snoc xs k hlt)
      have HP := Lib.hid hput
      have HST := Lib.hid (mkd_De1_set xs k0 k hlt)
      rw [← HQ.out] at HST
      clear hput e HO
      generalize xs[k] = x at *
      have HMX := Lib.hid (show mkF_De x = 1 + 1 + mkF_Pa1 x.body from rfl)
      unfold mkF_De at hq1
      obtain ⟨v2, f2, rfl, h2, rfl⟩ := hr
      have hn2 := mkF_Pa1_nonneg x.body
      have o2 : Own f2 wo := by simpa using hof
      have p0 := hcell 0 _ rfl
      have p1 := hcell 1 _ rfl
      have p2 := hcell 2 _ rfl
      simp only [Nat.add_zero] at p0
      have nb2 : b ∉ f2 := fun h => hbf (by simp [h])
      have HB := Lib.hid (And.intro hsub (And.intro hbf hob))
      have hB := hob
      have UA := Lib.hid (Upd.refl (b :: (f2 ++ [])) wo)
      have FAR := Lib.hid (FarEq.refl wo b (off + k * 3) (off + k * 3 + 3))
      have hbz := hbl
      clear hcell hsub hob hof
      have M0 := Lib.hid (markText (q) wo (by omega) (by omega))
      have fz := hB.frozen (b := b) (by simp) (off + k * 3)
      go_wp2_with fail
      refine M0.out.mono ?_
      rintro e w0 ⟨rfl, hu⟩
      clear M0 fz
      replace h2 := R_Pa1k.upd h2 hu (by simp)
      replace o2 := o2.upd hu (by simp)
      replace p0 := hu.keep p0
      replace p1 := hu.keep p1
      replace p2 := hu.keep p2
      replace hB := hB.upd hu (by simp)
      replace FAR := Lib.hid (FAR.out.upd hu (by simp) hbz)
      replace hbz := Nat.lt_of_lt_of_le hbz hu.size
      replace UA := Lib.hid (UA.out.trans (hu.mono (by simp)))
      have fz := hB.frozen (b := b) (by simp) (off + k * 3)
      obtain ⟨tx0, htx⟩ : ∃ tx, tx = mtx (q) := ⟨_, rfl⟩
      rw [← htx]
      have HTX0 := Lib.hid htx
      obtain ⟨W0, hW0⟩ : ∃ W0, W0 = w0.setCell ⟨b, off + k * 3, none⟩ (es tx0) := ⟨_, rfl⟩
      have hu2 : Upd [b] w0 W0 := by rw [hW0]; exact (Upd.refl _ _).setCell (Or.inr (by simp)) _
      have hc2 : W0.cell? ⟨b, off + k * 3, none⟩ = some (es tx0) := by rw [hW0]; exact World.cell?_setCell_same _ _ _ p0
      have hc3 : ∀ o, o ≠ off + k * 3 → W0.cell? ⟨b, o, none⟩ = w0.cell? ⟨b, o, none⟩ := fun o ho => by rw [hW0]; exact World.cell?_setCell_other _ _ _ _ (by intro h; simp only [Addr.mk.injEq] at h; omega)
      have hB2 : Own [b] W0 := by rw [hW0]; exact hB.setCell _ _
      clear htx hu
      go_upto_region 5 with (fail)
      rw [← hW0]
      clear fz hB
      replace h2 := R_Pa1k.upd h2 hu2 (by intro c hc h; simp at h; subst h; exact nb2 hc)
      replace o2 := o2.upd hu2 (by intro c hc h; simp at h; subst h; exact nb2 hc)
      replace p1 := (hc3 _ (by omega)).trans p1
      replace p2 := (hc3 _ (by omega)).trans p2
      replace p0 := hc2
      have hB := hB2
      replace FAR := Lib.hid (FAR.out.put hc3 (by omega))
      replace hbz := Nat.lt_of_lt_of_le hbz hu2.size
      replace UA := Lib.hid (UA.out.trans (hu2.mono (by intro c hc; simp at hc; simp [hc])))
      clear hu2 hc2 hc3 hB2 hW0
      have fz := hB.frozen (b := b) (by simp) (off + k * 3 + 1)
      obtain ⟨nx1, htx⟩ : ∃ nx, nx = q + 1 := ⟨_, rfl⟩
      have HTX1 := Lib.hid htx
      obtain ⟨W1, hW1⟩ : ∃ W1, W1 = W0.setCell ⟨b, off + k * 3 + 1, none⟩ (ei nx1) := ⟨_, rfl⟩
      have hu2 : Upd [b] W0 W1 := by rw [hW1]; exact (Upd.refl _ _).setCell (Or.inr (by simp)) _
      have hc2 : W1.cell? ⟨b, off + k * 3 + 1, none⟩ = some (ei nx1) := by rw [hW1]; exact World.cell?_setCell_same _ _ _ p1
      have hc3 : ∀ o, o ≠ off + k * 3 + 1 → W1.cell? ⟨b, o, none⟩ = W0.cell? ⟨b, o, none⟩ := fun o ho => by rw [hW1]; exact World.cell?_setCell_other _ _ _ _ (by intro h; simp only [Addr.mk.injEq] at h; omega)
      have hB2 : Own [b] W1 := by rw [hW1]; exact hB.setCell _ _
      rw [htx] at hW1
      clear htx
      go_upto_region 7 with (fail)
      rw [← hW1]
      clear fz hB
      replace h2 := R_Pa1k.upd h2 hu2 (by intro c hc h; simp at h; subst h; exact nb2 hc)
      replace o2 := o2.upd hu2 (by intro c hc h; simp at h; subst h; exact nb2 hc)
      replace p0 := (hc3 _ (by omega)).trans p0
      replace p2 := (hc3 _ (by omega)).trans p2
      replace p1 := hc2
      have hB := hB2
      replace FAR := Lib.hid (FAR.out.put hc3 (by omega))
      replace hbz := Nat.lt_of_lt_of_le hbz hu2.size
      replace UA := Lib.hid (UA.out.trans (hu2.mono (by intro c hc; simp at hc; simp [hc])))
      clear hu2 hc2 hc3 hB2 hW1
      have M2 := Lib.hid (mark_Pa1 v2 x.body (q + 1 + 1) W1 f2 (by omega) (by omega) h2 o2)
      clear h2 o2
      go_wp2_with fail
      refine M2.out.mono ?_
      rintro e w2 ⟨rfl, h2, o2, hu⟩
      clear M2
      replace p0 := hu.keepF nb2 p0
      replace p1 := hu.keepF nb2 p1
      replace p2 := hu.keepF nb2 p2
      replace hB := hB.upd hu (by intro c hc h; simp at hc; subst hc; exact nb2 h)
      replace FAR := Lib.hid (FAR.out.upd hu nb2 hbz)
      replace hbz := Nat.lt_of_lt_of_le hbz hu.size
      replace UA := Lib.hid (UA.out.trans (hu.mono (by intro c hc; simp [hc])))
      clear hu
      have hRN : R_De (f2 ++ []) w2 [es tx0, ei nx1, v2] (up_De q x) := by
        exact ⟨v2, f2, by rw [HTX0.out, HTX1.out]; rfl, h2, rfl⟩
      have hP := HP.out w2 (up_De q x) [es tx0, ei nx1, v2] UA.out (fun o ho => FAR.out o ho) rfl (fun j c hj => by
        match j, hj with
        | 0, hj => cases hj; exact p0
        | 1, hj => cases hj; exact p1
        | 2, hj => cases hj; exact p2
        ) hRN (by simpa using o2) hB
      rw [HST.out] at hP
      have hsub2 : ∀ c ∈ b :: (f2 ++ []), c ∈ fp := fun c hc => by
        rcases List.mem_cons.1 hc with rfl | h
        · exact hb
        · exact HB.out.1 c h
      have HE := Lib.hid (And.intro hP (HU.out.trans (UA.out.mono hsub2)))
      have hacc : q + 1 + 1 + mkF_Pa1 x.body = q + mkF_De x := by rw [HMX.out]; omega
      have HACC := Lib.hid hacc
      clear hP hRN hsub2 hacc h2 o2 hB p0 p1 p2 UA FAR HP HB
      go_wp2_with fail
      go_roundw
      case rel => exact ⟨k + 1, _, by omega, by go_num, rfl, Lib.hid (by have := HACC.out; rw [HT.out]; have := HQ.out; omega), Lib.hid HE.out.2, Lib.hid HE.out.1.2, Lib.hid HE.out.1.1⟩
      case measure => simp [intOf]; omega
    · obtain rfl : k = xs.length := by omega
      have hq := HQ.out
      rw [List.take_length] at hq
      subst hq
      go_wp2_with fail
      go_ret
      exact ⟨rfl, by simpa using HF.out, HO.out, HU.out⟩

end Go.Proofs.YtijmkcnipflpbaaGreatDoor

/-
  Lists of components, marked: readings, and what the laws' helper functions return and make.
-/
namespace Go.Proofs.YtijmkcnipflpbaaGreatDoor
open Go.RowKit


set_option maxRecDepth 20000 in
set_option maxHeartbeats 4000000 in
theorem mark_Co1 (v : Value) (xs : List Co) (k0 : Int) (w : World) (fp : List Nat) (hk0 : 0 ≤ k0) (hk1 : k0 + mkF_Co1 xs ≤ 4611686018427387904) (hR : R_Co1 fp w [v] xs) (hO : Own fp w) :
    Calls Tryz.prog 34 #[v, .int .i64 k0] w fun e w' => e = .returned (.int .i64 (k0 + mkF_Co1 xs)) ∧ R_Co1 fp w' [v] (mkd_Co1 k0 xs) ∧ Own fp w' ∧ Upd fp w w' := by
  obtain ⟨a, cap, rfl, h1, h2, -⟩ := slQ_open hR
  unfold maxLen at h2
  go_enter Tryz.func34, Tryz.ntmps34
  go_wp2_with fail
  go_loopw [1, 5] (fun kk i wr => ∃ (k : Nat) (q : Int), k ≤ xs.length ∧ i = .int .i64 k ∧ kk = .int .i64 q ∧ Hid (q = k0 + mkF_Co1 (xs.take k)) ∧ Hid (Upd fp w wr) ∧ Hid (Own fp wr) ∧
      Hid (R_Co1 fp wr [.slice a xs.length cap] (mkd_Co1 k0 (xs.take k) ++ xs.drop k)))
    (fun _ i _ => xs.length - (intOf i).toNat)
  case atStart => exact ⟨0, k0, Nat.zero_le _, rfl, rfl, Lib.hid (by simp [mkF_Co1]), Lib.hid (Upd.refl _ _), Lib.hid hO, Lib.hid (by simpa [mkd_Co1] using hR)⟩
  case round =>
    clear hO hR
    obtain ⟨wo, rfl⟩ : ∃ wo : World, wo = wr := ⟨_, rfl⟩
    obtain ⟨k, q, hk, rfl, rfl, HQ, HU, HO, HF⟩ := hrel
    by_cases hlt : k < xs.length
    · obtain ⟨a', cap', b, off, u, f, hv, -, -, rfl, hb, hbl, hul, hcell, hsub, hbf, hr, hof, hob, hput⟩ := slQ_set R_Cok HF.out HO.out k (by simp; omega)
      simp only [Value.slice.injEq] at hv
      obtain ⟨rfl, -, rfl⟩ := hv
      have e : (mkd_Co1 k0 (xs.take k) ++ xs.drop k)[k]'(by simp; omega) = xs[k] := by
        rw [List.getElem_append_right (by simp; omega)]; simp [Nat.min_eq_left hk]
      rw [e] at hr
      have hq0 : 0 ≤ q := by have := mkF_Co1_nonneg (xs.take k); have := HQ.out; omega
      have hq1 : q + mkF_Co xs[k] ≤ 4611686018427387904 := by
        have ht2 := mkF_Co1_snoc xs k hlt
        have ht3 := mkF_Co1_take xs (k + 1)
        have := HQ.out
        omega
      have HT := Lib.hid (mkF_Co1_snoc xs k hlt)
      have HP := Lib.hid hput
      have HST := Lib.hid (mkd_Co1_set xs k0 k hlt)
      rw [← HQ.out] at HST
      clear hput e HO
      generalize xs[k] = x at *
      have HMX := Lib.hid (show mkF_Co x = 1 + mkF_I1 x.vals from rfl)
      unfold mkF_Co at hq1
      obtain ⟨v1, f1, rfl, h1, rfl⟩ := hr
      have hn1 := mkF_I1_nonneg x.vals
      have o1 : Own f1 wo := by simpa using hof
      have p0 := hcell 0 _ rfl
      have p1 := hcell 1 _ rfl
      simp only [Nat.add_zero] at p0
      have nb1 : b ∉ f1 := fun h => hbf (by simp [h])
      have HB := Lib.hid (And.intro hsub (And.intro hbf hob))
      have hB := hob
      have UA := Lib.hid (Upd.refl (b :: (f1 ++ [])) wo)
      have FAR := Lib.hid (FarEq.refl wo b (off + k * 2) (off + k * 2 + 2))
      have hbz := hbl
      clear hcell hsub hob hof
      have fz := hB.frozen (b := b) (by simp) (off + k * 2)
      obtain ⟨nx0, htx⟩ : ∃ nx, nx = q := ⟨_, rfl⟩
      have HTX0 := Lib.hid htx
      obtain ⟨W0, hW0⟩ : ∃ W0, W0 = wo.setCell ⟨b, off + k * 2, none⟩ (ei nx0) := ⟨_, rfl⟩
      have hu2 : Upd [b] wo W0 := by rw [hW0]; exact (Upd.refl _ _).setCell (Or.inr (by simp)) _
      have hc2 : W0.cell? ⟨b, off + k * 2, none⟩ = some (ei nx0) := by rw [hW0]; exact World.cell?_setCell_same _ _ _ p0
      have hc3 : ∀ o, o ≠ off + k * 2 → W0.cell? ⟨b, o, none⟩ = wo.cell? ⟨b, o, none⟩ := fun o ho => by rw [hW0]; exact World.cell?_setCell_other _ _ _ _ (by intro h; simp only [Addr.mk.injEq] at h; omega)
      have hB2 : Own [b] W0 := by rw [hW0]; exact hB.setCell _ _
      rw [htx] at hW0
      clear htx
      go_upto_region 5 with (fail)
      rw [← hW0]
      clear fz hB
      replace h1 := R_I1k.upd h1 hu2 (by intro c hc h; simp at h; subst h; exact nb1 hc)
      replace o1 := o1.upd hu2 (by intro c hc h; simp at h; subst h; exact nb1 hc)
      replace p1 := (hc3 _ (by omega)).trans p1
      replace p0 := hc2
      have hB := hB2
      replace FAR := Lib.hid (FAR.out.put hc3 (by omega))
      replace hbz := Nat.lt_of_lt_of_le hbz hu2.size
      replace UA := Lib.hid (UA.out.trans (hu2.mono (by intro c hc; simp at hc; simp [hc])))
      clear hu2 hc2 hc3 hB2 hW0
      have M1 := Lib.hid (mark_I1 v1 x.vals (q + 1) W0 f1 (by omega) (by omega) h1 o1)
      clear h1 o1
      go_wp2_with fail
      refine M1.out.mono ?_
      rintro e w1 ⟨rfl, h1, o1, hu⟩
      clear M1
      replace p0 := hu.keepF nb1 p0
      replace p1 := hu.keepF nb1 p1
      replace hB := hB.upd hu (by intro c hc h; simp at hc; subst hc; exact nb1 h)
      replace FAR := Lib.hid (FAR.out.upd hu nb1 hbz)
      replace hbz := Nat.lt_of_lt_of_le hbz hu.size
      replace UA := Lib.hid (UA.out.trans (hu.mono (by intro c hc; simp [hc])))
      clear hu
      have hRN : R_Co (f1 ++ []) w1 [ei nx0, v1] (up_Co q x) := by
        exact ⟨v1, f1, by rw [HTX0.out]; rfl, h1, rfl⟩
      have hP := HP.out w1 (up_Co q x) [ei nx0, v1] UA.out (fun o ho => FAR.out o ho) rfl (fun j c hj => by
        match j, hj with
        | 0, hj => cases hj; exact p0
        | 1, hj => cases hj; exact p1
        ) hRN (by simpa using o1) hB
      rw [HST.out] at hP
      have hsub2 : ∀ c ∈ b :: (f1 ++ []), c ∈ fp := fun c hc => by
        rcases List.mem_cons.1 hc with rfl | h
        · exact hb
        · exact HB.out.1 c h
      have HE := Lib.hid (And.intro hP (HU.out.trans (UA.out.mono hsub2)))
      have hacc : q + 1 + mkF_I1 x.vals = q + mkF_Co x := by rw [HMX.out]; omega
      have HACC := Lib.hid hacc
      clear hP hRN hsub2 hacc h1 o1 hB p0 p1 UA FAR HP HB
      go_wp2_with fail
      go_roundw
      case rel => exact ⟨k + 1, _, by omega, by go_num, rfl, Lib.hid (by have := HACC.out; rw [HT.out]; have := HQ.out; omega), Lib.hid HE.out.2, Lib.hid HE.out.1.2, Lib.hid HE.out.1.1⟩
      case measure => simp [intOf]; omega
    · obtain rfl : k = xs.length := by omega
      have hq := HQ.out
      rw [List.take_length] at hq
      subst hq
      go_wp2_with fail
      go_ret
      exact ⟨rfl, by simpa using HF.out, HO.out, HU.out⟩

end Go.Proofs.YtijmkcnipflpbaaGreatDoor

/-
  Lists of meetings, marked: readings, and what the laws' helper functions return and make.
-/
namespace Go.Proofs.YtijmkcnipflpbaaGreatDoor
open Go.RowKit


set_option maxRecDepth 20000 in
set_option maxHeartbeats 4000000 in
theorem mark_Me1 (v : Value) (xs : List Me) (k0 : Int) (w : World) (fp : List Nat) (hk0 : 0 ≤ k0) (hk1 : k0 + mkF_Me1 xs ≤ 4611686018427387904) (hR : R_Me1 fp w [v] xs) (hO : Own fp w) :
    Calls Tryz.prog 35 #[v, .int .i64 k0] w fun e w' => e = .returned (.int .i64 (k0 + mkF_Me1 xs)) ∧ R_Me1 fp w' [v] (mkd_Me1 k0 xs) ∧ Own fp w' ∧ Upd fp w w' := by
  obtain ⟨a, cap, rfl, h1, h2, -⟩ := slQ_open hR
  unfold maxLen at h2
  go_enter Tryz.func35, Tryz.ntmps35
  go_wp2_with fail
  go_loopw [1, 5] (fun kk i wr => ∃ (k : Nat) (q : Int), k ≤ xs.length ∧ i = .int .i64 k ∧ kk = .int .i64 q ∧ Hid (q = k0 + mkF_Me1 (xs.take k)) ∧ Hid (Upd fp w wr) ∧ Hid (Own fp wr) ∧
      Hid (R_Me1 fp wr [.slice a xs.length cap] (mkd_Me1 k0 (xs.take k) ++ xs.drop k)))
    (fun _ i _ => xs.length - (intOf i).toNat)
  case atStart => exact ⟨0, k0, Nat.zero_le _, rfl, rfl, Lib.hid (by simp [mkF_Me1]), Lib.hid (Upd.refl _ _), Lib.hid hO, Lib.hid (by simpa [mkd_Me1] using hR)⟩
  case round =>
    clear hO hR
    obtain ⟨wo, rfl⟩ : ∃ wo : World, wo = wr := ⟨_, rfl⟩
    obtain ⟨k, q, hk, rfl, rfl, HQ, HU, HO, HF⟩ := hrel
    by_cases hlt : k < xs.length
    · obtain ⟨a', cap', b, off, u, f, hv, -, -, rfl, hb, hbl, hul, hcell, hsub, hbf, hr, hof, hob, hput⟩ := slQ_set R_Mek HF.out HO.out k (by simp; omega)
      simp only [Value.slice.injEq] at hv
      obtain ⟨rfl, -, rfl⟩ := hv
      have e : (mkd_Me1 k0 (xs.take k) ++ xs.drop k)[k]'(by simp; omega) = xs[k] := by
        rw [List.getElem_append_right (by simp; omega)]; simp [Nat.min_eq_left hk]
      rw [e] at hr
      have hq0 : 0 ≤ q := by have := mkF_Me1_nonneg (xs.take k); have := HQ.out; omega
      have hq1 : q + mkF_Me xs[k] ≤ 4611686018427387904 := by
        have ht2 := mkF_Me1_snoc xs k hlt
        have ht3 := mkF_Me1_take xs (k + 1)
        have := HQ.out
        omega
      have HT := Lib.hid (mkF_Me1_snoc xs k hlt)
      have HP := Lib.hid hput
      have HST := Lib.hid (mkd_Me1_set xs k0 k hlt)
      rw [← HQ.out] at HST
      clear hput e HO
      generalize xs[k] = x at *
      have HMX := Lib.hid (show mkF_Me x = 1 + 1 + 1 from rfl)
      unfold mkF_Me at hq1
      obtain ⟨rfl, rfl⟩ := hr
      have p0 := hcell 0 _ rfl
      have p1 := hcell 1 _ rfl
      have p2 := hcell 2 _ rfl
      simp only [Nat.add_zero] at p0
      have HB := Lib.hid (And.intro hsub (And.intro hbf hob))
      have hB := hob
      have UA := Lib.hid (Upd.refl (b :: ([])) wo)
      have FAR := Lib.hid (FarEq.refl wo b (off + k * 3) (off + k * 3 + 3))
      have hbz := hbl
      clear hcell hsub hob
      have M0 := Lib.hid (markText (q) wo (by omega) (by omega))
      have fz := hB.frozen (b := b) (by simp) (off + k * 3)
      go_wp2_with fail
      refine M0.out.mono ?_
      rintro e w0 ⟨rfl, hu⟩
      clear M0 fz
      replace p0 := hu.keep p0
      replace p1 := hu.keep p1
      replace p2 := hu.keep p2
      replace hB := hB.upd hu (by simp)
      replace FAR := Lib.hid (FAR.out.upd hu (by simp) hbz)
      replace hbz := Nat.lt_of_lt_of_le hbz hu.size
      replace UA := Lib.hid (UA.out.trans (hu.mono (by simp)))
      have fz := hB.frozen (b := b) (by simp) (off + k * 3)
      obtain ⟨tx0, htx⟩ : ∃ tx, tx = mtx (q) := ⟨_, rfl⟩
      rw [← htx]
      have HTX0 := Lib.hid htx
      obtain ⟨W0, hW0⟩ : ∃ W0, W0 = w0.setCell ⟨b, off + k * 3, none⟩ (es tx0) := ⟨_, rfl⟩
      have hu2 : Upd [b] w0 W0 := by rw [hW0]; exact (Upd.refl _ _).setCell (Or.inr (by simp)) _
      have hc2 : W0.cell? ⟨b, off + k * 3, none⟩ = some (es tx0) := by rw [hW0]; exact World.cell?_setCell_same _ _ _ p0
      have hc3 : ∀ o, o ≠ off + k * 3 → W0.cell? ⟨b, o, none⟩ = w0.cell? ⟨b, o, none⟩ := fun o ho => by rw [hW0]; exact World.cell?_setCell_other _ _ _ _ (by intro h; simp only [Addr.mk.injEq] at h; omega)
      have hB2 : Own [b] W0 := by rw [hW0]; exact hB.setCell _ _
      clear htx hu
      go_upto_region 5 with (fail)
      rw [← hW0]
      clear fz hB
      replace p1 := (hc3 _ (by omega)).trans p1
      replace p2 := (hc3 _ (by omega)).trans p2
      replace p0 := hc2
      have hB := hB2
      replace FAR := Lib.hid (FAR.out.put hc3 (by omega))
      replace hbz := Nat.lt_of_lt_of_le hbz hu2.size
      replace UA := Lib.hid (UA.out.trans (hu2.mono (by intro c hc; simp at hc; simp [hc])))
      clear hu2 hc2 hc3 hB2 hW0
      have M1 := Lib.hid (markText (q + 1) W0 (by omega) (by omega))
      have fz := hB.frozen (b := b) (by simp) (off + k * 3 + 1)
      go_wp2_with fail
      refine M1.out.mono ?_
      rintro e w1 ⟨rfl, hu⟩
      clear M1 fz
      replace p0 := hu.keep p0
      replace p1 := hu.keep p1
      replace p2 := hu.keep p2
      replace hB := hB.upd hu (by simp)
      replace FAR := Lib.hid (FAR.out.upd hu (by simp) hbz)
      replace hbz := Nat.lt_of_lt_of_le hbz hu.size
      replace UA := Lib.hid (UA.out.trans (hu.mono (by simp)))
      have fz := hB.frozen (b := b) (by simp) (off + k * 3 + 1)
      obtain ⟨tx1, htx⟩ : ∃ tx, tx = mtx (q + 1) := ⟨_, rfl⟩
      rw [← htx]
      have HTX1 := Lib.hid htx
      obtain ⟨W1, hW1⟩ : ∃ W1, W1 = w1.setCell ⟨b, off + k * 3 + 1, none⟩ (es tx1) := ⟨_, rfl⟩
      have hu2 : Upd [b] w1 W1 := by rw [hW1]; exact (Upd.refl _ _).setCell (Or.inr (by simp)) _
      have hc2 : W1.cell? ⟨b, off + k * 3 + 1, none⟩ = some (es tx1) := by rw [hW1]; exact World.cell?_setCell_same _ _ _ p1
      have hc3 : ∀ o, o ≠ off + k * 3 + 1 → W1.cell? ⟨b, o, none⟩ = w1.cell? ⟨b, o, none⟩ := fun o ho => by rw [hW1]; exact World.cell?_setCell_other _ _ _ _ (by intro h; simp only [Addr.mk.injEq] at h; omega)
      have hB2 : Own [b] W1 := by rw [hW1]; exact hB.setCell _ _
      clear htx hu
      go_upto_region 7 with (fail)
      rw [← hW1]
      clear fz hB
      replace p0 := (hc3 _ (by omega)).trans p0
      replace p2 := (hc3 _ (by omega)).trans p2
      replace p1 := hc2
      have hB := hB2
      replace FAR := Lib.hid (FAR.out.put hc3 (by omega))
      replace hbz := Nat.lt_of_lt_of_le hbz hu2.size
      replace UA := Lib.hid (UA.out.trans (hu2.mono (by intro c hc; simp at hc; simp [hc])))
      clear hu2 hc2 hc3 hB2 hW1
      have M2 := Lib.hid (markText (q + 1 + 1) W1 (by omega) (by omega))
      have fz := hB.frozen (b := b) (by simp) (off + k * 3 + 2)
      go_wp2_with fail
      refine M2.out.mono ?_
      rintro e w2 ⟨rfl, hu⟩
      clear M2 fz
      replace p0 := hu.keep p0
      replace p1 := hu.keep p1
      replace p2 := hu.keep p2
      replace hB := hB.upd hu (by simp)
      replace FAR := Lib.hid (FAR.out.upd hu (by simp) hbz)
      replace hbz := Nat.lt_of_lt_of_le hbz hu.size
      replace UA := Lib.hid (UA.out.trans (hu.mono (by simp)))
      have fz := hB.frozen (b := b) (by simp) (off + k * 3 + 2)
      obtain ⟨tx2, htx⟩ : ∃ tx, tx = mtx (q + 1 + 1) := ⟨_, rfl⟩
      rw [← htx]
      have HTX2 := Lib.hid htx
      obtain ⟨W2, hW2⟩ : ∃ W2, W2 = w2.setCell ⟨b, off + k * 3 + 2, none⟩ (es tx2) := ⟨_, rfl⟩
      have hu2 : Upd [b] w2 W2 := by rw [hW2]; exact (Upd.refl _ _).setCell (Or.inr (by simp)) _
      have hc2 : W2.cell? ⟨b, off + k * 3 + 2, none⟩ = some (es tx2) := by rw [hW2]; exact World.cell?_setCell_same _ _ _ p2
      have hc3 : ∀ o, o ≠ off + k * 3 + 2 → W2.cell? ⟨b, o, none⟩ = w2.cell? ⟨b, o, none⟩ := fun o ho => by rw [hW2]; exact World.cell?_setCell_other _ _ _ _ (by intro h; simp only [Addr.mk.injEq] at h; omega)
      have hB2 : Own [b] W2 := by rw [hW2]; exact hB.setCell _ _
      clear htx hu
      go_upto_region 9 with (fail)
      rw [← hW2]
      clear fz hB
      replace p0 := (hc3 _ (by omega)).trans p0
      replace p1 := (hc3 _ (by omega)).trans p1
      replace p2 := hc2
      have hB := hB2
      replace FAR := Lib.hid (FAR.out.put hc3 (by omega))
      replace hbz := Nat.lt_of_lt_of_le hbz hu2.size
      replace UA := Lib.hid (UA.out.trans (hu2.mono (by intro c hc; simp at hc; simp [hc])))
      clear hu2 hc2 hc3 hB2 hW2
      have hRN : R_Me ([]) W2 [es tx0, es tx1, es tx2] (up_Me q x) := by
        exact ⟨by rw [HTX0.out, HTX1.out, HTX2.out]; rfl, rfl⟩
      have hP := HP.out W2 (up_Me q x) [es tx0, es tx1, es tx2] UA.out (fun o ho => FAR.out o ho) rfl (fun j c hj => by
        match j, hj with
        | 0, hj => cases hj; exact p0
        | 1, hj => cases hj; exact p1
        | 2, hj => cases hj; exact p2
        ) hRN (Own.nil _) hB
      rw [HST.out] at hP
      have hsub2 : ∀ c ∈ b :: ([]), c ∈ fp := fun c hc => by
        rcases List.mem_cons.1 hc with rfl | h
        · exact hb
        · exact HB.out.1 c h
      have HE := Lib.hid (And.intro hP (HU.out.trans (UA.out.mono hsub2)))
      have hacc : q + 1 + 1 + 1 = q + mkF_Me x := by rw [HMX.out]; omega
      have HACC := Lib.hid hacc
      clear hP hRN hsub2 hacc  hB p0 p1 p2 UA FAR HP HB
      go_wp2_with fail
      go_roundw
      case rel => exact ⟨k + 1, _, by omega, by go_num, rfl, Lib.hid (by have := HACC.out; rw [HT.out]; have := HQ.out; omega), Lib.hid HE.out.2, Lib.hid HE.out.1.2, Lib.hid HE.out.1.1⟩
      case measure => simp [intOf]; omega
    · obtain rfl : k = xs.length := by omega
      have hq := HQ.out
      rw [List.take_length] at hq
      subst hq
      go_wp2_with fail
      go_ret
      exact ⟨rfl, by simpa using HF.out, HO.out, HU.out⟩

end Go.Proofs.YtijmkcnipflpbaaGreatDoor

/-
  Systems: readings, and what the laws' helper functions return and make.
-/
namespace Go.Proofs.YtijmkcnipflpbaaGreatDoor
open Go.RowKit

/-- its 5 cells. -/
def R_Sy : Rp Sy := fun fp w cs x => ∃ (v0 v1 v2 v3 v4 : Value) (f0 f1 f2 f3 f4 : List Nat), cs = [v0, v1, v2, v3, v4] ∧ R_De1 f0 w [v0] x.defs ∧ R_Co1 f1 w [v1] x.comps ∧ R_Me1 f2 w [v2] x.meets ∧ R_S1 f3 w [v3] x.allow ∧ R_S1 f4 w [v4] x.hide ∧ fp = f0 ++ (f1 ++ (f2 ++ (f3 ++ (f4))))
theorem R_Syk : Kept R_Sy := by
  constructor
  · rintro fp w cs x ⟨v0, v1, v2, v3, v4, f0, f1, f2, f3, f4, rfl, h0, h1, h2, h3, h4, rfl⟩ b hb
    simp only [List.mem_append] at hb
    rcases hb with hb | hb | hb | hb | hb
    · exact R_De1k.lt h0 b hb
    · exact R_Co1k.lt h1 b hb
    · exact R_Me1k.lt h2 b hb
    · exact R_S1k.lt h3 b hb
    · exact R_S1k.lt h4 b hb
  · rintro fp w w' cs x ⟨v0, v1, v2, v3, v4, f0, f1, f2, f3, f4, rfl, h0, h1, h2, h3, h4, rfl⟩ hs hb
    exact ⟨v0, v1, v2, v3, v4, f0, f1, f2, f3, f4, rfl, R_De1k.frame h0 hs (fun b h => hb b (by simp [h])), R_Co1k.frame h1 hs (fun b h => hb b (by simp [h])), R_Me1k.frame h2 hs (fun b h => hb b (by simp [h])), R_S1k.frame h3 hs (fun b h => hb b (by simp [h])), R_S1k.frame h4 hs (fun b h => hb b (by simp [h])), rfl⟩
def szF_Sy (x : Sy) : Int := szF_De1 x.defs + szF_Co1 x.comps + szF_Me1 x.meets + szF_S1 x.allow + szF_S1 x.hide
def mkF_Sy (x : Sy) : Int := mkF_De1 x.defs + mkF_Co1 x.comps + mkF_Me1 x.meets + mkF_S1 x.allow + mkF_S1 x.hide
theorem mkF_Sy_nonneg (x : Sy) : 0 ≤ mkF_Sy x := by have := mkF_De1_nonneg x.defs; have := mkF_Co1_nonneg x.comps; have := mkF_Me1_nonneg x.meets; have := mkF_S1_nonneg x.allow; have := mkF_S1_nonneg x.hide; unfold mkF_Sy; omega
theorem mkF_Sy_le (x : Sy) : mkF_Sy x ≤ 16 * szF_Sy x + 0 := by have := mkF_De1_le x.defs; have := mkF_Co1_le x.comps; have := mkF_Me1_le x.meets; have := mkF_S1_le x.allow; have := mkF_S1_le x.hide; unfold mkF_Sy szF_Sy; omega
/-- what each text's length is below. -/
def SyOk (x : Sy) : Prop := De1Ok x.defs ∧ Co1Ok x.comps ∧ Me1Ok x.meets ∧ strsOk x.allow ∧ strsOk x.hide

set_option maxRecDepth 20000 in
set_option maxHeartbeats 1600000 in
theorem sz_Sy (cs : List Value) (x : Sy) (left : Int) (w : World) (fp : List Nat) (hl : 0 ≤ left) (hl2 : left ≤ 1048576) (hR : R_Sy fp w cs x) (hS : SyOk x) :
    Calls Tryz.prog 5 #[.agg cs.toArray, .int .i64 left] w fun e w' => (∃ r : Int, e = .returned (.int .i64 r) ∧ (r = -1 ∨ (0 ≤ r ∧ r + szF_Sy x = left))) ∧ Upd [] w w' := by
  obtain ⟨v0, v1, v2, v3, v4, f0, f1, f2, f3, f4, rfl, h0, h1, h2, h3, h4, rfl⟩ := hR
  obtain ⟨wA, hwA⟩ : ∃ wA, wA = w.alloc (.cells #[v0, v1, v2, v3, v4] 27) := ⟨_, rfl⟩
  obtain ⟨BA, hBA⟩ : ∃ BA, BA = w.heap.size := ⟨_, rfl⟩
  have uA : Upd [] w wA := by rw [hwA]; exact (Upd.refl _ _).alloc _
  have S0 := Lib.hid (fun (W : World) (hu : Upd [] w W) (l : Int) (q1 : 0 ≤ l) (q2 : l ≤ 1048576) => sz_De1 v0 x.defs l W f0 q1 q2 (R_De1k.upd h0 hu (by simp)) hS.1)
  have S1 := Lib.hid (fun (W : World) (hu : Upd [] w W) (l : Int) (q1 : 0 ≤ l) (q2 : l ≤ 1048576) => sz_Co1 v1 x.comps l W f1 q1 q2 (R_Co1k.upd h1 hu (by simp)) hS.2.1)
  have S2 := Lib.hid (fun (W : World) (hu : Upd [] w W) (l : Int) (q1 : 0 ≤ l) (q2 : l ≤ 1048576) => sz_Me1 v2 x.meets l W f2 q1 q2 (R_Me1k.upd h2 hu (by simp)) hS.2.2.1)
  have S3 := Lib.hid (fun (W : World) (hu : Upd [] w W) (l : Int) (q1 : 0 ≤ l) (q2 : l ≤ 1048576) => sz_S1 v3 x.allow l W f3 q1 q2 (R_S1k.upd h3 hu (by simp)) hS.2.2.2.1)
  have S4 := Lib.hid (fun (W : World) (hu : Upd [] w W) (l : Int) (q1 : 0 ≤ l) (q2 : l ≤ 1048576) => sz_S1 v4 x.hide l W f4 q1 q2 (R_S1k.upd h4 hu (by simp)) hS.2.2.2.2)
  have HC := Lib.hid (fun W (hu : Upd [] wA W) => show W.cell? ⟨BA, 0, none⟩ = some (v0) ∧ W.cell? ⟨BA, 1, none⟩ = some (v1) ∧ W.cell? ⟨BA, 2, none⟩ = some (v2) ∧ W.cell? ⟨BA, 3, none⟩ = some (v3) ∧ W.cell? ⟨BA, 4, none⟩ = some (v4) from
    ⟨hu.keep (by rw [hwA, hBA]; exact cell_new w _ _ _ rfl 0 _ rfl), hu.keep (by rw [hwA, hBA]; exact cell_new w _ _ _ rfl 1 _ rfl), hu.keep (by rw [hwA, hBA]; exact cell_new w _ _ _ rfl 2 _ rfl), hu.keep (by rw [hwA, hBA]; exact cell_new w _ _ _ rfl 3 _ rfl), hu.keep (by rw [hwA, hBA]; exact cell_new w _ _ _ rfl 4 _ rfl)⟩)
  have HZ := Lib.hid (show szF_Sy x = szF_De1 x.defs + szF_Co1 x.comps + szF_Me1 x.meets + szF_S1 x.allow + szF_S1 x.hide from rfl)
  have hn0 := szF_De1_nonneg x.defs
  have hn1 := szF_Co1_nonneg x.comps
  have hn2 := szF_Me1_nonneg x.meets
  have hn3 := szF_S1_nonneg x.allow
  have hn4 := szF_S1_nonneg x.hide
  generalize szF_De1 x.defs = z0 at *
  generalize szF_Co1 x.comps = z1 at *
  generalize szF_Me1 x.meets = z2 at *
  generalize szF_S1 x.allow = z3 at *
  generalize szF_S1 x.hide = z4 at *
  generalize szF_Sy x = ZZ at *
  obtain ⟨c0, c1, c2, c3, c4⟩ := HC.out wA (Upd.refl _ _)
  have HU := Lib.hid uA
  have HX := Lib.hid (Upd.refl [] wA)
  clear h0 h1 h2 h3 h4 hS uA
  go_enter Tryz.func5, Tryz.ntmps5
  go_upto_region 1 with (fail)
  rw [← hwA, ← hBA]
  clear hwA hBA
  have T0 := Lib.hid (S0.out wA HU.out left hl hl2)
  clear S0
  go_wp2_with fail
  refine T0.out.mono ?_
  rintro e w0 ⟨⟨r, rfl, hr⟩, hu⟩
  clear T0
  have HU := Lib.hid (HU.out.trans hu)
  have HX := Lib.hid (HX.out.trans hu)
  obtain ⟨c0, c1, c2, c3, c4⟩ := HC.out w0 HX.out
  clear hu
  rcases hr with rfl | ⟨hge0, hr⟩
  · go_wp2_with fail
    go_ret
    exact ⟨⟨-1, rfl, Or.inl rfl⟩, HU.out⟩
  · have HR0 := Lib.hid hr
    have hle0 : r ≤ 1048576 := by omega
    clear hr
    generalize r = r0 at *
    have T1 := Lib.hid (S1.out w0 HU.out r0 hge0 hle0)
    clear S1
    go_wp2_with fail
    refine T1.out.mono ?_
    rintro e w1 ⟨⟨r, rfl, hr⟩, hu⟩
    clear T1
    have HU := Lib.hid (HU.out.trans hu)
    have HX := Lib.hid (HX.out.trans hu)
    obtain ⟨c0, c1, c2, c3, c4⟩ := HC.out w1 HX.out
    clear hu
    rcases hr with rfl | ⟨hge1, hr⟩
    · go_wp2_with fail
      go_ret
      exact ⟨⟨-1, rfl, Or.inl rfl⟩, HU.out⟩
    · have HR1 := Lib.hid hr
      have hle1 : r ≤ 1048576 := by omega
      clear hr
      generalize r = r1 at *
      have T2 := Lib.hid (S2.out w1 HU.out r1 hge1 hle1)
      clear S2
      go_wp2_with fail
      refine T2.out.mono ?_
      rintro e w2 ⟨⟨r, rfl, hr⟩, hu⟩
      clear T2
      have HU := Lib.hid (HU.out.trans hu)
      have HX := Lib.hid (HX.out.trans hu)
      obtain ⟨c0, c1, c2, c3, c4⟩ := HC.out w2 HX.out
      clear hu
      rcases hr with rfl | ⟨hge2, hr⟩
      · go_wp2_with fail
        go_ret
        exact ⟨⟨-1, rfl, Or.inl rfl⟩, HU.out⟩
      · have HR2 := Lib.hid hr
        have hle2 : r ≤ 1048576 := by omega
        clear hr
        generalize r = r2 at *
        have T3 := Lib.hid (S3.out w2 HU.out r2 hge2 hle2)
        clear S3
        go_wp2_with fail
        refine T3.out.mono ?_
        rintro e w3 ⟨⟨r, rfl, hr⟩, rfl⟩
        clear T3
        rcases hr with rfl | ⟨hge3, hr⟩
        · go_wp2_with fail
          go_ret
          exact ⟨⟨-1, rfl, Or.inl rfl⟩, HU.out⟩
        · have HR3 := Lib.hid hr
          have hle3 : r ≤ 1048576 := by omega
          clear hr
          generalize r = r3 at *
          have T4 := Lib.hid (S4.out w2 HU.out r3 hge3 hle3)
          clear S4
          go_wp2_with fail
          refine T4.out.mono ?_
          rintro e w4 ⟨⟨r, rfl, hr⟩, rfl⟩
          clear T4
          rcases hr with rfl | ⟨hge4, hr⟩
          · go_wp2_with fail
            go_ret
            exact ⟨⟨-1, rfl, Or.inl rfl⟩, HU.out⟩
          · have HR4 := Lib.hid hr
            have hle4 : r ≤ 1048576 := by omega
            clear hr
            generalize r = r4 at *
            go_wp2_with fail
            go_ret
            exact ⟨⟨r4, rfl, Or.inr ⟨hge4, by rw [HZ.out]; have := HR0.out; have := HR1.out; have := HR2.out; have := HR3.out; have := HR4.out; omega⟩⟩, HU.out⟩

theorem Sy_size : (Tryz.prog.info? 34).map (·.size) = some 5 := by kernel_rfl
set_option maxRecDepth 20000 in
set_option maxHeartbeats 4000000 in
theorem to_Sy (cs : List Value) (x : Sy) (w : World) (fp : List Nat) (hl : szF_Sy x ≤ 1048576) (hR : R_Sy fp w cs x) :
    Calls Tryz.prog 7 #[.agg cs.toArray] w fun e w' => (∃ us, e = .returned (.agg us.toArray) ∧ us.length = 5 ∧ us.toArray.all (·.oneCell') = true ∧ NewQ R_Sy w w' us x) ∧ Upd [] w w' := by
  obtain ⟨v0, v1, v2, v3, v4, f0, f1, f2, f3, f4, rfl, h0, h1, h2, h3, h4, rfl⟩ := hR
  have hn0 := szF_De1_nonneg x.defs
  have hn1 := szF_Co1_nonneg x.comps
  have hn2 := szF_Me1_nonneg x.meets
  have hn3 := szF_S1_nonneg x.allow
  have hn4 := szF_S1_nonneg x.hide
  unfold szF_Sy at hl
  have S0 := Lib.hid (fun (W : World) (hu : Upd [] w W) => to_De1 v0 x.defs W f0 (by omega) (R_De1k.upd h0 hu (by simp)))
  have S1 := Lib.hid (fun (W : World) (hu : Upd [] w W) => to_Co1 v1 x.comps W f1 (by omega) (R_Co1k.upd h1 hu (by simp)))
  have S2 := Lib.hid (fun (W : World) (hu : Upd [] w W) => to_Me1 v2 x.meets W f2 (by omega) (R_Me1k.upd h2 hu (by simp)))
  have S3 := Lib.hid (fun (W : World) (hu : Upd [] w W) => to_S1 v3 x.allow W f3 (by omega) (R_S1k.upd h3 hu (by simp)))
  have S4 := Lib.hid (fun (W : World) (hu : Upd [] w W) => to_S1 v4 x.hide W f4 (by omega) (R_S1k.upd h4 hu (by simp)))
  obtain ⟨wA, hwA⟩ : ∃ wA, wA = ((w.alloc (.cells #[v0, v1, v2, v3, v4] 27)).alloc (.cells #[.slice none 0 0, .slice none 0 0, .slice none 0 0, .slice none 0 0, .slice none 0 0] 34)).alloc (.cells #[.slice none 0 0, .slice none 0 0, .slice none 0 0, .slice none 0 0, .slice none 0 0] 34) := ⟨_, rfl⟩
  obtain ⟨B, hB⟩ : ∃ B, B = w.heap.size := ⟨_, rfl⟩
  have H0 := Lib.hid (show Three w wA 27 34 B [v0, v1, v2, v3, v4] [.slice none 0 0, .slice none 0 0, .slice none 0 0, .slice none 0 0, .slice none 0 0] [.slice none 0 0, .slice none 0 0, .slice none 0 0, .slice none 0 0, .slice none 0 0] from by rw [hwA, hB]; exact Three.mk0 w _ _ _ _ _)
  clear h0 h1 h2 h3 h4 hl hn0 hn1 hn2 hn3 hn4
  go_enter Tryz.func7, Tryz.ntmps7
  go_upto_region 2 with (fail)
  rw [← hwA, ← hB]
  clear hwA hB
  have T0 := Lib.hid (S0.out wA H0.out.upd)
  clear S0
  have p0 := H0.out.pc 0 _ rfl
  go_wp2_with fail
  refine T0.out.mono ?_
  rintro e w0 ⟨⟨u, rfl, hn⟩, hu⟩
  have G0 := Lib.hid (H0.out.call hu)
  have HN0 := Lib.hid hn
  have E0 := Lib.hid hu
  have hlo0 := H0.out.size
  have hhi0 := hu.size
  obtain ⟨m0, n0, rfl⟩ := New.formQ hn
  clear T0 p0 hn hu
  have q0 := G0.out.oc 0 _ rfl
  have z0 := G0.out.fz 0
  go_upto_region 3 with (fail)
  obtain ⟨W0, hW0⟩ : ∃ W0, W0 = w0.setCell ⟨B + 2, 0, none⟩ (.slice m0 x.defs.length n0) := ⟨_, rfl⟩
  rw [← hW0]
  have H1 := Lib.hid (show Three w W0 27 34 B [v0, v1, v2, v3, v4] [.slice none 0 0, .slice none 0 0, .slice none 0 0, .slice none 0 0, .slice none 0 0] _ from by rw [hW0]; exact G0.out.store 0 _)
  have D0 := Lib.hid (show Upd [B + 2] w0 W0 from by rw [hW0]; exact (Upd.refl _ _).setCell (Or.inr (by simp)) _)
  have ds0 := D0.out.size
  clear q0 z0 hW0
  have T1 := Lib.hid (S1.out W0 H1.out.upd)
  clear S1
  have p1 := H1.out.pc 1 _ rfl
  go_wp2_with fail
  refine T1.out.mono ?_
  rintro e w1 ⟨⟨u, rfl, hn⟩, hu⟩
  have G1 := Lib.hid (H1.out.call hu)
  have HN1 := Lib.hid hn
  have E1 := Lib.hid hu
  have hlo1 := H1.out.size
  have hhi1 := hu.size
  obtain ⟨m1, n1, rfl⟩ := New.formQ hn
  clear T1 p1 hn hu
  have q1 := G1.out.oc 1 _ rfl
  have z1 := G1.out.fz 1
  go_upto_region 4 with (fail)
  obtain ⟨W1, hW1⟩ : ∃ W1, W1 = w1.setCell ⟨B + 2, 1, none⟩ (.slice m1 x.comps.length n1) := ⟨_, rfl⟩
  rw [← hW1]
  have H2 := Lib.hid (show Three w W1 27 34 B [v0, v1, v2, v3, v4] [.slice none 0 0, .slice none 0 0, .slice none 0 0, .slice none 0 0, .slice none 0 0] _ from by rw [hW1]; exact G1.out.store 1 _)
  have D1 := Lib.hid (show Upd [B + 2] w1 W1 from by rw [hW1]; exact (Upd.refl _ _).setCell (Or.inr (by simp)) _)
  have ds1 := D1.out.size
  clear q1 z1 hW1
  have T2 := Lib.hid (S2.out W1 H2.out.upd)
  clear S2
  have p2 := H2.out.pc 2 _ rfl
  go_wp2_with fail
  refine T2.out.mono ?_
  rintro e w2 ⟨⟨u, rfl, hn⟩, hu⟩
  have G2 := Lib.hid (H2.out.call hu)
  have HN2 := Lib.hid hn
  have E2 := Lib.hid hu
  have hlo2 := H2.out.size
  have hhi2 := hu.size
  obtain ⟨m2, n2, rfl⟩ := New.formQ hn
  clear T2 p2 hn hu
  have q2 := G2.out.oc 2 _ rfl
  have z2 := G2.out.fz 2
  go_upto_region 5 with (fail)
  obtain ⟨W2, hW2⟩ : ∃ W2, W2 = w2.setCell ⟨B + 2, 2, none⟩ (.slice m2 x.meets.length n2) := ⟨_, rfl⟩
  rw [← hW2]
  have H3 := Lib.hid (show Three w W2 27 34 B [v0, v1, v2, v3, v4] [.slice none 0 0, .slice none 0 0, .slice none 0 0, .slice none 0 0, .slice none 0 0] _ from by rw [hW2]; exact G2.out.store 2 _)
  have D2 := Lib.hid (show Upd [B + 2] w2 W2 from by rw [hW2]; exact (Upd.refl _ _).setCell (Or.inr (by simp)) _)
  have ds2 := D2.out.size
  clear q2 z2 hW2
  have T3 := Lib.hid (S3.out W2 H3.out.upd)
  clear S3
  have p3 := H3.out.pc 3 _ rfl
  go_wp2_with fail
  refine T3.out.mono ?_
  rintro e w3 ⟨⟨u, rfl, hn⟩, hu⟩
  have G3 := Lib.hid (H3.out.call hu)
  have HN3 := Lib.hid hn
  have E3 := Lib.hid hu
  have hlo3 := H3.out.size
  have hhi3 := hu.size
  obtain ⟨m3, n3, rfl⟩ := New.form hn
  clear T3 p3 hn hu
  have q3 := G3.out.oc 3 _ rfl
  have z3 := G3.out.fz 3
  go_upto_region 6 with (fail)
  obtain ⟨W3, hW3⟩ : ∃ W3, W3 = w3.setCell ⟨B + 2, 3, none⟩ (.slice m3 x.allow.length n3) := ⟨_, rfl⟩
  rw [← hW3]
  have H4 := Lib.hid (show Three w W3 27 34 B [v0, v1, v2, v3, v4] [.slice none 0 0, .slice none 0 0, .slice none 0 0, .slice none 0 0, .slice none 0 0] _ from by rw [hW3]; exact G3.out.store 3 _)
  have D3 := Lib.hid (show Upd [B + 2] w3 W3 from by rw [hW3]; exact (Upd.refl _ _).setCell (Or.inr (by simp)) _)
  have ds3 := D3.out.size
  clear q3 z3 hW3
  have T4 := Lib.hid (S4.out W3 H4.out.upd)
  clear S4
  have p4 := H4.out.pc 4 _ rfl
  go_wp2_with fail
  refine T4.out.mono ?_
  rintro e w4 ⟨⟨u, rfl, hn⟩, hu⟩
  have G4 := Lib.hid (H4.out.call hu)
  have HN4 := Lib.hid hn
  have E4 := Lib.hid hu
  have hlo4 := H4.out.size
  have hhi4 := hu.size
  obtain ⟨m4, n4, rfl⟩ := New.form hn
  clear T4 p4 hn hu
  have q4 := G4.out.oc 4 _ rfl
  have z4 := G4.out.fz 4
  go_upto_region 7 with (fail)
  obtain ⟨W4, hW4⟩ : ∃ W4, W4 = w4.setCell ⟨B + 2, 4, none⟩ (.slice m4 x.hide.length n4) := ⟨_, rfl⟩
  rw [← hW4]
  have H5 := Lib.hid (show Three w W4 27 34 B [v0, v1, v2, v3, v4] [.slice none 0 0, .slice none 0 0, .slice none 0 0, .slice none 0 0, .slice none 0 0] _ from by rw [hW4]; exact G4.out.store 4 _)
  have D4 := Lib.hid (show Upd [B + 2] w4 W4 from by rw [hW4]; exact (Upd.refl _ _).setCell (Or.inr (by simp)) _)
  have ds4 := D4.out.size
  clear q4 z4 hW4
  have HF := Lib.hid (show Three w W4 27 34 B [v0, v1, v2, v3, v4] [.slice none 0 0, .slice none 0 0, .slice none 0 0, .slice none 0 0, .slice none 0 0] [.slice m0 x.defs.length n0, .slice m1 x.comps.length n1, .slice m2 x.meets.length n2, .slice m3 x.allow.length n3, .slice m4 x.hide.length n4] from H5.out)
  have hlast := HF.out.h2
  have hres := HF.out.h1
  clear G0 G1 G2 G3 G4
  go_wp2_with (first
    | (refine wpList_load_row rfl 34 _ rfl (B + 2) rfl 34 #[.slice m0 x.defs.length n0, .slice m1 x.comps.length n1, .slice m2 x.meets.length n2, .slice m3 x.allow.length n3, .slice m4 x.hide.length n4] (0, 0) _ hlast Tryz.underlying34 rfl Sy_size ?_)
    | (refine wpList_store_row rfl 34 _ _ rfl (B + 1) #[.slice m0 x.defs.length n0, .slice m1 x.comps.length n1, .slice m2 x.meets.length n2, .slice m3 x.allow.length n3, .slice m4 x.hide.length n4] rfl rfl 34 _ hres Sy_size rfl (by simp [Value.oneCell']) ?_)
    | fail)
  have hC := setRow_heap W4 (B + 1) _ #[.slice m0 x.defs.length n0, .slice m1 x.comps.length n1, .slice m2 x.meets.length n2, .slice m3 x.allow.length n3, .slice m4 x.hide.length n4] _ _ hres
  refine bodyPost_ret (results_cell_row Tryz.results7 _ _ (B + 1) 34 _ (0, 0) _ rfl hC Tryz.underlying34 rfl Sy_size) rfl ?_
  have hb := HF.out.base
  have UE : Upd [] w (W4.setRow (B + 1) #[.slice m0 x.defs.length n0, .slice m1 x.comps.length n1, .slice m2 x.meets.length n2, .slice m3 x.allow.length n3, .slice m4 x.hide.length n4]) := HF.out.upd.row (Or.inl (by omega)) _
  refine ⟨⟨[.slice m0 x.defs.length n0, .slice m1 x.comps.length n1, .slice m2 x.meets.length n2, .slice m3 x.allow.length n3, .slice m4 x.hide.length n4], rfl, rfl, by simp [Value.oneCell'], ?_⟩, UE⟩
  obtain ⟨g0, P0⟩ := Part.of R_De1k HN0.out
  have P0 := P0.upd R_De1k D0.out (by intro b hb; simp at hb; omega)
  have P0 := P0.upd R_De1k (show Upd [] W0 w1 from E1.out) (by simp)
  have P0 := P0.upd R_De1k D1.out (by intro b hb; simp at hb; omega)
  have P0 := P0.upd R_De1k (show Upd [] W1 w2 from E2.out) (by simp)
  have P0 := P0.upd R_De1k D2.out (by intro b hb; simp at hb; omega)
  have P0 := P0.upd R_De1k (show Upd [] W2 w3 from E3.out) (by simp)
  have P0 := P0.upd R_De1k D3.out (by intro b hb; simp at hb; omega)
  have P0 := P0.upd R_De1k (show Upd [] W3 w4 from E4.out) (by simp)
  have P0 := P0.upd R_De1k D4.out (by intro b hb; simp at hb; omega)
  have P0 := P0.upd R_De1k (show Upd [B + 1] W4 (W4.setRow (B + 1) #[.slice m0 x.defs.length n0, .slice m1 x.comps.length n1, .slice m2 x.meets.length n2, .slice m3 x.allow.length n3, .slice m4 x.hide.length n4]) from (Upd.refl _ _).row (Or.inr (by simp)) _) (by intro b hb; simp at hb; omega)
  obtain ⟨g1, P1⟩ := Part.of R_Co1k HN1.out
  have P1 := P1.upd R_Co1k D1.out (by intro b hb; simp at hb; omega)
  have P1 := P1.upd R_Co1k (show Upd [] W1 w2 from E2.out) (by simp)
  have P1 := P1.upd R_Co1k D2.out (by intro b hb; simp at hb; omega)
  have P1 := P1.upd R_Co1k (show Upd [] W2 w3 from E3.out) (by simp)
  have P1 := P1.upd R_Co1k D3.out (by intro b hb; simp at hb; omega)
  have P1 := P1.upd R_Co1k (show Upd [] W3 w4 from E4.out) (by simp)
  have P1 := P1.upd R_Co1k D4.out (by intro b hb; simp at hb; omega)
  have P1 := P1.upd R_Co1k (show Upd [B + 1] W4 (W4.setRow (B + 1) #[.slice m0 x.defs.length n0, .slice m1 x.comps.length n1, .slice m2 x.meets.length n2, .slice m3 x.allow.length n3, .slice m4 x.hide.length n4]) from (Upd.refl _ _).row (Or.inr (by simp)) _) (by intro b hb; simp at hb; omega)
  obtain ⟨g2, P2⟩ := Part.of R_Me1k HN2.out
  have P2 := P2.upd R_Me1k D2.out (by intro b hb; simp at hb; omega)
  have P2 := P2.upd R_Me1k (show Upd [] W2 w3 from E3.out) (by simp)
  have P2 := P2.upd R_Me1k D3.out (by intro b hb; simp at hb; omega)
  have P2 := P2.upd R_Me1k (show Upd [] W3 w4 from E4.out) (by simp)
  have P2 := P2.upd R_Me1k D4.out (by intro b hb; simp at hb; omega)
  have P2 := P2.upd R_Me1k (show Upd [B + 1] W4 (W4.setRow (B + 1) #[.slice m0 x.defs.length n0, .slice m1 x.comps.length n1, .slice m2 x.meets.length n2, .slice m3 x.allow.length n3, .slice m4 x.hide.length n4]) from (Upd.refl _ _).row (Or.inr (by simp)) _) (by intro b hb; simp at hb; omega)
  obtain ⟨g3, P3⟩ := Part.of R_S1k HN3.out
  have P3 := P3.upd R_S1k D3.out (by intro b hb; simp at hb; omega)
  have P3 := P3.upd R_S1k (show Upd [] W3 w4 from E4.out) (by simp)
  have P3 := P3.upd R_S1k D4.out (by intro b hb; simp at hb; omega)
  have P3 := P3.upd R_S1k (show Upd [B + 1] W4 (W4.setRow (B + 1) #[.slice m0 x.defs.length n0, .slice m1 x.comps.length n1, .slice m2 x.meets.length n2, .slice m3 x.allow.length n3, .slice m4 x.hide.length n4]) from (Upd.refl _ _).row (Or.inr (by simp)) _) (by intro b hb; simp at hb; omega)
  obtain ⟨g4, P4⟩ := Part.of R_S1k HN4.out
  have P4 := P4.upd R_S1k D4.out (by intro b hb; simp at hb; omega)
  have P4 := P4.upd R_S1k (show Upd [B + 1] W4 (W4.setRow (B + 1) #[.slice m0 x.defs.length n0, .slice m1 x.comps.length n1, .slice m2 x.meets.length n2, .slice m3 x.allow.length n3, .slice m4 x.hide.length n4]) from (Upd.refl _ _).row (Or.inr (by simp)) _) (by intro b hb; simp at hb; omega)
  refine ⟨g0 ++ (g1 ++ (g2 ++ (g3 ++ (g4)))), ⟨_, _, _, _, _, g0, g1, g2, g3, g4, rfl, P0.r, P1.r, P2.r, P3.r, P4.r, rfl⟩, ?_, ?_⟩
  · exact own_join P0.o (own_join P1.o (own_join P2.o (own_join P3.o (P4.o) (fun b hb hc => by have := P3.b b hb; have := P4.b b hc; omega)) (fun b hb hc => by
        have := P2.b b hb
        simp only [List.mem_append] at hc
        rcases hc with hc | hc
        · have := P3.b b hc; omega
        · have := P4.b b hc; omega
        )) (fun b hb hc => by
        have := P1.b b hb
        simp only [List.mem_append] at hc
        rcases hc with hc | hc | hc
        · have := P2.b b hc; omega
        · have := P3.b b hc; omega
        · have := P4.b b hc; omega
        )) (fun b hb hc => by
        have := P0.b b hb
        simp only [List.mem_append] at hc
        rcases hc with hc | hc | hc | hc
        · have := P1.b b hc; omega
        · have := P2.b b hc; omega
        · have := P3.b b hc; omega
        · have := P4.b b hc; omega
        )
  · intro b hb
    simp only [List.mem_append] at hb
    rcases hb with hb | hb | hb | hb | hb
    · have := P0.b b hb; omega
    · have := P1.b b hb; omega
    · have := P2.b b hb; omega
    · have := P3.b b hb; omega
    · have := P4.b b hb; omega

set_option maxRecDepth 20000 in
set_option maxHeartbeats 2000000 in
theorem eq_Sy (cs ds : List Value) (x : Sy) (w : World) (fp fp2 : List Nat) (hA : R_Sy fp w cs x) (hB : R_Sy fp2 w ds x) :
    Calls Tryz.prog 9 #[.agg cs.toArray, .agg ds.toArray] w fun e w' => e = .returned (.bool true) ∧ Upd [] w w' := by
  obtain ⟨v0, v1, v2, v3, v4, f0, f1, f2, f3, f4, rfl, h0, h1, h2, h3, h4, rfl⟩ := hA
  obtain ⟨u0, u1, u2, u3, u4, g0, g1, g2, g3, g4, rfl, k0, k1, k2, k3, k4, rfl⟩ := hB
  obtain ⟨wA, hwA⟩ : ∃ wA, wA = w.alloc (.cells #[v0, v1, v2, v3, v4] 34) := ⟨_, rfl⟩
  obtain ⟨wB, hwB⟩ : ∃ wB, wB = wA.alloc (.cells #[u0, u1, u2, u3, u4] 34) := ⟨_, rfl⟩
  obtain ⟨BA, hBA⟩ : ∃ BA, BA = w.heap.size := ⟨_, rfl⟩
  have sA : wA.heap.size = BA + 1 := by rw [hwA, hBA]; simp
  have uA : Upd [] w wA := by rw [hwA]; exact (Upd.refl _ _).alloc _
  have uB : Upd [] wA wB := by rw [hwB]; exact (Upd.refl _ _).alloc _
  have HC := Lib.hid (fun W (hu : Upd [] wB W) => show W.cell? ⟨BA, 0, none⟩ = some (v0) ∧ W.cell? ⟨BA + 1, 0, none⟩ = some (u0) ∧ W.cell? ⟨BA, 1, none⟩ = some (v1) ∧ W.cell? ⟨BA + 1, 1, none⟩ = some (u1) ∧ W.cell? ⟨BA, 2, none⟩ = some (v2) ∧ W.cell? ⟨BA + 1, 2, none⟩ = some (u2) ∧ W.cell? ⟨BA, 3, none⟩ = some (v3) ∧ W.cell? ⟨BA + 1, 3, none⟩ = some (u3) ∧ W.cell? ⟨BA, 4, none⟩ = some (v4) ∧ W.cell? ⟨BA + 1, 4, none⟩ = some (u4) from
    ⟨hu.keep (uB.keep (by rw [hwA, hBA]; exact cell_new w _ _ _ rfl 0 _ rfl)), hu.keep (by rw [hwB]; exact cell_new wA _ _ _ sA 0 _ rfl), hu.keep (uB.keep (by rw [hwA, hBA]; exact cell_new w _ _ _ rfl 1 _ rfl)), hu.keep (by rw [hwB]; exact cell_new wA _ _ _ sA 1 _ rfl), hu.keep (uB.keep (by rw [hwA, hBA]; exact cell_new w _ _ _ rfl 2 _ rfl)), hu.keep (by rw [hwB]; exact cell_new wA _ _ _ sA 2 _ rfl), hu.keep (uB.keep (by rw [hwA, hBA]; exact cell_new w _ _ _ rfl 3 _ rfl)), hu.keep (by rw [hwB]; exact cell_new wA _ _ _ sA 3 _ rfl), hu.keep (uB.keep (by rw [hwA, hBA]; exact cell_new w _ _ _ rfl 4 _ rfl)), hu.keep (by rw [hwB]; exact cell_new wA _ _ _ sA 4 _ rfl)⟩)
  have S0 := Lib.hid (fun W (hu : Upd [] w W) => eq_De1 v0 u0 x.defs W f0 g0 (R_De1k.upd h0 hu (by simp)) (R_De1k.upd k0 hu (by simp)))
  have S1 := Lib.hid (fun W (hu : Upd [] w W) => eq_Co1 v1 u1 x.comps W f1 g1 (R_Co1k.upd h1 hu (by simp)) (R_Co1k.upd k1 hu (by simp)))
  have S2 := Lib.hid (fun W (hu : Upd [] w W) => eq_Me1 v2 u2 x.meets W f2 g2 (R_Me1k.upd h2 hu (by simp)) (R_Me1k.upd k2 hu (by simp)))
  have S3 := Lib.hid (fun W (hu : Upd [] w W) => show Calls Tryz.prog 12 #[v3, u3] W (fun e w' => e = .returned (.bool true) ∧ Upd [] W w') from by
    have := eq_S1 v3 u3 x.allow x.allow W f3 g3 (R_S1k.upd h3 hu (by simp)) (R_S1k.upd k3 hu (by simp))
    rw [show (x.allow == x.allow) = true by simp] at this
    exact this)
  have S4 := Lib.hid (fun W (hu : Upd [] w W) => show Calls Tryz.prog 12 #[v4, u4] W (fun e w' => e = .returned (.bool true) ∧ Upd [] W w') from by
    have := eq_S1 v4 u4 x.hide x.hide W f4 g4 (R_S1k.upd h4 hu (by simp)) (R_S1k.upd k4 hu (by simp))
    rw [show (x.hide == x.hide) = true by simp] at this
    exact this)
  have HU := Lib.hid (uA.trans uB)
  have HX := Lib.hid (Upd.refl [] wB)
  obtain ⟨c0, d0, c1, d1, c2, d2, c3, d3, c4, d4⟩ := HC.out wB (Upd.refl _ _)
  clear h0 k0 h1 k1 h2 k2 h3 k3 h4 k4 uA uB sA
  go_enter Tryz.func9, Tryz.ntmps9
  go_upto_region 1 with (fail)
  rw [← hwA, ← hwB, ← hBA]
  clear hwA hwB hBA
  have T0 := Lib.hid (S0.out wB HU.out)
  clear S0
  go_wp2_with fail
  refine T0.out.mono ?_
  rintro e w0 ⟨rfl, hu⟩
  have HU := Lib.hid (HU.out.trans hu)
  have HX := Lib.hid (HX.out.trans hu)
  obtain ⟨c0, d0, c1, d1, c2, d2, c3, d3, c4, d4⟩ := HC.out w0 HX.out
  clear T0 hu
  have T1 := Lib.hid (S1.out w0 HU.out)
  clear S1
  go_wp2_with fail
  refine T1.out.mono ?_
  rintro e w1 ⟨rfl, hu⟩
  have HU := Lib.hid (HU.out.trans hu)
  have HX := Lib.hid (HX.out.trans hu)
  obtain ⟨c0, d0, c1, d1, c2, d2, c3, d3, c4, d4⟩ := HC.out w1 HX.out
  clear T1 hu
  have T2 := Lib.hid (S2.out w1 HU.out)
  clear S2
  go_wp2_with fail
  refine T2.out.mono ?_
  rintro e w2 ⟨rfl, hu⟩
  have HU := Lib.hid (HU.out.trans hu)
  have HX := Lib.hid (HX.out.trans hu)
  obtain ⟨c0, d0, c1, d1, c2, d2, c3, d3, c4, d4⟩ := HC.out w2 HX.out
  clear T2 hu
  have T3 := Lib.hid (S3.out w2 HU.out)
  clear S3
  go_wp2_with fail
  refine T3.out.mono ?_
  rintro e w3 ⟨rfl, hu⟩
  have HU := Lib.hid (HU.out.trans hu)
  have HX := Lib.hid (HX.out.trans hu)
  obtain ⟨c0, d0, c1, d1, c2, d2, c3, d3, c4, d4⟩ := HC.out w3 HX.out
  clear T3 hu
  have T4 := Lib.hid (S4.out w3 HU.out)
  clear S4
  go_wp2_with fail
  refine T4.out.mono ?_
  rintro e w4 ⟨rfl, hu⟩
  have HU := Lib.hid (HU.out.trans hu)
  have HX := Lib.hid (HX.out.trans hu)
  obtain ⟨c0, d0, c1, d1, c2, d2, c3, d3, c4, d4⟩ := HC.out w4 HX.out
  clear T4 hu
  go_wp2_with fail
  go_ret
  exact ⟨rfl, HU.out⟩
def up_Sy (k : Int) (x : Sy) : Sy := ⟨mkd_De1 (k) x.defs, mkd_Co1 (k + mkF_De1 x.defs) x.comps, mkd_Me1 (k + mkF_De1 x.defs + mkF_Co1 x.comps) x.meets, up_S1 (k + mkF_De1 x.defs + mkF_Co1 x.comps + mkF_Me1 x.meets) x.allow, up_S1 (k + mkF_De1 x.defs + mkF_Co1 x.comps + mkF_Me1 x.meets + mkF_S1 x.allow) x.hide⟩

set_option maxRecDepth 20000 in
set_option maxHeartbeats 2000000 in
theorem mark_Sy (cs : List Value) (x : Sy) (k0 : Int) (w : World) (fp : List Nat) (hk0 : 0 ≤ k0) (hk1 : k0 + mkF_Sy x ≤ 4611686018427387904) (hR : R_Sy fp w cs x) (hO : Own fp w) :
    Calls Tryz.prog 13 #[.agg cs.toArray, .int .i64 k0] w fun e w' => e = .returned (.int .i64 (k0 + mkF_Sy x)) ∧ R_Sy fp w' cs (up_Sy k0 x) ∧ Own fp w' ∧ Upd fp w w' := by
  have hlt := R_Syk.lt hR
  obtain ⟨v0, v1, v2, v3, v4, f0, f1, f2, f3, f4, rfl, h0, h1, h2, h3, h4, rfl⟩ := hR
  have HMX := Lib.hid (show mkF_Sy x = mkF_De1 x.defs + mkF_Co1 x.comps + mkF_Me1 x.meets + mkF_S1 x.allow + mkF_S1 x.hide from rfl)
  unfold mkF_Sy at hk1
  have hn0 := mkF_De1_nonneg x.defs
  have hn1 := mkF_Co1_nonneg x.comps
  have hn2 := mkF_Me1_nonneg x.meets
  have hn3 := mkF_S1_nonneg x.allow
  have hn4 := mkF_S1_nonneg x.hide
  obtain ⟨o0, hOr, dj0⟩ := own_split hO
  obtain ⟨o1, hOrr, dj1⟩ := own_split hOr
  obtain ⟨o2, hOrrr, dj2⟩ := own_split hOrr
  obtain ⟨o3, hOrrrr, dj3⟩ := own_split hOrrr
  have o4 := hOrrrr
  obtain ⟨wA, hwA⟩ : ∃ wA, wA = w.alloc (.cells #[v0, v1, v2, v3, v4] 34) := ⟨_, rfl⟩
  obtain ⟨BA, hBA⟩ : ∃ BA, BA = w.heap.size := ⟨_, rfl⟩
  have uA : Upd [] w wA := by rw [hwA]; exact (Upd.refl _ _).alloc _
  have nb0 : BA ∉ f0 := fun h => by have := hlt BA (by simp [h]); omega
  replace h0 := R_De1k.upd h0 uA (by simp)
  replace o0 := o0.upd uA (by simp)
  have p0 : wA.cell? ⟨BA, 0, none⟩ = some v0 := by rw [hwA, hBA]; exact cell_new w _ _ _ rfl 0 _ rfl
  have nb1 : BA ∉ f1 := fun h => by have := hlt BA (by simp [h]); omega
  replace h1 := R_Co1k.upd h1 uA (by simp)
  replace o1 := o1.upd uA (by simp)
  have p1 : wA.cell? ⟨BA, 1, none⟩ = some v1 := by rw [hwA, hBA]; exact cell_new w _ _ _ rfl 1 _ rfl
  have nb2 : BA ∉ f2 := fun h => by have := hlt BA (by simp [h]); omega
  replace h2 := R_Me1k.upd h2 uA (by simp)
  replace o2 := o2.upd uA (by simp)
  have p2 : wA.cell? ⟨BA, 2, none⟩ = some v2 := by rw [hwA, hBA]; exact cell_new w _ _ _ rfl 2 _ rfl
  have nb3 : BA ∉ f3 := fun h => by have := hlt BA (by simp [h]); omega
  replace h3 := R_S1k.upd h3 uA (by simp)
  replace o3 := o3.upd uA (by simp)
  have p3 : wA.cell? ⟨BA, 3, none⟩ = some v3 := by rw [hwA, hBA]; exact cell_new w _ _ _ rfl 3 _ rfl
  have nb4 : BA ∉ f4 := fun h => by have := hlt BA (by simp [h]); omega
  replace h4 := R_S1k.upd h4 uA (by simp)
  replace o4 := o4.upd uA (by simp)
  have p4 : wA.cell? ⟨BA, 4, none⟩ = some v4 := by rw [hwA, hBA]; exact cell_new w _ _ _ rfl 4 _ rfl
  have UA := Lib.hid (uA.mono (g := f0 ++ (f1 ++ (f2 ++ (f3 ++ (f4))))) (by simp))
  clear uA hlt hOrrrr
  go_enter Tryz.func13, Tryz.ntmps13
  have M0 := Lib.hid (mark_De1 v0 x.defs (k0) wA f0 (by omega) (by omega) h0 o0)
  clear h0 o0
  go_wp2_with fail
  rw [← hwA, ← hBA]
  clear hwA hBA
  refine M0.out.mono ?_
  rintro e w0 ⟨rfl, h0, o0, hu⟩
  clear M0
  have ds : ∀ c ∈ f1, c ∉ f0 := fun c h1 h2 => dj0 c h2 (by simp [h1])
  replace h1 := R_Co1k.upd h1 hu ds
  replace o1 := o1.upd hu ds
  clear ds
  have ds : ∀ c ∈ f2, c ∉ f0 := fun c h1 h2 => dj0 c h2 (by simp [h1])
  replace h2 := R_Me1k.upd h2 hu ds
  replace o2 := o2.upd hu ds
  clear ds
  have ds : ∀ c ∈ f3, c ∉ f0 := fun c h1 h2 => dj0 c h2 (by simp [h1])
  replace h3 := R_S1k.upd h3 hu ds
  replace o3 := o3.upd hu ds
  clear ds
  have ds : ∀ c ∈ f4, c ∉ f0 := fun c h1 h2 => dj0 c h2 (by simp [h1])
  replace h4 := R_S1k.upd h4 hu ds
  replace o4 := o4.upd hu ds
  clear ds
  replace p0 := hu.keepF nb0 p0
  replace p1 := hu.keepF nb0 p1
  replace p2 := hu.keepF nb0 p2
  replace p3 := hu.keepF nb0 p3
  replace p4 := hu.keepF nb0 p4
  replace UA := Lib.hid (UA.out.trans (hu.mono (by intro c hc; simp [hc])))
  clear hu
  have M1 := Lib.hid (mark_Co1 v1 x.comps (k0 + mkF_De1 x.defs) w0 f1 (by omega) (by omega) h1 o1)
  clear h1 o1
  go_wp2_with fail
  refine M1.out.mono ?_
  rintro e w1 ⟨rfl, h1, o1, hu⟩
  clear M1
  have ds : ∀ c ∈ f0, c ∉ f1 := fun c h1 h2 => dj0 c h1 (by simp [h2])
  replace h0 := R_De1k.upd h0 hu ds
  replace o0 := o0.upd hu ds
  clear ds
  have ds : ∀ c ∈ f2, c ∉ f1 := fun c h1 h2 => dj1 c h2 (by simp [h1])
  replace h2 := R_Me1k.upd h2 hu ds
  replace o2 := o2.upd hu ds
  clear ds
  have ds : ∀ c ∈ f3, c ∉ f1 := fun c h1 h2 => dj1 c h2 (by simp [h1])
  replace h3 := R_S1k.upd h3 hu ds
  replace o3 := o3.upd hu ds
  clear ds
  have ds : ∀ c ∈ f4, c ∉ f1 := fun c h1 h2 => dj1 c h2 (by simp [h1])
  replace h4 := R_S1k.upd h4 hu ds
  replace o4 := o4.upd hu ds
  clear ds
  replace p0 := hu.keepF nb1 p0
  replace p1 := hu.keepF nb1 p1
  replace p2 := hu.keepF nb1 p2
  replace p3 := hu.keepF nb1 p3
  replace p4 := hu.keepF nb1 p4
  replace UA := Lib.hid (UA.out.trans (hu.mono (by intro c hc; simp [hc])))
  clear hu
  have M2 := Lib.hid (mark_Me1 v2 x.meets (k0 + mkF_De1 x.defs + mkF_Co1 x.comps) w1 f2 (by omega) (by omega) h2 o2)
  clear h2 o2
  go_wp2_with fail
  refine M2.out.mono ?_
  rintro e w2 ⟨rfl, h2, o2, hu⟩
  clear M2
  have ds : ∀ c ∈ f0, c ∉ f2 := fun c h1 h2 => dj0 c h1 (by simp [h2])
  replace h0 := R_De1k.upd h0 hu ds
  replace o0 := o0.upd hu ds
  clear ds
  have ds : ∀ c ∈ f1, c ∉ f2 := fun c h1 h2 => dj1 c h1 (by simp [h2])
  replace h1 := R_Co1k.upd h1 hu ds
  replace o1 := o1.upd hu ds
  clear ds
  have ds : ∀ c ∈ f3, c ∉ f2 := fun c h1 h2 => dj2 c h2 (by simp [h1])
  replace h3 := R_S1k.upd h3 hu ds
  replace o3 := o3.upd hu ds
  clear ds
  have ds : ∀ c ∈ f4, c ∉ f2 := fun c h1 h2 => dj2 c h2 (by simp [h1])
  replace h4 := R_S1k.upd h4 hu ds
  replace o4 := o4.upd hu ds
  clear ds
  replace p0 := hu.keepF nb2 p0
  replace p1 := hu.keepF nb2 p1
  replace p2 := hu.keepF nb2 p2
  replace p3 := hu.keepF nb2 p3
  replace p4 := hu.keepF nb2 p4
  replace UA := Lib.hid (UA.out.trans (hu.mono (by intro c hc; simp [hc])))
  clear hu
  have M3 := Lib.hid (mark_S1 v3 x.allow (k0 + mkF_De1 x.defs + mkF_Co1 x.comps + mkF_Me1 x.meets) w2 f3 (by omega) (by omega) h3 o3)
  clear h3 o3
  go_wp2_with fail
  refine M3.out.mono ?_
  rintro e w3 ⟨rfl, h3, o3, hu⟩
  clear M3
  have ds : ∀ c ∈ f0, c ∉ f3 := fun c h1 h2 => dj0 c h1 (by simp [h2])
  replace h0 := R_De1k.upd h0 hu ds
  replace o0 := o0.upd hu ds
  clear ds
  have ds : ∀ c ∈ f1, c ∉ f3 := fun c h1 h2 => dj1 c h1 (by simp [h2])
  replace h1 := R_Co1k.upd h1 hu ds
  replace o1 := o1.upd hu ds
  clear ds
  have ds : ∀ c ∈ f2, c ∉ f3 := fun c h1 h2 => dj2 c h1 (by simp [h2])
  replace h2 := R_Me1k.upd h2 hu ds
  replace o2 := o2.upd hu ds
  clear ds
  have ds : ∀ c ∈ f4, c ∉ f3 := fun c h1 h2 => dj3 c h2 (by simp [h1])
  replace h4 := R_S1k.upd h4 hu ds
  replace o4 := o4.upd hu ds
  clear ds
  replace p0 := hu.keepF nb3 p0
  replace p1 := hu.keepF nb3 p1
  replace p2 := hu.keepF nb3 p2
  replace p3 := hu.keepF nb3 p3
  replace p4 := hu.keepF nb3 p4
  replace UA := Lib.hid (UA.out.trans (hu.mono (by intro c hc; simp [hc])))
  clear hu
  have M4 := Lib.hid (mark_S1 v4 x.hide (k0 + mkF_De1 x.defs + mkF_Co1 x.comps + mkF_Me1 x.meets + mkF_S1 x.allow) w3 f4 (by omega) (by omega) h4 o4)
  clear h4 o4
  go_wp2_with fail
  refine M4.out.mono ?_
  rintro e w4 ⟨rfl, h4, o4, hu⟩
  clear M4
  have ds : ∀ c ∈ f0, c ∉ f4 := fun c h1 h2 => dj0 c h1 (by simp [h2])
  replace h0 := R_De1k.upd h0 hu ds
  replace o0 := o0.upd hu ds
  clear ds
  have ds : ∀ c ∈ f1, c ∉ f4 := fun c h1 h2 => dj1 c h1 (by simp [h2])
  replace h1 := R_Co1k.upd h1 hu ds
  replace o1 := o1.upd hu ds
  clear ds
  have ds : ∀ c ∈ f2, c ∉ f4 := fun c h1 h2 => dj2 c h1 (by simp [h2])
  replace h2 := R_Me1k.upd h2 hu ds
  replace o2 := o2.upd hu ds
  clear ds
  have ds : ∀ c ∈ f3, c ∉ f4 := fun c h1 h2 => dj3 c h1 (by simp [h2])
  replace h3 := R_S1k.upd h3 hu ds
  replace o3 := o3.upd hu ds
  clear ds
  replace p0 := hu.keepF nb4 p0
  replace p1 := hu.keepF nb4 p1
  replace p2 := hu.keepF nb4 p2
  replace p3 := hu.keepF nb4 p3
  replace p4 := hu.keepF nb4 p4
  replace UA := Lib.hid (UA.out.trans (hu.mono (by intro c hc; simp [hc])))
  clear hu
  have HE := Lib.hid (And.intro (show R_Sy (f0 ++ (f1 ++ (f2 ++ (f3 ++ (f4))))) w4 [v0, v1, v2, v3, v4] (up_Sy k0 x) from ⟨v0, v1, v2, v3, v4, f0, f1, f2, f3, f4, rfl, h0, h1, h2, h3, h4, rfl⟩) (And.intro (own_join o0 (own_join o1 (own_join o2 (own_join o3 (o4) dj3) dj2) dj1) dj0) UA.out))
  have hacc : k0 + mkF_De1 x.defs + mkF_Co1 x.comps + mkF_Me1 x.meets + mkF_S1 x.allow + mkF_S1 x.hide = k0 + mkF_Sy x := by rw [HMX.out]; omega
  clear h0 o0 p0 h1 o1 p1 h2 o2 p2 h3 o3 p3 h4 o4 p4
  rw [hacc]
  clear hacc
  go_wp2_with fail
  go_ret
  exact ⟨rfl, HE.out.1, HE.out.2.1, HE.out.2.2⟩

end Go.Proofs.YtijmkcnipflpbaaGreatDoor

/-
  The program's check of a system: what the calls return.
-/
namespace Go.Proofs.YtijmkcnipflpbaaGreatDoor
open Go.RowKit

/-- what bounds a system that is looked at. -/
structure SyFit (s : Sy) : Prop where
  defs : DesFit s.defs
  comps : s.comps.length ≤ 2000000
  meets : s.meets.length ≤ 2000000 ∧ ∀ m ∈ s.meets, m.left.length ≤ 2000000 ∧ m.right.length ≤ 2000000 ∧ m.result.length ≤ 2000000
  allow : s.allow.length ≤ 2000000 ∧ ∀ p ∈ s.allow, p.length ≤ 2000000
  hide : s.hide.length ≤ 2000000 ∧ ∀ p ∈ s.hide, p.length ≤ 2000000
/-- in what a system is not valid; 0 if it is. -/
def faultSy (s : Sy) : Int := if !defsOk s.defs then 1 else if !compsOk s.defs s.comps then 2 else if !meetsF s.meets then 3 else if !namesF s.allow then 4 else if !namesF s.hide then 5 else 0
theorem faultSy_ok (s : Sy) : (faultSy s == 0) = sysOk s := by
  unfold faultSy sysOk
  cases defsOk s.defs <;> cases compsOk s.defs s.comps <;> cases meetsF s.meets <;> cases namesF s.allow <;> cases namesF s.hide <;> rfl

set_option maxRecDepth 20000 in
set_option maxHeartbeats 8000000 in
theorem sysFaultI (cs : List Value) (s : Sy) (w : World) (fp : List Nat) (hR : R_Sy fp w cs s) (hF : SyFit s) :
    Calls Tryz.prog 44 #[.agg cs.toArray] w fun e w' => e = .returned (.int .i64 (faultSy s)) ∧ Upd [] w w' := by
  obtain ⟨v0, v1, v2, v3, v4, f0, f1, f2, f3, f4, rfl, h0, h1, h2, h3, h4, rfl⟩ := hR
  have HM := Lib.hid (show faultSy s = if !defsOk s.defs then 1 else if !(inB (s.comps.length : Int) 1 3 && !(s.comps.any fun c => !compOk s.defs c)) then 2 else if !meetsF s.meets then 3 else if !namesF s.allow then 4 else if !namesF s.hide then 5 else 0 by
    have : compsOk s.defs s.comps = (inB (s.comps.length : Int) 1 3 && !(s.comps.any fun c => !compOk s.defs c)) := by
      unfold compsOk
      rw [show s.comps.all (compOk s.defs) = !(s.comps.any fun c => !compOk s.defs c) by rw [List.all_eq_not_any_not]]
    unfold faultSy
    rw [this])
  obtain ⟨wA, hwA⟩ : ∃ q, q = w.alloc (.cells #[v0, v1, v2, v3, v4] 34) := ⟨_, rfl⟩
  obtain ⟨BA, hBA⟩ : ∃ q, q = w.heap.size := ⟨_, rfl⟩
  have uA : Upd [] w wA := by rw [hwA]; exact (Upd.refl _ _).alloc _
  have HC := Lib.hid (fun W (hu : Upd [] wA W) => show W.cell? ⟨BA, 0, none⟩ = some v0 ∧ W.cell? ⟨BA, 1, none⟩ = some v1 ∧ W.cell? ⟨BA, 2, none⟩ = some v2 ∧ W.cell? ⟨BA, 3, none⟩ = some v3 ∧ W.cell? ⟨BA, 4, none⟩ = some v4 from
    ⟨hu.keep (by rw [hwA, hBA]; exact cell_new w _ _ _ rfl 0 _ rfl), hu.keep (by rw [hwA, hBA]; exact cell_new w _ _ _ rfl 1 _ rfl), hu.keep (by rw [hwA, hBA]; exact cell_new w _ _ _ rfl 2 _ rfl), hu.keep (by rw [hwA, hBA]; exact cell_new w _ _ _ rfl 3 _ rfl), hu.keep (by rw [hwA, hBA]; exact cell_new w _ _ _ rfl 4 _ rfl)⟩)
  have S0 := Lib.hid (validDefsI v0 s.defs wA f0 (R_De1k.upd h0 uA (by simp)) hF.defs)
  have SW := Lib.hid (fun W => within (s.comps.length : Int) 1 3 W)
  have SC := Lib.hid (fun W (hu : Upd [] wA W) (hdl : s.defs.length ≤ 1000000) => conFuncCo (fun c => !compOk s.defs c) 69 #[.pointer (some ⟨BA, 0, none⟩)] v1 s.comps W f1 (R_Co1k.upd h1 (uA.trans hu) (by simp)) enter_sysF1 (fun wr us g c _ hu2 hc => sysF1I s.defs v0 f0 BA us c g wr (R_De1k.upd h0 ((uA.trans hu).trans hu2) (by simp)) hdl hc (hu2.keep (HC.out W hu).1)))
  have SM := Lib.hid (fun W (hu : Upd [] wA W) => meetingsOkI v2 s.meets W f2 (R_Me1k.upd h2 (uA.trans hu) (by simp)) hF.meets.1 hF.meets.2)
  have SA := Lib.hid (fun W (hu : Upd [] wA W) => namesOkI v3 s.allow W f3 (R_S1k.upd h3 (uA.trans hu) (by simp)) hF.allow.1 hF.allow.2)
  have SH := Lib.hid (fun W (hu : Upd [] wA W) => namesOkI v4 s.hide W f4 (R_S1k.upd h4 (uA.trans hu) (by simp)) hF.hide.1 hF.hide.2)
  have UA := Lib.hid uA
  have HDL := Lib.hid (fun (h : defsOk s.defs = true) => show s.defs.length ≤ 1000000 from by
    unfold defsOk at h
    simp only [Bool.and_eq_true, decide_eq_true_eq] at h
    omega)
  have hcl := hF.comps
  obtain ⟨a0, q0, rfl, -, -, -⟩ := slQ_open h0
  obtain ⟨a1, q1, rfl, -, -, -⟩ := slQ_open h1
  obtain ⟨a2, q2, rfl, -, -, -⟩ := slQ_open h2
  obtain ⟨a3, q3, rfl, -, -, -⟩ := slF1_open h3
  obtain ⟨a4, q4, rfl, -, -, -⟩ := slF1_open h4
  obtain ⟨c0, c1, c2, c3, c4⟩ := HC.out wA (Upd.refl _ _)
  have hent := enter_sysF1
  clear h0 h1 h2 h3 h4 uA hF
  generalize faultSy s = Z at *
  obtain ⟨defs, comps, meets, allow, hide⟩ := s
  simp only at *
  generalize hg1 : (comps.any fun c => !compOk defs c) = g1 at *
  clear hg1
  generalize meetsF meets = g2 at *
  generalize namesF allow = g3 at *
  generalize namesF hide = g4 at *
  obtain ⟨g0, hg0⟩ : ∃ q, defsOk defs = q := ⟨_, rfl⟩
  rw [hg0] at S0 HM HDL
  clear hg0
  obtain ⟨gw, hgw⟩ : ∃ q, inB (comps.length : Int) 1 3 = q := ⟨_, rfl⟩
  rw [hgw] at SW HM
  clear hgw
  go_enter Tryz.func44, Tryz.ntmps44
  go_upto_region 1 with (fail)
  rw [← hwA, ← hBA]
  clear hwA hBA
  go_wp2_with fail
  refine S0.out.mono ?_
  rintro e w1 ⟨rfl, hu1⟩
  have HU := Lib.hid hu1
  clear S0 hu1 c0 c1 c2 c3 c4
  obtain ⟨c0, c1, c2, c3, c4⟩ := HC.out w1 HU.out
  cases g0 with
  | false =>
    go_wp2_with fail
    go_ret
    exact ⟨by rw [HM.out]; rfl, UA.out.trans HU.out⟩
  | true =>
    have S1 := Lib.hid (SW.out w1)
    have S2 := Lib.hid (SC.out w1 HU.out (HDL.out rfl))
    clear SW SC HDL
    go_wp2_with fail
    refine S1.out.mono ?_
    rintro e wq ⟨rfl, rfl⟩
    clear S1
    cases gw with
    | false =>
      go_wp2_with fail
      go_ret
      exact ⟨by rw [HM.out]; rfl, UA.out.trans HU.out⟩
    | true =>
      go_wp2_with fail
      refine S2.out.mono ?_
      rintro e w2 ⟨rfl, hu2⟩
      replace HU := Lib.hid (HU.out.trans hu2)
      clear S2 hu2 c0 c1 c2 c3 c4
      obtain ⟨c0, c1, c2, c3, c4⟩ := HC.out w2 HU.out
      cases g1 with
      | true =>
        go_wp2_with fail
        go_ret
        exact ⟨by rw [HM.out]; rfl, UA.out.trans HU.out⟩
      | false =>
        have S3 := Lib.hid (SM.out w2 HU.out)
        clear SM
        go_wp2_with fail
        refine S3.out.mono ?_
        rintro e w3 ⟨rfl, hu3⟩
        replace HU := Lib.hid (HU.out.trans hu3)
        clear S3 hu3 c0 c1 c2 c3 c4
        obtain ⟨c0, c1, c2, c3, c4⟩ := HC.out w3 HU.out
        cases g2 with
        | false =>
          go_wp2_with fail
          go_ret
          exact ⟨by rw [HM.out]; rfl, UA.out.trans HU.out⟩
        | true =>
          have S4 := Lib.hid (SA.out w3 HU.out)
          clear SA
          go_wp2_with fail
          refine S4.out.mono ?_
          rintro e w4 ⟨rfl, hu4⟩
          replace HU := Lib.hid (HU.out.trans hu4)
          clear S4 hu4 c0 c1 c2 c3 c4
          obtain ⟨c0, c1, c2, c3, c4⟩ := HC.out w4 HU.out
          cases g3 with
          | false =>
            go_wp2_with fail
            go_ret
            exact ⟨by rw [HM.out]; rfl, UA.out.trans HU.out⟩
          | true =>
            have S5 := Lib.hid (SH.out w4 HU.out)
            clear SH
            go_wp2_with fail
            refine S5.out.mono ?_
            rintro e w5 ⟨rfl, hu5⟩
            replace HU := Lib.hid (HU.out.trans hu5)
            clear S5 hu5 c0 c1 c2 c3 c4
            cases g4 with
            | false =>
              go_wp2_with fail
              go_ret
              exact ⟨by rw [HM.out]; rfl, UA.out.trans HU.out⟩
            | true =>
              go_wp2_with fail
              go_ret
              exact ⟨by rw [HM.out]; rfl, UA.out.trans HU.out⟩

set_option maxRecDepth 20000 in
set_option maxHeartbeats 1000000 in
theorem validSysI (cs : List Value) (s : Sy) (w : World) (fp : List Nat) (hR : R_Sy fp w cs s) (hF : SyFit s) :
    Calls Tryz.prog 26 #[.agg cs.toArray] w fun e w' => e = .returned (.bool (sysOk s)) ∧ Upd [] w w' := by
  have hR' := hR
  obtain ⟨v0, v1, v2, v3, v4, f0, f1, f2, f3, f4, rfl, h0, h1, h2, h3, h4, rfl⟩ := hR
  obtain ⟨wA, hwA⟩ : ∃ q, q = w.alloc (.cells #[v0, v1, v2, v3, v4] 34) := ⟨_, rfl⟩
  obtain ⟨BA, hBA⟩ : ∃ q, q = w.heap.size := ⟨_, rfl⟩
  have uA : Upd [] w wA := by rw [hwA]; exact (Upd.refl _ _).alloc _
  have c0 : wA.cell? ⟨BA, 0, none⟩ = some v0 := by rw [hwA, hBA]; exact cell_new w _ _ _ rfl 0 _ rfl
  have c1 : wA.cell? ⟨BA, 1, none⟩ = some v1 := by rw [hwA, hBA]; exact cell_new w _ _ _ rfl 1 _ rfl
  have c2 : wA.cell? ⟨BA, 2, none⟩ = some v2 := by rw [hwA, hBA]; exact cell_new w _ _ _ rfl 2 _ rfl
  have c3 : wA.cell? ⟨BA, 3, none⟩ = some v3 := by rw [hwA, hBA]; exact cell_new w _ _ _ rfl 3 _ rfl
  have c4 : wA.cell? ⟨BA, 4, none⟩ = some v4 := by rw [hwA, hBA]; exact cell_new w _ _ _ rfl 4 _ rfl
  have S1 := Lib.hid (sysFaultI _ s wA _ (R_Syk.upd hR' uA (by simp)) hF)
  have HM := Lib.hid (faultSy_ok s)
  have UA := Lib.hid uA
  clear h0 h1 h2 h3 h4 hR' uA
  generalize faultSy s = Z at *
  obtain ⟨q, hq⟩ : ∃ q, (Z == 0) = q := ⟨_, rfl⟩
  rw [hq] at HM
  go_enter Tryz.func26, Tryz.ntmps26
  go_upto_region 1 with (fail)
  rw [← hwA, ← hBA]
  clear hwA hBA
  go_wp2_with fail
  refine S1.out.mono ?_
  rintro e w1 ⟨rfl, hu⟩
  have HU := Lib.hid (UA.out.trans hu)
  clear S1 hu
  go_wp2_with fail
  go_ret
  exact ⟨by rw [← HM.out]; first | rfl | (rw [← hq]; rfl), HU.out⟩

end Go.Proofs.YtijmkcnipflpbaaGreatDoor

/-
  The text of a body: what the program's calls return (a printer that goes on through the parts).
-/
namespace Go.Proofs.YtijmkcnipflpbaaGreatDoor
open Go.RowKit

/-- what the printer reads beside its own two cells. -/
structure PrEnv (lv : Value) (fd : List Nat) (ds : List De) (b off cap : Nat) (fb : List Nat) (body : List Pa) (W : World) : Prop where
  g : Glob W
  l : R_De1 fd W [lv] ds
  r : R_Pa1 fb W [.slice (some ⟨b, off, none⟩) body.length cap] body
/-- the printer before the part k. -/
structure PrW (X : Nat) (lv : Value) (fd : List Nat) (ds : List De) (b off cap : Nat) (fb : List Nat) (body : List Pa) (k : Nat) (w : World) : Prop where
  blk : ∃ a m c, m + k = body.length ∧ c + k = cap ∧ w.heap[X]? = some (.cells #[lv, .slice a m c] 119 (0, 0)) ∧ (0 < m → a = some ⟨b, off + k * 4, none⟩)
  env : ∀ W, Upd [X] w W → PrEnv lv fd ds b off cap fb body W
  nx : X ∉ fb
theorem PrW.upd {X : Nat} {lv : Value} {fd : List Nat} {ds : List De} {b off cap : Nat} {fb : List Nat} {body : List Pa} {k : Nat} {w w' : World} (h : PrW X lv fd ds b off cap fb body k w) (hu : Upd [] w w') : PrW X lv fd ds b off cap fb body k w' := by
  obtain ⟨a, m, c, h1, h2, h3, h4⟩ := h.blk
  exact ⟨⟨a, m, c, h1, h2, by rw [hu.block X (Array.getElem?_eq_some_iff.1 h3).1 (by simp)]; exact h3, h4⟩, fun W hW => h.env W ((hu.mono (by simp)).trans hW), h.nx⟩
/-- what the printer leaves behind a part. -/
def Printed (X : Nat) (lv : Value) (fd : List Nat) (ds : List De) (b off cap : Nat) (fb : List Nat) (body : List Pa) (k : Nat) (T : List UInt8) (w : World) (e : Ending) (w' : World) : Prop :=
  e = .returned (es T) ∧ Upd [X] w w' ∧ PrW X lv fd ds b off cap fb body k w'
theorem es_parD (T : List UInt8) : ((⟨#[40]⟩ : ByteArray) ++ ⟨T.toArray⟩ ++ ⟨#[41]⟩) = ⟨(([40] ++ T) ++ [41]).toArray⟩ := by rw [str_cat, str_cat]

set_option maxRecDepth 20000 in
set_option maxHeartbeats 4000000 in
theorem innerD (X : Nat) (lv : Value) (fd : List Nat) (ds : List De) (b off cap : Nat) (fb : List Nat) (body : List Pa) (k k' : Nat) (y : Tr Pa) (post : List Pa) (T : List UInt8) (w : World) (hW : PrW X lv fd ds b off cap fb body k w) (hdr : body.drop k = flatT y ++ post) (hT : T.length ≤ 100000)
    (S : Calls Tryz.prog 76 #[.pointer (some ⟨X, 0, none⟩)] w (Printed X lv fd ds b off cap fb body k' T w)) :
    Calls Tryz.prog 105 #[.pointer (some ⟨X, 0, none⟩)] w (Printed X lv fd ds b off cap fb body k' (par (chP y) T) w) := by
  obtain ⟨p, args⟩ := y
  have hkl : k < body.length := by
    have h1 := congrArg List.length hdr
    simp only [List.length_drop, flatT, List.cons_append, List.length_cons] at h1
    omega
  have hpk : body[k] = p := by
    rw [List.drop_eq_getElem_cons hkl] at hdr
    simp only [flatT, List.cons_append, List.cons.injEq] at hdr
    exact hdr.1
  obtain ⟨a, m, c, hm, hc, hX, ha⟩ := hW.blk
  obtain rfl := ha (by omega)
  have hE := (hW.env w (Upd.refl _ _)).r
  obtain ⟨a1, c1, hv1, g1, g2, hcc⟩ := slQ_open hE
  simp only [Value.slice.injEq] at hv1
  obtain ⟨rfl, -, rfl⟩ := hv1
  obtain ⟨b', off', u, f', he, -, -, -, hcell, -, hr⟩ := hcc k hkl
  simp only [Option.some.injEq, Addr.mk.injEq, and_true] at he
  obtain ⟨rfl, rfl⟩ := he
  obtain ⟨v3, f3, rfl, -, -⟩ := hr
  rw [hpk] at hcell
  have p0 := hcell 0 _ rfl
  simp only [Nat.add_zero] at p0
  have x1 : w.cell? ⟨X, 1, none⟩ = some (.slice (some ⟨b, off + k * 4, none⟩) m c) := by simp [World.cell?, hX]
  have hm1 : (0 : Int) < (m : Int) := by omega
  have hm2 : 0 < m := by omega
  have HS := Lib.hid S
  have HCH := Lib.hid (show chP (Tr.mk p args) = (p.kind == 2) from rfl)
  unfold maxLen at g2
  clear hW hX hE hcc hcell S hpk hdr
  obtain ⟨q2, h2⟩ : ∃ q, (p.kind == 2) = q := ⟨_, rfl⟩
  rw [h2] at HCH
  cases q2 with
  | false =>
    have HZ := Lib.hid (show par (chP (Tr.mk p args)) T = T by rw [HCH.out]; rfl)
    go_enter Tryz.func105, Tryz.ntmps105
    go_wp2_with fail
    refine HS.out.mono ?_
    rintro e w1 ⟨rfl, hr⟩
    have HR := Lib.hid hr
    clear hr HS
    go_wp2_with fail
    go_ret
    exact ⟨by rw [HZ.out]; rfl, HR.out⟩
  | true =>
    have HZ := Lib.hid (show par (chP (Tr.mk p args)) T = ([40] ++ T) ++ [41] by rw [HCH.out]; rfl)
    have n1 : ¬ (9223372036854775807 < 1 + T.length) := by omega
    have n2 : ¬ (9223372036854775807 < 1 + T.length + 1) := by omega
    go_enter Tryz.func105, Tryz.ntmps105
    go_wp2_with fail
    refine HS.out.mono ?_
    rintro e w1 ⟨rfl, hr⟩
    have HR := Lib.hid hr
    clear hr HS
    go_wp2_with fail
    go_ret
    exact ⟨by rw [HZ.out, es_parD]; rfl, HR.out⟩

set_option maxRecDepth 20000 in
set_option maxHeartbeats 16000000 in
theorem partD (X : Nat) (lv : Value) (fd : List Nat) (ds : List De) (b off cap : Nat) (fb : List Nat) (body : List Pa) (hbl : body.length ≤ 20) (hns : ∀ d ∈ ds, d.name.length ≤ 10) (hfine : ∀ p ∈ body, PaFine ds p) (ns : List (List UInt8)) (hnsd : ns = ds.map De.name) (N : Nat) :
    ∀ (x : Tr Pa) (k : Nat) (post : List Pa) (w : World), (flatT x).length ≤ N → okT folP x = true → body.drop k = flatT x ++ post → PrW X lv fd ds b off cap fb body k w →
    Calls Tryz.prog 76 #[.pointer (some ⟨X, 0, none⟩)] w (Printed X lv fd ds b off cap fb body (k + (flatT x).length) (pT ns x) w) := by
  induction N with
  | zero => intro x k post w hN; have := flatT_pos x; omega
  | succ N ih =>
    intro x k post w hN hok hdr hW
    have hfx : ∀ q ∈ flatT x, PaFine ds q := fun q hq => hfine q (List.mem_of_mem_drop (hdr ▸ List.mem_append_left _ hq))
    have hnn : ∀ n ∈ ns, n.length ≤ 10 := fun n hn => by rw [hnsd] at hn; obtain ⟨d, hd, rfl⟩ := List.mem_map.1 hn; exact hns d hd
    obtain ⟨p, args⟩ := x
    have hkl : k < body.length := by
      have h1 := congrArg List.length hdr
      simp only [List.length_drop, flatT, List.cons_append, List.length_cons] at h1
      omega
    have hpk : body[k] = p := by
      rw [List.drop_eq_getElem_cons hkl] at hdr
      simp only [flatT, List.cons_append, List.cons.injEq] at hdr
      exact hdr.1
    have hdr2 : body.drop (k + 1) = flatTs args ++ post := by
      rw [List.drop_eq_getElem_cons hkl] at hdr
      simp only [flatT, List.cons_append, List.cons.injEq] at hdr
      exact hdr.2
    simp only [okT, Bool.and_eq_true, decide_eq_true_eq] at hok
    simp only [flatT, List.length_cons] at hN
    have hp := hfx p (by simp [flatT])
    have hfa : ∀ q ∈ flatTs args, PaFine ds q := fun q hq => hfx q (by simp [flatT, hq])
    obtain ⟨a, m, c, hm, hc, hX, ha⟩ := hW.blk
    obtain rfl := ha (by omega)
    obtain ⟨m', rfl⟩ : ∃ m', m = m' + 1 := ⟨m - 1, by omega⟩
    have hE := (hW.env w (Upd.refl _ _)).r
    obtain ⟨a1, c1, hv1, g1, g2, hcc⟩ := slQ_open hE
    simp only [Value.slice.injEq] at hv1
    obtain ⟨rfl, -, rfl⟩ := hv1
    obtain ⟨c', rfl⟩ : ∃ c', c = c' + 1 := ⟨c - 1, by omega⟩
    obtain ⟨b', off', u, f', he, -, hb9, -, hcell, hsub, hr⟩ := hcc k hkl
    simp only [Option.some.injEq, Addr.mk.injEq, and_true] at he
    obtain ⟨rfl, rfl⟩ := he
    obtain ⟨v3, f3, rfl, h3, rfl⟩ := hr
    rw [hpk] at hcell h3
    have h3' := h3
    have hX3 : ∀ c ∈ f3, c ∉ [X] := fun c hc hm => hW.nx (by simp at hm; subst hm; exact hsub _ (by simp [hc]))
    obtain ⟨a3, c3, rfl, l3, m3, -⟩ := slP_open h3
    have p0 := hcell 0 _ rfl
    have p1 := hcell 1 _ rfl
    have p2 := hcell 2 _ rfl
    have p3 := hcell 3 _ rfl
    simp only [Nat.add_zero] at p0
    unfold maxLen at g2 m3
    have hXl : X < w.heap.size := (Array.getElem?_eq_some_iff.1 hX).1
    have x1 : w.cell? ⟨X, 1, none⟩ = some (.slice (some ⟨b, off + k * 4, none⟩) (m' + 1) (c' + 1)) := by simp [World.cell?, hX]
    obtain ⟨wC, hwC⟩ : ∃ q, q = w.alloc (.cells #[ei p.kind, ei p.num, es p.name, .slice a3 p.args.length c3] 127) := ⟨_, rfl⟩
    obtain ⟨BC, hBC⟩ : ∃ q, q = w.heap.size := ⟨_, rfl⟩
    have uC : Upd [] w wC := by rw [hwC]; exact (Upd.refl _ _).alloc _
    have e0 : wC.cell? ⟨BC, 0, none⟩ = some (ei p.kind) := by rw [hwC, hBC]; exact cell_new w _ _ _ rfl 0 _ rfl
    have e1 : wC.cell? ⟨BC, 1, none⟩ = some (ei p.num) := by rw [hwC, hBC]; exact cell_new w _ _ _ rfl 1 _ rfl
    have e2 : wC.cell? ⟨BC, 2, none⟩ = some (es p.name) := by rw [hwC, hBC]; exact cell_new w _ _ _ rfl 2 _ rfl
    have e3 : wC.cell? ⟨BC, 3, none⟩ = some (.slice a3 p.args.length c3) := by rw [hwC, hBC]; exact cell_new w _ _ _ rfl 3 _ rfl
    have hXC : wC.heap[X]? = some (.cells #[lv, .slice (some ⟨b, off + k * 4, none⟩) (m' + 1) (c' + 1)] 119 (0, 0)) := by rw [uC.block X hXl (by simp)]; exact hX
    have y1 : wC.cell? ⟨X, 1, none⟩ = some (.slice (some ⟨b, off + k * 4, none⟩) (m' + 1) (c' + 1)) := by simp [World.cell?, hXC]
    have zX : wC.frozen? ⟨X, 1, none⟩ = false := by simp [World.frozen?, hXC]
    have nXB : X ≠ BC := by omega
    obtain ⟨ar, har⟩ : ∃ ar : Option Addr, ar = if c' = 0 then some ⟨b, off + k * 4, none⟩ else some ⟨b, off + k * 4 + 4, none⟩ := ⟨_, rfl⟩
    obtain ⟨wD, hwD⟩ : ∃ q, q = wC.setCell ⟨X, 1, none⟩ (.slice ar m' c') := ⟨_, rfl⟩
    have uD : Upd [X] wC wD := by rw [hwD]; exact (Upd.refl _ _).setCell (Or.inr (by simp)) _
    have hXD : wD.heap[X]? = some (.cells #[lv, .slice ar m' c'] 119 (0, 0)) := by
      rw [hwD]; simp [World.setCell, Array.getElem?_modify, hXC]
    have hWD : PrW X lv fd ds b off cap fb body (k + 1) wD := by
      refine ⟨⟨ar, m', c', by omega, by omega, hXD, fun h => ?_⟩, fun W hu => hW.env W ((uC.mono (by simp)).trans (uD.trans hu)), hW.nx⟩
      rw [har, if_neg (by omega), show off + (k + 1) * 4 = off + k * 4 + 4 by omega]
    have f0 := uD.keepF (by simpa using nXB.symm) e0
    have f1 := uD.keepF (by simpa using nXB.symm) e1
    have f2 := uD.keepF (by simpa using nXB.symm) e2
    have f3' := uD.keepF (by simpa using nXB.symm) e3
    have HUD := Lib.hid (show Upd [X] w wD from (uC.mono (by simp)).trans uD)
    have HIH := Lib.hid ih
    have HOK := Lib.hid hok
    have HDR := Lib.hid hdr2
    have HFA := Lib.hid hfa
    have HP := Lib.hid hp
    have HWD := Lib.hid hWD
    have HT2 := Lib.hid (fun W (hu : Upd [X] wD W) => R_T2k.upd h3' (HUD.out.trans hu) hX3)
    have HEV := Lib.hid (fun W (hu : Upd [X] wD W) => hW.env W (HUD.out.trans hu))
    have hm0 : (0 : Int) < (m' : Int) + 1 := by omega
    clear hW hWD uC uD ih hok hdr hdr2 hfx hfa hp h3 h3' hE hcc hcell hX hXD hXC hpk
    generalize p.args.length = L3 at *
    go_enter Tryz.func76, Tryz.ntmps76
    go_upto_region 2 with (fail)
    rw [← hwC, ← hBC]
    clear hwC hBC p0 p1 p2 p3
    go_upto_region 3 with (fail)
    rw [← har, ← hwD]
    clear hwD har y1 zX e0 e1 e2 e3 x1
    have HNS := Lib.hid hnsd
    have HTL := Lib.hid (fun V (hu : Upd [X] wD V) => listedI (.slice a3 L3 c3) p.args V f3 (HEV.out V hu).g (HT2.out V hu) (by have := HP.out.three; omega) HP.out.exps)
    have HIN := Lib.hid (fun (y : Tr Pa) kk (post' : List Pa) V (hV : PrW X lv fd ds b off cap fb body kk V) (hlen : (flatT y).length ≤ N) (hoky : okT folP y = true) (hdry : body.drop kk = flatT y ++ post') (hT : (pT ns y).length ≤ 100000) =>
      innerD X lv fd ds b off cap fb body kk (kk + (flatT y).length) y post' (pT ns y) V hV hdry hT (HIH.out y kk post' V hlen hoky hdry hV))
    have hNl : N ≤ 19 ∨ 19 < N := by omega
    clear hfine
    have hfl : (flatTs args).length ≤ 20 := by
      have h1 := congrArg List.length HDR.out
      simp only [List.length_drop, List.length_append] at h1
      omega
    obtain ⟨pk, pn, pname, pargs⟩ := p
    have hkd := HP.out.kind
    simp only at *
    rcases (by omega : pk = 0 ∨ pk = 5 ∨ pk = 1 ∨ pk = 2 ∨ pk = 3 ∨ pk = 4) with rfl | rfl | rfl | rfl | rfl | rfl
    · have hargs : args = [] := List.eq_nil_of_length_eq_zero (by have h := HOK.out.1; rw [show folP _ = 0 from rfl] at h; omega)
      subst hargs
      have HRES := Lib.hid (show pT ns (.mk ⟨0, pn, pname, pargs⟩ []) = [48] by simp [pT])
      have HLEN := Lib.hid (show k + (flatT (Tr.mk (⟨0, pn, pname, pargs⟩ : Pa) [])).length = k + 1 by simp [flatT, flatTs])
      clear HTL HIN HIH HT2 HEV
      go_wp2_with fail
      go_ret
      exact ⟨by rw [HRES.out]; rfl, HUD.out, by rw [HLEN.out]; exact HWD.out⟩
    · have hargs : args = [] := List.eq_nil_of_length_eq_zero (by have h := HOK.out.1; rw [show folP _ = 0 from rfl] at h; omega)
      subst hargs
      obtain ⟨n0, n1⟩ := HP.out.call rfl
      simp only at n0 n1
      obtain ⟨j, rfl⟩ : ∃ j : Nat, pn = j := ⟨pn.toNat, by omega⟩
      have hj : j < ds.length := by omega
      obtain ⟨al, cl, rfl, gl1, gl2, hcl⟩ := slQ_open (HEV.out wD (Upd.refl _ _)).l
      obtain ⟨bl, ol, ul, fl, rfl, -, -, -, hcelll, -, hrl⟩ := hcl j hj
      obtain ⟨v5, f5, rfl, -, -⟩ := hrl
      have d0 := hcelll 0 _ rfl
      simp only [Nat.add_zero] at d0
      unfold maxLen at gl2
      have hnj : ns.getD j [] = ds[j].name := by
        rw [HNS.out, List.getD_eq_getElem?_getD, List.getElem?_map, List.getElem?_eq_getElem hj]; rfl
      have hnl := hns ds[j] (List.getElem_mem hj)
      have hAl := args_len pargs HP.out.three
      have HRES := Lib.hid (show pT ns (.mk ⟨5, (j : Int), pname, pargs⟩ []) = ds[j].name ++ argsTxt pargs by simp [pT, ← hnj])
      have HLEN := Lib.hid (show k + (flatT (Tr.mk (⟨5, (j : Int), pname, pargs⟩ : Pa) [])).length = k + 1 by simp [flatT, flatTs])
      obtain ⟨ab, mb, cb, -, -, hXB, -⟩ := HWD.out.blk
      have x0 : wD.cell? ⟨X, 0, none⟩ = some (.slice (some ⟨bl, ol, none⟩) ds.length cl) := by simp [World.cell?, hXB]
      have hjl : (j : Int) < (ds.length : Int) := by omega
      clear HIN HIH HT2 hcl hcelll hnj HNS hXB
      generalize ds[j].name = nm at *
      generalize hA : argsTxt pargs = A at *
      obtain ⟨S, hS⟩ : ∃ S, S = nm ++ A := ⟨_, rfl⟩
      have hc1 : (ByteArray.mk nm.toArray ++ ByteArray.mk A.toArray) = ByteArray.mk S.toArray := by rw [hS, str_cat]
      rw [← hS] at HRES
      have n3 : ¬ (9223372036854775807 < nm.length + A.length) := by omega
      clear hS hA
      go_wp2_with fail
      go_region_held3 (fun w' => w'.cell? ⟨X, 0, none⟩ = some (.slice (some ⟨bl, ol, none⟩) ds.length cl) ∧ w'.cell? ⟨BC, 1, none⟩ = some (ei j) ∧ w'.cell? ⟨BC, 3, none⟩ = some (.slice a3 L3 c3) ∧ w'.cell? ⟨bl, ol + j * 3, none⟩ = some (es nm)) (go_keep)
        (first
          | (go_at_call 104; (with_reducible refine (HTL.out _ (by repeat (first | exact Upd.refl _ _ | refine Upd.drew ?_))).mono ?_); rintro e w1 ⟨rfl, hu1⟩; have s0 := hu1.keep x0; have s1 := hu1.keep f1; have s3 := hu1.keep f3'; have s4 := hu1.keep d0))
      all_goals
        have HU1 := Lib.hid ((Upd.refl [] wD).drew.trans hu1)
        clear hu1 s0 s1 s3 s4 HTL HEV
        go_wp2_with fail
        go_ret
        exact ⟨by rw [HRES.out]; rfl, HUD.out.trans (HU1.out.mono (by simp)), by rw [HLEN.out]; exact HWD.out.upd HU1.out⟩
    · have hlen1 : args.length = 1 := by have h := HOK.out.1; rw [show folP _ = 1 from rfl] at h; omega
      match args, hlen1 with
      | [y], _ =>
        have hoky : okT folP y = true := by have := HOK.out.2; simpa [okTs] using this
        have hdy : body.drop (k + 1) = flatT y ++ post := by have := HDR.out; simpa [flatTs] using this
        have hly : (flatT y).length ≤ N := by simp only [flatTs, List.append_nil] at hN; omega
        have hyl : (flatT y).length ≤ 20 := by simp only [flatTs, List.append_nil] at hfl; omega
        have hT := pT_len hnn y hoky (fun q hq => HFA.out q (by simp [flatTs, hq]))
        have TI := Lib.hid (fun V (hu : Upd [] wD V) => HIN.out y (k + 1) post V (HWD.out.upd hu) hly hoky hdy (by omega))
        have hPl := par_len (chP y) (pT ns y)
        have hAl := args_len pargs HP.out.three
        have hnl := HP.out.act rfl
        simp only at hnl
        have HRES := Lib.hid (show pT ns (.mk ⟨1, pn, pname, pargs⟩ [y]) = ((pname ++ argsTxt pargs) ++ [46]) ++ par (chP y) (pT ns y) by simp [pT, pTs])
        have HLEN := Lib.hid (show k + (flatT (Tr.mk (⟨1, pn, pname, pargs⟩ : Pa) [y])).length = k + 1 + (flatT y).length by simp [flatT, flatTs]; omega)
        clear HIN HIH HT2 HEV HNS
        generalize hP : par (chP y) (pT ns y) = P at *
        generalize hA : argsTxt pargs = A at *
        obtain ⟨M1, hM1⟩ : ∃ M1, M1 = pname ++ A := ⟨_, rfl⟩
        have hc1 : (ByteArray.mk pname.toArray ++ ByteArray.mk A.toArray) = ByteArray.mk M1.toArray := by rw [hM1, str_cat]
        have hm1 : M1.length ≤ 2000 := by rw [hM1, List.length_append]; omega
        rw [← hM1] at HRES
        obtain ⟨M2, hM2⟩ : ∃ M2, M2 = M1 ++ [46] := ⟨_, rfl⟩
        have hc2 : (ByteArray.mk M1.toArray ++ ByteArray.mk #[46]) = ByteArray.mk M2.toArray := by rw [hM2, str_cat]
        have hm2 : M2.length ≤ 2001 := by rw [hM2, List.length_append]; simp; omega
        rw [← hM2] at HRES
        obtain ⟨SS, hSS⟩ : ∃ SS, SS = M2 ++ P := ⟨_, rfl⟩
        have hc3 : (ByteArray.mk M2.toArray ++ ByteArray.mk P.toArray) = ByteArray.mk SS.toArray := by rw [hSS, str_cat]
        rw [← hSS] at HRES
        have n1 : ¬ (9223372036854775807 < pname.length + A.length) := by omega
        have n2 : ¬ (9223372036854775807 < M1.length + 1) := by omega
        have n3 : ¬ (9223372036854775807 < M2.length + P.length) := by omega
        clear hSS hM1 hM2 hA hP
        have nBX : BC ∉ [X] := by simpa using nXB.symm
        go_wp2_with fail
        go_region_held3 (fun w' => w'.cell? ⟨BC, 2, none⟩ = some (es pname) ∧ w'.cell? ⟨BC, 3, none⟩ = some (.slice a3 L3 c3)) (go_keep)
          (first
            | (go_at_call 104; (with_reducible refine (HTL.out _ (by repeat (first | exact Upd.refl _ _ | assumption | refine Upd.drew ?_))).mono ?_); rintro e w1 ⟨rfl, hu1⟩; have hX1 : Upd [X] wD w1 := Upd.trans (by repeat (first | exact Upd.refl _ _ | assumption | refine Upd.drew ?_)) (hu1.mono (by simp)); (try have hN1 : Upd [] wD w1 := Upd.trans (by repeat (first | exact Upd.refl _ _ | refine Upd.drew ?_)) hu1); (try have hpr1 := PrW.upd hpr hu1); have s2 := hX1.keepF nBX f2; have s3 := hX1.keepF nBX f3')
            | (go_at_call 105; (with_reducible refine (TI.out _ (by repeat (first | exact Upd.refl _ _ | assumption | refine Upd.drew ?_))).mono ?_); rintro e w2 ⟨rfl, hu2, hpr⟩; have hX2 : Upd [X] wD w2 := Upd.trans (by repeat (first | exact Upd.refl _ _ | assumption | refine Upd.drew ?_)) hu2; have r2 := hX2.keepF nBX f2; have r3 := hX2.keepF nBX f3'))
        all_goals
          go_wp2_with fail
          go_ret
          exact ⟨by rw [HRES.out]; rfl, HUD.out.trans (by assumption), by rw [HLEN.out]; assumption⟩
    · have hlen2 : args.length = 2 := by have h := HOK.out.1; rw [show folP _ = 2 from rfl] at h; omega
      match args, hlen2 with
      | [y, z], _ =>
        have hoks : okT folP y = true ∧ okT folP z = true := by have := HOK.out.2; simpa [okTs] using this
        have hdy : body.drop (k + 1) = flatT y ++ (flatT z ++ post) := by have := HDR.out; simpa [flatTs] using this
        have hdz : body.drop (k + 1 + (flatT y).length) = flatT z ++ post := by rw [← List.drop_drop, hdy]; simp
        simp only [flatTs, List.append_nil, List.length_append] at hN hfl
        have hT := pT_len hnn y hoks.1 (fun q hq => HFA.out q (by simp [flatTs, hq]))
        have hTz := pT_len hnn z hoks.2 (fun q hq => HFA.out q (by simp [flatTs, hq]))
        have TI2 := Lib.hid (HIN.out y (k + 1) (flatT z ++ post) wD HWD.out (by omega) hoks.1 hdy (by omega))
        have TZ := Lib.hid (fun V (hV : PrW X lv fd ds b off cap fb body (k + 1 + (flatT y).length) V) => HIH.out z (k + 1 + (flatT y).length) post V (by omega) hoks.2 hdz hV)
        have hPl := par_len (chP y) (pT ns y)
        have HRES := Lib.hid (show pT ns (.mk ⟨2, pn, pname, pargs⟩ [y, z]) = (par (chP y) (pT ns y) ++ [32, 43, 32]) ++ pT ns z by simp [pT, pTs])
        have HLEN := Lib.hid (show k + (flatT (Tr.mk (⟨2, pn, pname, pargs⟩ : Pa) [y, z])).length = k + 1 + (flatT y).length + (flatT z).length by simp [flatT, flatTs]; omega)
        clear HIN HIH HT2 HEV HNS HTL
        generalize hP : par (chP y) (pT ns y) = P at *
        generalize hZ : pT ns z = Z at *
        obtain ⟨M1, hM1⟩ : ∃ M1, M1 = P ++ [32, 43, 32] := ⟨_, rfl⟩
        have hc1 : (ByteArray.mk P.toArray ++ ByteArray.mk #[32, 43, 32]) = ByteArray.mk M1.toArray := by rw [hM1, str_cat]
        have hm1 : M1.length ≤ 50000 := by rw [hM1, List.length_append]; simp; omega
        rw [← hM1] at HRES
        obtain ⟨SS, hSS⟩ : ∃ SS, SS = M1 ++ Z := ⟨_, rfl⟩
        have hc2 : (ByteArray.mk M1.toArray ++ ByteArray.mk Z.toArray) = ByteArray.mk SS.toArray := by rw [hSS, str_cat]
        rw [← hSS] at HRES
        have n1 : ¬ (9223372036854775807 < P.length + 3) := by omega
        have n2 : ¬ (9223372036854775807 < M1.length + Z.length) := by omega
        clear hSS hM1 hP hZ
        go_wp2_with fail
        refine TI2.out.mono ?_
        rintro e w8 ⟨rfl, hu8, hpr8⟩
        have TZ2 := Lib.hid (TZ.out w8 hpr8)
        have HU8 := Lib.hid hu8
        clear TI2 hu8 hpr8 TZ
        go_wp2_with fail
        refine TZ2.out.mono ?_
        rintro e w9 ⟨rfl, hu9, hpr9⟩
        have HE := Lib.hid (And.intro (HU8.out.trans hu9) hpr9)
        clear TZ2 hu9 hpr9
        go_wp2_with fail
        go_ret
        exact ⟨by rw [HRES.out]; rfl, HUD.out.trans HE.out.1, by rw [HLEN.out]; exact HE.out.2⟩
    · have hlen1 : args.length = 1 := by have h := HOK.out.1; rw [show folP _ = 1 from rfl] at h; omega
      match args, hlen1 with
      | [y], _ =>
        have hoky : okT folP y = true := by have := HOK.out.2; simpa [okTs] using this
        have hdy : body.drop (k + 1) = flatT y ++ post := by have := HDR.out; simpa [flatTs] using this
        have hly : (flatT y).length ≤ N := by simp only [flatTs, List.append_nil] at hN; omega
        have hyl : (flatT y).length ≤ 20 := by simp only [flatTs, List.append_nil] at hfl; omega
        have hT := pT_len hnn y hoky (fun q hq => HFA.out q (by simp [flatTs, hq]))
        have TI := Lib.hid (fun V (hu : Upd [] wD V) => HIN.out y (k + 1) post V (HWD.out.upd hu) hly hoky hdy (by omega))
        have hPl := par_len (chP y) (pT ns y)
        have ho := HP.out.one rfl
        simp only at ho
        obtain ⟨ae, ce, hve, -, -, hce⟩ := slP_open (HT2.out wD (Upd.refl _ _))
        obtain ⟨be, oe, ue, fe, hae, -, -, ge, -, re⟩ := hce 0 (by rw [ho]; decide)
        simp only [Value.slice.injEq] at hve
        obtain ⟨rfl, hL3, -⟩ := hve
        subst hae
        obtain rfl : L3 = 1 := by rw [hL3, ho]
        match pargs, ho with
        | [x], _ =>
          have re : R_T1 fe wD [ue] x := re
          have ge : wD.cell? ⟨be, oe, none⟩ = some ue := by simpa using ge
          have hex := HP.out.exps x (by simp)
          have hAl := expT_len x
          have S1 := Lib.hid (expTreeI x ue wD fe hex re)
          have HGL := Lib.hid (fun V (hu : Upd [] wD V) => (HEV.out V (hu.mono (by simp))).g)
          obtain ⟨ax, cx, rfl, -, -, -⟩ := slF2_open re
          have HRES := Lib.hid (show pT ns (.mk ⟨3, pn, pname, [x]⟩ [y]) = (([91] ++ expT x) ++ [93]) ++ par (chP y) (pT ns y) by simp [pT, pTs])
          have HLEN := Lib.hid (show k + (flatT (Tr.mk (⟨3, pn, pname, [x]⟩ : Pa) [y])).length = k + 1 + (flatT y).length by simp [flatT, flatTs]; omega)
          clear HIN HIH HT2 HEV HNS HTL hce re hL3 hlen1 l3
          generalize hP : par (chP y) (pT ns y) = P at *
          generalize hA : expT x = A at *
          have HAX := Lib.hid hA.symm
          obtain ⟨M1, hM1⟩ : ∃ M1, M1 = [91] ++ A := ⟨_, rfl⟩
          have hc1 : (ByteArray.mk #[91] ++ ByteArray.mk A.toArray) = ByteArray.mk M1.toArray := by rw [hM1, str_cat]
          have hm1 : M1.length ≤ 2000 := by rw [hM1, List.length_append]; simp; omega
          rw [← hM1] at HRES
          obtain ⟨M2, hM2⟩ : ∃ M2, M2 = M1 ++ [93] := ⟨_, rfl⟩
          have hc2 : (ByteArray.mk M1.toArray ++ ByteArray.mk #[93]) = ByteArray.mk M2.toArray := by rw [hM2, str_cat]
          have hm2 : M2.length ≤ 2001 := by rw [hM2, List.length_append]; simp; omega
          rw [← hM2] at HRES
          obtain ⟨SS, hSS⟩ : ∃ SS, SS = M2 ++ P := ⟨_, rfl⟩
          have hc3 : (ByteArray.mk M2.toArray ++ ByteArray.mk P.toArray) = ByteArray.mk SS.toArray := by rw [hSS, str_cat]
          rw [← hSS] at HRES
          have n1 : ¬ (9223372036854775807 < 1 + A.length) := by omega
          have n2 : ¬ (9223372036854775807 < M1.length + 1) := by omega
          have n3 : ¬ (9223372036854775807 < M2.length + P.length) := by omega
          clear hSS hM1 hM2 hA hP
          go_wp2_with fail
          refine S1.out.mono ?_
          rintro e w1 ⟨⟨vt, ft, rfl, hx⟩, hu1⟩
          have S2 := Lib.hid (expTextI A w1 vt ft (HGL.out w1 hu1) (by obtain ⟨z, hz⟩ := hx; exact ⟨z, hz.1, hz.2⟩))
          have HU1 := Lib.hid hu1
          clear S1 hu1 hx HGL
          go_wp2_with fail
          refine S2.out.mono ?_
          rintro e w2 ⟨rfl, hu2⟩
          have HU2 := Lib.hid (HU1.out.trans hu2)
          clear S2 hu2
          have TI2 := Lib.hid (TI.out w2 HU2.out)
          clear TI
          go_wp2_with fail
          refine TI2.out.mono ?_
          rintro e w9 ⟨rfl, hu9, hpr9⟩
          have HE := Lib.hid (And.intro ((HU2.out).mono (by simp) |>.trans hu9) hpr9)
          clear TI2 hu9 hpr9
          go_wp2_with fail
          go_ret
          exact ⟨by rw [HRES.out]; rfl, HUD.out.trans HE.out.1, by rw [HLEN.out]; exact HE.out.2⟩
    · have hlen1 : args.length = 1 := by have h := HOK.out.1; rw [show folP _ = 1 from rfl] at h; omega
      match args, hlen1 with
      | [y], _ =>
        have hoky : okT folP y = true := by have := HOK.out.2; simpa [okTs] using this
        have hdy : body.drop (k + 1) = flatT y ++ post := by have := HDR.out; simpa [flatTs] using this
        have hly : (flatT y).length ≤ N := by simp only [flatTs, List.append_nil] at hN; omega
        have hyl : (flatT y).length ≤ 20 := by simp only [flatTs, List.append_nil] at hfl; omega
        have hT := pT_len hnn y hoky (fun q hq => HFA.out q (by simp [flatTs, hq]))
        have TI := Lib.hid (fun V (hu : Upd [] wD V) => HIN.out y (k + 1) post V (HWD.out.upd hu) hly hoky hdy (by omega))
        have hPl := par_len (chP y) (pT ns y)
        obtain ⟨s1, s7⟩ := HP.out.sum rfl
        simp only at s1 s7
        have hAl := itoa_two (n := pn) (by omega) (by omega)
        have S1 := Lib.hid (decimalL pn wD (by omega) (by omega))
        have HRES := Lib.hid (show pT ns (.mk ⟨4, pn, pname, pargs⟩ [y]) = (([115, 117, 109, 32] ++ Lib.itoa pn) ++ [46]) ++ par (chP y) (pT ns y) by simp [pT, pTs])
        have HLEN := Lib.hid (show k + (flatT (Tr.mk (⟨4, pn, pname, pargs⟩ : Pa) [y])).length = k + 1 + (flatT y).length by simp [flatT, flatTs]; omega)
        clear HIN HIH HT2 HEV HNS HTL
        generalize hP : par (chP y) (pT ns y) = P at *
        generalize hA : Lib.itoa pn = A at *
        obtain ⟨M1, hM1⟩ : ∃ M1, M1 = [115, 117, 109, 32] ++ A := ⟨_, rfl⟩
        have hc1 : (ByteArray.mk #[115, 117, 109, 32] ++ ByteArray.mk A.toArray) = ByteArray.mk M1.toArray := by rw [hM1, str_cat]
        have hm1 : M1.length ≤ 2000 := by rw [hM1, List.length_append]; simp; omega
        rw [← hM1] at HRES
        obtain ⟨M2, hM2⟩ : ∃ M2, M2 = M1 ++ [46] := ⟨_, rfl⟩
        have hc2 : (ByteArray.mk M1.toArray ++ ByteArray.mk #[46]) = ByteArray.mk M2.toArray := by rw [hM2, str_cat]
        have hm2 : M2.length ≤ 2001 := by rw [hM2, List.length_append]; simp; omega
        rw [← hM2] at HRES
        obtain ⟨SS, hSS⟩ : ∃ SS, SS = M2 ++ P := ⟨_, rfl⟩
        have hc3 : (ByteArray.mk M2.toArray ++ ByteArray.mk P.toArray) = ByteArray.mk SS.toArray := by rw [hSS, str_cat]
        rw [← hSS] at HRES
        have n1 : ¬ (9223372036854775807 < 4 + A.length) := by omega
        have n2 : ¬ (9223372036854775807 < M1.length + 1) := by omega
        have n3 : ¬ (9223372036854775807 < M2.length + P.length) := by omega
        clear hSS hM1 hM2 hA hP
        go_wp2_with fail
        refine S1.out.mono ?_
        rintro e w1 ⟨rfl, hu1⟩
        have HU1 := Lib.hid hu1
        clear S1 hu1
        have TI2 := Lib.hid (TI.out w1 HU1.out)
        clear TI
        go_wp2_with fail
        refine TI2.out.mono ?_
        rintro e w9 ⟨rfl, hu9, hpr9⟩
        have HE := Lib.hid (And.intro ((HU1.out).mono (by simp) |>.trans hu9) hpr9)
        clear TI2 hu9 hpr9
        go_wp2_with fail
        go_ret
        exact ⟨by rw [HRES.out]; rfl, HUD.out.trans HE.out.1, by rw [HLEN.out]; exact HE.out.2⟩

end Go.Proofs.YtijmkcnipflpbaaGreatDoor

/-
  The text of a definition: what the program's calls return.
-/
namespace Go.Proofs.YtijmkcnipflpbaaGreatDoor
open Go.RowKit

theorem procT_tree {ds : List De} {d : De} {x : Tr Pa} (h : forestT folP d.body = [x]) : procT ds d = ((((([112, 114, 111, 99, 32] ++ d.name) ++ [32]) ++ Lib.itoa d.pars) ++ [32, 61, 32]) ++ pT (ds.map De.name) x) := by
  unfold procT; rw [h]; rfl
set_option maxRecDepth 20000 in
set_option maxHeartbeats 8000000 in
theorem defTextI (ds : List De) (lv : Value) (fd : List Nat) (cs : List Value) (d : De) (fp : List Nat) (w : World) (hG : Glob w) (hL : R_De1 fd w [lv] ds) (hR : R_De fp w cs d) (hok : defsOk ds = true) (hd : d ∈ ds) :
    Calls Tryz.prog 48 #[lv, .agg cs.toArray] w fun e w' => e = .returned (es (procT ds d)) ∧ Upd [] w w' := by
  obtain ⟨h4, h1, hpar, hnm, hbody⟩ := defs_fine hok
  obtain ⟨hb, hl20, hfine⟩ := hbody d hd
  obtain ⟨x, hx, hokx, hfl⟩ := body_tree hb
  obtain ⟨p0, p1⟩ := hpar d hd
  have hnl := hnm d hd
  obtain ⟨v2, f2, rfl, h2, rfl⟩ := hR
  have h2' := h2
  obtain ⟨a, cap, rfl, g1, g2, hc⟩ := slQ_open h2
  have hpos := flatT_pos x
  rw [hfl] at hpos
  obtain ⟨b, off, u, f, rfl, -, -, -, -, -, -⟩ := hc 0 (by omega)
  obtain ⟨al, ql, rfl, -, -, -⟩ := slQ_open hL
  obtain ⟨w1, hw1⟩ : ∃ q, q = w.alloc (.cells #[es d.name, ei d.pars, .slice (some ⟨b, off, none⟩) d.body.length cap] 78) := ⟨_, rfl⟩
  obtain ⟨BA, hBA⟩ : ∃ q, q = w.heap.size := ⟨_, rfl⟩
  have u1 : Upd [] w w1 := by rw [hw1]; exact (Upd.refl _ _).alloc _
  have e0 : w1.cell? ⟨BA, 0, none⟩ = some (es d.name) := by rw [hw1, hBA]; exact cell_new w _ _ _ rfl 0 _ rfl
  have e1 : w1.cell? ⟨BA, 1, none⟩ = some (ei d.pars) := by rw [hw1, hBA]; exact cell_new w _ _ _ rfl 1 _ rfl
  have e2 : w1.cell? ⟨BA, 2, none⟩ = some (.slice (some ⟨b, off, none⟩) d.body.length cap) := by rw [hw1, hBA]; exact cell_new w _ _ _ rfl 2 _ rfl
  have s1 : w1.heap.size = BA + 1 := by rw [hw1, hBA]; simp
  obtain ⟨wA, hwA⟩ : ∃ q, q = w1.alloc (.cells #[.slice al ds.length ql, .slice (some ⟨b, off, none⟩) d.body.length cap] 119) := ⟨_, rfl⟩
  have uA : Upd [] w1 wA := by rw [hwA]; exact (Upd.refl _ _).alloc _
  have hXA : wA.heap[BA + 1]? = some (.cells #[.slice al ds.length ql, .slice (some ⟨b, off, none⟩) d.body.length cap] 119 (0, 0)) := by rw [hwA, ← s1]; exact heap_alloc_new w1 _
  have hWA : PrW (BA + 1) (.slice al ds.length ql) fd ds b off cap f2 d.body 0 wA := by
    refine ⟨⟨some ⟨b, off, none⟩, d.body.length, cap, rfl, rfl, hXA, fun _ => rfl⟩, fun W hu => ?_, fun h => ?_⟩
    · have huW : Upd [] w W := (u1.trans uA).fresh hu (fun q hq => Or.inl (by simp at hq; omega))
      exact ⟨hG.upd huW, R_De1k.upd hL huW (by simp), R_Pa1k.upd h2' huW (by simp)⟩
    · have := R_Pa1k.lt h2' _ h
      omega
  have TP := Lib.hid (fun V (hu : Upd [] wA V) => partD (BA + 1) (.slice al ds.length ql) fd ds b off cap f2 d.body hl20 hnm hfine (ds.map De.name) rfl 20 x 0 [] V (by rw [hfl]; exact hl20) hokx (by simp [hfl]) (hWA.upd hu))
  have hTl := pT_len (ds := ds) (ns := ds.map De.name) (fun n hn => by obtain ⟨q, hq, rfl⟩ := List.mem_map.1 hn; exact hnm q hq) x hokx (fun p hp => hfine p (hfl ▸ hp))
  rw [hfl] at hTl
  have TD := Lib.hid (fun V => decimalL d.pars V p0 (by omega))
  have hAl := itoa_two (n := d.pars) p0 (by omega)
  have HRES := Lib.hid (procT_tree (ds := ds) hx)
  have d0 := uA.keep e0
  have d1 := uA.keep e1
  have UA := Lib.hid (u1.trans uA)
  have HS1 := Lib.hid s1
  have hfr : ∀ b' ∈ [BA + 1], w.heap.size ≤ b' ∨ b' ∈ ([] : List Nat) := fun b' hb' => Or.inl (by simp at hb'; omega)
  have HFR := Lib.hid hfr
  have nBX : BA ∉ [BA + 1] := by simp
  clear hG hL h2 h2' hc hWA u1 uA hXA e0 e1 s1 hfr hfl hokx hx hpos hb hbody hfine hpar hnm hok hd
  generalize hT : pT (ds.map De.name) x = T at *
  generalize hA : Lib.itoa d.pars = A at *
  generalize procT ds d = R at *
  obtain ⟨M1, hM1⟩ : ∃ M, M = [112, 114, 111, 99, 32] ++ d.name := ⟨_, rfl⟩
  have k1 : (ByteArray.mk #[112, 114, 111, 99, 32] ++ ByteArray.mk d.name.toArray) = ByteArray.mk M1.toArray := by rw [hM1, str_cat]
  have l1 : M1.length ≤ 100 := by rw [hM1, List.length_append]; simp; omega
  rw [← hM1] at HRES
  obtain ⟨M2, hM2⟩ : ∃ M, M = M1 ++ [32] := ⟨_, rfl⟩
  have k2 : (ByteArray.mk M1.toArray ++ ByteArray.mk #[32]) = ByteArray.mk M2.toArray := by rw [hM2, str_cat]
  have l2 : M2.length ≤ 101 := by rw [hM2, List.length_append]; simp; omega
  rw [← hM2] at HRES
  obtain ⟨M3, hM3⟩ : ∃ M, M = M2 ++ A := ⟨_, rfl⟩
  have k3 : (ByteArray.mk M2.toArray ++ ByteArray.mk A.toArray) = ByteArray.mk M3.toArray := by rw [hM3, str_cat]
  have l3 : M3.length ≤ 103 := by rw [hM3, List.length_append]; omega
  rw [← hM3] at HRES
  obtain ⟨M4, hM4⟩ : ∃ M, M = M3 ++ [32, 61, 32] := ⟨_, rfl⟩
  have k4 : (ByteArray.mk M3.toArray ++ ByteArray.mk #[32, 61, 32]) = ByteArray.mk M4.toArray := by rw [hM4, str_cat]
  have l4 : M4.length ≤ 106 := by rw [hM4, List.length_append]; simp; omega
  rw [← hM4] at HRES
  obtain ⟨M5, hM5⟩ : ∃ M, M = M4 ++ T := ⟨_, rfl⟩
  have k5 : (ByteArray.mk M4.toArray ++ ByteArray.mk T.toArray) = ByteArray.mk M5.toArray := by rw [hM5, str_cat]
  rw [← hM5] at HRES
  have n1 : ¬ (9223372036854775807 < 5 + d.name.length) := by omega
  have n2 : ¬ (9223372036854775807 < M1.length + 1) := by omega
  have n3 : ¬ (9223372036854775807 < M2.length + A.length) := by omega
  have n4 : ¬ (9223372036854775807 < M3.length + 3) := by omega
  have n5 : ¬ (9223372036854775807 < M4.length + T.length) := by omega
  clear hM1 hM2 hM3 hM4 hM5 hT hA
  generalize d.name = nm at *
  generalize d.pars = P at *
  go_enter Tryz.func48, Tryz.ntmps48
  go_upto_region 1 with (fail)
  rw [← hw1, ← hBA]
  clear hw1 hBA
  go_upto_region 2 with (fail)
  have hs1 : w1.heap.size = BA + 1 := HS1.out
  rw [← hwA, hs1]
  clear hwA hs1 e2
  go_wp2_with fail
  go_region_held3 (fun w' => w'.cell? ⟨BA, 0, none⟩ = some (es nm) ∧ w'.cell? ⟨BA, 1, none⟩ = some (ei P)) (go_keep)
    (first
      | (go_at_call 75; (with_reducible refine (TD.out _).mono ?_); rintro e w2 ⟨rfl, hu2⟩; have hX2 : Upd [] wA w2 := Upd.trans (by repeat (first | exact Upd.refl _ _ | assumption | refine Upd.drew ?_)) hu2; have s0 := hX2.keep d0; have s1 := hX2.keep d1)
      | (go_at_call 76; (with_reducible refine (TP.out _ (by repeat (first | exact Upd.refl _ _ | assumption | refine Upd.drew ?_))).mono ?_); rintro e w3 ⟨rfl, hu3, hpr3⟩; have hX3 : Upd [BA + 1] wA w3 := Upd.trans (by first | (refine Upd.mono (f := []) ?_ (by simp); repeat (first | exact Upd.refl _ _ | assumption | refine Upd.drew ?_))) hu3; have r0 := hX3.keepF nBX d0; have r1 := hX3.keepF nBX d1))
  all_goals
    have HE := Lib.hid (UA.out.fresh hX3 HFR.out)
    clear hu2 hu3 hpr3 hX2 hX3 s0 s1 r0 r1 TP TD
    go_wp2_with fail
    go_ret
    exact ⟨by rw [HRES.out]; rfl, HE.out⟩

end Go.Proofs.YtijmkcnipflpbaaGreatDoor

/-
  The lines of a system: what the program's call returns.
-/
namespace Go.Proofs.YtijmkcnipflpbaaGreatDoor
open Go.RowKit

theorem joinLib_le (sep : List UInt8) (L : Nat) (ps : List (List UInt8)) (h : ∀ p ∈ ps, p.length ≤ L) : (Lib.join ps sep).length ≤ ps.length * (L + sep.length) := by
  have ht : ∀ r : List (List UInt8), (∀ p ∈ r, p.length ≤ L) → (Lib.joinTail sep r).length ≤ r.length * (L + sep.length) := by
    intro r
    induction r with
    | nil => intro _; simp [Lib.joinTail]
    | cons p r ih =>
      intro h
      have h1 := h p (by simp)
      have h2 := ih (fun x hx => h x (List.mem_cons_of_mem _ hx))
      unfold Lib.joinTail at h2 ⊢
      rw [List.map_cons, List.flatten_cons, List.length_append, List.length_append, List.length_cons, Nat.succ_mul]
      omega
  match ps, h with
  | [], _ => simp [Lib.join_nil]
  | p :: r, h =>
    rw [Lib.join_cons, List.length_append, List.length_cons, Nat.succ_mul]
    have h1 := h p (by simp)
    have h2 := ht r (fun x hx => h x (List.mem_cons_of_mem _ hx))
    omega
theorem compT_len {s : Sy} (h : SyGd s) (c : Co) (hc : c ∈ s.comps) : (compT s.defs c).length ≤ 30 := by
  obtain ⟨j, hj, hjl, hv, hx⟩ := h.comp c hc
  have h1 : ((s.defs.map De.name).getD c.dfn.toNat []).length ≤ 10 := by
    rw [hj, List.getD_eq_getElem?_getD, List.getElem?_map, Int.toNat_natCast, List.getElem?_eq_getElem hjl]
    exact h.nam _ (List.getElem_mem hjl)
  have h2 : (joinC 44 (c.vals.map Lib.itoa)).length ≤ (c.vals.map Lib.itoa).length * (2 + 1) := joinC_le 44 2 _ (fun p hp => by
    obtain ⟨x, hx2, rfl⟩ := List.mem_map.1 hp
    exact itoa_two (hx x hx2).1 (hx x hx2).2)
  rw [List.length_map] at h2
  unfold compT
  split
  · simp only [List.length_append, List.length_nil]; omega
  · simp only [List.length_append, List.length_cons, List.length_nil]; omega

set_option maxRecDepth 20000 in
set_option maxHeartbeats 16000000 in
theorem linesI (cs : List Value) (s : Sy) (w : World) (fp : List Nat) (hG : Glob w) (hR : R_Sy fp w cs s) (hok : sysOk s = true) :
    Calls Tryz.prog 28 #[.agg cs.toArray] w fun e w' => (∃ v, e = .returned v ∧ New RS w w' v (sysLines s)) ∧ Upd [] w w' := by
  obtain ⟨i0, hi, hz0, hz1, hz2⟩ := info_parts Tryz.info9
  have hK := SyGd.of hok
  obtain ⟨v0, v1, v2, v3, v4, f0, f1, f2, f3, f4, rfl, h0, h1, h2, h3, h4, rfl⟩ := hR
  obtain ⟨wA, hwA⟩ : ∃ q, q = w.alloc (.cells #[v0, v1, v2, v3, v4] 34) := ⟨_, rfl⟩
  obtain ⟨BA, hBA⟩ : ∃ q, q = w.heap.size := ⟨_, rfl⟩
  have uA : Upd [] w wA := by rw [hwA]; exact (Upd.refl _ _).alloc _
  have HCA := Lib.hid (fun W (hu : Upd [] wA W) => show W.cell? ⟨BA, 0, none⟩ = some v0 ∧ W.cell? ⟨BA, 1, none⟩ = some v1 ∧ W.cell? ⟨BA, 2, none⟩ = some v2 ∧ W.cell? ⟨BA, 3, none⟩ = some v3 ∧ W.cell? ⟨BA, 4, none⟩ = some v4 from
    ⟨hu.keep (by rw [hwA, hBA]; exact cell_new w _ _ _ rfl 0 _ rfl), hu.keep (by rw [hwA, hBA]; exact cell_new w _ _ _ rfl 1 _ rfl), hu.keep (by rw [hwA, hBA]; exact cell_new w _ _ _ rfl 2 _ rfl), hu.keep (by rw [hwA, hBA]; exact cell_new w _ _ _ rfl 3 _ rfl), hu.keep (by rw [hwA, hBA]; exact cell_new w _ _ _ rfl 4 _ rfl)⟩)
  have UA := Lib.hid uA
  have HK := Lib.hid hK
  have SD := Lib.hid (fun W (hu : Upd [] wA W) cs d fp (hR : R_De fp W cs d) (hd : d ∈ s.defs) => defTextI s.defs v0 f0 cs d fp W (hG.upd (uA.trans hu)) (R_De1k.upd h0 (uA.trans hu) (by simp)) hR hK.defs hd)
  have hR0 := R_De1k.upd h0 uA (by simp)
  have hR1 := R_Co1k.upd h1 uA (by simp)
  have hR2 := R_Me1k.upd h2 uA (by simp)
  have hR3 := R_S1k.upd h3 uA (by simp)
  have hR4 := R_S1k.upd h4 uA (by simp)
  obtain ⟨a0, q0, rfl, d1, d2, hd⟩ := slQ_open hR0
  obtain ⟨a1, q1, rfl, l1, l2, hl⟩ := slQ_open hR1
  obtain ⟨a2, q2, rfl, m1, m2, hm⟩ := slQ_open hR2
  obtain ⟨a3, q3, rfl, n1, n2, -⟩ := slF1_open hR3
  obtain ⟨a4, q4, rfl, o1, o2, -⟩ := slF1_open hR4
  unfold maxLen at d2 l2 m2 n2 o2
  have HD := Lib.hid hd
  have HL := Lib.hid hl
  have HM := Lib.hid hm
  have HR0 := Lib.hid hR0
  have HR3 := Lib.hid hR3
  have HR4 := Lib.hid hR4
  obtain ⟨c0, c1, c2, c3, c4⟩ := HCA.out wA (Upd.refl _ _)
  have HZ := Lib.hid (show sysLines s = ((((s.defs.map (procT s.defs)) ++ [runT s.defs s.comps]) ++ s.meets.map meetT) ++ namesT [97, 108, 108, 111, 119, 32] s.allow) ++ namesT [104, 105, 100, 101, 32] s.hide from rfl)
  clear hd hl hm h0 h1 h2 h3 h4 hR0 hR1 hR2 hR3 hR4 uA hG hok hK
  generalize sysLines s = Z at *
  go_enter Tryz.func28, Tryz.ntmps28
  go_upto_region 2 with (fail)
  rw [← hwA, ← hBA]
  clear hwA hBA
  go_wp2_with fail
  go_loopw [3, 15] (fun sp iv wr => ∃ (k : Nat) (sv : Value), sv = sp ∧ k ≤ s.defs.length ∧ iv = .int .i64 k ∧ Hid (Upd [] wA wr) ∧ Hid (wr.ownsRow wA.heap.size 9 1 sv k (((s.defs.take k).map (procT s.defs)).map es))) (fun _ iv _ => s.defs.length - (intOf iv).toNat)
  case atStart => exact ⟨0, _, rfl, Nat.zero_le _, rfl, Lib.hid (Upd.refl _ _), Lib.hid (World.ownsRow_nil _ _ _ _)⟩
  case round =>
    obtain ⟨wo, rfl⟩ : ∃ wo : World, wo = wr := ⟨_, rfl⟩
    obtain ⟨k, sv, rfl, hk, rfl, HU, HA⟩ := hrel
    by_cases hlt : k < s.defs.length
    · obtain ⟨bb, off, u, f', rfl, -, -, -, hcell, -, hr⟩ := HD.out k hlt
      have hr' := hr
      obtain ⟨v5, f5, rfl, hv, rfl⟩ := hr
      obtain ⟨a5, q5, rfl, -, -, -⟩ := slQ_open hv
      have s0 := HU.out.keep (hcell 0 _ rfl)
      have s1 := HU.out.keep (hcell 1 _ rfl)
      have s2 := HU.out.keep (hcell 2 _ rfl)
      simp only [Nat.add_zero] at s0
      obtain ⟨x0, -, -, -, -⟩ := HCA.out wo HU.out
      have hkl : (k : Int) < (s.defs.length : Int) := by omega
      have HTK := Lib.hid (show ((s.defs.take (k + 1)).map (procT s.defs)).map es = ((s.defs.take k).map (procT s.defs)).map es ++ [es (procT s.defs s.defs[k])] by rw [List.take_succ_eq_append_getElem hlt, List.map_append, List.map_append]; rfl)
      have S1 := Lib.hid (fun W (hu : Upd [] wo W) => SD.out W (HU.out.trans hu) _ s.defs[k] _ (R_Dek.upd hr' (HU.out.trans hu) (by simp)) (List.getElem_mem hlt))
      have HOW := HA.out
      obtain ⟨ca, cc, rfl⟩ := ownsRow_form HOW
      clear hcell hr' hv HA c0 c1 c2 c3 c4
      have HA := Lib.hid HOW
      clear HOW
      generalize procT s.defs s.defs[k] = A at *
      generalize s.defs[k] = d at *
      obtain ⟨wP, hwP⟩ : ∃ q, q = wo.alloc (.cells #[es d.name, ei d.pars, .slice a5 d.body.length q5] 78) := ⟨_, rfl⟩
      obtain ⟨BP, hBP⟩ : ∃ q, q = wo.heap.size := ⟨_, rfl⟩
      have uP : Upd [] wo wP := by rw [hwP]; exact (Upd.refl _ _).alloc _
      have y0 : wP.cell? ⟨BP, 0, none⟩ = some (es d.name) := by rw [hwP, hBP]; exact cell_new wo _ _ _ rfl 0 _ rfl
      have y1 : wP.cell? ⟨BP, 1, none⟩ = some (ei d.pars) := by rw [hwP, hBP]; exact cell_new wo _ _ _ rfl 1 _ rfl
      have y2 : wP.cell? ⟨BP, 2, none⟩ = some (.slice a5 d.body.length q5) := by rw [hwP, hBP]; exact cell_new wo _ _ _ rfl 2 _ rfl
      have z0 := uP.keep x0
      have T1 := Lib.hid (S1.out wP uP)
      have UP := Lib.hid uP
      generalize d.body.length = n5 at *
      go_upto_region 5 with (fail)
      rw [← hwP, ← hBP]
      clear hwP hBP s0 s1 s2 x0 uP S1
      go_wp2_with fail
      refine T1.out.mono ?_
      rintro r w4 ⟨rfl, hu4⟩
      have HB4 := Lib.hid (UP.out.trans hu4)
      have hown1 := ownsRow_upd HA.out HB4.out
      have hsz4 : wA.heap.size ≤ w4.heap.size := (HU.out.trans HB4.out).size
      have HOL := Lib.hid (fun c hc => (hown1.lt c hc).1)
      have hk9 : k ≤ 1000 := by have := HK.out.dl; omega
      clear T1 hu4 HA y0 y1 y2 z0
      go_wp2_with (first
        | (at_builtin; refine wpList_append_tight _ rfl _ _ 25 rfl wA.heap.size 9 i0 (es []) 1 16 Tryz.underlying25 hi hz0 hz1 hz2 rfl (by decide) _ _ _ rfl (hown1.alloc _) ⟨w4.heap.size, 0, none⟩ 1 1 [es A] rfl rfl (fun j u hj => by rw [addr_add, Nat.zero_add]; exact cell_new w4 #[es A] _ _ rfl j u (by simpa using hj)) (by simp [Value.oneCell']) (by unfold maxLen; omega) (by omega) (by simp; omega) ?_)
        | fail)
      intro v2 w5 hown2 hg2 ht2
      have HO5 := Lib.hid (show w5.ownsRow wA.heap.size 9 1 v2 (k + 1) (((s.defs.take (k + 1)).map (procT s.defs)).map es) by rw [HTK.out]; simpa using hown2)
      have HU5 := Lib.hid (show Upd [] wA w5 from ((HU.out.trans HB4.out).alloc _).grown hg2 (fun c hc => Or.inl (HOL.out c hc)))
      clear hown1 hown2 hg2 ht2
      go_wp2_with fail
      go_roundw
      case rel => exact ⟨k + 1, _, rfl, by omega, by go_num, HU5, HO5⟩
      case measure => simp [intOf]; omega
    · obtain rfl : k = s.defs.length := by omega
      have hkk : ¬ ((s.defs.length : Nat) : Int) < (s.defs.length : Int) := by omega
      have ho := HA.out
      rw [List.take_length] at ho
      obtain ⟨ca, cc, rfl⟩ := ownsRow_form ho
      have HA1 := Lib.hid (fun W (hu : Upd [] wo W) => ownsRow_upd ho hu)
      obtain ⟨w1, rfl⟩ : ∃ w1 : World, w1 = wo := ⟨_, rfl⟩
      have HU1 := Lib.hid HU.out
      obtain ⟨x0, x1, x2, x3, x4⟩ := HCA.out w1 HU1.out
      clear ho HA HU c0 c1 c2 c3 c4
      go_wp2_with fail
      go_loopw [6, 30] (fun sp iv wr => ∃ (k : Nat) (sv : Value), sv = sp ∧ k ≤ s.comps.length ∧ iv = .int .i64 k ∧ Hid (Upd [] w1 wr) ∧ Hid (wr.ownsRow w1.heap.size 9 1 sv k (((s.comps.take k).map (compT s.defs)).map es))) (fun _ iv _ => s.comps.length - (intOf iv).toNat)
      case atStart => exact ⟨0, _, rfl, Nat.zero_le _, rfl, Lib.hid (Upd.refl _ _), Lib.hid (World.ownsRow_nil _ _ _ _)⟩
      case round =>
        obtain ⟨wo, rfl⟩ : ∃ wo : World, wo = wr := ⟨_, rfl⟩
        obtain ⟨k, sv, rfl, hk, rfl, HU, HA⟩ := hrel
        by_cases hlt : k < s.comps.length
        · obtain ⟨bb, off, u, f', rfl, -, -, -, hcell, -, hr⟩ := HL.out k hlt
          obtain ⟨v5, f5, rfl, hv, rfl⟩ := hr
          have hv' := hv
          obtain ⟨a5, q5, rfl, -, -, -⟩ := slF1_open hv
          have uw : Upd [] wA wo := HU1.out.trans HU.out
          have s0 := uw.keep (hcell 0 _ rfl)
          have s1 := uw.keep (hcell 1 _ rfl)
          simp only [Nat.add_zero] at s0
          obtain ⟨y0, -, -, -, -⟩ := HCA.out wo uw
          have hkl : (k : Int) < (s.comps.length : Int) := by omega
          have HTK := Lib.hid (show ((s.comps.take (k + 1)).map (compT s.defs)).map es = ((s.comps.take k).map (compT s.defs)).map es ++ [es (compT s.defs s.comps[k])] by rw [List.take_succ_eq_append_getElem hlt, List.map_append, List.map_append]; rfl)
          obtain ⟨j, hj, hjl, hv3, hvx⟩ := HK.out.comp _ (List.getElem_mem hlt)
          obtain ⟨bd, od, ud, fd, rfl, -, -, -, hcd, -, hrd⟩ := HD.out j hjl
          obtain ⟨v6, f6, rfl, -, -⟩ := hrd
          have d0 := uw.keep (hcd 0 _ rfl)
          simp only [Nat.add_zero] at d0
          have hnl := HK.out.nam _ (List.getElem_mem hjl)
          have hCT := Lib.hid (show compT s.defs s.comps[k] = s.defs[j].name ++ (if s.comps[k].vals.length = 0 then [] else ([40] ++ txtV s.comps[k].vals) ++ [41]) by
            unfold compT txtV
            rw [hj, Int.toNat_natCast, List.getD_eq_getElem?_getD, List.getElem?_map, List.getElem?_eq_getElem hjl]; rfl)
          have HCL := Lib.hid (compT_len HK.out _ (List.getElem_mem hlt))
          have hjj : (j : Int) < (s.defs.length : Int) := by omega
          rw [hj] at s0
          have HOW := HA.out
          obtain ⟨ca, cc, rfl⟩ := ownsRow_form HOW
          have SJ := Lib.hid (fun W (hu : Upd [] wA W) (h0 : 0 < s.comps[k].vals.length) => joinedL _ s.comps[k].vals W _ (R_I1k.upd hv' hu (by simp)) h0 (by omega) hvx)
          clear hcell hv hv' HA hcd x0 x1 x2 x3 x4 hj hvx
          have HA := Lib.hid HOW
          clear HOW
          generalize compT s.defs s.comps[k] = A at *
          generalize s.defs[j].name = nm at *
          generalize s.comps[k].vals = vl at *
          generalize s.comps[k].dfn = cd at *
          obtain ⟨wP, hwP⟩ : ∃ q, q = wo.alloc (.cells #[ei (j : Int), .slice a5 vl.length q5] 80) := ⟨_, rfl⟩
          obtain ⟨BP, hBP⟩ : ∃ q, q = wo.heap.size := ⟨_, rfl⟩
          have uP : Upd [] wo wP := by rw [hwP]; exact (Upd.refl _ _).alloc _
          have p0 : wP.cell? ⟨BP, 0, none⟩ = some (ei (j : Int)) := by rw [hwP, hBP]; exact cell_new wo _ _ _ rfl 0 _ rfl
          have p1 : wP.cell? ⟨BP, 1, none⟩ = some (.slice a5 vl.length q5) := by rw [hwP, hBP]; exact cell_new wo _ _ _ rfl 1 _ rfl
          have d0 := uP.keep d0
          have z0 := uP.keep y0
          have UP := Lib.hid uP
          have UW := Lib.hid uw
          go_upto_region 11 with (fail)
          rw [← hwP, ← hBP]
          clear hwP hBP s0 s1 y0 uP uw
          have hk9 : k ≤ 1000 := by have := HK.out.cl; omega
          by_cases hv0 : vl.length = 0
          · have hA2 : A = nm := by rw [hCT.out, if_pos hv0, List.append_nil]
            subst hA2
            have e0 : ¬ (0 : Int) < (vl.length : Int) := by omega
            have hown1 := ownsRow_upd HA.out UP.out
            have HOL := Lib.hid (fun c hc => (hown1.lt c hc).1)
            have hsz4 : w1.heap.size ≤ wP.heap.size := (HU.out.trans UP.out).size
            go_upto_region 14 with (fail)
            clear d0 p0 p1 z0 HA
            go_wp2_with (first
              | (at_builtin; refine wpList_append_tight _ rfl _ _ 25 rfl w1.heap.size 9 i0 (es []) 1 16 Tryz.underlying25 hi hz0 hz1 hz2 rfl (by decide) _ _ _ rfl (hown1.alloc _) ⟨wP.heap.size, 0, none⟩ 1 1 [es A] rfl rfl (fun j u hj => by rw [addr_add, Nat.zero_add]; exact cell_new wP #[es A] _ _ rfl j u (by simpa using hj)) (by simp [Value.oneCell']) (by unfold maxLen; omega) (by omega) (by simp; omega) ?_)
              | fail)
            intro v2 w5 hown2 hg2 ht2
            have HO5 := Lib.hid (show w5.ownsRow w1.heap.size 9 1 v2 (k + 1) (((s.comps.take (k + 1)).map (compT s.defs)).map es) by rw [HTK.out]; simpa using hown2)
            have HU5 := Lib.hid (show Upd [] w1 w5 from ((HU.out.trans UP.out).alloc _).grown hg2 (fun c hc => Or.inl (HOL.out c hc)))
            clear hown1 hown2 hg2 ht2
            go_wp2_with fail
            go_roundw
            case rel => exact ⟨k + 1, _, rfl, by omega, by go_num, HU5, HO5⟩
            case measure => simp [intOf]; omega
          · have e0 : (0 : Int) < (vl.length : Int) := by omega
            have hAQ : A = nm ++ (([40] ++ txtV vl) ++ [41]) := by rw [hCT.out, if_neg hv0]
            have T1 := Lib.hid (SJ.out wP (UW.out.trans UP.out) (by omega))
            have hA9 : A.length ≤ 30 := HCL.out
            clear hCT SJ
            generalize txtV vl = J at *
            have hJ9 : J.length ≤ 30 := by rw [hAQ] at hA9; simp at hA9; omega
            obtain ⟨A1, hA1⟩ : ∃ Q, Q = [40] ++ J := ⟨_, rfl⟩
            obtain ⟨A2, hA2⟩ : ∃ Q, Q = A1 ++ [41] := ⟨_, rfl⟩
            obtain ⟨A3, hA3⟩ : ∃ Q, Q = nm ++ A2 := ⟨_, rfl⟩
            have hcatA1 : (ByteArray.mk #[40] ++ ByteArray.mk J.toArray) = ByteArray.mk A1.toArray := by rw [hA1, ← catE]
            have hlA1 : A1.length = 1 + J.length := by rw [hA1]; simp only [List.length_append, List.length_cons, List.length_nil] <;> omega
            have hzA1 : ¬ (9223372036854775807 < 1 + J.length) := by omega
            have hcatA2 : (ByteArray.mk A1.toArray ++ ByteArray.mk #[41]) = ByteArray.mk A2.toArray := by rw [hA2, ← catE]
            have hlA2 : A2.length = A1.length + 1 := by rw [hA2]; simp only [List.length_append, List.length_cons, List.length_nil] <;> omega
            have hzA2 : ¬ (9223372036854775807 < A1.length + 1) := by omega
            have hcatA3 : (ByteArray.mk nm.toArray ++ ByteArray.mk A2.toArray) = ByteArray.mk A3.toArray := by rw [hA3, ← catE]
            have hlA3 : A3.length = nm.length + A2.length := by rw [hA3]; simp only [List.length_append, List.length_cons, List.length_nil] <;> omega
            have hzA3 : ¬ (9223372036854775807 < nm.length + A2.length) := by omega
            have HAE := Lib.hid (show A = A3 by rw [hAQ, hA3, hA2, hA1])
            clear hAQ hA1 hlA1 hA2 hlA2 hA3 hlA3
            go_upto_region 13 with (fail)
            go_wp2_with fail
            refine T1.out.mono ?_
            rintro r w4 ⟨rfl, hu4⟩
            have UP4 := Lib.hid (UP.out.trans hu4)
            have hown1 := ownsRow_upd HA.out UP4.out
            have HOL := Lib.hid (fun c hc => (hown1.lt c hc).1)
            have hsz4 : w1.heap.size ≤ w4.heap.size := (HU.out.trans UP4.out).size
            clear T1 hu4 d0 p0 p1 z0 HA
            go_upto_region 14 with (fail)
            clear hcatA1 hzA1 hcatA2 hzA2 hcatA3 hzA3
            go_wp2_with (first
              | (at_builtin; refine wpList_append_tight _ rfl _ _ 25 rfl w1.heap.size 9 i0 (es []) 1 16 Tryz.underlying25 hi hz0 hz1 hz2 rfl (by decide) _ _ _ rfl (hown1.alloc _) ⟨w4.heap.size, 0, none⟩ 1 1 [es A3] rfl rfl (fun j u hj => by rw [addr_add, Nat.zero_add]; exact cell_new w4 #[es A3] _ _ rfl j u (by simpa using hj)) (by simp [Value.oneCell']) (by unfold maxLen; omega) (by omega) (by simp; omega) ?_)
              | fail)
            intro v2 w5 hown2 hg2 ht2
            have HO5 := Lib.hid (show w5.ownsRow w1.heap.size 9 1 v2 (k + 1) (((s.comps.take (k + 1)).map (compT s.defs)).map es) by rw [HTK.out, HAE.out]; simpa using hown2)
            have HU5 := Lib.hid (show Upd [] w1 w5 from ((HU.out.trans UP4.out).alloc _).grown hg2 (fun c hc => Or.inl (HOL.out c hc)))
            clear hown1 hown2 hg2 ht2
            go_wp2_with fail
            go_roundw
            case rel => exact ⟨k + 1, _, rfl, by omega, by go_num, HU5, HO5⟩
            case measure => simp [intOf]; omega
        · obtain rfl : k = s.comps.length := by omega
          have hkk : ¬ ((s.comps.length : Nat) : Int) < (s.comps.length : Int) := by omega
          have ho := HA.out
          rw [List.take_length] at ho
          obtain ⟨ca2, cc2, rfl⟩ := ownsRow_form ho
          obtain ⟨fo, ho1, -, -⟩ := New.ofOwns (w := w1) (e := 9) (enc := es) (xs := s.comps.map (compT s.defs)) (by simpa using ho)
          have hcl1 := HK.out.cl
          have hjl : (Lib.join (s.comps.map (compT s.defs)) [32, 124, 32]).length ≤ (s.comps.map (compT s.defs)).length * (30 + [32, 124, 32].length) := joinLib_le _ 30 _ (fun p hp => by
            obtain ⟨c, hc, rfl⟩ := List.mem_map.1 hp
            exact compT_len HK.out c hc)
          simp only [List.length_map, List.length_cons, List.length_nil] at hjl
          have hjl9 : (Lib.join (s.comps.map (compT s.defs)) [32, 124, 32]).length ≤ 200 := by omega
          have SJ := Lib.hid (joinW [32, 124, 32] _ (s.comps.map (compT s.defs)) wo fo ho1 (by simp; omega) (by simp; omega) (by omega))
          have HRU := Lib.hid (show runT s.defs s.comps = [114, 117, 110, 32] ++ Lib.join (s.comps.map (compT s.defs)) [32, 124, 32] from rfl)
          have hd4 := HK.out.dl
          have HA2 := Lib.hid (HA1.out)
          clear ho ho1 hjl HA
          generalize Lib.join (s.comps.map (compT s.defs)) [32, 124, 32] = J at *
          obtain ⟨A1, hA1⟩ : ∃ Q, Q = [114, 117, 110, 32] ++ J := ⟨_, rfl⟩
          have hcatA1 : (ByteArray.mk #[114, 117, 110, 32] ++ ByteArray.mk J.toArray) = ByteArray.mk A1.toArray := by rw [hA1, ← catE]
          have hlA1 : A1.length = 4 + J.length := by rw [hA1]; simp only [List.length_append, List.length_cons, List.length_nil] <;> omega
          have hzA1 : ¬ (9223372036854775807 < 4 + J.length) := by omega
          have HRA := Lib.hid (show runT s.defs s.comps = A1 by rw [HRU.out, hA1])
          clear hA1 hlA1 HRU x0 x1 x2 x3 x4
          go_wp2_with fail
          refine SJ.out.mono ?_
          rintro r w4 ⟨rfl, hu4⟩
          have hu5 : Upd [] w1 w4 := HU.out.trans hu4
          have HB4 := Lib.hid (HU1.out.trans hu5)
          have hown1 := HA1.out w4 hu5
          have HOL := Lib.hid (fun c hc => (hown1.lt c hc).1)
          have hsz4 : wA.heap.size ≤ w4.heap.size := HB4.out.size
          clear SJ hu4 hu5
          go_wp2_with (first
            | (at_builtin; refine wpList_append_tight _ rfl _ _ 25 rfl wA.heap.size 9 i0 (es []) 1 16 Tryz.underlying25 hi hz0 hz1 hz2 rfl (by decide) _ _ _ rfl (hown1.alloc _) ⟨w4.heap.size, 0, none⟩ 1 1 [es A1] rfl rfl (fun j u hj => by rw [addr_add, Nat.zero_add]; exact cell_new w4 #[es A1] _ _ rfl j u (by simpa using hj)) (by simp [Value.oneCell']) (by unfold maxLen; omega) (by omega) (by simp; omega) ?_)
            | fail)
          intro v2 w5 hown2 hg2 ht2
          obtain ⟨n0, hn0⟩ : ∃ n, n = s.defs.length + 1 := ⟨_, rfl⟩
          obtain ⟨L0, hL0⟩ : ∃ l, l = (s.defs.map (procT s.defs)).map es ++ [es A1] := ⟨_, rfl⟩
          have HL0 := Lib.hid (show L0 = ((s.defs.map (procT s.defs)) ++ [runT s.defs s.comps]).map es by rw [hL0, HRA.out, List.map_append (l₁ := s.defs.map (procT s.defs))]; rfl)
          have ho5 : w5.ownsRow wA.heap.size 9 1 v2 n0 L0 := by rw [hn0, hL0]; simpa using hown2
          have HU5 := Lib.hid (show Upd [] wA w5 from (HB4.out.alloc _).grown hg2 (fun c hc => Or.inl (HOL.out c hc)))
          have hn9 : n0 ≤ 5 := by omega
          have HN0 := Lib.hid hn0
          obtain ⟨ca, cc, rfl⟩ := ownsRow_form ho5
          have HO5 := Lib.hid ho5
          obtain ⟨x0, x1, x2, x3, x4⟩ := HCA.out w5 HU5.out
          clear hown1 hown2 hg2 ht2 hn0 hL0 ho5 HB4 HOL HRA hcatA1 hzA1 HA1 HA2 HU HU1 hsz4
          go_wp2_with fail
          go_loopw [3, 66] (fun sp iv wr => ∃ (k : Nat) (sv : Value), sv = sp ∧ k ≤ s.meets.length ∧ iv = .int .i64 k ∧ Hid (Upd [] wA wr) ∧ Hid (wr.ownsRow wA.heap.size 9 1 sv (n0 + k) (L0 ++ ((s.meets.take k).map meetT).map es))) (fun _ iv _ => s.meets.length - (intOf iv).toNat)
          case atStart => exact ⟨0, _, rfl, Nat.zero_le _, rfl, HU5, Lib.hid (by simpa using HO5.out)⟩
          case round =>
            obtain ⟨wo, rfl⟩ : ∃ wo : World, wo = wr := ⟨_, rfl⟩
            obtain ⟨k, sv, rfl, hk, rfl, HU, HA⟩ := hrel
            by_cases hlt : k < s.meets.length
            · obtain ⟨bb, off, u, f', rfl, -, -, -, hcell, -, hr⟩ := HM.out k hlt
              obtain ⟨rfl, -⟩ := hr
              have s0 := HU.out.keep (hcell 0 _ rfl)
              have s1 := HU.out.keep (hcell 1 _ rfl)
              have s2 := HU.out.keep (hcell 2 _ rfl)
              simp only [Nat.add_zero] at s0
              have hkl : (k : Int) < (s.meets.length : Int) := by omega
              have HTK := Lib.hid (show ((s.meets.take (k + 1)).map meetT).map es = ((s.meets.take k).map meetT).map es ++ [es (meetT s.meets[k])] by rw [List.take_succ_eq_append_getElem hlt, List.map_append, List.map_append]; rfl)
              obtain ⟨hm1, hm2, hm3⟩ := HK.out.meets.2 _ (List.getElem_mem hlt)
              have hk9 : k ≤ 1000 := by have := HK.out.meets.1; omega
              have HOW := HA.out
              obtain ⟨ca, cc, rfl⟩ := ownsRow_form HOW
              have hMT := Lib.hid (show meetT s.meets[k] = ((([109, 101, 101, 116, 32] ++ s.meets[k].left) ++ [32]) ++ s.meets[k].right) ++ [32] ++ s.meets[k].result from rfl)
              clear hcell HA x0 x1 x2 x3 x4
              have HA := Lib.hid HOW
              clear HOW
              generalize meetT s.meets[k] = A at *
              generalize s.meets[k].left = ml at *
              generalize s.meets[k].right = mr at *
              generalize s.meets[k].result = ms at *
              obtain ⟨wP, hwP⟩ : ∃ q, q = wo.alloc (.cells #[es ml, es mr, es ms] 82) := ⟨_, rfl⟩
              obtain ⟨BP, hBP⟩ : ∃ q, q = wo.heap.size := ⟨_, rfl⟩
              have uP : Upd [] wo wP := by rw [hwP]; exact (Upd.refl _ _).alloc _
              have p0 : wP.cell? ⟨BP, 0, none⟩ = some (es ml) := by rw [hwP, hBP]; exact cell_new wo _ _ _ rfl 0 _ rfl
              have p1 : wP.cell? ⟨BP, 1, none⟩ = some (es mr) := by rw [hwP, hBP]; exact cell_new wo _ _ _ rfl 1 _ rfl
              have p2 : wP.cell? ⟨BP, 2, none⟩ = some (es ms) := by rw [hwP, hBP]; exact cell_new wo _ _ _ rfl 2 _ rfl
              have UP := Lib.hid uP
              go_upto_region 20 with (fail)
              rw [← hwP, ← hBP]
              clear hwP hBP s0 s1 s2 uP
              have hown1 := ownsRow_upd HA.out UP.out
              have HOL := Lib.hid (fun c hc => (hown1.lt c hc).1)
              have hsz4 : wA.heap.size ≤ wP.heap.size := (HU.out.trans UP.out).size
              clear HA
              obtain ⟨A1, hA1⟩ : ∃ Q, Q = [109, 101, 101, 116, 32] ++ ml := ⟨_, rfl⟩
              obtain ⟨A2, hA2⟩ : ∃ Q, Q = A1 ++ [32] := ⟨_, rfl⟩
              obtain ⟨A3, hA3⟩ : ∃ Q, Q = A2 ++ mr := ⟨_, rfl⟩
              obtain ⟨A4, hA4⟩ : ∃ Q, Q = A3 ++ [32] := ⟨_, rfl⟩
              obtain ⟨A5, hA5⟩ : ∃ Q, Q = A4 ++ ms := ⟨_, rfl⟩
              have hcatA1 : (ByteArray.mk #[109, 101, 101, 116, 32] ++ ByteArray.mk ml.toArray) = ByteArray.mk A1.toArray := by rw [hA1, ← catE]
              have hlA1 : A1.length = 5 + ml.length := by rw [hA1]; simp only [List.length_append, List.length_cons, List.length_nil] <;> omega
              have hzA1 : ¬ (9223372036854775807 < 5 + ml.length) := by omega
              have hcatA2 : (ByteArray.mk A1.toArray ++ ByteArray.mk #[32]) = ByteArray.mk A2.toArray := by rw [hA2, ← catE]
              have hlA2 : A2.length = A1.length + 1 := by rw [hA2]; simp only [List.length_append, List.length_cons, List.length_nil] <;> omega
              have hzA2 : ¬ (9223372036854775807 < A1.length + 1) := by omega
              have hcatA3 : (ByteArray.mk A2.toArray ++ ByteArray.mk mr.toArray) = ByteArray.mk A3.toArray := by rw [hA3, ← catE]
              have hlA3 : A3.length = A2.length + mr.length := by rw [hA3]; simp only [List.length_append, List.length_cons, List.length_nil] <;> omega
              have hzA3 : ¬ (9223372036854775807 < A2.length + mr.length) := by omega
              have hcatA4 : (ByteArray.mk A3.toArray ++ ByteArray.mk #[32]) = ByteArray.mk A4.toArray := by rw [hA4, ← catE]
              have hlA4 : A4.length = A3.length + 1 := by rw [hA4]; simp only [List.length_append, List.length_cons, List.length_nil] <;> omega
              have hzA4 : ¬ (9223372036854775807 < A3.length + 1) := by omega
              have hcatA5 : (ByteArray.mk A4.toArray ++ ByteArray.mk ms.toArray) = ByteArray.mk A5.toArray := by rw [hA5, ← catE]
              have hlA5 : A5.length = A4.length + ms.length := by rw [hA5]; simp only [List.length_append, List.length_cons, List.length_nil] <;> omega
              have hzA5 : ¬ (9223372036854775807 < A4.length + ms.length) := by omega
              have HAE := Lib.hid (show A = A5 by rw [hMT.out, hA5, hA4, hA3, hA2, hA1])
              clear hMT hA1 hlA1 hA2 hlA2 hA3 hlA3 hA4 hlA4 hA5 hlA5
              go_wp2_with (first
                | (at_builtin; refine wpList_append_tight _ rfl _ _ 25 rfl wA.heap.size 9 i0 (es []) 1 16 Tryz.underlying25 hi hz0 hz1 hz2 rfl (by decide) _ _ _ rfl (hown1.alloc _) ⟨wP.heap.size, 0, none⟩ 1 1 [es A5] rfl rfl (fun j u hj => by rw [addr_add, Nat.zero_add]; exact cell_new wP #[es A5] _ _ rfl j u (by simpa using hj)) (by simp [Value.oneCell']) (by unfold maxLen; omega) (by omega) (by simp; omega) ?_)
                | fail)
              intro v2 w6 hown2 hg2 ht2
              have HO6 := Lib.hid (show w6.ownsRow wA.heap.size 9 1 v2 (n0 + (k + 1)) (L0 ++ ((s.meets.take (k + 1)).map meetT).map es) by rw [HTK.out, HAE.out]; simpa [Nat.add_assoc] using hown2)
              have HU6 := Lib.hid (show Upd [] wA w6 from ((HU.out.trans UP.out).alloc _).grown hg2 (fun c hc => Or.inl (HOL.out c hc)))
              clear hown1 hown2 hg2 ht2
              go_wp2_with fail
              go_roundw
              case rel => exact ⟨k + 1, _, rfl, by omega, by go_num, HU6, HO6⟩
              case measure => simp [intOf]; omega
            · obtain rfl : k = s.meets.length := by omega
              have hkk : ¬ ((s.meets.length : Nat) : Int) < (s.meets.length : Int) := by omega
              have ho := HA.out
              rw [List.take_length] at ho
              have hml := HK.out.meets.1
              obtain ⟨n1, hn1⟩ : ∃ n, n = n0 + s.meets.length := ⟨_, rfl⟩
              obtain ⟨L1, hL1⟩ : ∃ l, l = L0 ++ (s.meets.map meetT).map es := ⟨_, rfl⟩
              rw [← hn1, ← hL1] at ho
              have HL1 := Lib.hid (show L1 = (((s.defs.map (procT s.defs)) ++ [runT s.defs s.comps]) ++ s.meets.map meetT).map es by rw [hL1, HL0.out, List.map_append (l₂ := s.meets.map meetT)])
              have hn19 : n1 ≤ 11 := by omega
              have HN1 := Lib.hid (show n1 = ((((s.defs.map (procT s.defs)) ++ [runT s.defs s.comps]) ++ s.meets.map meetT)).length by rw [hn1, HN0.out]; simp; omega)
              obtain ⟨ca, cc, rfl⟩ := ownsRow_form ho
              obtain ⟨wB, rfl⟩ : ∃ wB : World, wB = wo := ⟨_, rfl⟩
              have HO1 := Lib.hid ho
              clear x0 x1 x2 x3 x4 ho HA hn1 hL1 HL0 HO5 HU5
              obtain ⟨x0, x1, x2, x3, x4⟩ := HCA.out wB HU.out
              obtain ⟨L2, n2, hL2, hn2, hn29⟩ : ∃ L2 n2, L2 = ((((s.defs.map (procT s.defs)) ++ [runT s.defs s.comps]) ++ s.meets.map meetT) ++ namesT [97, 108, 108, 111, 119, 32] s.allow) ∧ n2 = L2.length ∧ n2 ≤ 12 := ⟨_, _, rfl, rfl, by rw [List.length_append, ← HN1.out]; unfold namesT; split <;> simp <;> omega⟩
              have HL2 := Lib.hid hL2
              have HN2 := Lib.hid hn2
              clear hL2 hn2
              by_cases ha3 : s.allow.length = 0
              · have e3 : ¬ (0 : Int) < (s.allow.length : Int) := by omega
                have HO2 := Lib.hid (show wB.ownsRow wA.heap.size 9 1 (.slice ca n1 cc) n2 (L2.map es) by rw [show n2 = n1 by rw [HN2.out, HL2.out, HN1.out]; simp [namesT, ha3], HL2.out, show namesT [97, 108, 108, 111, 119, 32] s.allow = [] by unfold namesT; rw [if_pos ha3], List.append_nil, ← HL1.out]; exact HO1.out)
                obtain rfl : n2 = n1 := by rw [HN2.out, HL2.out, HN1.out]; simp [namesT, ha3]
                by_cases ha4 : s.hide.length = 0
                · have e4 : ¬ (0 : Int) < (s.hide.length : Int) := by omega
                  have HF := Lib.hid (show New RS w wB (.slice ca n2 cc) Z from (New.ofOwns (w := wA) (e := 9) (enc := es) (xs := Z) (by rw [show Z = L2 by rw [HZ.out, HL2.out, show namesT [104, 105, 100, 101, 32] s.hide = [] by unfold namesT; rw [if_pos ha4], List.append_nil], ← HN2.out]; exact HO2.out)).mono UA.out.size)
                  have HUF := Lib.hid (UA.out.trans HU.out)
                  go_wp2_with fail
                  go_ret
                  exact ⟨⟨_, rfl, HF.out⟩, HUF.out⟩
                · have e4 : (0 : Int) < (s.hide.length : Int) := by omega
                  have hf4 := HK.out.hide
                  have hjl4 : (Lib.join s.hide [32]).length ≤ s.hide.length * (10 + [32].length) := joinLib_le _ 10 _ hf4.2
                  simp only [List.length_cons, List.length_nil] at hjl4
                  have hjm4 : (Lib.join s.hide [32]).length ≤ 200 := by omega
                  have SJ4 := Lib.hid (joinW [32] _ s.hide wB _ (R_S1k.upd HR4.out HU.out (by simp)) (by omega) (by omega) (by omega))
                  have HJ4 := Lib.hid (show namesT [104, 105, 100, 101, 32] s.hide = [[104, 105, 100, 101, 32] ++ Lib.join s.hide [32]] by unfold namesT; rw [if_neg ha4, join_lib])
                  clear hjl4
                  generalize Lib.join s.hide [32] = J4 at *
                  obtain ⟨A4, hA4⟩ : ∃ Q, Q = [104, 105, 100, 101, 32] ++ J4 := ⟨_, rfl⟩
                  have hcatA4 : (ByteArray.mk #[104, 105, 100, 101, 32] ++ ByteArray.mk J4.toArray) = ByteArray.mk A4.toArray := by rw [hA4, ← catE]
                  have hlA4 : A4.length = 5 + J4.length := by rw [hA4]; simp only [List.length_append, List.length_cons, List.length_nil] <;> omega
                  have hzA4 : ¬ (9223372036854775807 < 5 + J4.length) := by omega
                  have HAE4 := Lib.hid (show namesT [104, 105, 100, 101, 32] s.hide = [A4] by rw [HJ4.out, hA4])
                  clear hA4 hlA4 HJ4
                  go_wp2_with fail
                  refine SJ4.out.mono ?_
                  rintro r wC4 ⟨rfl, hu4⟩
                  have HB4 := Lib.hid (HU.out.trans hu4)
                  have hown1 := ownsRow_upd HO2.out hu4
                  have HOL := Lib.hid (fun c hc => (hown1.lt c hc).1)
                  have hsz4 : wA.heap.size ≤ wC4.heap.size := HB4.out.size
                  clear SJ4 hu4 x0 x1 x2 x3 x4
                  go_wp2_with (first
                    | (at_builtin; refine wpList_append_tight _ rfl _ _ 25 rfl wA.heap.size 9 i0 (es []) 1 16 Tryz.underlying25 hi hz0 hz1 hz2 rfl (by decide) _ _ _ rfl (hown1.alloc _) ⟨wC4.heap.size, 0, none⟩ 1 1 [es A4] rfl rfl (fun j u hj => by rw [addr_add, Nat.zero_add]; exact cell_new wC4 #[es A4] _ _ rfl j u (by simpa using hj)) (by simp [Value.oneCell']) (by unfold maxLen; omega) (by omega) (by simp; omega) ?_)
                    | fail)
                  intro v2 wD4 hown2 hg2 ht2
                  have HU4 := Lib.hid (show Upd [] wA wD4 from (HB4.out.alloc _).grown hg2 (fun c hc => Or.inl (HOL.out c hc)))
                  have HO3 := Lib.hid hown2
                  clear hown1 hown2 hg2 ht2 HOL HB4 hsz4 hcatA4 hzA4
                  have HF := Lib.hid (show New RS w wD4 v2 Z from (New.ofOwns (w := wA) (e := 9) (enc := es) (xs := Z) (by rw [show Z = L2 ++ [A4] by rw [HZ.out, HL2.out, HAE4.out], List.length_append, ← HN2.out, List.map_append]; exact HO3.out)).mono UA.out.size)
                  have HUF := Lib.hid (UA.out.trans HU4.out)
                  obtain ⟨ca, cc, rfl⟩ := ownsRow_form HO3.out
                  go_wp2_with fail
                  go_ret
                  exact ⟨⟨_, rfl, HF.out⟩, HUF.out⟩
              · have e3 : (0 : Int) < (s.allow.length : Int) := by omega
                have hf3 := HK.out.allow
                have hjl3 : (Lib.join s.allow [32]).length ≤ s.allow.length * (10 + [32].length) := joinLib_le _ 10 _ hf3.2
                simp only [List.length_cons, List.length_nil] at hjl3
                have hjm3 : (Lib.join s.allow [32]).length ≤ 200 := by omega
                have SJ3 := Lib.hid (joinW [32] _ s.allow wB _ (R_S1k.upd HR3.out HU.out (by simp)) (by omega) (by omega) (by omega))
                have HJ3 := Lib.hid (show namesT [97, 108, 108, 111, 119, 32] s.allow = [[97, 108, 108, 111, 119, 32] ++ Lib.join s.allow [32]] by unfold namesT; rw [if_neg ha3, join_lib])
                clear hjl3
                generalize Lib.join s.allow [32] = J3 at *
                obtain ⟨A3, hA3⟩ : ∃ Q, Q = [97, 108, 108, 111, 119, 32] ++ J3 := ⟨_, rfl⟩
                have hcatA3 : (ByteArray.mk #[97, 108, 108, 111, 119, 32] ++ ByteArray.mk J3.toArray) = ByteArray.mk A3.toArray := by rw [hA3, ← catE]
                have hlA3 : A3.length = 6 + J3.length := by rw [hA3]; simp only [List.length_append, List.length_cons, List.length_nil] <;> omega
                have hzA3 : ¬ (9223372036854775807 < 6 + J3.length) := by omega
                have HAE3 := Lib.hid (show namesT [97, 108, 108, 111, 119, 32] s.allow = [A3] by rw [HJ3.out, hA3])
                clear hA3 hlA3 HJ3
                go_wp2_with fail
                refine SJ3.out.mono ?_
                rintro r wC3 ⟨rfl, hu4⟩
                have HB3 := Lib.hid (HU.out.trans hu4)
                have hown1 := ownsRow_upd HO1.out hu4
                have HOL := Lib.hid (fun c hc => (hown1.lt c hc).1)
                have hsz4 : wA.heap.size ≤ wC3.heap.size := HB3.out.size
                clear SJ3 hu4 x0 x1 x2 x3 x4
                go_wp2_with (first
                  | (at_builtin; refine wpList_append_tight _ rfl _ _ 25 rfl wA.heap.size 9 i0 (es []) 1 16 Tryz.underlying25 hi hz0 hz1 hz2 rfl (by decide) _ _ _ rfl (hown1.alloc _) ⟨wC3.heap.size, 0, none⟩ 1 1 [es A3] rfl rfl (fun j u hj => by rw [addr_add, Nat.zero_add]; exact cell_new wC3 #[es A3] _ _ rfl j u (by simpa using hj)) (by simp [Value.oneCell']) (by unfold maxLen; omega) (by omega) (by simp; omega) ?_)
                  | fail)
                intro v2 wD3 hown2 hg2 ht2
                have HU3 := Lib.hid (show Upd [] wA wD3 from (HB3.out.alloc _).grown hg2 (fun c hc => Or.inl (HOL.out c hc)))
                have HO2 := Lib.hid (show wD3.ownsRow wA.heap.size 9 1 v2 n2 (L2.map es) by rw [show n2 = n1 + 1 by rw [HN2.out, HL2.out, List.length_append, ← HN1.out, HAE3.out]; rfl, HL2.out, HAE3.out, List.map_append, ← HL1.out]; exact hown2)
                obtain ⟨ca, cc, rfl⟩ := ownsRow_form HO2.out
                obtain ⟨x0, x1, x2, x3, x4⟩ := HCA.out wD3 HU3.out
                clear hown1 hown2 hg2 ht2 HOL HB3 hsz4 hcatA3 hzA3
                by_cases ha4 : s.hide.length = 0
                · have e4 : ¬ (0 : Int) < (s.hide.length : Int) := by omega
                  have HF := Lib.hid (show New RS w wD3 (.slice ca n2 cc) Z from (New.ofOwns (w := wA) (e := 9) (enc := es) (xs := Z) (by rw [show Z = L2 by rw [HZ.out, HL2.out, show namesT [104, 105, 100, 101, 32] s.hide = [] by unfold namesT; rw [if_pos ha4], List.append_nil], ← HN2.out]; exact HO2.out)).mono UA.out.size)
                  have HUF := Lib.hid (UA.out.trans HU3.out)
                  go_wp2_with fail
                  go_ret
                  exact ⟨⟨_, rfl, HF.out⟩, HUF.out⟩
                · have e4 : (0 : Int) < (s.hide.length : Int) := by omega
                  have hf4 := HK.out.hide
                  have hjl4 : (Lib.join s.hide [32]).length ≤ s.hide.length * (10 + [32].length) := joinLib_le _ 10 _ hf4.2
                  simp only [List.length_cons, List.length_nil] at hjl4
                  have hjm4 : (Lib.join s.hide [32]).length ≤ 200 := by omega
                  have SJ4 := Lib.hid (joinW [32] _ s.hide wD3 _ (R_S1k.upd HR4.out HU3.out (by simp)) (by omega) (by omega) (by omega))
                  have HJ4 := Lib.hid (show namesT [104, 105, 100, 101, 32] s.hide = [[104, 105, 100, 101, 32] ++ Lib.join s.hide [32]] by unfold namesT; rw [if_neg ha4, join_lib])
                  clear hjl4
                  generalize Lib.join s.hide [32] = J4 at *
                  obtain ⟨A4, hA4⟩ : ∃ Q, Q = [104, 105, 100, 101, 32] ++ J4 := ⟨_, rfl⟩
                  have hcatA4 : (ByteArray.mk #[104, 105, 100, 101, 32] ++ ByteArray.mk J4.toArray) = ByteArray.mk A4.toArray := by rw [hA4, ← catE]
                  have hlA4 : A4.length = 5 + J4.length := by rw [hA4]; simp only [List.length_append, List.length_cons, List.length_nil] <;> omega
                  have hzA4 : ¬ (9223372036854775807 < 5 + J4.length) := by omega
                  have HAE4 := Lib.hid (show namesT [104, 105, 100, 101, 32] s.hide = [A4] by rw [HJ4.out, hA4])
                  clear hA4 hlA4 HJ4
                  go_wp2_with fail
                  refine SJ4.out.mono ?_
                  rintro r wC4 ⟨rfl, hu4⟩
                  have HB4 := Lib.hid (HU3.out.trans hu4)
                  have hown1 := ownsRow_upd HO2.out hu4
                  have HOL := Lib.hid (fun c hc => (hown1.lt c hc).1)
                  have hsz4 : wA.heap.size ≤ wC4.heap.size := HB4.out.size
                  clear SJ4 hu4 x0 x1 x2 x3 x4
                  go_wp2_with (first
                    | (at_builtin; refine wpList_append_tight _ rfl _ _ 25 rfl wA.heap.size 9 i0 (es []) 1 16 Tryz.underlying25 hi hz0 hz1 hz2 rfl (by decide) _ _ _ rfl (hown1.alloc _) ⟨wC4.heap.size, 0, none⟩ 1 1 [es A4] rfl rfl (fun j u hj => by rw [addr_add, Nat.zero_add]; exact cell_new wC4 #[es A4] _ _ rfl j u (by simpa using hj)) (by simp [Value.oneCell']) (by unfold maxLen; omega) (by omega) (by simp; omega) ?_)
                    | fail)
                  intro v2 wD4 hown2 hg2 ht2
                  have HU4 := Lib.hid (show Upd [] wA wD4 from (HB4.out.alloc _).grown hg2 (fun c hc => Or.inl (HOL.out c hc)))
                  have HO3 := Lib.hid hown2
                  clear hown1 hown2 hg2 ht2 HOL HB4 hsz4 hcatA4 hzA4
                  have HF := Lib.hid (show New RS w wD4 v2 Z from (New.ofOwns (w := wA) (e := 9) (enc := es) (xs := Z) (by rw [show Z = L2 ++ [A4] by rw [HZ.out, HL2.out, HAE4.out], List.length_append, ← HN2.out, List.map_append]; exact HO3.out)).mono UA.out.size)
                  have HUF := Lib.hid (UA.out.trans HU4.out)
                  obtain ⟨ca, cc, rfl⟩ := ownsRow_form HO3.out
                  go_wp2_with fail
                  go_ret
                  exact ⟨⟨_, rfl, HF.out⟩, HUF.out⟩

end Go.Proofs.YtijmkcnipflpbaaGreatDoor

/-
  Shapes, ends and scopes of parts: what the reference's calls return.
-/
namespace Go.Proofs.YtijmkcnipflpbaaGreatDoor
open Go.RowKit

set_option maxRecDepth 20000 in
set_option maxHeartbeats 1000000 in
theorem folPS (p : Pa) (b o : Nat) (w : World) (c0 : w.cell? ⟨b, o, none⟩ = some (ei p.kind)) :
    Calls Tryz.prog 141 #[.pointer (some ⟨b, o, none⟩)] w fun e w' => e = .returned (.int .i64 (folP p)) ∧ w = w' := by
  have HM := Lib.hid (show folP p = (if (p.kind == 1) = true then 1 else if (p.kind == 3) = true then 1 else if (p.kind == 4) = true then 1 else if (p.kind == 2) = true then 2 else 0) by
    unfold folP; simp only [beq_iff_eq]; by_cases h1 : p.kind = 1 <;> by_cases h3 : p.kind = 3 <;> by_cases h4 : p.kind = 4 <;> simp [h1, h3, h4])
  generalize folP p = Z at *
  generalize p.kind = k at *
  obtain ⟨q1, h1⟩ : ∃ q, (k == 1) = q := ⟨_, rfl⟩
  obtain ⟨q3, h3⟩ : ∃ q, (k == 3) = q := ⟨_, rfl⟩
  obtain ⟨q4, h4⟩ : ∃ q, (k == 4) = q := ⟨_, rfl⟩
  obtain ⟨q2, h2⟩ : ∃ q, (k == 2) = q := ⟨_, rfl⟩
  rw [h1, h3, h4, h2] at HM
  cases q1 with
  | true =>
    go_enter Tryz.func141, Tryz.ntmps141
    go_wp2_with fail
    go_ret
    exact ⟨by rw [HM.out]; rfl, rfl⟩
  | false =>
    cases q3 with
    | true =>
      go_enter Tryz.func141, Tryz.ntmps141
      go_wp2_with fail
      go_ret
      exact ⟨by rw [HM.out]; rfl, rfl⟩
    | false =>
      cases q4 with
      | true =>
        go_enter Tryz.func141, Tryz.ntmps141
        go_wp2_with fail
        go_ret
        exact ⟨by rw [HM.out]; rfl, rfl⟩
      | false =>
        cases q2 with
        | true =>
          go_enter Tryz.func141, Tryz.ntmps141
          go_wp2_with fail
          go_ret
          exact ⟨by rw [HM.out]; rfl, rfl⟩
        | false =>
          go_enter Tryz.func141, Tryz.ntmps141
          go_wp2_with fail
          go_ret
          exact ⟨by rw [HM.out]; rfl, rfl⟩

set_option maxRecDepth 20000 in
set_option maxHeartbeats 4000000 in
theorem shapeDS (v : Value) (l : List Pa) (w : World) (fp : List Nat) (hR : R_Pa1 fp w [v] l) (hl : l.length ≤ 2000000) :
    Calls Tryz.prog 116 #[v] w fun e w' => e = .returned (.bool (inB (l.length : Int) 1 20 && shapeG folP 1 l)) ∧ w = w' := by
  obtain ⟨a, cap, rfl, g1, g2, hc⟩ := slQ_open hR
  unfold maxLen at g2
  have HC := Lib.hid hc
  clear hR hc
  by_cases h0 : l.length = 0
  · have HZ := Lib.hid (show (inB (l.length : Int) 1 20 && shapeG folP 1 l) = false by rw [inB_no (by omega)]; rfl)
    have hb : ((l.length : Int) == 0) = true := by rw [h0]; rfl
    clear h0
    go_enter Tryz.func116, Tryz.ntmps116
    go_wp2_with fail
    go_ret
    exact ⟨by rw [HZ.out]; rfl, rfl⟩
  · have hb : ((l.length : Int) == 0) = false := by simp; intro h; exact h0 (by rw [h]; rfl)
    by_cases h20 : 20 < l.length
    · have HZ := Lib.hid (show (inB (l.length : Int) 1 20 && shapeG folP 1 l) = false by rw [inB_no (by omega)]; rfl)
      have hb2 : (20 : Int) < (l.length : Int) := by omega
      clear h0 h20
      go_enter Tryz.func116, Tryz.ntmps116
      go_wp2_with fail
      go_ret
      exact ⟨by rw [HZ.out]; rfl, rfl⟩
    · have HZ := Lib.hid (show (inB (l.length : Int) 1 20 && shapeG folP 1 l) = shapeG folP 1 l by rw [inB_mk (by omega)]; rfl)
      have hb2 : ¬ (20 : Int) < (l.length : Int) := by omega
      go_enter Tryz.func116, Tryz.ntmps116
      go_wp2_with fail
      go_loopw [3, 4] (fun mv iv wr => ∃ (k : Nat) (m : Int), k ≤ l.length ∧ iv = .int .i64 k ∧ mv = .int .i64 m ∧ 0 ≤ m ∧ m ≤ 1 + k ∧ Hid (shapeG folP m (l.drop k) = shapeG folP 1 l) ∧ wr = w) (fun _ iv _ => l.length - (intOf iv).toNat)
      case atStart => exact ⟨0, 1, Nat.zero_le _, rfl, rfl, by omega, by omega, Lib.hid rfl, rfl⟩
      case round =>
        obtain ⟨k, m, hk, rfl, rfl, hm0, hm1, HS, rfl⟩ := hrel
        by_cases hlt : k < l.length
        · obtain ⟨b1, o1, u, f, rfl, -, -, -, hcell, -, hr⟩ := HC.out k hlt
          obtain ⟨v3, f3, rfl, -, -⟩ := hr
          have p0 := hcell 0 _ rfl
          simp only [Nat.add_zero] at p0
          have hS := HS.out
          rw [List.drop_eq_getElem_cons hlt, shapeG] at hS
          have hkl : (k : Int) < (l.length : Int) := by omega
          have S1 := Lib.hid (folPS l[k] b1 (o1 + k * 4) wr p0)
          have hf0 := folP_nn l[k]
          have hf1 := folP_le l[k]
          clear HS hcell p0
          generalize folP l[k] = q at *
          by_cases hz : m = 0
          · rw [if_pos hz] at hS
            have HN := Lib.hid hS
            have bz : (m == 0) = true := by simpa using hz
            clear hS hz S1
            go_wp2_with fail
            go_ret
            exact ⟨by rw [HZ.out, ← HN.out]; rfl, rfl⟩
          · rw [if_neg hz] at hS
            have HN := Lib.hid hS
            have bz : (m == 0) = false := by simpa using hz
            clear hS
            go_wp2_with fail
            refine S1.out.mono ?_
            rintro e w1 ⟨rfl, rfl⟩
            clear S1
            go_wp2_with fail
            go_roundw
            case rel => exact ⟨k + 1, m + (q - 1), by omega, by go_num, rfl, by omega, by omega, Lib.hid (by rw [← HN.out]; congr 1; omega), by trivial⟩
            case measure => simp [intOf]; omega
        · have hS := HS.out
          rw [List.drop_of_length_le (by omega), shapeG] at hS
          have HN := Lib.hid hS
          have hkl : ¬ (k : Int) < (l.length : Int) := by omega
          clear hS
          go_wp2_with fail
          go_ret
          exact ⟨by rw [HZ.out, ← HN.out]; rfl, rfl⟩

set_option maxRecDepth 20000 in
set_option maxHeartbeats 4000000 in
theorem endDS (v : Value) (l : List Pa) (k0 : Nat) (M0 : Int) (w : World) (fp : List Nat) (hR : R_Pa1 fp w [v] l) (hl : l.length ≤ 1000) (h0 : 1 ≤ M0) (hk0 : k0 < l.length) (hM : M0 ≤ 1000) (hsh : shapeG folP M0 (l.drop k0) = true) :
    Calls Tryz.prog 161 #[v, .int .i64 k0] w fun e w' => e = .returned (.int .i64 ((k0 : Int) + ((endN folP 1 (l.drop k0) : Nat) : Int))) ∧ w = w' := by
  obtain ⟨a, cap, rfl, g1, g2, hc⟩ := slQ_open hR
  unfold maxLen at g2
  have HC := Lib.hid hc
  clear hR hc
  go_enter Tryz.func161, Tryz.ntmps161
  go_wp2_with fail
  go_loopw [1, 5] (fun iv mv wr => ∃ (k : Nat) (m M : Int), k ≤ l.length ∧ iv = .int .i64 k ∧ mv = .int .i64 m ∧ 0 ≤ m ∧ m ≤ M ∧ M ≤ M0 + k ∧ Hid (shapeG folP M (l.drop k) = true) ∧ Hid (k + endN folP m (l.drop k) = k0 + endN folP 1 (l.drop k0)) ∧ wr = w) (fun iv _ _ => l.length - (intOf iv).toNat)
  case atStart => exact ⟨k0, 1, M0, by omega, rfl, rfl, by omega, h0, by omega, Lib.hid hsh, Lib.hid rfl, rfl⟩
  case round =>
    obtain ⟨k, m, M, hk, rfl, rfl, hm0, hmM, hMk, HS, HE, rfl⟩ := hrel
    by_cases hm : 0 < m
    · have hlt : k < l.length := by
        rcases Nat.lt_or_ge k l.length with h | h
        · exact h
        · have hS := HS.out
          rw [List.drop_of_length_le h, shapeG] at hS
          have : M = 0 := by simpa using hS
          omega
      obtain ⟨b1, o1, u, f, rfl, -, -, -, hcell, -, hr⟩ := HC.out k hlt
      obtain ⟨v3, f3, rfl, -, -⟩ := hr
      have p0 := hcell 0 _ rfl
      simp only [Nat.add_zero] at p0
      have hS := HS.out
      have hE := HE.out
      rw [List.drop_eq_getElem_cons hlt, shapeG, if_neg (by omega)] at hS
      rw [List.drop_eq_getElem_cons hlt, endN_step folP m _ _ hm] at hE
      have hkl : (k : Int) < (l.length : Int) := by omega
      have S1 := Lib.hid (folPS l[k] b1 (o1 + k * 4) wr p0)
      have hf0 := folP_nn l[k]
      have hf1 := folP_le l[k]
      clear HS HE hcell p0
      generalize folP l[k] = q at *
      have HS := Lib.hid hS
      have HE := Lib.hid hE
      clear hS hE
      go_wp2_with fail
      refine S1.out.mono ?_
      rintro e w1 ⟨rfl, rfl⟩
      clear S1
      go_wp2_with fail
      go_roundw
      case rel =>
        exact ⟨k + 1, m + (q - 1), M + q - 1, by omega, by go_num, rfl, by omega, by omega, by omega, HS, Lib.hid (by rw [← HE.out, show m + (q - 1) = m + q - 1 by omega]; omega), by trivial⟩
      case measure => simp [intOf]; omega
    · obtain rfl : m = 0 := by omega
      have HN := Lib.hid (show k = k0 + endN folP 1 (l.drop k0) by have := HE.out; rw [endN_done _ _ _ (Int.le_refl _)] at this; omega)
      go_wp2_with fail
      go_ret
      exact ⟨by rw [show ((k0 : Int) + ((endN folP 1 (l.drop k0) : Nat) : Int)) = (k : Int) by have := HN.out; omega]; rfl, rfl⟩

end Go.Proofs.YtijmkcnipflpbaaGreatDoor

/-
  The scope of a part: what the reference's call returns.
-/
namespace Go.Proofs.YtijmkcnipflpbaaGreatDoor
open Go.RowKit

theorem shapeG_le {α : Type} {ar : α → Int} (h0 : ∀ t, 0 ≤ ar t) : ∀ (l : List α) (m : Int), shapeG ar m l = true → m ≤ (l.length : Int)
  | [], m, h => by
    have : m = 0 := by simpa [shapeG] using h
    simp [this]
  | t :: l, m, h => by
    rw [shapeG] at h
    split at h
    · cases h
    · have := shapeG_le h0 l _ h
      have := h0 t
      rw [List.length_cons]; omega
/-- a definition lies at a place. -/
structure DeAt (b o : Nat) (f : List Nat) (w : World) (d : De) : Prop where
  c0 : w.cell? ⟨b, o, none⟩ = some (es d.name)
  c1 : w.cell? ⟨b, o + 1, none⟩ = some (ei d.pars)
  c2 : ∃ v, w.cell? ⟨b, o + 2, none⟩ = some v ∧ R_Pa1 f w [v] d.body
theorem DeAt.upd {b o : Nat} {f : List Nat} {w w' : World} {d : De} (h : DeAt b o f w d) (hu : Upd [] w w') : DeAt b o f w' d :=
  ⟨hu.keep h.c0, hu.keep h.c1, by obtain ⟨v, h1, h2⟩ := h.c2; exact ⟨v, hu.keep h1, R_Pa1k.upd h2 hu (by simp)⟩⟩
theorem DeAt.of {b o : Nat} {f : List Nat} {w : World} {d : De} {u : List Value} (hc : ∀ (j : Nat) c, u[j]? = some c → w.cell? ⟨b, o + j, none⟩ = some c) (hr : R_De f w u d) : ∃ f', DeAt b o f' w d := by
  obtain ⟨v2, f2, rfl, h2, rfl⟩ := hr
  exact ⟨f2, hc 0 _ rfl, hc 1 _ rfl, v2, hc 2 _ rfl, h2⟩

set_option maxRecDepth 20000 in
set_option maxHeartbeats 4000000 in
theorem scopeS (b o : Nat) (f : List Nat) (d : De) (part : Nat) (w : World) (hD : DeAt b o f w d) (hl : d.body.length ≤ 20) (hp : part < d.body.length) (hp0 : 0 ≤ d.pars) (hp1 : d.pars ≤ 3) (hsh : shapeG folP 1 d.body = true) :
    Calls Tryz.prog 143 #[.pointer (some ⟨b, o, none⟩), .int .i64 part] w fun e w' => e = .returned (.int .i64 (d.pars + cntB folP sumP d.body part)) ∧ w = w' := by
  obtain ⟨-, c1, v, c2, hR⟩ := hD
  have hR' := hR
  obtain ⟨a, cap, rfl, g1, g2, hc⟩ := slQ_open hR
  unfold maxLen at g2
  have HC := Lib.hid hc
  have HRR := Lib.hid hR'
  have HSH := Lib.hid hsh
  clear hR hc hR' hsh
  generalize d.body = l at *
  generalize d.pars = P at *
  go_enter Tryz.func143, Tryz.ntmps143
  go_wp2_with fail
  go_loopw [5, 6] (fun ov iv wr => ∃ (k : Nat) (c : Int), k ≤ part ∧ iv = .int .i64 k ∧ ov = .int .i64 c ∧ 0 ≤ c ∧ c ≤ 3 + k ∧ Hid (c + cntB folP sumP (l.drop k) (part - k) = P + cntB folP sumP l part) ∧ wr = w) (fun _ iv _ => part - (intOf iv).toNat)
  case atStart => exact ⟨0, P, Nat.zero_le _, rfl, rfl, hp0, by omega, Lib.hid (by simp), by trivial⟩
  case round =>
    obtain ⟨k, c, hk, rfl, rfl, hc0, hc1, HE, rfl⟩ := hrel
    by_cases hlt : k < part
    · have hkl0 : k < l.length := by omega
      obtain ⟨b1, o1, u, f1, rfl, -, -, -, hcell, -, hr⟩ := HC.out k hkl0
      obtain ⟨v3, f3, rfl, -, -⟩ := hr
      have p0 := hcell 0 _ rfl
      simp only [Nat.add_zero] at p0
      have hE := HE.out
      obtain ⟨i, hi⟩ : ∃ i, part - k = i + 1 := ⟨part - k - 1, by omega⟩
      have hdr := List.drop_eq_getElem_cons hkl0
      obtain ⟨q, q0, q1, q2⟩ := shapeG_drop folP_nn l 1 (by omega) HSH.out k (by omega)
      have hqle := shapeG_le folP_nn _ _ q2
      rw [List.length_drop] at hqle
      have S1 := Lib.hid (endDS (.slice (some ⟨b1, o1, none⟩) l.length cap) l k q wr f HRR.out (by omega) (q1 hkl0) hkl0 (by omega) q2)
      rw [hi, hdr, cntB, ← hdr, show i = part - (k + 1) by omega] at hE
      have hkp : (k : Int) < (part : Int) := by omega
      have hkl : (k : Int) < (l.length : Int) := by omega
      have HEN := Lib.hid (show (i + 1 < endN folP 1 (l.drop k)) ↔ (part : Int) < (k : Int) + ((endN folP 1 (l.drop k) : Nat) : Int) by omega)
      rw [show part - (k + 1) + 1 = i + 1 by omega] at hE
      have HE2 := Lib.hid hE
      have hle : endN folP 1 (l.drop k) ≤ 1000 := by
        have : ∀ (m : Int) (x : List Pa), endN folP m x ≤ x.length := by
          intro m x
          induction x generalizing m with
          | nil => simp [endN]
          | cons t x ih =>
            rw [endN]
            split
            · simp
            · have := ih (m + folP t - 1)
              simp; omega
        have := this 1 (l.drop k)
        rw [List.length_drop] at this
        omega
      clear HE hE hcell hdr q0 q1 q2 hqle hi
      generalize endN folP 1 (l.drop k) = E at *
      have HSU := Lib.hid (show sumP l[k] = (l[k].kind == 4) from rfl)
      generalize l[k] = p at *
      obtain ⟨q4, h4⟩ : ∃ q, (p.kind == 4) = q := ⟨_, rfl⟩
      cases q4 with
      | false =>
        have HN := Lib.hid (show c + cntB folP sumP (l.drop (k + 1)) (part - (k + 1)) = P + cntB folP sumP l part by
          rw [← HE2.out, if_neg (by rw [HSU.out, h4]; simp)]; omega)
        clear S1 HE2 HEN HSU
        go_wp2_with fail
        go_roundw
        case rel => exact ⟨k + 1, c, by omega, by go_num, rfl, by omega, by omega, HN, by trivial⟩
        case measure => simp [intOf]; omega
      | true =>
        by_cases hg : (part : Int) < (k : Int) + (E : Int)
        · have HN := Lib.hid (show c + 1 + cntB folP sumP (l.drop (k + 1)) (part - (k + 1)) = P + cntB folP sumP l part by
            rw [← HE2.out, if_pos ⟨by rw [HSU.out, h4], HEN.out.2 hg⟩]; omega)
          clear HE2 HEN HSU
          go_wp2_with fail
          refine S1.out.mono ?_
          rintro e w1 ⟨rfl, rfl⟩
          clear S1
          go_wp2_with fail
          go_roundw
          case rel => exact ⟨k + 1, c + 1, by omega, by go_num, by go_num, by omega, by omega, HN, by trivial⟩
          case measure => simp [intOf]; omega
        · have HN := Lib.hid (show c + cntB folP sumP (l.drop (k + 1)) (part - (k + 1)) = P + cntB folP sumP l part by
            rw [← HE2.out, if_neg (fun h => hg (HEN.out.1 h.2))]; omega)
          clear HE2 HEN HSU
          go_wp2_with fail
          refine S1.out.mono ?_
          rintro e w1 ⟨rfl, rfl⟩
          clear S1
          go_wp2_with fail
          go_roundw
          case rel => exact ⟨k + 1, c, by omega, by go_num, rfl, by omega, by omega, HN, by trivial⟩
          case measure => simp [intOf]; omega
    · obtain rfl : k = part := by omega
      have HN := Lib.hid (show P + cntB folP sumP l k = c by
        have := HE.out
        rw [Nat.sub_self] at this
        rw [← this]
        cases l.drop k with
        | nil => simp [cntB]
        | cons t x => simp [cntB])
      have hkp : ¬ (k : Int) < (k : Int) := by omega
      go_wp2_with fail
      go_ret
      exact ⟨by rw [HN.out]; rfl, rfl⟩

end Go.Proofs.YtijmkcnipflpbaaGreatDoor

/-
  Why a part of a body is not valid: what the reference's calls return.
-/
namespace Go.Proofs.YtijmkcnipflpbaaGreatDoor
open Go.RowKit

set_option maxRecDepth 20000 in
set_option maxHeartbeats 4000000 in
theorem kindS05 (p : Pa) (B : Nat) (a : Option Addr) (c : Nat) (w : World) (c0 : w.cell? ⟨B, 0, none⟩ = some (ei p.kind)) (c1 : w.cell? ⟨B, 1, none⟩ = some (ei p.num)) (c2 : w.cell? ⟨B, 2, none⟩ = some (es p.name)) (c3 : w.cell? ⟨B, 3, none⟩ = some (.slice a p.args.length c)) :
    Calls Tryz.prog 142 #[.pointer (some ⟨B, 0, none⟩)] w fun e w' => e = .returned (.bool (kindP p)) ∧ w = w' := by
  have HM := Lib.hid (show kindP p = (inB p.kind 0 5 && ((p.kind == 4 || p.kind == 5) || p.num == 0) && (p.kind == 1 || p.name == []) && ((p.kind == 1 || p.kind == 3 || p.kind == 5) || p.args.length == 0)) from rfl)
  obtain ⟨k, num, name, args⟩ := p
  simp only at *
  generalize kindP ⟨k, num, name, args⟩ = Z at *
  generalize args.length = n at *
  obtain ⟨q0, h0⟩ : ∃ q, (k == 0) = q := ⟨_, rfl⟩
  obtain ⟨q1, h1⟩ : ∃ q, (k == 1) = q := ⟨_, rfl⟩
  obtain ⟨q2, h2⟩ : ∃ q, (k == 2) = q := ⟨_, rfl⟩
  obtain ⟨q3, h3⟩ : ∃ q, (k == 3) = q := ⟨_, rfl⟩
  obtain ⟨q4, h4⟩ : ∃ q, (k == 4) = q := ⟨_, rfl⟩
  obtain ⟨q5, h5⟩ : ∃ q, (k == 5) = q := ⟨_, rfl⟩
  obtain ⟨n0, hn⟩ : ∃ q, (num == 0) = q := ⟨_, rfl⟩
  obtain ⟨e0, he⟩ : ∃ q, (name == []) = q := ⟨_, rfl⟩
  obtain ⟨a0, ha⟩ : ∃ q, (n == 0) = q := ⟨_, rfl⟩
  obtain ⟨qi, hi⟩ : ∃ q, inB k 0 5 = q := ⟨_, rfl⟩
  have ha2 : ((n : Int) == 0) = a0 := by rw [← ha]; cases n <;> rfl
  have HQ := Lib.hid (show q0 = false → q1 = false → q2 = false → q3 = false → q4 = false → q5 = false → false = qi from by
    intro g0 g1 g2 g3 g4 g5
    rw [← h0] at g0; rw [← h1] at g1; rw [← h2] at g2; rw [← h3] at g3; rw [← h4] at g4; rw [← h5] at g5
    simp only [beq_eq_false_iff_ne, ne_eq] at g0 g1 g2 g3 g4 g5
    rw [← hi, inB_no (by omega)])
  rw [h1, h3, h4, h5, hn, he, ha, hi] at HM
  clear ha
  cases q0 with
  | false =>
    cases q2 with
    | false =>
      cases q1 with
      | false =>
        cases q3 with
        | false =>
          cases q4 with
          | false =>
            cases q5 with
            | false =>
              obtain rfl : false = qi := HQ.out rfl rfl rfl rfl rfl rfl
              go_enter Tryz.func142, Tryz.ntmps142
              go_wp2_with fail
              go_ret
              exact ⟨by rw [HM.out]; rfl, rfl⟩
            | true =>
              clear HQ
              obtain rfl : k = 5 := by simpa using h5
              obtain rfl : true = qi := hi
              cases e0 with
              | false =>
                go_enter Tryz.func142, Tryz.ntmps142
                go_wp2_with fail
                go_ret
                exact ⟨by rw [HM.out]; rfl, rfl⟩
              | true =>
                go_enter Tryz.func142, Tryz.ntmps142
                go_wp2_with fail
                go_ret
                exact ⟨by rw [HM.out]; rfl, rfl⟩
          | true =>
            clear HQ
            obtain rfl : k = 4 := by simpa using h4
            obtain rfl : true = qi := hi
            obtain rfl : false = q5 := h5
            cases e0 with
            | false =>
              go_enter Tryz.func142, Tryz.ntmps142
              go_wp2_with fail
              go_ret
              exact ⟨by rw [HM.out]; rfl, rfl⟩
            | true =>
              cases a0 with
              | false =>
                go_enter Tryz.func142, Tryz.ntmps142
                go_wp2_with fail
                go_ret
                exact ⟨by rw [HM.out]; rfl, rfl⟩
              | true =>
                go_enter Tryz.func142, Tryz.ntmps142
                go_wp2_with fail
                go_ret
                exact ⟨by rw [HM.out]; rfl, rfl⟩
        | true =>
          clear HQ
          obtain rfl : k = 3 := by simpa using h3
          obtain rfl : true = qi := hi
          obtain rfl : false = q4 := h4
          obtain rfl : false = q5 := h5
          cases n0 with
          | false =>
            go_enter Tryz.func142, Tryz.ntmps142
            go_wp2_with fail
            go_ret
            exact ⟨by rw [HM.out]; rfl, rfl⟩
          | true =>
            cases e0 with
            | false =>
              go_enter Tryz.func142, Tryz.ntmps142
              go_wp2_with fail
              go_ret
              exact ⟨by rw [HM.out]; rfl, rfl⟩
            | true =>
              go_enter Tryz.func142, Tryz.ntmps142
              go_wp2_with fail
              go_ret
              exact ⟨by rw [HM.out]; rfl, rfl⟩
      | true =>
        clear HQ
        obtain rfl : k = 1 := by simpa using h1
        obtain rfl : true = qi := hi
        obtain rfl : false = q3 := h3
        obtain rfl : false = q4 := h4
        obtain rfl : false = q5 := h5
        cases n0 with
        | false =>
          go_enter Tryz.func142, Tryz.ntmps142
          go_wp2_with fail
          go_ret
          exact ⟨by rw [HM.out]; rfl, rfl⟩
        | true =>
          go_enter Tryz.func142, Tryz.ntmps142
          go_wp2_with fail
          go_ret
          exact ⟨by rw [HM.out]; rfl, rfl⟩
    | true =>
      clear HQ
      obtain rfl : k = 2 := by simpa using h2
      obtain rfl : true = qi := hi
      obtain rfl : false = q1 := h1
      obtain rfl : false = q3 := h3
      obtain rfl : false = q4 := h4
      obtain rfl : false = q5 := h5
      cases n0 with
      | false =>
        go_enter Tryz.func142, Tryz.ntmps142
        go_wp2_with fail
        go_ret
        exact ⟨by rw [HM.out]; rfl, rfl⟩
      | true =>
        cases e0 with
        | false =>
          go_enter Tryz.func142, Tryz.ntmps142
          go_wp2_with fail
          go_ret
          exact ⟨by rw [HM.out]; rfl, rfl⟩
        | true =>
          cases a0 with
          | false =>
            go_enter Tryz.func142, Tryz.ntmps142
            go_wp2_with fail
            go_ret
            exact ⟨by rw [HM.out]; rfl, rfl⟩
          | true =>
            go_enter Tryz.func142, Tryz.ntmps142
            go_wp2_with fail
            go_ret
            exact ⟨by rw [HM.out]; rfl, rfl⟩
  | true =>
    clear HQ
    obtain rfl : k = 0 := by simpa using h0
    obtain rfl : true = qi := hi
    obtain rfl : false = q2 := h2
    obtain rfl : false = q1 := h1
    obtain rfl : false = q3 := h3
    obtain rfl : false = q4 := h4
    obtain rfl : false = q5 := h5
    cases n0 with
    | false =>
      go_enter Tryz.func142, Tryz.ntmps142
      go_wp2_with fail
      go_ret
      exact ⟨by rw [HM.out]; rfl, rfl⟩
    | true =>
      cases e0 with
      | false =>
        go_enter Tryz.func142, Tryz.ntmps142
        go_wp2_with fail
        go_ret
        exact ⟨by rw [HM.out]; rfl, rfl⟩
      | true =>
        cases a0 with
        | false =>
          go_enter Tryz.func142, Tryz.ntmps142
          go_wp2_with fail
          go_ret
          exact ⟨by rw [HM.out]; rfl, rfl⟩
        | true =>
          go_enter Tryz.func142, Tryz.ntmps142
          go_wp2_with fail
          go_ret
          exact ⟨by rw [HM.out]; rfl, rfl⟩

set_option maxRecDepth 20000 in
set_option maxHeartbeats 16000000 in
theorem reasonS (ds : List De) (dv : Value) (fd : List Nat) (bd od : Nat) (fb : List Nat) (d : De) (at' : Nat) (w : World) (hDS : R_De1 fd w [dv] ds) (hD : DeAt bd od fb w d) (hdl : ds.length ≤ 1000000) (hl : d.body.length ≤ 20) (hat' : at' < d.body.length) (hsh : shapeG folP 1 d.body = true) (hp0 : 0 ≤ d.pars) (hp1 : d.pars ≤ 3)
    (hnl : d.body[at'].name.length ≤ 2000000) (hal : d.body[at'].args.length ≤ 2000000) :
    Calls Tryz.prog 117 #[dv, .pointer (some ⟨bd, od, none⟩), .int .i64 at'] w fun e w' => e = .returned (.int .i64 (reasonP ds d.body[at'] (d.pars + cntB folP sumP d.body at') (behindP d.body at'))) ∧ Upd [] w w' := by
  obtain ⟨ad, qd, rfl, dg1, dg2, hdc⟩ := slQ_open hDS
  unfold maxLen at dg2
  have hD' := hD
  obtain ⟨-, -, v, d2, hR⟩ := hD
  obtain ⟨a, cap, rfl, g1, g2, hc⟩ := slQ_open hR
  unfold maxLen at g2
  obtain ⟨bb, ob, u, f', rfl, -, -, -, hcell, -, hr⟩ := hc at' hat'
  obtain ⟨v3, f3, rfl, h3, rfl⟩ := hr
  have h3' := h3
  obtain ⟨a3, c3, rfl, ag1, ag2, hA⟩ := slP_open h3
  unfold maxLen at ag2
  have p0 := hcell 0 _ rfl
  have p1 := hcell 1 _ rfl
  have p2 := hcell 2 _ rfl
  have p3 := hcell 3 _ rfl
  simp only [Nat.add_zero] at p0
  have hal' : (at' : Int) < (d.body.length : Int) := by omega
  have hcb := cntB_bd folP sumP d.body at'
  have hs0 : 0 ≤ d.pars + cntB folP sumP d.body at' := by omega
  have hs1 : d.pars + cntB folP sumP d.body at' ≤ 29 := by omega
  obtain ⟨wP, hwP⟩ : ∃ q, q = w.alloc (.cells #[ei d.body[at'].kind, ei d.body[at'].num, es d.body[at'].name, .slice a3 d.body[at'].args.length c3] 127) := ⟨_, rfl⟩
  obtain ⟨BP, hBP⟩ : ∃ q, q = w.heap.size := ⟨_, rfl⟩
  have uP : Upd [] w wP := by rw [hwP]; exact (Upd.refl _ _).alloc _
  have x0 : wP.cell? ⟨BP, 0, none⟩ = some (ei d.body[at'].kind) := by rw [hwP, hBP]; exact cell_new w _ _ _ rfl 0 _ rfl
  have x1 : wP.cell? ⟨BP, 1, none⟩ = some (ei d.body[at'].num) := by rw [hwP, hBP]; exact cell_new w _ _ _ rfl 1 _ rfl
  have x2 : wP.cell? ⟨BP, 2, none⟩ = some (es d.body[at'].name) := by rw [hwP, hBP]; exact cell_new w _ _ _ rfl 2 _ rfl
  have x3 : wP.cell? ⟨BP, 3, none⟩ = some (.slice a3 d.body[at'].args.length c3) := by rw [hwP, hBP]; exact cell_new w _ _ _ rfl 3 _ rfl
  have e2 := uP.keep d2
  have hDP : DeAt bd od fb wP d := DeAt.upd hD' uP
  have SK := Lib.hid (kindS05 d.body[at'] BP a3 c3 wP x0 x1 x2 x3)
  have SN := Lib.hid (nameS d.body[at'].name wP hnl)
  have SW := Lib.hid (l00In d.body[at'].num 1 7 wP)
  have SI := Lib.hid (l00In d.body[at'].num 0 ((ds.length : Int) - 1) wP)
  have SS := Lib.hid (scopeS bd od fb d at' wP hDP hl hat' hp0 hp1 hsh)
  have HA := Lib.hid (fun j (hj : j < d.body[at'].args.length) => by
    obtain ⟨_, _, hv, _, _, h⟩ := slP_open (R_T2k.upd h3' uP (by simp))
    cases hv; exact h j hj)
  have HDS := Lib.hid (fun j (hj : j < ds.length) => by
    obtain ⟨_, _, hv, _, _, h⟩ := slQ_open (R_De1k.upd hDS uP (by simp))
    cases hv; exact h j hj)
  have HB0 := Lib.hid (fun (h : at' = 0) => show false = behindP d.body at' by rw [h]; rfl)
  have HB1 := Lib.hid (fun i (h : at' = i + 1) => show ∃ kb, wP.cell? ⟨bb, ob + i * 4, none⟩ = some (ei kb) ∧ (kb == 1) = behindP d.body at' by
    subst h
    obtain ⟨bb', ob', u', f'', he, -, -, -, hcell', -, hr'⟩ := hc i (by omega)
    simp only [Option.some.injEq, Addr.mk.injEq, and_true] at he
    obtain ⟨rfl, rfl⟩ := he
    obtain ⟨v4, f4, rfl, -, -⟩ := hr'
    refine ⟨d.body[i].kind, uP.keep (by simpa using hcell' 0 _ rfl), ?_⟩
    unfold behindP
    rw [decide_eq_true (by omega), Bool.true_and, Nat.add_sub_cancel, List.getD_eq_getElem?_getD, List.getElem?_map, List.getElem?_eq_getElem (show i < d.body.length by omega)]; rfl)
  have HM := Lib.hid (show reasonP ds d.body[at'] (d.pars + cntB folP sumP d.body at') (behindP d.body at') = (if (!kindP d.body[at']) = true then 2 else if (d.body[at'].kind == 1 && !nameF d.body[at'].name) = true then 3 else if ((d.body[at'].kind == 4 && !inB d.body[at'].num 1 7) || (d.body[at'].kind == 5 && !inB d.body[at'].num 0 ((ds.length : Int) - 1))) = true then 4
      else if (!(if (d.body[at'].kind == 1) = true then d.body[at'].args.length == 0 || (!(d.body[at'].name == tauL) && decide (d.body[at'].args.length ≤ 2)) else if (d.body[at'].kind == 3) = true then (d.body[at'].args.length : Int) == 1 else if (d.body[at'].kind == 5) = true then (d.body[at'].args.length : Int) == ((ds.map De.pars).getD d.body[at'].num.toNat 0) else true)) = true then 5
      else if (d.body[at'].kind == 5 && !behindP d.body at') = true then 6 else if (d.body[at'].kind == 4 && decide (6 ≤ d.pars + cntB folP sumP d.body at')) = true then 7 else if (d.body[at'].args.any (fun e => !isE e (d.pars + cntB folP sumP d.body at') 15)) = true then 8 else 0) by
    unfold reasonP
    have : countP ds d.body[at'] = (if (d.body[at'].kind == 1) = true then d.body[at'].args.length == 0 || (!(d.body[at'].name == tauL) && decide (d.body[at'].args.length ≤ 2)) else if (d.body[at'].kind == 3) = true then (d.body[at'].args.length : Int) == 1 else if (d.body[at'].kind == 5) = true then (d.body[at'].args.length : Int) == ((ds.map De.pars).getD d.body[at'].num.toNat 0) else true) := by
      unfold countP; simp only [beq_iff_eq, bne]
      split <;> try rfl
      split <;> try rfl
      cases d.body[at'].args.length with
      | zero => rfl
      | succ n => cases n <;> rfl
    rw [this])
  have HANY := Lib.hid (fun j (hj : j < d.body[at'].args.length) (h : isE d.body[at'].args[j] (d.pars + cntB folP sumP d.body at') 15 = false) => show (d.body[at'].args.any (fun e => !isE e (d.pars + cntB folP sumP d.body at') 15)) = true from
    List.any_eq_true.2 ⟨_, List.getElem_mem hj, by rw [h]; rfl⟩)
  have HALL := Lib.hid (fun (h : ∀ j (hj : j < d.body[at'].args.length), isE d.body[at'].args[j] (d.pars + cntB folP sumP d.body at') 15 = true) => show (d.body[at'].args.any (fun e => !isE e (d.pars + cntB folP sumP d.body at') 15)) = false from by
    rw [List.any_eq_false]
    intro e he
    obtain ⟨j, hj, rfl⟩ := List.mem_iff_getElem.1 he
    rw [h j hj]; simp)
  have UP := Lib.hid uP
  have hlb20 : d.body.length ≤ 20 := hl
  clear hcell hc hR h3 h3' hA hcb uP hDP hDS hdc hsh hnl hD'
  generalize reasonP ds d.body[at'] (d.pars + cntB folP sumP d.body at') (behindP d.body at') = Z at *
  generalize d.pars + cntB folP sumP d.body at' = sc at *
  generalize behindP d.body at' = bh at *
  generalize d.body[at'] = p at *
  generalize d.body.length = lb at *
  obtain ⟨k, num, name, args⟩ := p
  simp only at *
  have HI := Lib.hid (fun (h : inB num 0 ((ds.length : Int) - 1) = true) => show 0 ≤ num ∧ num < ds.length by have := inB_true h; omega)
  generalize kindP ⟨k, num, name, args⟩ = qk at *
  generalize nameF name = qa at *
  generalize inB num 1 7 = r4 at *
  generalize inB num 0 ((ds.length : Int) - 1) = r5 at *
  generalize hga : (args.any fun e => !isE e sc 15) = ga at *
  clear hga
  obtain ⟨n, hn⟩ : ∃ n, n = args.length := ⟨_, rfl⟩
  rw [← hn] at x3 p3 HM hal ag1
  have HLN := Lib.hid hn.symm
  rw [← hn] at hwP
  clear hn
  obtain ⟨q1, h1⟩ : ∃ q, (k == 1) = q := ⟨_, rfl⟩
  obtain ⟨q3, h3⟩ : ∃ q, (k == 3) = q := ⟨_, rfl⟩
  obtain ⟨q4, h4⟩ : ∃ q, (k == 4) = q := ⟨_, rfl⟩
  obtain ⟨q5, h5⟩ : ∃ q, (k == 5) = q := ⟨_, rfl⟩
  obtain ⟨t0, htb⟩ : ∃ q, (name == tauL) = q := ⟨_, rfl⟩
  obtain ⟨a0, ha⟩ : ∃ q, (n == 0) = q := ⟨_, rfl⟩
  obtain ⟨l2, hl2⟩ : ∃ q, decide (n ≤ 2) = q := ⟨_, rfl⟩
  obtain ⟨b1, hb1⟩ : ∃ q, ((n : Int) == 1) = q := ⟨_, rfl⟩
  obtain ⟨bP, hbP⟩ : ∃ q, ((n : Int) == (ds.map De.pars).getD num.toNat 0) = q := ⟨_, rfl⟩
  obtain ⟨s6, hs⟩ : ∃ q, decide (6 ≤ sc) = q := ⟨_, rfl⟩
  rw [h1, h3, h4, h5, htb, ha, hl2, hb1, hbP, hs] at HM
  have htb2 : (name == [116, 97, 117]) = t0 := htb
  clear htb
  go_enter Tryz.func117, Tryz.ntmps117
  go_upto_region 2 with (fail)
  rw [← hwP, ← hBP]
  clear hwP hBP p0 p1 p2 p3 d2
  go_wp2_with fail
  refine (SK.out).mono ?_
  rintro e wq ⟨rfl, rfl⟩
  cases qk with
  | false =>
    go_wp2_with fail
    go_ret
    exact ⟨by rw [HM.out]; rfl, UP.out⟩
  | true =>
    cases q1 with
    | false =>
      cases q4 with
      | false =>
        cases q5 with
        | false =>
          cases q3 with
          | false =>
            go_wp2_with fail
            refine (SS.out).mono ?_
            rintro e wq ⟨rfl, rfl⟩
            go_wp2_with fail
            go_loopw [10] (fun iv wr => ∃ j : Nat, j ≤ n ∧ iv = .int .i64 j ∧ Hid (∀ i (_ : i < j) (hi : i < args.length), isE args[i] sc 15 = true) ∧ wr = wP) (fun iv _ => n - (intOf iv).toNat)
            case atStart => exact ⟨0, Nat.zero_le _, rfl, Lib.hid (fun i hi => absurd hi (Nat.not_lt_zero _)), by trivial⟩
            case round =>
              obtain ⟨j, hj, rfl, HG, rfl⟩ := hrel
              by_cases hlt : j < n
              · have hla : j < args.length := by rw [HLN.out]; exact hlt
                obtain ⟨b1, o1, u, f9, rfl, -, -, s0, -, hr⟩ := HA.out j hla
                have S9 := Lib.hid (l03Is u args[j] sc 15 wr f9 hs0 hs1 (by omega) hr)
                have HNX := Lib.hid (fun (h : isE args[j] sc 15 = true) i (hij : i < j + 1) (hi : i < args.length) => (show isE args[i] sc 15 = true by
                  by_cases e : i = j
                  · subst e; exact h
                  · exact HG.out i (by omega) hi))
                have HNO := Lib.hid (fun (h : isE args[j] sc 15 = false) => HANY.out j hla h)
                have hjn : (j : Int) < (n : Int) := by omega
                clear hr HG
                generalize isE args[j] sc 15 = qe at *
                go_wp2_with fail
                refine S9.out.mono ?_
                rintro e wq ⟨rfl, rfl⟩
                clear S9
                cases qe with
                | false =>
                  have HZ2 := Lib.hid (HNO.out rfl)
                  clear HNX HNO
                  go_wp2_with fail
                  go_ret
                  exact ⟨by rw [HM.out, HZ2.out]; rfl, UP.out⟩
                | true =>
                  have HN2 := Lib.hid (HNX.out rfl)
                  clear HNX HNO
                  go_wp2_with fail
                  go_roundw
                  case rel => exact ⟨j + 1, by omega, by go_num, HN2, by trivial⟩
                  case measure => simp [intOf]; omega
              · have HZ2 := Lib.hid (HALL.out (fun i hi => HG.out i (by rw [HLN.out] at hi; omega) hi))
                have hjn : ¬ (j : Int) < (n : Int) := by omega
                clear HG
                go_wp2_with fail
                go_ret
                exact ⟨by rw [HM.out, HZ2.out]; rfl, UP.out⟩
          | true =>
            obtain rfl : k = 3 := by simpa using h3
            cases b1 with
            | false =>
              have gb : ((n : Int) != 1) = true := by simp [bne, hb1]
              go_wp2_with fail
              go_ret
              exact ⟨by rw [HM.out]; rfl, UP.out⟩
            | true =>
              have gb : ((n : Int) != 1) = false := by simp [bne, hb1]
              go_wp2_with fail
              refine (SS.out).mono ?_
              rintro e wq ⟨rfl, rfl⟩
              go_wp2_with fail
              go_loopw [10] (fun iv wr => ∃ j : Nat, j ≤ n ∧ iv = .int .i64 j ∧ Hid (∀ i (_ : i < j) (hi : i < args.length), isE args[i] sc 15 = true) ∧ wr = wP) (fun iv _ => n - (intOf iv).toNat)
              case atStart => exact ⟨0, Nat.zero_le _, rfl, Lib.hid (fun i hi => absurd hi (Nat.not_lt_zero _)), by trivial⟩
              case round =>
                obtain ⟨j, hj, rfl, HG, rfl⟩ := hrel
                by_cases hlt : j < n
                · have hla : j < args.length := by rw [HLN.out]; exact hlt
                  obtain ⟨b1, o1, u, f9, rfl, -, -, s0, -, hr⟩ := HA.out j hla
                  have S9 := Lib.hid (l03Is u args[j] sc 15 wr f9 hs0 hs1 (by omega) hr)
                  have HNX := Lib.hid (fun (h : isE args[j] sc 15 = true) i (hij : i < j + 1) (hi : i < args.length) => (show isE args[i] sc 15 = true by
                    by_cases e : i = j
                    · subst e; exact h
                    · exact HG.out i (by omega) hi))
                  have HNO := Lib.hid (fun (h : isE args[j] sc 15 = false) => HANY.out j hla h)
                  have hjn : (j : Int) < (n : Int) := by omega
                  clear hr HG
                  generalize isE args[j] sc 15 = qe at *
                  go_wp2_with fail
                  refine S9.out.mono ?_
                  rintro e wq ⟨rfl, rfl⟩
                  clear S9
                  cases qe with
                  | false =>
                    have HZ2 := Lib.hid (HNO.out rfl)
                    clear HNX HNO
                    go_wp2_with fail
                    go_ret
                    exact ⟨by rw [HM.out, HZ2.out]; rfl, UP.out⟩
                  | true =>
                    have HN2 := Lib.hid (HNX.out rfl)
                    clear HNX HNO
                    go_wp2_with fail
                    go_roundw
                    case rel => exact ⟨j + 1, by omega, by go_num, HN2, by trivial⟩
                    case measure => simp [intOf]; omega
                · have HZ2 := Lib.hid (HALL.out (fun i hi => HG.out i (by rw [HLN.out] at hi; omega) hi))
                  have hjn : ¬ (j : Int) < (n : Int) := by omega
                  clear HG
                  go_wp2_with fail
                  go_ret
                  exact ⟨by rw [HM.out, HZ2.out]; rfl, UP.out⟩
        | true =>
          obtain rfl : k = 5 := by simpa using h5
          obtain rfl : false = q3 := h3
          go_wp2_with fail
          refine (SI.out).mono ?_
          rintro e wq ⟨rfl, rfl⟩
          cases r5 with
          | false =>
            go_wp2_with fail
            go_ret
            exact ⟨by rw [HM.out]; rfl, UP.out⟩
          | true =>
            obtain ⟨hn0, hn1⟩ := HI.out rfl
            obtain ⟨m, rfl⟩ : ∃ m : Nat, num = m := ⟨num.toNat, by omega⟩
            have hm : m < ds.length := by omega
            obtain ⟨b5, o5, u5, f5, rfl, -, -, -, hcell5, -, hr5⟩ := HDS.out m hm
            obtain ⟨v5, f6, rfl, -, -⟩ := hr5
            have z1 := hcell5 1 _ rfl
            have hPm : (ds.map De.pars).getD (Int.toNat (m : Int)) 0 = ds[m].pars := by
              rw [Int.toNat_natCast, List.getD_eq_getElem?_getD, List.getElem?_map, List.getElem?_eq_getElem hm]; rfl
            rw [hPm] at hbP
            clear hPm hcell5
            generalize ds[m].pars = P5 at *
            have hml : (m : Int) < (ds.length : Int) := by omega
            cases bP with
            | false =>
              have gb : ((n : Int) != P5) = true := by simp [bne, hbP]
              go_wp2_with fail
              go_ret
              exact ⟨by rw [HM.out]; rfl, UP.out⟩
            | true =>
              have gb : ((n : Int) != P5) = false := by simp [bne, hbP]
              by_cases hat : at' = 0
              · subst hat
                obtain rfl : false = bh := HB0.out rfl
                go_wp2_with fail
                go_ret
                exact ⟨by rw [HM.out]; rfl, UP.out⟩
              · obtain ⟨i, rfl⟩ : ∃ i, at' = i + 1 := ⟨at' - 1, by omega⟩
                obtain ⟨kb, s1, hkb⟩ := HB1.out i rfl
                have gat : (((i + 1 : Nat) : Int) == 0) = false := by simp; omega
                have gat2 : ((i : Int) + 1 == 0) = false := by simp; omega
                have gil : (i : Int) < (lb : Int) := by omega
                obtain ⟨qb, hqb⟩ : ∃ q, (kb == 1) = q := ⟨_, rfl⟩
                rw [hqb] at hkb
                subst hkb
                cases qb with
                | false =>
                  have gkb : (kb != 1) = true := by simp [bne, hqb]
                  go_wp2_with fail
                  go_ret
                  exact ⟨by rw [HM.out]; rfl, UP.out⟩
                | true =>
                  have gkb : (kb != 1) = false := by simp [bne, hqb]
                  go_wp2_with fail
                  refine (SS.out).mono ?_
                  rintro e wq ⟨rfl, rfl⟩
                  go_wp2_with fail
                  go_loopw [10] (fun iv wr => ∃ j : Nat, j ≤ n ∧ iv = .int .i64 j ∧ Hid (∀ i (_ : i < j) (hi : i < args.length), isE args[i] sc 15 = true) ∧ wr = wP) (fun iv _ => n - (intOf iv).toNat)
                  case atStart => exact ⟨0, Nat.zero_le _, rfl, Lib.hid (fun i hi => absurd hi (Nat.not_lt_zero _)), by trivial⟩
                  case round =>
                    obtain ⟨j, hj, rfl, HG, rfl⟩ := hrel
                    by_cases hlt : j < n
                    · have hla : j < args.length := by rw [HLN.out]; exact hlt
                      obtain ⟨b1, o1, u, f9, rfl, -, -, s0, -, hr⟩ := HA.out j hla
                      have S9 := Lib.hid (l03Is u args[j] sc 15 wr f9 hs0 hs1 (by omega) hr)
                      have HNX := Lib.hid (fun (h : isE args[j] sc 15 = true) i (hij : i < j + 1) (hi : i < args.length) => (show isE args[i] sc 15 = true by
                        by_cases e : i = j
                        · subst e; exact h
                        · exact HG.out i (by omega) hi))
                      have HNO := Lib.hid (fun (h : isE args[j] sc 15 = false) => HANY.out j hla h)
                      have hjn : (j : Int) < (n : Int) := by omega
                      clear hr HG
                      generalize isE args[j] sc 15 = qe at *
                      go_wp2_with fail
                      refine S9.out.mono ?_
                      rintro e wq ⟨rfl, rfl⟩
                      clear S9
                      cases qe with
                      | false =>
                        have HZ2 := Lib.hid (HNO.out rfl)
                        clear HNX HNO
                        go_wp2_with fail
                        go_ret
                        exact ⟨by rw [HM.out, HZ2.out]; rfl, UP.out⟩
                      | true =>
                        have HN2 := Lib.hid (HNX.out rfl)
                        clear HNX HNO
                        go_wp2_with fail
                        go_roundw
                        case rel => exact ⟨j + 1, by omega, by go_num, HN2, by trivial⟩
                        case measure => simp [intOf]; omega
                    · have HZ2 := Lib.hid (HALL.out (fun i hi => HG.out i (by rw [HLN.out] at hi; omega) hi))
                      have hjn : ¬ (j : Int) < (n : Int) := by omega
                      clear HG
                      go_wp2_with fail
                      go_ret
                      exact ⟨by rw [HM.out, HZ2.out]; rfl, UP.out⟩
      | true =>
        obtain rfl : k = 4 := by simpa using h4
        obtain rfl : false = q5 := h5
        obtain rfl : false = q3 := h3
        go_wp2_with fail
        refine (SW.out).mono ?_
        rintro e wq ⟨rfl, rfl⟩
        cases r4 with
        | false =>
          go_wp2_with fail
          go_ret
          exact ⟨by rw [HM.out]; rfl, UP.out⟩
        | true =>
          go_wp2_with fail
          refine (SS.out).mono ?_
          rintro e wq ⟨rfl, rfl⟩
          cases s6 with
          | false =>
            have hs2 : ¬ (6 ≤ sc) := of_decide_eq_false hs
            go_wp2_with fail
            go_loopw [10] (fun iv wr => ∃ j : Nat, j ≤ n ∧ iv = .int .i64 j ∧ Hid (∀ i (_ : i < j) (hi : i < args.length), isE args[i] sc 15 = true) ∧ wr = wP) (fun iv _ => n - (intOf iv).toNat)
            case atStart => exact ⟨0, Nat.zero_le _, rfl, Lib.hid (fun i hi => absurd hi (Nat.not_lt_zero _)), by trivial⟩
            case round =>
              obtain ⟨j, hj, rfl, HG, rfl⟩ := hrel
              by_cases hlt : j < n
              · have hla : j < args.length := by rw [HLN.out]; exact hlt
                obtain ⟨b1, o1, u, f9, rfl, -, -, s0, -, hr⟩ := HA.out j hla
                have S9 := Lib.hid (l03Is u args[j] sc 15 wr f9 hs0 hs1 (by omega) hr)
                have HNX := Lib.hid (fun (h : isE args[j] sc 15 = true) i (hij : i < j + 1) (hi : i < args.length) => (show isE args[i] sc 15 = true by
                  by_cases e : i = j
                  · subst e; exact h
                  · exact HG.out i (by omega) hi))
                have HNO := Lib.hid (fun (h : isE args[j] sc 15 = false) => HANY.out j hla h)
                have hjn : (j : Int) < (n : Int) := by omega
                clear hr HG
                generalize isE args[j] sc 15 = qe at *
                go_wp2_with fail
                refine S9.out.mono ?_
                rintro e wq ⟨rfl, rfl⟩
                clear S9
                cases qe with
                | false =>
                  have HZ2 := Lib.hid (HNO.out rfl)
                  clear HNX HNO
                  go_wp2_with fail
                  go_ret
                  exact ⟨by rw [HM.out, HZ2.out]; rfl, UP.out⟩
                | true =>
                  have HN2 := Lib.hid (HNX.out rfl)
                  clear HNX HNO
                  go_wp2_with fail
                  go_roundw
                  case rel => exact ⟨j + 1, by omega, by go_num, HN2, by trivial⟩
                  case measure => simp [intOf]; omega
              · have HZ2 := Lib.hid (HALL.out (fun i hi => HG.out i (by rw [HLN.out] at hi; omega) hi))
                have hjn : ¬ (j : Int) < (n : Int) := by omega
                clear HG
                go_wp2_with fail
                go_ret
                exact ⟨by rw [HM.out, HZ2.out]; rfl, UP.out⟩
          | true =>
            have hs2 : 6 ≤ sc := of_decide_eq_true hs
            go_wp2_with fail
            go_ret
            exact ⟨by rw [HM.out]; rfl, UP.out⟩
    | true =>
      obtain rfl : k = 1 := by simpa using h1
      obtain rfl : false = q4 := h4
      obtain rfl : false = q5 := h5
      obtain rfl : false = q3 := h3
      go_wp2_with fail
      refine (SN.out).mono ?_
      rintro e wq ⟨rfl, rfl⟩
      cases qa with
      | false =>
        go_wp2_with fail
        go_ret
        exact ⟨by rw [HM.out]; rfl, UP.out⟩
      | true =>
        cases l2 with
        | false =>
          have g2 : (2 : Int) < (n : Int) := by have := of_decide_eq_false hl2; omega
          obtain rfl : false = a0 := by rw [← ha]; have := of_decide_eq_false hl2; exact (beq_eq_false_iff_ne.2 (by omega)).symm
          go_wp2_with fail
          go_ret
          exact ⟨by rw [HM.out]; cases t0 <;> rfl, UP.out⟩
        | true =>
          have g2 : ¬ (2 : Int) < (n : Int) := by have := of_decide_eq_true hl2; omega
          cases a0 with
          | false =>
            have g0 : (0 : Int) < (n : Int) := by have := beq_eq_false_iff_ne.1 ha; omega
            cases t0 with
            | false =>
              go_wp2_with fail
              refine (SS.out).mono ?_
              rintro e wq ⟨rfl, rfl⟩
              go_wp2_with fail
              go_loopw [10] (fun iv wr => ∃ j : Nat, j ≤ n ∧ iv = .int .i64 j ∧ Hid (∀ i (_ : i < j) (hi : i < args.length), isE args[i] sc 15 = true) ∧ wr = wP) (fun iv _ => n - (intOf iv).toNat)
              case atStart => exact ⟨0, Nat.zero_le _, rfl, Lib.hid (fun i hi => absurd hi (Nat.not_lt_zero _)), by trivial⟩
              case round =>
                obtain ⟨j, hj, rfl, HG, rfl⟩ := hrel
                by_cases hlt : j < n
                · have hla : j < args.length := by rw [HLN.out]; exact hlt
                  obtain ⟨b1, o1, u, f9, rfl, -, -, s0, -, hr⟩ := HA.out j hla
                  have S9 := Lib.hid (l03Is u args[j] sc 15 wr f9 hs0 hs1 (by omega) hr)
                  have HNX := Lib.hid (fun (h : isE args[j] sc 15 = true) i (hij : i < j + 1) (hi : i < args.length) => (show isE args[i] sc 15 = true by
                    by_cases e : i = j
                    · subst e; exact h
                    · exact HG.out i (by omega) hi))
                  have HNO := Lib.hid (fun (h : isE args[j] sc 15 = false) => HANY.out j hla h)
                  have hjn : (j : Int) < (n : Int) := by omega
                  clear hr HG
                  generalize isE args[j] sc 15 = qe at *
                  go_wp2_with fail
                  refine S9.out.mono ?_
                  rintro e wq ⟨rfl, rfl⟩
                  clear S9
                  cases qe with
                  | false =>
                    have HZ2 := Lib.hid (HNO.out rfl)
                    clear HNX HNO
                    go_wp2_with fail
                    go_ret
                    exact ⟨by rw [HM.out, HZ2.out]; rfl, UP.out⟩
                  | true =>
                    have HN2 := Lib.hid (HNX.out rfl)
                    clear HNX HNO
                    go_wp2_with fail
                    go_roundw
                    case rel => exact ⟨j + 1, by omega, by go_num, HN2, by trivial⟩
                    case measure => simp [intOf]; omega
                · have HZ2 := Lib.hid (HALL.out (fun i hi => HG.out i (by rw [HLN.out] at hi; omega) hi))
                  have hjn : ¬ (j : Int) < (n : Int) := by omega
                  clear HG
                  go_wp2_with fail
                  go_ret
                  exact ⟨by rw [HM.out, HZ2.out]; rfl, UP.out⟩
            | true =>
              go_wp2_with fail
              go_ret
              exact ⟨by rw [HM.out]; rfl, UP.out⟩
          | true =>
            have g0 : ¬ (0 : Int) < (n : Int) := by have := beq_iff_eq.1 ha; omega
            go_wp2_with fail
            refine (SS.out).mono ?_
            rintro e wq ⟨rfl, rfl⟩
            go_wp2_with fail
            go_loopw [10] (fun iv wr => ∃ j : Nat, j ≤ n ∧ iv = .int .i64 j ∧ Hid (∀ i (_ : i < j) (hi : i < args.length), isE args[i] sc 15 = true) ∧ wr = wP) (fun iv _ => n - (intOf iv).toNat)
            case atStart => exact ⟨0, Nat.zero_le _, rfl, Lib.hid (fun i hi => absurd hi (Nat.not_lt_zero _)), by trivial⟩
            case round =>
              obtain ⟨j, hj, rfl, HG, rfl⟩ := hrel
              by_cases hlt : j < n
              · omega
              · have HZ2 := Lib.hid (HALL.out (fun i hi => HG.out i (by rw [HLN.out] at hi; omega) hi))
                have hjn : ¬ (j : Int) < (n : Int) := by omega
                clear HG
                go_wp2_with fail
                go_ret
                exact ⟨by rw [HM.out, HZ2.out]; rfl, UP.out⟩

end Go.Proofs.YtijmkcnipflpbaaGreatDoor

/-
  The reference's check of a list of definitions: what the calls return.
-/
namespace Go.Proofs.YtijmkcnipflpbaaGreatDoor
open Go.RowKit

/-- what bounds a definition that is looked at. -/
def DeFitS (d : De) : Prop := d.body.length ≤ 2000000 ∧ ∀ p ∈ d.body, p.name.length ≤ 2000000 ∧ p.args.length ≤ 2000000

set_option maxRecDepth 20000 in
set_option maxHeartbeats 8000000 in
theorem bodyS (ds : List De) (dv : Value) (fd : List Nat) (bd od : Nat) (fb : List Nat) (d : De) (w : World) (hDS : R_De1 fd w [dv] ds) (hD : DeAt bd od fb w d) (hdl : ds.length ≤ 1000000) (hF : DeFitS d) (hp0 : 0 ≤ d.pars) (hp1 : d.pars ≤ 3) :
    Calls Tryz.prog 85 #[dv, .pointer (some ⟨bd, od, none⟩)] w fun e w' => e = .returned (.tuple #[.int .i64 (faultP ds d).1, .int .i64 (faultP ds d).2]) ∧ Upd [] w w' := by
  have hD' := hD
  obtain ⟨-, -, v, d2, hR⟩ := hD
  have hR' := hR
  obtain ⟨a, cap, rfl, g1, g2, -⟩ := slQ_open hR
  obtain ⟨ad, qd, rfl, -, -, -⟩ := slQ_open hDS
  unfold maxLen at g2
  have S1 := Lib.hid (shapeDS (.slice a d.body.length cap) d.body w fb hR' hF.1)
  have HM := Lib.hid (show faultP ds d = if (inB (d.body.length : Int) 1 20 && shapeG folP 1 d.body) = true then faultFrom ds d d.body 0 d.body else (0, 1) by
    unfold faultP bodyOk inB
    rw [show decide ((1 : Int) ≤ (d.body.length : Int)) = decide (1 ≤ d.body.length) by congr 1; rw [eq_iff_iff]; omega, show decide ((d.body.length : Int) ≤ 20) = decide (d.body.length ≤ 20) by congr 1; rw [eq_iff_iff]; omega])
  cases hin : (inB (d.body.length : Int) 1 20 && shapeG folP 1 d.body) with
  | false =>
    rw [hin] at S1
    have HZ := Lib.hid (show faultP ds d = (0, 1) by rw [HM.out, hin]; rfl)
    generalize faultP ds d = Z at *
    clear HM hin hR hR' hDS hD' hF
    go_enter Tryz.func85, Tryz.ntmps85
    go_wp2_with fail
    refine S1.out.mono ?_
    rintro e w1 ⟨rfl, rfl⟩
    clear S1
    go_wp2_with fail
    go_ret2
    exact ⟨by rw [HZ.out]; rfl, Upd.refl _ _⟩
  | true =>
    rw [hin] at S1
    have HZ := Lib.hid (show faultP ds d = faultFrom ds d d.body 0 d.body by rw [HM.out, hin]; rfl)
    simp only [Bool.and_eq_true] at hin
    obtain ⟨hin, hsh⟩ := hin
    have h20 := inB_true hin
    have hl20 : d.body.length ≤ 20 := by omega
    have HRE := Lib.hid (fun (k : Nat) (hk : k < d.body.length) W (hu : Upd [] w W) => reasonS ds (.slice ad ds.length qd) fd bd od fb d k W (R_De1k.upd hDS hu (by simp)) (hD'.upd hu) hdl hl20 hk hsh hp0 hp1 (hF.2 _ (List.getElem_mem hk)).1 (hF.2 _ (List.getElem_mem hk)).2)
    have HD2 := Lib.hid (fun W (hu : Upd [] w W) => hu.keep d2)
    clear HM hin hR hR' hDS hD' hF h20 hsh
    go_enter Tryz.func85, Tryz.ntmps85
    go_wp2_with fail
    refine S1.out.mono ?_
    rintro e w1 ⟨rfl, rfl⟩
    clear S1
    go_wp2_with fail
    go_loopw [6] (fun iv wr => ∃ k : Nat, k ≤ d.body.length ∧ iv = .int .i64 k ∧ Hid (faultFrom ds d d.body k (d.body.drop k) = faultFrom ds d d.body 0 d.body) ∧ Hid (Upd [] w wr)) (fun iv _ => d.body.length - (intOf iv).toNat)
    case atStart => exact ⟨0, Nat.zero_le _, rfl, Lib.hid rfl, Lib.hid (Upd.refl _ _)⟩
    case round =>
      clear d2
      obtain ⟨wo, rfl⟩ : ∃ wo : World, wo = wr := ⟨_, rfl⟩
      obtain ⟨k, hk, rfl, HF, HU⟩ := hrel
      have e2 := HD2.out wo HU.out
      by_cases hlt : k < d.body.length
      · have hf := HF.out
        rw [List.drop_eq_getElem_cons hlt, faultFrom] at hf
        have HFN := Lib.hid hf
        have S2 := Lib.hid (HRE.out k hlt wo HU.out)
        have hrn := reasonP_nn ds d.body[k] (d.pars + cntB folP sumP d.body k) (behindP d.body k)
        have hkl : (k : Int) < (d.body.length : Int) := by omega
        clear hf HF
        generalize reasonP ds d.body[k] (d.pars + cntB folP sumP d.body k) (behindP d.body k) = rz at *
        go_wp2_with fail
        refine S2.out.mono ?_
        rintro e w2 ⟨rfl, hu⟩
        have HU2 := Lib.hid (HU.out.trans hu)
        clear S2 hu e2
        by_cases hz : rz = 0
        · have hzb : ¬ (0 : Int) < rz := by omega
          have HK := Lib.hid (show faultFrom ds d d.body (k + 1) (d.body.drop (k + 1)) = faultFrom ds d d.body 0 d.body by rw [← HFN.out, if_pos hz])
          clear hz HFN
          go_wp2_with fail
          go_roundw
          case rel => exact ⟨k + 1, by omega, by go_num, HK, HU2⟩
          case measure => simp [intOf]; omega
        · have hzb : (0 : Int) < rz := by omega
          have HK := Lib.hid (show faultP ds d = ((k : Int), rz) by rw [HZ.out, ← HFN.out, if_neg hz])
          clear hz HFN
          go_wp2_with fail
          go_ret2
          exact ⟨by rw [HK.out]; rfl, HU2.out⟩
      · have hf := HF.out
        rw [List.drop_of_length_le (by omega), faultFrom] at hf
        have HK := Lib.hid (show faultP ds d = (0, 0) by rw [HZ.out, ← hf])
        have hkl : ¬ (k : Int) < (d.body.length : Int) := by omega
        clear hf
        go_wp2_with fail
        go_ret2
        exact ⟨by rw [HK.out]; rfl, HU.out⟩

theorem defsOk_noname {ds : List De} {k : Nat} (hk : k < ds.length) (h : nameF ds[k].name = false) : defsOk ds = false :=
  defsOk_no hk (by unfold goodD; rw [h]; rfl)
theorem defsOk_nopars {ds : List De} {k : Nat} (hk : k < ds.length) (h : inB ds[k].pars 0 3 = false) : defsOk ds = false :=
  defsOk_size (by
    unfold sizeD
    rw [show (ds.all fun d => inB d.pars 0 3) = false from by
      rw [List.all_eq_false]; exact ⟨_, List.getElem_mem hk, by simp [h]⟩]
    simp)
theorem defsOk_nodup {ds : List De} {j k : Nat} (hj : j < k) (hk : k < ds.length) (h : (ds[j].name == ds[k].name) = true) : defsOk ds = false :=
  defsOk_no hk (by
    unfold goodD
    rw [show ((ds.take k).any fun o => o.name == ds[k].name) = true from List.any_eq_true.2 ⟨ds[j], List.mem_iff_getElem.2 ⟨j, by simp; omega, by simp⟩, h⟩]
    simp)
theorem defsOk_nofault {ds : List De} {k : Nat} (hk : k < ds.length) (h : (faultP ds ds[k]).2 ≠ 0) : defsOk ds = false :=
  defsOk_no hk (by unfold goodD; simp [h])
/-- names and parameters of a definition, and its name in no earlier one. -/
def headD (ds : List De) (k : Nat) (d : De) : Bool := nameF d.name && inB d.pars 0 3 && !((ds.take k).any fun o => o.name == d.name)
theorem defsOk_all {ds : List De} (hs : inB (ds.length : Int) 1 4 = true) (h1 : ∀ j (hj : j < ds.length), headD ds j ds[j] = true) (h2 : ∀ j (hj : j < ds.length), (faultP ds ds[j]).2 = 0) : defsOk ds = true := by
  have hh : ∀ j (hj : j < ds.length), nameF ds[j].name = true ∧ inB ds[j].pars 0 3 = true ∧ ((ds.take j).any fun o => o.name == ds[j].name) = false := fun j hj => by
    have := h1 j hj
    unfold headD at this
    simp only [Bool.and_eq_true, Bool.not_eq_true'] at this
    exact ⟨this.1.1, this.1.2, this.2⟩
  rw [defsOk_yes (fun j hj => by
    unfold goodD
    obtain ⟨a, b, c⟩ := hh j hj
    rw [a, c, h2 j hj]; rfl)]
  have hs := inB_true hs
  unfold sizeD
  rw [decide_eq_true (by omega), decide_eq_true (by omega), List.all_eq_true.2 (fun d hd => by obtain ⟨j, hj, rfl⟩ := List.mem_iff_getElem.1 hd; exact (hh j hj).2.1)]
  rfl
theorem defsOk_len {ds : List De} (h : inB (ds.length : Int) 1 4 = false) : defsOk ds = false := by
  have := inB_false h
  refine defsOk_size ?_
  unfold sizeD
  by_cases h1 : 1 ≤ ds.length
  · rw [decide_eq_true h1, decide_eq_false (by omega)]; rfl
  · rw [decide_eq_false h1]; rfl

end Go.Proofs.YtijmkcnipflpbaaGreatDoor
