/-
  The law FnLabels: the call returns true for every input, and writes nothing that was there.
-/
import Derived.Test.YtkhifpgpkklokaaDoorLabM
import Derived.Test.YtkhifpgpkklokaaDoorLabQ
namespace Go.Proofs.YtkhifpgpkklokaaDoor
open Go.RowKit

set_option maxRecDepth 40000 in
set_option maxHeartbeats 4000000 in
theorem lawFnLabels (code more : List Int) (v vm : Value) (fc fm : List Nat) (w : World) (hR : R_B fc w [v] code) (hM : R_B fm w [vm] more) (hb : bytesOk code) (hbm : bytesOk more) (he : Env w) :
    Calls Tryd.prog 3 #[v, vm] w fun e w' => e = .returned (.bool true) ∧ Upd [] w w' := by
  by_cases hlen : code.length ≤ 1048576 ∧ more.length ≤ 1048576
  · have S0 := Lib.hid (r8Long v vm code more w fc fm hR hM hlen)
    have S1 := Lib.hid (r8Label v code w fc hR hb hlen.1)
    have HM := Lib.hid hM
    have HBM := Lib.hid hbm
    have HE := Lib.hid he
    have hml := hlen.2
    clear hR hM hb hbm hlen he
    go_enter Tryd.func3, Tryd.ntmps3
    go_wp2_with fail
    refine S0.out.mono ?_
    rintro e w1 ⟨rfl, rfl⟩
    clear S0
    go_wp2_with fail
    refine S1.out.mono ?_
    rintro e w1 ⟨⟨name, v1, vs, rfl, hnm, hvl, hva, hn1⟩, hu1⟩
    obtain ⟨ha, htau, hnl⟩ := acts_ok name hnm
    have hlab := labT_yes (name := name) (xs := vs) htau (by rw [ha, hva, decide_eq_true hvl]; rfl)
    generalize hT : (if vs = [] then name else ((name ++ [40]) ++ txtV vs) ++ [41]) = T at hlab
    have hread := readF_labT hlab
    have hjl : (txtV vs).length ≤ 2 * 31 := by
      refine Nat.le_trans (joinC_le 44 30 (vs.map Lib.itoa) (fun p hp => ?_)) ?_
      · obtain ⟨x, hx, rfl⟩ := List.mem_map.1 hp
        exact (isV_itoa (List.all_eq_true.1 hva x hx)).2
      · rw [List.length_map]; omega
    have hTl : T.length ≤ 2000000 := by
      rw [← hT]; split
      · omega
      · simp only [List.length_append, List.length_cons, List.length_nil]; omega
    obtain ⟨f1, h1, -, -⟩ := hn1
    have S2 := labelTextI name v1 vs w1 f1 (by omega) h1 (HE.out.upd hu1)
    rw [hlab] at S2
    have HS2 := Lib.hid S2
    have S3 := fun (w' : World) (hu : Upd [] w w') => labelValuesI T w' hTl (HE.out.upd hu)
    have S4 := fun (w' : World) (hu : Upd [] w w') => isLabelI T w' hTl (HE.out.upd hu)
    have S5 := fun (w' : World) (hu : Upd [] w w') => labelNameI T w' hTl (HE.out.upd hu)
    unfold ValuesV at S3
    rw [hread] at S3 S4 S5
    simp only [Option.getD_some, Option.isSome_some] at S3 S4 S5
    have HS3 := Lib.hid S3
    have HS4 := Lib.hid S4
    have HS5 := Lib.hid S5
    have HU1 := Lib.hid hu1
    have H1 := Lib.hid h1
    clear S1 S2 S3 S4 S5 hlab hread hT hjl hva h1 hu1 ha htau hnm
    go_wp2_with fail
    refine HS2.out.mono ?_
    rintro e w2 ⟨rfl, hu2⟩
    have HU2 := Lib.hid (HU1.out.trans hu2)
    have H2 := Lib.hid (R1k.upd H1.out hu2 (by simp))
    have HS3 := Lib.hid (HS3.out _ HU2.out)
    simp only [Option.getD_some]
    clear HS2 HU1 H1 hu2
    go_wp2_with fail
    refine HS3.out.mono ?_
    rintro e w3 ⟨⟨v3, rfl, hn3⟩, hu3⟩
    obtain ⟨f3, h3, -, -⟩ := hn3
    have HU3 := Lib.hid (HU2.out.trans hu3)
    have H3 := Lib.hid (And.intro (R1k.upd H2.out hu3 (by simp)) h3)
    have HS4 := Lib.hid (HS4.out _ HU3.out)
    clear HS3 HU2 H2 hu3 h3
    go_wp2_with fail
    refine HS4.out.mono ?_
    rintro e w4 ⟨rfl, hu4⟩
    have HU4 := Lib.hid (HU3.out.trans hu4)
    have H4 := Lib.hid (And.intro (R1k.upd H3.out.1 hu4 (by simp)) (R1k.upd H3.out.2 hu4 (by simp)))
    have HS5 := Lib.hid (HS5.out _ HU4.out)
    clear HS4 HU3 H3 hu4
    go_wp2_with fail
    refine HS5.out.mono ?_
    rintro e w5 ⟨rfl, hu5⟩
    have HU5 := Lib.hid (HU4.out.trans hu5)
    have S6 := r8Same v3 v1 vs vs w5 f3 f1 (R1k.upd H4.out.2 hu5 (by simp)) (R1k.upd H4.out.1 hu5 (by simp))
    rw [decide_eq_true rfl] at S6
    have HS6 := Lib.hid S6
    clear HS5 HU4 H4 hu5 S6
    go_wp2_with fail
    refine HS6.out.mono ?_
    rintro e w6 ⟨rfl, n6, rfl⟩
    have HU6 := Lib.hid (HU5.out.drewN n6)
    generalize w5.drewN n6 = w6 at *
    have S7 := Lib.hid (r8Lists vm more w6 fm (R_Bk.upd HM.out HU6.out (by simp)) HBM.out hml)
    clear HS6 HU5
    go_wp2_with fail
    refine S7.out.mono ?_
    rintro e w7 ⟨⟨va, vb, a, b, fa, fb, rfl, hfa, hfb⟩, hu7⟩
    have HU7 := Lib.hid (HU6.out.trans hu7)
    have S8 := compareListsI va vb a b w7 fa fb hfa hfb
    have S9 := compareListsI vb va b a w7 fb fa hfb hfa
    have S10 := r8Same va vb a b w7 fa fb hfa hfb
    rw [cmpQ_neg a b] at S9
    have hbd := cmpQ_bd a b
    have hdec : decide (a = b) = decide (cmpQ a b = 0) := by
      by_cases h : a = b
      · subst h; rw [cmpQ_self]; simp
      · rw [decide_eq_false h]; symm; exact decide_eq_false (fun h2 => h (cmpQ_zero h2))
    rw [hdec] at S10
    generalize cmpQ a b = c at *
    clear S7 hu7 hfa hfb HU6 hdec
    rcases (by omega : c = -1 ∨ c = 0 ∨ c = 1) with rfl | rfl | rfl
    all_goals (
      have HS8 := Lib.hid S8
      have HS9 := Lib.hid S9
      have HS10 := Lib.hid S10
      clear S8 S9 S10
      go_wp2_with fail
      refine HS8.out.mono ?_
      rintro e w8 ⟨rfl, rfl⟩
      clear HS8
      go_wp2_with fail
      refine HS9.out.mono ?_
      rintro e w8 ⟨rfl, rfl⟩
      clear HS9
      go_wp2_with fail
      refine HS10.out.mono ?_
      rintro e w8 ⟨rfl, n8, rfl⟩
      have HU8 := Lib.hid (HU7.out.drewN n8)
      clear HS10 HU7
      go_wp2_with fail
      go_ret
      exact ⟨by first | rfl | simp, HU8.out⟩)
  · obtain ⟨a, cap, rfl, h1, h2, -⟩ := slF1_open hR
    obtain ⟨a', cap', rfl, h1', h2', -⟩ := slF1_open hM
    unfold maxLen at h2 h2'
    have S0 : Hid (Calls Tryd.prog 4 #[.slice a code.length cap, .slice a' more.length cap'] w fun e w' => e = .returned (.bool true) ∧ w = w') := Lib.hid (by
      clear hR hM hb hbm he
      by_cases hc : code.length ≤ 1048576
      · have hm : ¬ more.length ≤ 1048576 := fun h => hlen ⟨hc, h⟩
        clear hlen
        go_enter Tryd.func4, Tryd.ntmps4
        go_wp2_with fail
        go_ret
        exact ⟨by first | (simp; omega) | simp | (simp [*]), rfl⟩
      · clear hlen
        go_enter Tryd.func4, Tryd.ntmps4
        go_wp2_with fail
        go_ret
        exact ⟨by first | (simp; omega) | simp | (simp [*]), rfl⟩)
    clear hR hM hb hbm hlen he
    go_enter Tryd.func3, Tryd.ntmps3
    go_wp2_with fail
    refine S0.out.mono ?_
    rintro e w1 ⟨rfl, rfl⟩
    go_wp2_with fail
    go_ret
    exact ⟨rfl, Upd.refl _ _⟩

end Go.Proofs.YtkhifpgpkklokaaDoor
