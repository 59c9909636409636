/-
  Texts joined in one file: CfV, CfX, LvS3, LvB, CfB, LawPrio, LabZ.
-/
import Derived.Test.YtlondofadjcooaaGreatDoorZP1
import Derived.Test.YtlondofadjcooaaGreatDoorZP2
import Derived.Test.YtlondofadjcooaaGreatDoorZP3
import Derived.Test.YtlondofadjcooaaGreatDoorZP6
import Derived.Lib.LaidTab
import Derived.Stop.LaidErr
import Derived.HandedShaped
import Derived.Handed
import Derived.Shelf.Vars
/-
  PrioritizeConfluent, the reference's call.
-/
namespace Go.Proofs.YtlondofadjcooaaGreatDoor
open Go.RowKit

set_option maxRecDepth 20000 in
set_option maxHeartbeats 4000000 in
theorem ownLtsS (T : Sys) (TB : Nat) (v1 v2 : Value) (w : World) (f1 f2 : List Nat) (hz : SysAt TB w T.st T.ini v1 v2) (h1 : RS f1 w [v1] T.labs) (h2 : R_E1 f2 w [v2] T.eds) (hl : T.labs.length ≤ 1000000) (hm : T.eds.length ≤ 1000000) :
    Calls Tryz.prog 24 #[.pointer (some ⟨TB, 0, none⟩)] w fun e w' => (∃ v', e = .returned v' ∧ New R_L1 w w' v' T) ∧ Upd [] w w' := by
  obtain ⟨is, hsi, hsz0, hsz1, hsz2⟩ := info_parts Tryz.info9
  obtain ⟨i3, ni, nz0, nz1, nz2⟩ := info_parts Tryz.infoEd
  obtain ⟨RB, hRB⟩ : ∃ B, B = w.heap.size := ⟨_, rfl⟩
  obtain ⟨wA, hwA⟩ : ∃ wA, wA = ((w.alloc (.cells #[ei 0, ei 0, .slice none 0 0, .slice none 0 0] 30)).alloc (.cells #[ei T.st, ei T.ini, .slice none 0 0, .slice none 0 0] 30)).drew := ⟨_, rfl⟩
  have uA : Upd [] w wA := by rw [hwA]; exact (((Upd.refl _ _).alloc _).alloc _).drew
  have qZ : SysAt RB wA 0 0 (.slice none 0 0) (.slice none 0 0) := by rw [hwA, hRB]; exact SysAt.upd (heap_alloc_new w _) (((Upd.refl [] _).alloc _).drew) (by simp)
  have qO : SysAt (RB + 1) wA T.st T.ini (.slice none 0 0) (.slice none 0 0) := by
    have h := heap_alloc_new (w.alloc (.cells #[ei 0, ei 0, .slice none 0 0, .slice none 0 0] 30)) (.cells #[ei T.st, ei T.ini, .slice none 0 0, .slice none 0 0] 30)
    have h : SysAt (RB + 1) ((w.alloc (.cells #[ei 0, ei 0, .slice none 0 0, .slice none 0 0] 30)).alloc (.cells #[ei T.st, ei T.ini, .slice none 0 0, .slice none 0 0] 30)) T.st T.ini (.slice none 0 0) (.slice none 0 0) := by rw [hRB]; unfold SysAt; simpa using h
    rw [hwA]; exact h.upd ((Upd.refl [] _).drew) (by simp)
  have hszA : wA.heap.size = RB + 2 := by rw [hwA, hRB]; show ((w.alloc _).alloc _).heap.size = _; simp
  have hown : (wA.alloc (.cells #[] 9)).ownsRow wA.heap.size 9 1 (.slice (some ⟨wA.heap.size, 0, none⟩) 0 0) 0 [] := by
    simpa using World.ownsRow_lit (base := wA.heap.size) (e := 9) (size := 1) wA #[] 0 (Nat.le_refl _) (by simp [maxLen]) (by simp)
  have HF := Lib.hid (Flat.ofRS (RSk.upd h1 (uA.trans ((Upd.refl [] wA).alloc (.cells #[] 9))) (by simp)))
  have H2 := Lib.hid (fun W (hu : Upd [] w W) => R_E1k.upd h2 hu (by simp))
  obtain ⟨la, ca, rfl, -, -, -⟩ := slF1_open h1
  obtain ⟨a, cap, rfl, -, -, -⟩ := slF3_open h2
  have HQT := Lib.hid (fun W (hu : Upd [] w W) => hz.upd hu (by simp))
  have s0 := hz.facts.1
  have s1 := hz.facts.2.1
  have y2 := (hz.upd (uA.trans ((Upd.refl [] wA).alloc (.cells #[] 9))) (by simp)).facts.2.2.1
  have y2' := (hz.upd uA (by simp)).facts.2.2.1
  have HQZ := Lib.hid qZ
  have HQO := Lib.hid qO
  have HUA := Lib.hid uA
  have HSZ := Lib.hid hszA
  have HRB := Lib.hid hRB
  clear hz h1 h2 uA qZ qO hszA
  go_enter Tryz.func24, Tryz.ntmps24
  go_upto_region 1 with (fail)
  go_region_held3 (fun w' => w'.cell? ⟨TB, 0, none⟩ = some (ei T.st) ∧ w'.cell? ⟨TB, 1, none⟩ = some (ei T.ini)) (first | go_keep | (go_split_ands; refine ⟨?_, ?_⟩ <;> first | exact ((Upd.refl [] _).alloc _).keep (by assumption) | exact (((Upd.refl [] _).alloc _).alloc _).keep (by assumption))) (fail)
  go_upto_region 2 with (fail)
  rw [← hwA, ← hRB]
  clear hwA hRB s0 s1
  go_wp2_with (first
    | (at_builtin; refine wpList_append_flat rfl _ _ 22 rfl wA.heap.size 9 is (es []) 1 16 Tryz.underlying22 hsi hsz0 hsz1 hsz2 rfl (by decide) _ _ _ rfl hown _ T.labs.length _ rfl _ HF.out (one_RS T.labs) (by unfold maxLen; omega) (by omega) (by simp) ?_)
    | fail)
  intro v2 w2 hown2 hg2 ht2
  have hU2 : Upd [] wA w2 := ((Upd.refl [] wA).alloc _).grown hg2 (fun k hk => Or.inl (hown.lt k hk).1)
  have hn2 : New RS wA w2 v2 T.labs := New.ofOwns (e := 9) (by simpa using hown2)
  obtain ⟨p1, c1, rfl⟩ := rs_form hn2
  have q2 := HQO.out.upd hU2 (by simp)
  have k2 := q2.facts.2.2.1
  have kf2 := q2.facts.2.2.2.2 2
  obtain ⟨w3, hw3⟩ : ∃ w3, w3 = w2.setCell ⟨RB + 1, 2, none⟩ (.slice p1 T.labs.length c1) := ⟨_, rfl⟩
  have u3 : Upd [RB + 1] w2 w3 := by rw [hw3]; exact (Upd.refl _ _).setCell (Or.inr (by simp)) _
  have q3 : SysAt (RB + 1) w3 T.st T.ini (.slice p1 T.labs.length c1) (.slice none 0 0) := by rw [hw3]; exact q2.set2 _
  have hzz := (HQZ.out.upd hU2 (by simp)).upd u3 (by simp)
  have hW3 : Upd [] w w3 := (HUA.out.trans hU2).fresh u3 (fun b hb => Or.inl (by have := HRB.out; simp at hb; omega))
  have hown3 : (w3.alloc (.cells #[] 55)).ownsRow w3.heap.size 55 3 (.slice (some ⟨w3.heap.size, 0, none⟩) 0 0) 0 [] := by
    simpa using World.ownsRow_lit (base := w3.heap.size) (e := 55) (size := 3) w3 #[] 0 (Nat.le_refl _) (by simp [maxLen]) (by simp)
  have HF3 := Lib.hid (Flat.ofE1 (R_E1k.upd (H2.out w3 hW3) ((Upd.refl [] w3).alloc (.cells #[] 55)) (by simp)))
  have x3 := (HQT.out _ (hW3.trans ((Upd.refl [] w3).alloc (.cells #[] 55)))).facts.2.2.2.1
  have x3' := (HQT.out _ hW3).facts.2.2.2.1
  have hsz3 : wA.heap.size ≤ w2.heap.size := hU2.size
  have hsz4 : w2.heap.size ≤ w3.heap.size := u3.size
  have HN2 := Lib.hid hn2
  have HU3 := Lib.hid (And.intro hU2 (And.intro u3 (And.intro q3 (And.intro hzz hW3))))
  have HS3 := Lib.hid (And.intro hsz3 hsz4)
  clear hown hown2 hg2 ht2 hU2 hn2 q2 u3 q3 hzz hW3 y2 y2' hsz3 hsz4
  go_upto_region 3 with (fail)
  rw [← hw3]
  clear hw3 k2 kf2
  go_wp2_with (first
    | (at_builtin; refine wpList_append_flat rfl _ _ 28 rfl w3.heap.size 55 i3 (.agg #[.int .i64 0, .int .i64 0, .int .i64 0]) 3 24 Tryz.underlying28 ni nz0 nz1 nz2 rfl (by decide) _ _ _ rfl hown3 _ T.eds.length _ rfl _ HF3.out (one_E1 T.eds) (by unfold maxLen; omega) (by omega) (by simp) ?_)
    | fail)
  intro v4 w4 hown4 hg4 ht4
  have hU4 : Upd [] w3 w4 := ((Upd.refl [] w3).alloc _).grown hg4 (fun k hk => Or.inl (hown3.lt k hk).1)
  have hn4 : New R_E1 w3 w4 v4 T.eds := New.ofOwns3 (e := 55) (by simpa using hown4)
  obtain ⟨p2, c2, rfl⟩ := e1_form hn4
  obtain ⟨hU2, u3, q3, hzz, hW3⟩ := HU3.out
  have q4 := q3.upd hU4 (by simp)
  have k4 := q4.facts.2.2.2.1
  have kf4 := q4.facts.2.2.2.2 3
  obtain ⟨w5, hw5⟩ : ∃ w5, w5 = w4.setCell ⟨RB + 1, 3, none⟩ (.slice p2 T.eds.length c2) := ⟨_, rfl⟩
  have u5 : Upd [RB + 1] w4 w5 := by rw [hw5]; exact (Upd.refl _ _).setCell (Or.inr (by simp)) _
  have q5 : SysAt (RB + 1) w5 T.st T.ini (.slice p1 T.labs.length c1) (.slice p2 T.eds.length c2) := by rw [hw5]; exact q4.set3 _
  have z5 := (hzz.upd hU4 (by simp)).upd u5 (by simp)
  obtain ⟨o0, o1, o2, o3, -⟩ := q5.facts
  obtain ⟨e0, e1, e2, e3, ef⟩ := z5.facts
  have ef0 := ef 0
  have ef1 := ef 1
  have ef2 := ef 2
  have ef3 := ef 3
  obtain ⟨r0, r1, r2, r3, -⟩ := (z5.store T.st T.ini (.slice p1 T.labs.length c1) (.slice p2 T.eds.length c2)).facts
  have hB := HRB.out
  have hs := HSZ.out
  have hW5 : Upd [] w w5 := (hW3.trans hU4).fresh u5 (fun b hb => Or.inl (by simp at hb; omega))
  have uS : Upd [RB] w5 ((((w5.setCell ⟨RB, 0, none⟩ (ei T.st)).setCell ⟨RB, 1, none⟩ (ei T.ini)).setCell ⟨RB, 2, none⟩ (.slice p1 T.labs.length c1)).setCell ⟨RB, 3, none⟩ (.slice p2 T.eds.length c2)) :=
    ((((Upd.refl [RB] w5).setCell (Or.inr (by simp)) _).setCell (Or.inr (by simp)) _).setCell (Or.inr (by simp)) _).setCell (Or.inr (by simp)) _
  obtain ⟨g1', k1, o1', b1⟩ := HN2.out
  obtain ⟨g2', k2, o2', b2⟩ := hn4
  have hs3 := HS3.out
  have hU2s := hU2.size
  have lt1 := RSk.lt k1
  have hne1 : ∀ b ∈ g1', b ∉ [RB + 1] := fun b hb hm => by have := b1 b hb; simp at hm; omega
  have hne2 : ∀ b ∈ g2', b ∉ [RB + 1] := fun b hb hm => by have := b2 b hb; simp at hm; omega
  have hnz1 : ∀ b ∈ g1', b ∉ [RB] := fun b hb hm => by have := b1 b hb; simp at hm; omega
  have hnz2 : ∀ b ∈ g2', b ∉ [RB] := fun b hb hm => by have := b2 b hb; simp at hm; omega
  have k1 := RSk.upd (RSk.upd (RSk.upd (RSk.upd k1 u3 hne1) hU4 (by simp)) u5 hne1) uS hnz1
  have k2 := R_E1k.upd (R_E1k.upd k2 u5 hne2) uS hnz2
  have o1' := (((o1'.upd u3 hne1).upd hU4 (by simp)).upd u5 hne1).upd uS hnz1
  have o2' := (o2'.upd u5 hne2).upd uS hnz2
  have HFIN := Lib.hid (show New R_L1 w ((((w5.setCell ⟨RB, 0, none⟩ (ei T.st)).setCell ⟨RB, 1, none⟩ (ei T.ini)).setCell ⟨RB, 2, none⟩ (.slice p1 T.labs.length c1)).setCell ⟨RB, 3, none⟩ (.slice p2 T.eds.length c2)) (.agg #[ei T.st, ei T.ini, .slice p1 T.labs.length c1, .slice p2 T.eds.length c2]) T from by
    refine ⟨g1' ++ g2', ⟨_, _, g1', g2', rfl, k1, k2, rfl⟩, ⟨?_, ?_⟩, ?_⟩
    · rw [List.nodup_append]
      exact ⟨o1'.1, o2'.1, fun x hx y hy hxy => by have h1 := lt1 x hx; have h2 := b2 y hy; omega⟩
    · intro b hbm
      rcases List.mem_append.1 hbm with h | h
      · exact o1'.2 b h
      · exact o2'.2 b h
    · intro b hbm
      rcases List.mem_append.1 hbm with h | h
      · have h1 := b1 b h; omega
      · have := b2 b h; omega)
  have HE := Lib.hid (hW5.fresh uS (fun b hb => Or.inl (by simp at hb; omega)))
  clear hown3 hown4 hg4 ht4 hU4 hU2 u3 q3 hzz hW3 q4 u5 q5 z5 ef hW5 uS k1 k2 o1' o2' b1 b2 lt1 hne1 hne2 hnz1 hnz2 hB hs hs3 hU2s x3 x3' HN2 HU3 HS3
  go_upto_region 4 with (fail)
  rw [← hw5]
  clear hw5 k4 kf4
  go_wp2_with fail
  refine bodyPost_ret (v := .agg #[ei T.st, ei T.ini, .slice p1 T.labs.length c1, .slice p2 T.eds.length c2]) (by simp [results, Tryz.results24, go_sem, r0, r1, r2, r3]) rfl ⟨⟨_, rfl, HFIN.out⟩, HE.out⟩

end Go.Proofs.YtlondofadjcooaaGreatDoor

/-
  PrioritizeConfluent, the reference's call.
-/
namespace Go.Proofs.YtlondofadjcooaaGreatDoor
open Go.RowKit

set_option maxRecDepth 20000 in
set_option maxHeartbeats 8000000 in
theorem prioS (T : Sys) (set : List Int) (v1 v2 vs : Value) (w : World) (f1 f2 fs : List Nat) (h1 : RS f1 w [v1] T.labs) (h2 : R_E1 f2 w [v2] T.eds) (hs : R1 fs w [vs] set) (hp : ∀ p ∈ T.labs, p.length ≤ 2000000) (_he : Env w) :
    Calls Tryz.prog 6 #[.agg #[ei T.st, ei T.ini, v1, v2], vs] w (GaveL2 w (prioF T set)) := by
  obtain ⟨i3, ni, nz0, nz1, nz2⟩ := info_parts Tryz.infoEd
  obtain ⟨BX, hBX⟩ : ∃ B, B = w.heap.size := ⟨_, rfl⟩
  obtain ⟨wA, hwA⟩ : ∃ wA, wA = (w.alloc (.cells #[ei T.st, ei T.ini, v1, v2] 30)).alloc (.cells #[ei 0, ei 0, .slice none 0 0, .slice none 0 0] 30) := ⟨_, rfl⟩
  have uA : Upd [] w wA := by rw [hwA]; exact ((Upd.refl _ _).alloc _).alloc _
  have qA : SysAt BX wA T.st T.ini v1 v2 := by rw [hwA, hBX]; exact SysAt.upd (heap_alloc_new w _) ((Upd.refl [] _).alloc _) (by simp)
  have qZ : SysAt (BX + 1) wA 0 0 (.slice none 0 0) (.slice none 0 0) := by
    have h := heap_alloc_new (w.alloc (.cells #[ei T.st, ei T.ini, v1, v2] 30)) (.cells #[ei 0, ei 0, .slice none 0 0, .slice none 0 0] 30)
    rw [hwA, hBX]; unfold SysAt; simpa using h
  have hszA : wA.heap.size = BX + 2 := by rw [hwA, hBX]; simp
  have S1 := Lib.hid (askS T BX set v1 v2 vs wA f1 f2 fs qA (RSk.upd h1 uA (by simp)) (R_E1k.upd h2 uA (by simp)) (R1k.upd hs uA (by simp)) hp)
  have HR := Lib.hid (fun W (hu : Upd [] wA W) => And.intro (RSk.upd h1 (uA.trans hu) (by simp)) (And.intro (R_E1k.upd h2 (uA.trans hu) (by simp)) (R1k.upd hs (uA.trans hu) (by simp))))
  have HQA := Lib.hid (fun W (hu : Upd [] wA W) => qA.upd hu (by simp))
  have HQZ := Lib.hid (fun W (hu : Upd [] wA W) => qZ.upd hu (by simp))
  have HUA := Lib.hid uA
  have HBX := Lib.hid hBX
  have HSZ := Lib.hid hszA
  have HBAD := Lib.hid (@prioF_bad T set)
  have HCYC := Lib.hid (@prioF_cyc T set)
  have HGOOD := Lib.hid (@prioF_good T set)
  have HOK := Lib.hid (@cfCode_ok T set)
  obtain ⟨la, ca, rfl, -, -, -⟩ := slF1_open h1
  obtain ⟨a, cap, rfl, -, -, hc⟩ := slF3_open h2
  obtain ⟨sa, sc, rfl, -, -, -⟩ := slF1_open hs
  have HC := Lib.hid hc
  have HASK := Lib.hid (show ∀ e w', AskP T set e w' → (cfCode T set = 0 ∧ ∃ b n : Nat, e = .returned (.tuple #[.slice (some ⟨b, 0, none⟩) n n, .int .i64 0]) ∧ n = T.eds.length ∧ BlkB b w' (mskF (idS set) n)) ∨ (cfCode T set ≠ 0 ∧ e = .returned (.tuple #[.slice none 0 0, .int .i64 (cfCode T set)])) from fun e w' h => h)
  generalize cfCode T set = C at *
  clear h1 h2 hs hp uA qA qZ hc hszA
  go_enter Tryz.func6, Tryz.ntmps6
  go_upto_region 1 with (fail)
  rw [← hwA, ← hBX]
  clear hwA hBX
  go_wp2_with fail
  refine S1.out.mono ?_
  rintro e w1 ⟨hask, hu1⟩
  have HU1 := Lib.hid hu1
  clear S1
  rcases HASK.out _ _ hask with ⟨hC, MB, n, rfl, hn, hB⟩ | ⟨hC, rfl⟩
  · subst hC
    obtain ⟨hT, hS⟩ := HOK.out rfl
    have r2 := (HR.out w1 hu1).2.1
    have S2 := Lib.hid (cycleS T set BX MB n _ _ w1 f2 (HQA.out w1 hu1) r2 hn.symm hB hT hS)
    have HT := Lib.hid (And.intro hT hS)
    have HB := Lib.hid hB
    have HNN := Lib.hid hn.symm
    have hn3 : n ≤ 300 := by have := (sys_parts hT).2.2.2.1; omega
    clear HBAD HOK hT hS r2 hu1 hask hn hB HASK
    go_wp2_with fail
    refine S2.out.mono ?_
    rintro e w2 ⟨⟨q, rfl, hq⟩, hu2⟩
    have HQ := Lib.hid hq
    have HU2 := Lib.hid (HU1.out.trans hu2)
    have HB2 := Lib.hid (HB.out.upd hu2 (by simp))
    clear S2 hq hu2 HB
    cases q with
    | true =>
      have HP := Lib.hid (HCYC.out (by trivial) (HQ.out.1 rfl))
      clear HCYC HGOOD HQ
      obtain ⟨c0, c1, c2, c3, fz⟩ := (HQZ.out w2 HU2.out).facts
      have g0 := fz 0
      have g1 := fz 1
      have g2 := fz 2
      have g3 := fz 3
      obtain ⟨r0, r1, r2, r3, -⟩ := ((HQZ.out w2 HU2.out).store 0 0 (.slice none 0 0) (.slice none 0 0)).facts
      have HE := Lib.hid (show Upd [] w ((((w2.setCell ⟨BX + 1, 0, none⟩ (ei 0)).setCell ⟨BX + 1, 1, none⟩ (ei 0)).setCell ⟨BX + 1, 2, none⟩ (.slice none 0 0)).setCell ⟨BX + 1, 3, none⟩ (.slice none 0 0)) from by
        have h0 := HBX.out
        exact ((((HUA.out.trans HU2.out).setCell (Or.inl (by simp; omega)) _).setCell (Or.inl (by simp; omega)) _).setCell (Or.inl (by simp; omega)) _).setCell (Or.inl (by simp; omega)) _)
      clear fz
      go_wp2_with fail
      refine bodyPost_ret (v := .tuple #[.agg #[ei 0, ei 0, .slice none 0 0, .slice none 0 0], .int .i64 6]) (by simp [results, Tryz.results6, go_sem, r0, r1, r2, r3]) rfl ⟨⟨_, by rw [HP.out], ?_⟩, HE.out⟩
      rw [HP.out]; exact new_zero _ _
    | false =>
      have HP := Lib.hid (HGOOD.out (by trivial) (fun h => by have := HQ.out.2 h; cases this))
      clear HCYC HGOOD HQ
      obtain ⟨r1, r2, -⟩ := HR.out w2 HU2.out
      have S3 := Lib.hid (ownLtsS T BX _ _ w2 f1 f2 (HQA.out w2 HU2.out) r1 r2 (by have := (sys_parts HT.out.1).2.2.1; omega) (by have := (sys_parts HT.out.1).2.2.2.1; omega))
      clear r1 r2
      go_wp2_with fail
      refine S3.out.mono ?_
      rintro e w4 ⟨⟨v4, rfl, hn4⟩, hu4⟩
      obtain ⟨g4, ⟨pp1, pp2, k1, k2, hv4, s1, s2, rfl⟩, o4, b4⟩ := hn4
      cases hv4
      obtain ⟨pa, pc, rfl, -, -, -⟩ := slF1_open s1
      obtain ⟨qa, qc, rfl, -, -, -⟩ := slF3_open s2
      have HU4 := Lib.hid (HU2.out.trans hu4)
      have HB4 := Lib.hid (HB2.out.upd hu4 (by simp))
      obtain ⟨OB, hOB⟩ : ∃ B, B = w4.heap.size := ⟨_, rfl⟩
      obtain ⟨w5, hw5⟩ : ∃ w5, w5 = w4.alloc (.cells #[ei T.st, ei T.ini, .slice pa T.labs.length pc, .slice qa T.eds.length qc] 30) := ⟨_, rfl⟩
      have u5 : Upd [] w4 w5 := by rw [hw5]; exact (Upd.refl _ _).alloc _
      have q5 : SysAt OB w5 T.st T.ini (.slice pa T.labs.length pc) (.slice qa T.eds.length qc) := by rw [hw5, hOB]; exact heap_alloc_new w4 _
      have hsz5 : w5.heap.size = OB + 1 := by rw [hw5, hOB]; simp
      have k5 := (q5.upd ((Upd.refl [] w5).alloc (.cells #[] 55)) (by simp)).facts.2.2.2.1
      have kf5 := (q5.upd ((Upd.refl [] w5).alloc (.cells #[] 55)) (by simp)).facts.2.2.2.2 3
      obtain ⟨w7, hw7⟩ : ∃ w7, w7 = (w5.alloc (.cells #[] 55)).setCell ⟨OB, 3, none⟩ (.slice (some ⟨w5.heap.size, 0, none⟩) 0 0) := ⟨_, rfl⟩
      have hrow0 : (w5.alloc (.cells #[] 55)).ownsRow (OB + 1) 55 3 (.slice (some ⟨w5.heap.size, 0, none⟩) 0 0) 0 [] := by
        simpa using World.ownsRow_lit (base := OB + 1) (e := 55) (size := 3) w5 #[] 0 (by omega) (by simp [maxLen]) (by simp)
      have hO7 : OfR OB w5 w7 T.st T.ini (.slice pa T.labs.length pc) (.slice (some ⟨w5.heap.size, 0, none⟩) 0 0) (fltTo T.eds (keepF T.eds (idS set)) 0) := by
        rw [hw7]
        refine ⟨((Upd.refl [OB] w5).alloc _).setCell (Or.inr (by simp)) _, (q5.upd ((Upd.refl [] w5).alloc _) (by simp)).set3 _, ?_⟩
        exact ownsRow_keep hrow0 (fun g hg => by
          have := (hrow0.lt g hg).1
          rw [heap_setCell_other _ _ _ _ (by simp; omega)])
      have hlt4 : ∀ b ∈ k1 ++ k2, b < OB := fun b hb => by
        rw [hOB]
        rcases List.mem_append.1 hb with h | h
        · exact RSk.lt s1 b h
        · exact R_E1k.lt s2 b h
      have HLAB := Lib.hid (And.intro s1 (And.intro o4 (And.intro b4 hlt4)))
      have HO7 := Lib.hid hO7
      have HU5 := Lib.hid (HU4.out.trans u5)
      have HB5 := Lib.hid (HB4.out.upd u5 (by simp))
      have H45 := Lib.hid u5
      have HOS := Lib.hid (show BX + 2 ≤ OB ∧ w2.heap.size ≤ OB ∧ OB = w4.heap.size by
        have h1 := HSZ.out; have h2 := HU4.out.size; have h3 := hu4.size; omega)
      have HMB := Lib.hid (show MB < OB by rw [hOB]; exact HB4.out.lt)
      have HW := Lib.hid (fun W (hu : Upd [OB] w5 W) => show Upd [] wA W from HU5.out.fresh hu (fun b hb => Or.inl (by have := HOS.out; have := HSZ.out; simp at hb; omega)))
      have HMM := Lib.hid (fun W (hu : Upd [OB] w5 W) i (hi : i < n) => (HB5.out.upd hu (by have := HMB.out; simp; omega)).msk i hi)
      have HS5 := Lib.hid hsz5
      have HKL := Lib.hid (fun i (h : i < T.eds.length) => keep_lst T.eds (idS set) i h)
      have HTK := Lib.hid (fun i => fltTo_succ T.eds (keepF T.eds (idS set)) i)
      have HLE := Lib.hid (fun i (h : i ≤ n) => show (fltTo T.eds (keepF T.eds (idS set)) i).length ≤ 300 from Nat.le_trans (fltTo_length _ _ i) (by omega))
      clear S3 hu4 s1 s2 o4 b4 u5 q5 hrow0 hO7 hlt4 hsz5 HB2 HB4 HB5
      go_upto_region 7 with (fail)
      rw [← hw5, ← hOB]
      clear hw5 hOB
      go_upto_region 8 with (fail)
      rw [← hw7]
      clear hw7 k5 kf5
      have HLEN := Lib.hid (show T.eds.length = n from HNN.out)
      go_wp2_with fail
      go_loopw [9] (fun iv wr => ∃ (i : Nat) (ov : Value), i ≤ n ∧ iv = .int .i64 i ∧ Hid (OfR OB w5 wr T.st T.ini (.slice pa T.labs.length pc) ov (fltTo T.eds (keepF T.eds (idS set)) i))) (fun iv _ => n - (intOf iv).toNat)
      case atStart => exact ⟨0, _, Nat.zero_le _, rfl, HO7⟩
      case round =>
        clear HO7
        obtain ⟨wo, rfl⟩ : ∃ wo : World, wo = wr := ⟨_, rfl⟩
        obtain ⟨i, ov, hi, rfl, HO⟩ := hrel
        obtain ⟨oa, oc, hov⟩ := ownsRow_form HO.out.row
        subst hov
        have y3 := (HQA.out wo (HW.out wo HO.out.upd)).facts.2.2.2.1
        rw [HLEN.out] at y3
        by_cases hlt : i < n
        · have hlt2 : i < T.eds.length := by rw [HLEN.out]; exact hlt
          have hil : (i : Int) < (n : Int) := by omega
          have HK := Lib.hid (HKL.out i hlt2)
          have HT2 := Lib.hid (HTK.out i)
          have hle := HLE.out i hi
          have hw1 : IntKind.i64.wrap ((n : Int) - 1) = (n : Int) - 1 := by rw [IntKind.wrap_i64]; omega
          obtain ⟨FF, hFF⟩ : ∃ F : Nat → Nat → Int, F = lstF (sameP T.eds (idS set) i) := ⟨_, rfl⟩
          have HF0 := Lib.hid (show ∀ k, FF k 0 = -1 by rw [hFF]; intro k; rfl)
          have HF1 := Lib.hid (show ∀ k m, FF k (m + 1) = if sameP T.eds (idS set) i k then (k : Int) else FF (k + 1) m by rw [hFF]; intro k m; rfl)
          have HFB := Lib.hid (show ∀ k m, -1 ≤ FF k m ∧ FF k m < k + m by
            rw [hFF]; intro k m
            rcases lstF_spec (sameP T.eds (idS set) i) m k with ⟨h, -⟩ | ⟨j, h, h1, h2, -⟩ <;> rw [h] <;> omega)
          rw [← hFF] at HK
          clear hFF
          go_upto_block 2 with (fail)
          go_cut [10] (fun fv wx => fv = .int .i64 (FF 0 n) ∧ Hid (Upd [] wo wx))
          case first =>
            go_wp2_with fail
            go_loopw [10, 11] (fun fv kv wr => ∃ (k : Nat) (x y : Int), k ≤ n ∧ fv = .int .i64 y ∧ kv = .int .i64 x ∧ Hid (x = (k : Int) - 1) ∧ Hid (y = FF k (n - k)) ∧ Hid (Upd [] wo wr)) (fun _ kv _ => (intOf kv + 1).toNat)
            case atStart => exact ⟨n, _, _, Nat.le_refl _, rfl, rfl, Lib.hid rfl, Lib.hid (by rw [Nat.sub_self]; exact (HF0.out n).symm), Lib.hid (Upd.refl _ _)⟩
            case round =>
              clear y3
              obtain ⟨wp, rfl⟩ : ∃ wo : World, wo = wr := ⟨_, rfl⟩
              obtain ⟨k, x, y, hk, rfl, rfl, HX, HY, HUP⟩ := hrel
              by_cases hx : 0 ≤ x
              · obtain ⟨m, rfl⟩ : ∃ m : Nat, x = m := ⟨x.toNat, by omega⟩
                have hkm : k = m + 1 := by have := HX.out; omega
                have hmn : m < n := by omega
                have hmi : (m : Int) < (n : Int) := by omega
                have hwm : IntKind.i64.wrap ((m : Int) - 1) = (m : Int) - 1 := by rw [IntKind.wrap_i64]; omega
                have HNX := Lib.hid (show FF m (n - m) = if sameP T.eds (idS set) i m then (m : Int) else y by
                  have h1 := HF1.out m (n - (m + 1))
                  rw [show n - (m + 1) + 1 = n - m by omega] at h1
                  rw [h1, HY.out, hkm])
                have HNP := Lib.hid (show sameP T.eds (idS set) i m = (idS set m && (edAt T.eds m).fr == (edAt T.eds i).fr) from rfl)
                have UP := (HO.out.quiet HUP.out).upd
                have y3 := (HQA.out wp (HW.out wp UP)).facts.2.2.2.1
                rw [HLEN.out] at y3
                have m0 := HMM.out wp UP m hmn
                obtain ⟨b2, o2, rfl, -, -, p1, -, -⟩ := HC.out m (by rw [HLEN.out]; exact hmn)
                rw [← edAt_get (by rw [HLEN.out]; exact hmn)] at p1
                replace p1 := (HUA.out.trans (HW.out wp UP)).keep p1
                obtain ⟨b3, o3, hab, -, -, p9, -, -⟩ := HC.out i hlt2
                cases hab
                rw [← edAt_get hlt2] at p9
                replace p9 := (HUA.out.trans (HW.out wp UP)).keep p9
                generalize (edAt T.eds m).fr = xm at *
                generalize (edAt T.eds i).fr = xi at *
                generalize idS set m = q1 at *
                clear hkm UP HX HY
                go_wp2_with fail
                cases q1 with
                | false =>
                  have HZ := Lib.hid (show FF m (n - m) = y by rw [HNX.out, HNP.out]; rfl)
                  clear HNX HNP
                  go_quiet (fail)
                  go_wp2_with fail
                  go_roundw
                  case rel => exact ⟨m, _, y, by omega, rfl, rfl, Lib.hid (by first | rfl | omega | simpa using hwm), Lib.hid HZ.out.symm, Lib.hid (HUP.out.drewN _)⟩
                  case measure => simp only [intOf]; first | omega | (rw [hwm]; omega)
                | true =>
                  cases hq : (xm == xi) with
                  | false =>
                    have HZ := Lib.hid (show FF m (n - m) = y by rw [HNX.out, HNP.out, hq]; rfl)
                    clear HNX HNP
                    go_quiet (fail)
                    go_wp2_with fail
                    go_roundw
                    case rel => exact ⟨m, _, y, by omega, rfl, rfl, Lib.hid (by first | rfl | omega | simpa using hwm), Lib.hid HZ.out.symm, Lib.hid (HUP.out.drewN _)⟩
                    case measure => simp only [intOf]; first | omega | (rw [hwm]; omega)
                  | true =>
                    have HZ := Lib.hid (show FF m (n - m) = m by rw [HNX.out, HNP.out, hq]; rfl)
                    clear HNX HNP
                    go_quiet (fail)
                    go_wp2_with fail
                    go_roundw
                    case rel => exact ⟨m, _, m, by omega, rfl, rfl, Lib.hid (by first | rfl | omega | simpa using hwm), Lib.hid HZ.out.symm, Lib.hid (HUP.out.drewN _)⟩
                    case measure => simp only [intOf]; first | omega | (rw [hwm]; omega)
              · have hk0 : k = 0 := by have := HX.out; omega
                have HZ := Lib.hid (show y = FF 0 n by rw [HY.out, hk0]; rfl)
                have hx2 : x < 0 := by omega
                clear HX HY hk0
                go_wp2_with fail
                go_meet
                exact ⟨by rw [HZ.out], HUP⟩
          case rest =>
            obtain ⟨rfl, HUX⟩ := hcut
            obtain ⟨wz, rfl⟩ : ∃ q : World, q = wc := ⟨_, rfl⟩
            have HOZ := Lib.hid (HO.out.quiet HUX.out)
            have HK2 := Lib.hid (show (decide (FF 0 n < 0) || (FF 0 n == (i : Int))) = keepF T.eds (idS set) i by have := HK.out; rw [HLEN.out] at this; exact this)
            have hfb := HFB.out 0 n
            generalize FF 0 n = fv at *
            obtain ⟨qk, hqk⟩ : ∃ q, keepF T.eds (idS set) i = q := ⟨_, rfl⟩
            rw [hqk] at HK2
            have HT3 := Lib.hid (show fltTo T.eds (keepF T.eds (idS set)) (i + 1) = fltTo T.eds (keepF T.eds (idS set)) i ++ (if qk then [edAt T.eds i] else []) by rw [HT2.out, hqk])
            clear hqk HK HF0 HF1 HFB HO HUX y3 HT2
            go_upto_region 17 with (fail)
            go_cut [68] (fun c wx => c = .bool qk ∧ wx = wz)
            case first =>
              by_cases hf0 : fv < 0
              · have HZ := Lib.hid (show qk = true by rw [← HK2.out, decide_eq_true hf0]; rfl)
                clear HK2
                go_wp2_with fail
                go_meet
                exact ⟨by rw [HZ.out], rfl⟩
              · have HZ := Lib.hid (show qk = (fv == (i : Int)) by rw [← HK2.out, decide_eq_false hf0]; rfl)
                clear HK2
                cases hfi : (fv == (i : Int)) with
                | false =>
                  have HZ2 := Lib.hid (show qk = false by rw [HZ.out, hfi])
                  clear HZ
                  go_wp2_with fail
                  go_meet
                  exact ⟨by rw [HZ2.out], rfl⟩
                | true =>
                  have HZ2 := Lib.hid (show qk = true by rw [HZ.out, hfi])
                  clear HZ
                  go_wp2_with fail
                  go_meet
                  exact ⟨by rw [HZ2.out], rfl⟩
            case rest =>
              obtain ⟨rfl, hwx⟩ := hcut
              obtain ⟨wy, rfl⟩ : ∃ q : World, q = wc := ⟨_, rfl⟩
              subst hwx
              clear HK2 hfb
              cases qk with
              | false =>
                have HX := Lib.hid (show fltTo T.eds (keepF T.eds (idS set)) (i + 1) = fltTo T.eds (keepF T.eds (idS set)) i by rw [HT3.out]; simp)
                clear HT3
                go_wp2_with fail
                go_roundw
                case rel => exact ⟨i + 1, _, by omega, by go_num, by rw [HX.out]; exact HOZ⟩
                case measure => simp [intOf]; omega
              | true =>
                obtain ⟨b2, o2, rfl, -, -, q1, q2, q3⟩ := HC.out i hlt2
                rw [← edAt_get hlt2] at q1 q2 q3
                replace q1 := (HUA.out.trans (HW.out wy HOZ.out.upd)).keep q1
                replace q2 := (HUA.out.trans (HW.out wy HOZ.out.upd)).keep q2
                replace q3 := (HUA.out.trans (HW.out wy HOZ.out.upd)).keep q3
                obtain ⟨X, hX⟩ : ∃ X, edAt T.eds i = X := ⟨_, rfl⟩
                rw [hX] at q1 q2 q3 HT3
                obtain ⟨x1, x2, x3⟩ := X
                simp only at q1 q2 q3
                have y3 := (HQA.out wy (HW.out wy HOZ.out.upd)).facts.2.2.2.1
                rw [HLEN.out] at y3
                have d3 := HOZ.out.sys.facts.2.2.2.1
                obtain ⟨E, hE⟩ : ∃ E, fltTo T.eds (keepF T.eds (idS set)) i = E := ⟨_, rfl⟩
                rw [hE] at HOZ HT3 hle d3
                obtain ⟨wD, hwD⟩ : ∃ wD, wD = (wy.alloc (.cells #[.int .i64 x1, .int .i64 x2, .int .i64 x3] 55)).drew := ⟨_, rfl⟩
                have uD : Upd [] wy wD := by rw [hwD]; exact ((Upd.refl _ _).alloc _).drew
                have HOD := HOZ.out.quiet uD
                have hownD := HOD.row
                have hsW := HOZ.out.upd.size
                have hsz9 := HS5.out
                have hszD : wD.heap.size = wy.heap.size + 1 := by rw [hwD]; show (wy.alloc _).heap.size = _; simp
                have hc0 : wD.cell? ⟨wy.heap.size, 0, none⟩ = some (.int .i64 x1) := by rw [hwD]; exact cell_new wy _ _ _ rfl 0 _ rfl
                have hc1 : wD.cell? ⟨wy.heap.size, 1, none⟩ = some (.int .i64 x2) := by rw [hwD]; exact cell_new wy _ _ _ rfl 1 _ rfl
                have hc2 : wD.cell? ⟨wy.heap.size, 2, none⟩ = some (.int .i64 x3) := by rw [hwD]; exact cell_new wy _ _ _ rfl 2 _ rfl
                have d3' : (wy.alloc (.cells #[.int .i64 x1, .int .i64 x2, .int .i64 x3] 55)).cell? ⟨OB, 3, none⟩ = some (.slice oa E.length oc) := ((Upd.refl [] wy).alloc _).keep d3
                rw [hwD] at HOD hownD hszD hc0 hc1 hc2
                have HX := Lib.hid (show fltTo T.eds (keepF T.eds (idS set)) (i + 1) = E ++ [⟨x1, x2, x3⟩] by rw [HT3.out]; simp)
                have HSO := Lib.hid (show wy.heap.size ≥ OB + 1 by omega)
                clear hX hE hwD uD HT3 hsz9 hlt2
                go_upto_region 18 with (fail)
                go_region_law ((refine step_append_lies _ (by rfl) _ _ 28 (by rfl) (OB + 1) 55 i3 (.agg #[.int .i64 0, .int .i64 0, .int .i64 0]) 3 24 Tryz.underlying28 ni nz0 nz1 nz2 rfl (by decide) (.slice oa E.length oc) E.length (E.flatMap edCs) (by rfl) hownD ⟨wy.heap.size, 0, none⟩ 1 1 [.int .i64 x1, .int .i64 x2, .int .i64 x3] (by rfl) (by rfl) (by intro j u hj; match j, hj with | 0, hj => simp at hj; subst hj; exact hc0 | 1, hj => simp at hj; subst hj; exact hc1 | 2, hj => simp at hj; subst hj; exact hc2) (by simp [Value.oneCell']) (by decide) (by unfold maxLen; omega) (by omega) (by rw [hszD]; have := HSO.out; omega) (wy.heap.size + 1) hszD ?_; intro g gcap w9 hown9 hg9 hat9 hlt9; obtain ⟨f2, hfz, HD9⟩ := HOD.push HS5.out (t := ⟨x1, x2, x3⟩) hown9 hg9))
                all_goals
                  have HD5 := Lib.hid HD9
                  clear HOD hownD hszD hc0 hc1 hc2 d3 d3' y3 q1 q2 q3 hown9 hg9 hat9 hlt9 HD9
                  go_wp2_with fail
                  go_roundw
                  case rel => exact ⟨i + 1, _, by omega, by go_num, by rw [HX.out]; exact HD5⟩
                  case measure => simp [intOf]; omega
        · obtain rfl : i = n := by omega
          have HX := Lib.hid (show OfR OB w5 wo T.st T.ini (.slice pa T.labs.length pc) (.slice oa (fltTo T.eds (keepF T.eds (idS set)) i).length oc) (fltTo T.eds (keepF T.eds (idS set)) T.eds.length) by rw [HLEN.out]; exact HO.out)
          have HEL := Lib.hid (show (fltTo T.eds (keepF T.eds (idS set)) T.eds.length).length = (fltTo T.eds (keepF T.eds (idS set)) i).length by rw [HLEN.out])
          obtain ⟨E, hE⟩ : ∃ E, (fltTo T.eds (keepF T.eds (idS set)) i).length = E := ⟨_, rfl⟩
          rw [hE] at HX HEL
          obtain ⟨c0, c1, c2, c3, -⟩ := HX.out.sys.facts
          have qz := HQZ.out wo (HW.out wo HX.out.upd)
          obtain ⟨o0, o1, o2, o3, fz⟩ := qz.facts
          have fz0 := fz 0
          have fz1 := fz 1
          have fz2 := fz 2
          have fz3 := fz 3
          obtain ⟨r0, r1, r2, r3, -⟩ := (qz.store T.st T.ini (.slice pa T.labs.length pc) (.slice oa E oc)).facts
          have HFIN := Lib.hid (show New R_L1 w ((((wo.setCell ⟨BX + 1, 0, none⟩ (ei T.st)).setCell ⟨BX + 1, 1, none⟩ (ei T.ini)).setCell ⟨BX + 1, 2, none⟩ (.slice pa T.labs.length pc)).setCell ⟨BX + 1, 3, none⟩ (.slice oa E oc)) (.agg #[ei T.st, ei T.ini, .slice pa T.labs.length pc, .slice oa E oc]) ⟨T.st, T.ini, T.labs, fltTo T.eds (keepF T.eds (idS set)) T.eds.length⟩ from by
            have hos := HOS.out
            have hs5 := HS5.out
            have hua := HUA.out.size
            have hu5 := HU5.out.size
            have hsA := HSZ.out
            obtain ⟨s1, o4, b4, hlt4⟩ := HLAB.out
            have uS : Upd [BX + 1] wo ((((wo.setCell ⟨BX + 1, 0, none⟩ (ei T.st)).setCell ⟨BX + 1, 1, none⟩ (ei T.ini)).setCell ⟨BX + 1, 2, none⟩ (.slice pa T.labs.length pc)).setCell ⟨BX + 1, 3, none⟩ (.slice oa E oc)) :=
              ((((Upd.refl [BX + 1] wo).setCell (Or.inr (by simp)) _).setCell (Or.inr (by simp)) _).setCell (Or.inr (by simp)) _).setCell (Or.inr (by simp)) _
            have hrow := HX.out.row
            rw [HEL.out] at hrow
            have hn : New R_E1 w5 wo (.slice oa E oc) (fltTo T.eds (keepF T.eds (idS set)) T.eds.length) := New.ofOwns3 (e := 55) (ownsRow_base (by rw [HEL.out]; exact hrow) (by omega))
            obtain ⟨g2, e1, e2, e3⟩ := hn
            have hd1 : ∀ b ∈ k1, b ∉ [OB] := fun b hb hm => by have := hlt4 b (List.mem_append_left _ hb); simp at hm; omega
            have hb4 : ∀ b ∈ k1, w2.heap.size ≤ b := fun b hb => b4 b (List.mem_append_left _ hb)
            have hw2 : BX + 2 ≤ w2.heap.size := by have := HU2.out.size; omega
            have hz1 : ∀ b ∈ k1, b ∉ [BX + 1] := fun b hb hm => by have := hb4 b hb; simp at hm; omega
            have hz2 : ∀ b ∈ g2, b ∉ [BX + 1] := fun b hb hm => by have := e3 b hb; simp at hm; omega
            have m1 := RSk.upd (RSk.upd (RSk.upd s1 H45.out (by simp)) HX.out.upd hd1) uS hz1
            have m2 := R_E1k.upd e1 uS hz2
            have o4' : Own k1 w4 := ⟨(List.nodup_append.1 o4.1).1, fun b hb => o4.2 b (List.mem_append_left _ hb)⟩
            have n1 := ((o4'.upd H45.out (by simp)).upd HX.out.upd hd1).upd uS hz1
            have n2 := e2.upd uS hz2
            refine ⟨k1 ++ g2, ⟨_, _, k1, g2, rfl, m1, m2, rfl⟩, ⟨?_, ?_⟩, ?_⟩
            · rw [List.nodup_append]
              exact ⟨n1.1, n2.1, fun x hx y hy hxy => by have h1 := hlt4 x (List.mem_append_left _ hx); have h2 := e3 y hy; omega⟩
            · intro b hbm
              rcases List.mem_append.1 hbm with h | h
              · exact n1.2 b h
              · exact n2.2 b h
            · intro b hbm
              rcases List.mem_append.1 hbm with h | h
              · have := hb4 b h; omega
              · have := e3 b h; omega)
          have HE := Lib.hid (show Upd [] w ((((wo.setCell ⟨BX + 1, 0, none⟩ (ei T.st)).setCell ⟨BX + 1, 1, none⟩ (ei T.ini)).setCell ⟨BX + 1, 2, none⟩ (.slice pa T.labs.length pc)).setCell ⟨BX + 1, 3, none⟩ (.slice oa E oc)) from by
            have h0 := HBX.out
            exact ((((HUA.out.trans (HW.out wo HX.out.upd)).setCell (Or.inl (by simp; omega)) _).setCell (Or.inl (by simp; omega)) _).setCell (Or.inl (by simp; omega)) _).setCell (Or.inl (by simp; omega)) _)
          clear HO HX fz qz HTK HLE HKL hE
          go_wp2_with fail
          refine bodyPost_ret (v := .tuple #[.agg #[ei T.st, ei T.ini, .slice pa T.labs.length pc, .slice oa E oc], .int .i64 0]) (by simp [results, Tryz.results6, go_sem, r0, r1, r2, r3]) rfl ⟨⟨_, by rw [HP.out], ?_⟩, HE.out⟩
          rw [HP.out]; exact HFIN.out
  · have HP := Lib.hid (HBAD.out hC)
    have hC1 : (C == 0) = false := by simpa using hC
    clear HBAD HCYC HGOOD HOK
    obtain ⟨c0, c1, c2, c3, fz⟩ := (HQZ.out w1 hu1).facts
    have g0 := fz 0
    have g1 := fz 1
    have g2 := fz 2
    have g3 := fz 3
    obtain ⟨r0, r1, r2, r3, -⟩ := ((HQZ.out w1 hu1).store 0 0 (.slice none 0 0) (.slice none 0 0)).facts
    have HE := Lib.hid (show Upd [] w ((((w1.setCell ⟨BX + 1, 0, none⟩ (ei 0)).setCell ⟨BX + 1, 1, none⟩ (ei 0)).setCell ⟨BX + 1, 2, none⟩ (.slice none 0 0)).setCell ⟨BX + 1, 3, none⟩ (.slice none 0 0)) from by
      have h0 := HBX.out
      exact ((((HUA.out.trans hu1).setCell (Or.inl (by simp; omega)) _).setCell (Or.inl (by simp; omega)) _).setCell (Or.inl (by simp; omega)) _).setCell (Or.inl (by simp; omega)) _)
    clear fz hu1 hask HASK
    go_wp2_with fail
    refine bodyPost_ret (v := .tuple #[.agg #[ei 0, ei 0, .slice none 0 0, .slice none 0 0], .int .i64 C]) (by simp [results, Tryz.results6, go_sem, r0, r1, r2, r3]) rfl ⟨⟨_, by rw [HP.out], ?_⟩, HE.out⟩
    rw [HP.out]; exact new_zero _ _

end Go.Proofs.YtlondofadjcooaaGreatDoor

/-
  From which pairs of states a property can be left: the reference's pairs, its checks, and the whole call.
-/
namespace Go.Proofs.YtlondofadjcooaaGreatDoor
open Go.RowKit

end Go.Proofs.YtlondofadjcooaaGreatDoor

/-
  From which pairs of states a property can be left: helpers of the law.
-/
namespace Go.Proofs.YtlondofadjcooaaGreatDoor
open Go.RowKit

theorem lt_form {w w' : World} {v : Value} {x : Sys} (h : New R_L1 w w' v x) : ∃ p2 q2 p3 q3, v = .agg #[ei x.st, ei x.ini, .slice p2 x.labs.length q2, .slice p3 x.eds.length q3] := by
  obtain ⟨f, ⟨a1, a2, f1, f2, hv, r1, r2, -⟩, -, -⟩ := h
  cases hv
  obtain ⟨p2, q2, rfl, -, -, -⟩ := slF1_open r1
  obtain ⟨p3, q3, rfl, -, -, -⟩ := slF3_open r2
  exact ⟨p2, q2, p3, q3, rfl⟩
end Go.Proofs.YtlondofadjcooaaGreatDoor

/-
  PrioritizeConfluent: helpers of the law.
-/
namespace Go.Proofs.YtlondofadjcooaaGreatDoor
open Go.RowKit

theorem n1_form {w w' : World} {v : Value} {x : List Int} (h : New R_N1 w w' v x) : ∃ p q, v = .slice p x.length q := by
  obtain ⟨f, r, -, -⟩ := h
  obtain ⟨p, q, rfl, -, -, -⟩ := slF1_open r
  exact ⟨p, q, rfl⟩
theorem prio_b (T : Sys) (set : List Int) : 1 + mkF_L1 (prioF T set).1 ≤ 100000000 := by
  by_cases hC : cfCode T set = 0
  · by_cases hc : CycS T set
    · rw [prioF_cyc hC hc]; simp [mkF_L1, mkF_S1, mkF_E1]
    · rw [prioF_good hC hc]
      have h1 := (sys_parts (cfCode_ok hC).1).2.2.1
      have h2 := (sys_parts (cfCode_ok hC).1).2.2.2.1
      have h3 := fltTo_length T.eds (keepF T.eds (idS set)) T.eds.length
      unfold mkF_L1 mkF_S1 mkF_E1
      simp only
      omega
  · rw [prioF_bad hC]; simp [mkF_L1, mkF_S1, mkF_E1]

end Go.Proofs.YtlondofadjcooaaGreatDoor

/-
  The law FnExactPrioritizeConfluent: the call returns true for every input, and writes nothing that was there.
-/
namespace Go.Proofs.YtlondofadjcooaaGreatDoor
open Go.RowKit

set_option maxRecDepth 20000 in
set_option maxHeartbeats 8000000 in
theorem lawPrio (v1 v2 : Value) (A : Sys) (B : List Int) (w : World) (fa fb : List Nat) (hA : R_L1 fa w [v1] A) (hB : R_N1 fb w [v2] B) (hSA : strsOk A.labs) (hE : Env w) :
    Calls Tryz.prog 3 #[v1, v2] w fun e w' => e = .returned (.bool true) ∧ Upd [] w w' := by
  obtain ⟨a1, a2, f1, f2, hv, r1, r2, rfl⟩ := hA
  cases hv
  have HRA := Lib.hid (fun W (hu : Upd [] w W) => show R_L1 (f1 ++ f2) W [.agg #[ei A.st, ei A.ini, a1, a2]] A from ⟨a1, a2, f1, f2, rfl, RSk.upd r1 hu (by simp), R_E1k.upd r2 hu (by simp), rfl⟩)
  have HRB := Lib.hid (fun W (hu : Upd [] w W) => R1k.upd hB hu (by simp))
  have HE := Lib.hid hE
  obtain ⟨BA, hBA⟩ : ∃ B, B = w.heap.size := ⟨_, rfl⟩
  obtain ⟨wA, hwA⟩ : ∃ wA, wA = w.alloc (.cells #[ei A.st, ei A.ini, a1, a2] 25) := ⟨_, rfl⟩
  have uA : Upd [] w wA := by rw [hwA]; exact (Upd.refl _ _).alloc _
  have UA := Lib.hid uA
  have qA : RowAt wA BA 25 [ei A.st, ei A.ini, a1, a2] := by rw [hwA, hBA]; exact RowAt.new _ _ _
  have HQA := Lib.hid (fun W (hu : Upd [] wA W) => qA.upd hu (by simp))
  have S1 := Lib.hid (sz_L1 _ A 1048576 wA _ (by omega) (by omega) (HRA.out wA uA) hSA)
  obtain ⟨ab, cb, rfl, hx1, hx2, -⟩ := slF1_open hB
  unfold maxLen at hx2
  clear hSA uA qA r1 r2 hE hB
  by_cases lb : 1048576 < (B.length : Int)
  · go_enter Tryz.func3, Tryz.ntmps3
    go_wp2_with fail
    go_ret
    exact ⟨rfl, (Upd.refl _ _).alloc _⟩
  · have lx : B.length ≤ 1048576 := by omega
    go_enter Tryz.func3, Tryz.ntmps3
    go_upto_region 1 with (fail)
    rw [← hwA, ← hBA]
    have HBA := Lib.hid hBA
    clear hwA hBA
    have ud0 : Upd [] wA wA := Upd.refl _ _
    have z_A_0 := (HQA.out _ ud0).cell 0 _ rfl
    have z_A_1 := (HQA.out _ ud0).cell 1 _ rfl
    have z_A_2 := (HQA.out _ ud0).cell 2 _ rfl
    have z_A_3 := (HQA.out _ ud0).cell 3 _ rfl
    go_wp2_with fail
    refine S1.out.mono ?_
    rintro e w1 ⟨⟨r, rfl, hr⟩, uu⟩
    clear S1 z_A_0 z_A_1 z_A_2 z_A_3
    have ud1 := ud0.trans uu
    clear ud0 uu
    rcases hr with rfl | ⟨hr0, hr1⟩
    · have HU := Lib.hid (UA.out.trans ud1)
      go_wp2_with fail
      go_ret
      exact ⟨rfl, HU.out⟩
    · have hnA := szF_L1_nonneg A
      have hszA : szF_L1 A ≤ 1048576 := by omega
      have HBA2 := Lib.hid (show ∀ p ∈ A.labs, p.length ≤ 2000000 by
        intro p hp
        have h1 := totS_mem A.labs p hp
        have h2 := szF_E1_nonneg A.eds
        unfold szF_L1 szF_S1 at hszA
        omega)
      have tnA := mkF_L1_nonneg A
      have hmA := mkF_L1_le A
      have tnB := mkF_N1_nonneg B
      have hmB := mkF_N1_le B
      have hzB : szF_N1 B ≤ 1048576 := by unfold szF_N1; omega
      have HSZA := Lib.hid hszA
      have hMk : 1 + mkF_L1 (prioF A B).1 ≤ 100000000 := prio_b A B
      have tn_y := mkF_L1_nonneg (prioF A B).1
      obtain ⟨⟨y, cc⟩, hG⟩ : ∃ G, prioF A B = G := ⟨_, rfl⟩
      rw [hG] at hMk tn_y
      simp only at hMk tn_y
      have hMk : 1 + mkF_L1 y ≤ 4611686018427387904 := by omega
      have HG := Lib.hid hG
      clear hG
      have hcc : ((cc : Int) != (cc : Int)) = false := by simp
      clear hr1 hnA
      have z_A_0 := (HQA.out _ ud1).cell 0 _ rfl
      have z_A_1 := (HQA.out _ ud1).cell 1 _ rfl
      have z_A_2 := (HQA.out _ ud1).cell 2 _ rfl
      have z_A_3 := (HQA.out _ ud1).cell 3 _ rfl
      have S2 := to_Lts _ A w1 _ HSZA.out (HRA.out _ (UA.out.trans ud1))
      go_wp2_with fail
      refine S2.mono ?_
      clear S2 z_A_0 z_A_1 z_A_2 z_A_3
      rintro e w2 ⟨⟨v_t, rfl, hn⟩, uu⟩
      obtain ⟨p2_a_x, q2_a_x, p3_a_x, q3_a_x, rfl⟩ := lt_form hn
      obtain ⟨fp_a_x, rr, oo, ge_a_x⟩ := hn
      have ud2 : Upd [] wA w2 := ud1.trans (uu)
      have HL_a_x := Lib.hid (show ∀ b ∈ fp_a_x, wA.heap.size ≤ b from fun b hb => by have := ge_a_x b hb; have := ud1.size; omega)
      have r2_a_x := rr
      have o2_a_x := oo
      clear ud1 uu ge_a_x rr oo
      have S2 := to_N1 _ B w2 _ hzB (HRB.out _ (UA.out.trans ud2))
      go_wp2_with fail
      refine S2.mono ?_
      clear S2
      rintro e w3 ⟨⟨v_t, rfl, hn⟩, uu⟩
      obtain ⟨p1_a_n, q1_a_n, rfl⟩ := n1_form hn
      obtain ⟨fp_a_n, rr, oo, ge_a_n⟩ := hn
      have lt_a_x := R_L1k.lt r2_a_x
      have ud3 : Upd [] wA w3 := ud2.trans (uu)
      have r3_a_x := R_L1k.upd r2_a_x (uu) (by simp)
      have o3_a_x := o2_a_x.upd (uu) (by simp)
      have HL_a_n := Lib.hid (show ∀ b ∈ fp_a_n, wA.heap.size ≤ b from fun b hb => by have := ge_a_n b hb; have := ud2.size; omega)
      have HD_a_x_a_n := Lib.hid (show ∀ b ∈ fp_a_x, b ∉ fp_a_n from fun b hb hm => by have := lt_a_x b hb; have := ge_a_n b hm; omega)
      have r3_a_n := rr
      have o3_a_n := oo
      clear ud2 r2_a_x o2_a_x uu ge_a_n rr oo lt_a_x
      obtain ⟨_, _, g1_A, g2_A, hv, s1_A, s2_A, -⟩ := (id r3_a_x)
      cases hv
      have S2 : Calls Tryz.prog 6 _ w3 (GaveL2 w3 (y, cc)) := HG.out ▸ prioS A B _ _ _ w3 _ _ _ s1_A s2_A r3_a_n HBA2.out (HE.out.upd (UA.out.trans ud3))
      clear s1_A s2_A
      go_wp2_with fail
      refine S2.mono ?_
      clear S2
      rintro e w4 ⟨⟨v_t, rfl, hn⟩, uu⟩
      obtain ⟨p2_w0, q2_w0, p3_w0, q3_w0, rfl⟩ := lt_form hn
      obtain ⟨fp_w0, rr, oo, ge_w0⟩ := hn
      have lt_a_x := R_L1k.lt r3_a_x
      have lt_a_n := R1k.lt r3_a_n
      have ud4 : Upd [] wA w4 := ud3.trans (uu)
      have HL_w0 := Lib.hid (show ∀ b ∈ fp_w0, wA.heap.size ≤ b from fun b hb => by have := ge_w0 b hb; have := ud3.size; omega)
      have r4_w0 := rr
      have o4_w0 := oo
      clear ud3 r3_a_x o3_a_x r3_a_n o3_a_n uu ge_w0 rr oo lt_a_x lt_a_n
      obtain ⟨w5, hwB⟩ : ∃ wB, wB = w4.alloc (.cells #[ei y.st, ei y.ini, .slice p2_w0 y.labs.length q2_w0, .slice p3_w0 y.eds.length q3_w0] 30) := ⟨_, rfl⟩
      have uB : Upd [] w4 w5 := by rw [hwB]; exact (Upd.refl _ _).alloc _
      obtain ⟨B_w0, hB⟩ : ∃ B, B = w4.heap.size := ⟨_, rfl⟩
      have qq : RowAt w5 B_w0 30 [ei y.st, ei y.ini, .slice p2_w0 y.labs.length q2_w0, .slice p3_w0 y.eds.length q3_w0] := by rw [hwB, hB]; exact RowAt.new _ _ _
      have lt_w0 := R_L1k.lt r4_w0
      have HN_w0_w0 := Lib.hid (show B_w0 ∉ fp_w0 from fun hm => by have := lt_w0 _ hm; omega)
      have ud5 : Upd [] wA w5 := ud4.trans (uB)
      have r5_w0 := R_L1k.upd r4_w0 (uB) (by simp)
      have o5_w0 := o4_w0.upd (uB) (by simp)
      have q5_w0 := qq
      clear ud4 r4_w0 o4_w0 lt_w0 uB qq
      go_upto_region 8 with (fail)
      rw [← hwB, ← hB]
      clear hwB hB
      have z_A_0 := (HQA.out _ ud5).cell 0 _ rfl
      have z_A_1 := (HQA.out _ ud5).cell 1 _ rfl
      have z_A_2 := (HQA.out _ ud5).cell 2 _ rfl
      have z_A_3 := (HQA.out _ ud5).cell 3 _ rfl
      have S2 := to_Lts _ A w5 _ HSZA.out (HRA.out _ (UA.out.trans ud5))
      go_wp2_with fail
      refine S2.mono ?_
      clear S2 z_A_0 z_A_1 z_A_2 z_A_3
      rintro e w6 ⟨⟨v_t, rfl, hn⟩, uu⟩
      obtain ⟨p2_x_x, q2_x_x, p3_x_x, q3_x_x, rfl⟩ := lt_form hn
      obtain ⟨fp_x_x, rr, oo, ge_x_x⟩ := hn
      have lt_w0 := R_L1k.lt r5_w0
      have bl_w0 := q5_w0.lt
      have ud6 : Upd [] wA w6 := ud5.trans (uu)
      have r6_w0 := R_L1k.upd r5_w0 (uu) (by simp)
      have o6_w0 := o5_w0.upd (uu) (by simp)
      have q6_w0 := q5_w0.upd (uu) (by simp)
      have HL_x_x := Lib.hid (show ∀ b ∈ fp_x_x, wA.heap.size ≤ b from fun b hb => by have := ge_x_x b hb; have := ud5.size; omega)
      have HD_w0_x_x := Lib.hid (show ∀ b ∈ fp_w0, b ∉ fp_x_x from fun b hb hm => by have := lt_w0 b hb; have := ge_x_x b hm; omega)
      have HN_w0_x_x := Lib.hid (show B_w0 ∉ fp_x_x from fun hm => by have := ge_x_x _ hm; omega)
      have r6_x_x := rr
      have o6_x_x := oo
      clear ud5 r5_w0 o5_w0 q5_w0 uu ge_x_x rr oo lt_w0 bl_w0
      obtain ⟨w7, hwB⟩ : ∃ wB, wB = w6.alloc (.cells #[ei A.st, ei A.ini, .slice p2_x_x A.labs.length q2_x_x, .slice p3_x_x A.eds.length q3_x_x] 30) := ⟨_, rfl⟩
      have uB : Upd [] w6 w7 := by rw [hwB]; exact (Upd.refl _ _).alloc _
      obtain ⟨B_x_x, hB⟩ : ∃ B, B = w6.heap.size := ⟨_, rfl⟩
      have qq : RowAt w7 B_x_x 30 [ei A.st, ei A.ini, .slice p2_x_x A.labs.length q2_x_x, .slice p3_x_x A.eds.length q3_x_x] := by rw [hwB, hB]; exact RowAt.new _ _ _
      have lt_w0 := R_L1k.lt r6_w0
      have lt_x_x := R_L1k.lt r6_x_x
      have bl_w0 := q6_w0.lt
      have HN_x_x_w0 := Lib.hid (show B_x_x ∉ fp_w0 from fun hm => by have := lt_w0 _ hm; omega)
      have HN_x_x_x_x := Lib.hid (show B_x_x ∉ fp_x_x from fun hm => by have := lt_x_x _ hm; omega)
      have ud7 : Upd [] wA w7 := ud6.trans (uB)
      have r7_w0 := R_L1k.upd r6_w0 (uB) (by simp)
      have o7_w0 := o6_w0.upd (uB) (by simp)
      have r7_x_x := R_L1k.upd r6_x_x (uB) (by simp)
      have o7_x_x := o6_x_x.upd (uB) (by simp)
      have q7_w0 := q6_w0.upd (uB) (by simp)
      have q7_x_x := qq
      clear ud6 r6_w0 o6_w0 r6_x_x o6_x_x q6_w0 lt_w0 lt_x_x bl_w0 uB qq
      go_upto_region 9 with (fail)
      rw [← hwB, ← hB]
      clear hwB hB
      have S2 := to_N1 _ B w7 _ hzB (HRB.out _ (UA.out.trans ud7))
      go_wp2_with fail
      refine S2.mono ?_
      clear S2
      rintro e w8 ⟨⟨v_t, rfl, hn⟩, uu⟩
      obtain ⟨p1_x_n, q1_x_n, rfl⟩ := n1_form hn
      obtain ⟨fp_x_n, rr, oo, ge_x_n⟩ := hn
      have lt_w0 := R_L1k.lt r7_w0
      have lt_x_x := R_L1k.lt r7_x_x
      have bl_w0 := q7_w0.lt
      have bl_x_x := q7_x_x.lt
      have ud8 : Upd [] wA w8 := ud7.trans (uu)
      have r8_w0 := R_L1k.upd r7_w0 (uu) (by simp)
      have o8_w0 := o7_w0.upd (uu) (by simp)
      have r8_x_x := R_L1k.upd r7_x_x (uu) (by simp)
      have o8_x_x := o7_x_x.upd (uu) (by simp)
      have q8_w0 := q7_w0.upd (uu) (by simp)
      have q8_x_x := q7_x_x.upd (uu) (by simp)
      have HL_x_n := Lib.hid (show ∀ b ∈ fp_x_n, wA.heap.size ≤ b from fun b hb => by have := ge_x_n b hb; have := ud7.size; omega)
      have HD_w0_x_n := Lib.hid (show ∀ b ∈ fp_w0, b ∉ fp_x_n from fun b hb hm => by have := lt_w0 b hb; have := ge_x_n b hm; omega)
      have HD_x_x_x_n := Lib.hid (show ∀ b ∈ fp_x_x, b ∉ fp_x_n from fun b hb hm => by have := lt_x_x b hb; have := ge_x_n b hm; omega)
      have HN_w0_x_n := Lib.hid (show B_w0 ∉ fp_x_n from fun hm => by have := ge_x_n _ hm; omega)
      have HN_x_x_x_n := Lib.hid (show B_x_x ∉ fp_x_n from fun hm => by have := ge_x_n _ hm; omega)
      have r8_x_n := rr
      have o8_x_n := oo
      clear ud7 r7_w0 o7_w0 r7_x_x o7_x_x q7_w0 q7_x_x uu ge_x_n rr oo lt_w0 lt_x_x bl_w0 bl_x_x
      have z_x_x_0 := q8_x_x.cell 0 _ rfl
      have z_x_x_1 := q8_x_x.cell 1 _ rfl
      have z_x_x_2 := q8_x_x.cell 2 _ rfl
      have z_x_x_3 := q8_x_x.cell 3 _ rfl
      obtain ⟨_, _, g1_A, g2_A, hv, s1_A, s2_A, -⟩ := (id r8_x_x)
      cases hv
      have S2 : Calls Tryz.prog 9 _ w8 (GaveL2 w8 (y, cc)) := HG.out ▸ prioI A B _ _ _ w8 _ _ _ s1_A s2_A r8_x_n HBA2.out (HE.out.upd (UA.out.trans ud8))
      clear s1_A s2_A
      go_wp2_with fail
      refine S2.mono ?_
      clear S2 z_x_x_0 z_x_x_1 z_x_x_2 z_x_x_3
      rintro e w9 ⟨⟨v_t, rfl, hn⟩, uu⟩
      obtain ⟨p2_g0, q2_g0, p3_g0, q3_g0, rfl⟩ := lt_form hn
      obtain ⟨fp_g0, rr, oo, ge_g0⟩ := hn
      have lt_w0 := R_L1k.lt r8_w0
      have lt_x_x := R_L1k.lt r8_x_x
      have lt_x_n := R1k.lt r8_x_n
      have bl_w0 := q8_w0.lt
      have bl_x_x := q8_x_x.lt
      have ud9 : Upd [] wA w9 := ud8.trans (uu)
      have r9_w0 := R_L1k.upd r8_w0 (uu) (by simp)
      have o9_w0 := o8_w0.upd (uu) (by simp)
      have r9_x_x := R_L1k.upd r8_x_x (uu) (by simp)
      have o9_x_x := o8_x_x.upd (uu) (by simp)
      have r9_x_n := R1k.upd r8_x_n (uu) (by simp)
      have o9_x_n := o8_x_n.upd (uu) (by simp)
      have q9_w0 := q8_w0.upd (uu) (by simp)
      have q9_x_x := q8_x_x.upd (uu) (by simp)
      have HL_g0 := Lib.hid (show ∀ b ∈ fp_g0, wA.heap.size ≤ b from fun b hb => by have := ge_g0 b hb; have := ud8.size; omega)
      have HD_w0_g0 := Lib.hid (show ∀ b ∈ fp_w0, b ∉ fp_g0 from fun b hb hm => by have := lt_w0 b hb; have := ge_g0 b hm; omega)
      have HD_x_x_g0 := Lib.hid (show ∀ b ∈ fp_x_x, b ∉ fp_g0 from fun b hb hm => by have := lt_x_x b hb; have := ge_g0 b hm; omega)
      have HD_x_n_g0 := Lib.hid (show ∀ b ∈ fp_x_n, b ∉ fp_g0 from fun b hb hm => by have := lt_x_n b hb; have := ge_g0 b hm; omega)
      have HN_w0_g0 := Lib.hid (show B_w0 ∉ fp_g0 from fun hm => by have := ge_g0 _ hm; omega)
      have HN_x_x_g0 := Lib.hid (show B_x_x ∉ fp_g0 from fun hm => by have := ge_g0 _ hm; omega)
      have r9_g0 := rr
      have o9_g0 := oo
      clear ud8 r8_w0 o8_w0 r8_x_x o8_x_x r8_x_n o8_x_n q8_w0 q8_x_x uu ge_g0 rr oo lt_w0 lt_x_x lt_x_n bl_w0 bl_x_x
      obtain ⟨w10, hwB⟩ : ∃ wB, wB = w9.alloc (.cells #[ei y.st, ei y.ini, .slice p2_g0 y.labs.length q2_g0, .slice p3_g0 y.eds.length q3_g0] 30) := ⟨_, rfl⟩
      have uB : Upd [] w9 w10 := by rw [hwB]; exact (Upd.refl _ _).alloc _
      obtain ⟨B_g0, hB⟩ : ∃ B, B = w9.heap.size := ⟨_, rfl⟩
      have qq : RowAt w10 B_g0 30 [ei y.st, ei y.ini, .slice p2_g0 y.labs.length q2_g0, .slice p3_g0 y.eds.length q3_g0] := by rw [hwB, hB]; exact RowAt.new _ _ _
      have lt_w0 := R_L1k.lt r9_w0
      have lt_x_x := R_L1k.lt r9_x_x
      have lt_x_n := R1k.lt r9_x_n
      have lt_g0 := R_L1k.lt r9_g0
      have bl_w0 := q9_w0.lt
      have bl_x_x := q9_x_x.lt
      have HN_g0_w0 := Lib.hid (show B_g0 ∉ fp_w0 from fun hm => by have := lt_w0 _ hm; omega)
      have HN_g0_x_x := Lib.hid (show B_g0 ∉ fp_x_x from fun hm => by have := lt_x_x _ hm; omega)
      have HN_g0_x_n := Lib.hid (show B_g0 ∉ fp_x_n from fun hm => by have := lt_x_n _ hm; omega)
      have HN_g0_g0 := Lib.hid (show B_g0 ∉ fp_g0 from fun hm => by have := lt_g0 _ hm; omega)
      have ud10 : Upd [] wA w10 := ud9.trans (uB)
      have r10_w0 := R_L1k.upd r9_w0 (uB) (by simp)
      have o10_w0 := o9_w0.upd (uB) (by simp)
      have r10_x_x := R_L1k.upd r9_x_x (uB) (by simp)
      have o10_x_x := o9_x_x.upd (uB) (by simp)
      have r10_x_n := R1k.upd r9_x_n (uB) (by simp)
      have o10_x_n := o9_x_n.upd (uB) (by simp)
      have r10_g0 := R_L1k.upd r9_g0 (uB) (by simp)
      have o10_g0 := o9_g0.upd (uB) (by simp)
      have q10_w0 := q9_w0.upd (uB) (by simp)
      have q10_x_x := q9_x_x.upd (uB) (by simp)
      have q10_g0 := qq
      clear ud9 r9_w0 o9_w0 r9_x_x o9_x_x r9_x_n o9_x_n r9_g0 o9_g0 q9_w0 q9_x_x lt_w0 lt_x_x lt_x_n lt_g0 bl_w0 bl_x_x uB qq
      go_upto_region 11 with (fail)
      rw [← hwB, ← hB]
      clear hwB hB
      have z_g0_0 := q10_g0.cell 0 _ rfl
      have z_g0_1 := q10_g0.cell 1 _ rfl
      have z_g0_2 := q10_g0.cell 2 _ rfl
      have z_g0_3 := q10_g0.cell 3 _ rfl
      have z_w0_0 := q10_w0.cell 0 _ rfl
      have z_w0_1 := q10_w0.cell 1 _ rfl
      have z_w0_2 := q10_w0.cell 2 _ rfl
      have z_w0_3 := q10_w0.cell 3 _ rfl
      have S2 := eq_Lts (.agg #[ei y.st, ei y.ini, .slice p2_g0 y.labs.length q2_g0, .slice p3_g0 y.eds.length q3_g0]) (.agg #[ei y.st, ei y.ini, .slice p2_w0 y.labs.length q2_w0, .slice p3_w0 y.eds.length q3_w0]) _ w10 _ _ r10_g0 r10_w0
      go_wp2_with fail
      refine S2.mono ?_
      clear S2 z_g0_0 z_g0_1 z_g0_2 z_g0_3 z_w0_0 z_w0_1 z_w0_2 z_w0_3
      rintro e w11 ⟨rfl, uu⟩
      have ud11 : Upd [] wA w11 := ud10.trans (uu)
      have r11_w0 := R_L1k.upd r10_w0 (uu) (by simp)
      have o11_w0 := o10_w0.upd (uu) (by simp)
      have r11_x_x := R_L1k.upd r10_x_x (uu) (by simp)
      have o11_x_x := o10_x_x.upd (uu) (by simp)
      have r11_x_n := R1k.upd r10_x_n (uu) (by simp)
      have o11_x_n := o10_x_n.upd (uu) (by simp)
      have r11_g0 := R_L1k.upd r10_g0 (uu) (by simp)
      have o11_g0 := o10_g0.upd (uu) (by simp)
      have q11_w0 := q10_w0.upd (uu) (by simp)
      have q11_x_x := q10_x_x.upd (uu) (by simp)
      have q11_g0 := q10_g0.upd (uu) (by simp)
      clear ud10 r10_w0 o10_w0 r10_x_x o10_x_x r10_x_n o10_x_n r10_g0 o10_g0 q10_w0 q10_x_x q10_g0 uu
      have z_x_x_0 := q11_x_x.cell 0 _ rfl
      have z_x_x_1 := q11_x_x.cell 1 _ rfl
      have z_x_x_2 := q11_x_x.cell 2 _ rfl
      have z_x_x_3 := q11_x_x.cell 3 _ rfl
      have z_A_0 := (HQA.out _ ud11).cell 0 _ rfl
      have z_A_1 := (HQA.out _ ud11).cell 1 _ rfl
      have z_A_2 := (HQA.out _ ud11).cell 2 _ rfl
      have z_A_3 := (HQA.out _ ud11).cell 3 _ rfl
      have S6 := to_Lts _ A w11.drew _ HSZA.out (HRA.out _ (UA.out.trans ud11).drew)
      have S7 := Lib.hid (fun W v f (hu : Upd [] w11.drew W) (h : R_L1 f W [v] A) => eq_Lts (.agg #[ei A.st, ei A.ini, .slice p2_x_x A.labs.length q2_x_x, .slice p3_x_x A.eds.length q3_x_x]) v A W _ f (R_L1k.upd r11_x_x ((Upd.refl [] _).drew.trans hu) (by simp)) h)
      go_wp2_with fail
      go_region_held3 (fun w' => w'.cell? ⟨B_x_x, 0, none⟩ = some (ei A.st) ∧ w'.cell? ⟨B_x_x, 1, none⟩ = some (ei A.ini) ∧ w'.cell? ⟨B_x_x, 2, none⟩ = some (.slice p2_x_x A.labs.length q2_x_x) ∧ w'.cell? ⟨B_x_x, 3, none⟩ = some (.slice p3_x_x A.eds.length q3_x_x) ∧ w'.cell? ⟨BA, 0, none⟩ = some (ei A.st) ∧ w'.cell? ⟨BA, 1, none⟩ = some (ei A.ini) ∧ w'.cell? ⟨BA, 2, none⟩ = some (a1) ∧ w'.cell? ⟨BA, 3, none⟩ = some (a2)) (go_keep)
        (first
          | ((go_at_call 7); (refine S6.mono ?_); rintro e w6' ⟨⟨v_t, rfl, fp_t, rr6, -, -⟩, hu6⟩; have y_0 := hu6.keep z_x_x_0; have y_1 := hu6.keep z_x_x_1; have y_2 := hu6.keep z_x_x_2; have y_3 := hu6.keep z_x_x_3; have y_4 := hu6.keep z_A_0; have y_5 := hu6.keep z_A_1; have y_6 := hu6.keep z_A_2; have y_7 := hu6.keep z_A_3)
          | ((go_at_call 10); (refine (S7.out w6' _ fp_t hu6 rr6).mono ?_); rintro e w12 ⟨rfl, hu7⟩; have t_0 := hu7.keep y_0; have t_1 := hu7.keep y_1; have t_2 := hu7.keep y_2; have t_3 := hu7.keep y_3; have t_4 := hu7.keep y_4; have t_5 := hu7.keep y_5; have t_6 := hu7.keep y_6; have t_7 := hu7.keep y_7))
      have uu : Upd [] w11 w12 := ((Upd.refl [] w11).drew.trans hu6).trans hu7
      have ud12 : Upd [] wA w12 := ud11.trans (uu)
      have r12_w0 := R_L1k.upd r11_w0 (uu) (by simp)
      have o12_w0 := o11_w0.upd (uu) (by simp)
      have r12_x_x := R_L1k.upd r11_x_x (uu) (by simp)
      have o12_x_x := o11_x_x.upd (uu) (by simp)
      have r12_x_n := R1k.upd r11_x_n (uu) (by simp)
      have o12_x_n := o11_x_n.upd (uu) (by simp)
      have r12_g0 := R_L1k.upd r11_g0 (uu) (by simp)
      have o12_g0 := o11_g0.upd (uu) (by simp)
      have q12_w0 := q11_w0.upd (uu) (by simp)
      have q12_x_x := q11_x_x.upd (uu) (by simp)
      have q12_g0 := q11_g0.upd (uu) (by simp)
      clear ud11 r11_w0 o11_w0 r11_x_x o11_x_x r11_x_n o11_x_n r11_g0 o11_g0 q11_w0 q11_x_x q11_g0 uu S6 S7 hu6 hu7 rr6 z_x_x_0 z_x_x_1 z_x_x_2 z_x_x_3 z_A_0 z_A_1 z_A_2 z_A_3 y_0 y_1 y_2 y_3 y_4 y_5 y_6 y_7 t_0 t_1 t_2 t_3 t_4 t_5 t_6 t_7
      have S2 := to_N1 _ B w12 _ hzB (HRB.out _ (UA.out.trans ud12))
      go_wp2_with fail
      refine S2.mono ?_
      clear S2
      rintro e w13 ⟨⟨v_t, rfl, hn⟩, uu⟩
      obtain ⟨p1_b_n, q1_b_n, rfl⟩ := n1_form hn
      obtain ⟨fp_b_n, rr, oo, ge_b_n⟩ := hn
      have lt_w0 := R_L1k.lt r12_w0
      have lt_x_x := R_L1k.lt r12_x_x
      have lt_x_n := R1k.lt r12_x_n
      have lt_g0 := R_L1k.lt r12_g0
      have bl_w0 := q12_w0.lt
      have bl_x_x := q12_x_x.lt
      have bl_g0 := q12_g0.lt
      have ud13 : Upd [] wA w13 := ud12.trans (uu)
      have r13_w0 := R_L1k.upd r12_w0 (uu) (by simp)
      have o13_w0 := o12_w0.upd (uu) (by simp)
      have r13_x_x := R_L1k.upd r12_x_x (uu) (by simp)
      have o13_x_x := o12_x_x.upd (uu) (by simp)
      have r13_x_n := R1k.upd r12_x_n (uu) (by simp)
      have o13_x_n := o12_x_n.upd (uu) (by simp)
      have r13_g0 := R_L1k.upd r12_g0 (uu) (by simp)
      have o13_g0 := o12_g0.upd (uu) (by simp)
      have q13_w0 := q12_w0.upd (uu) (by simp)
      have q13_x_x := q12_x_x.upd (uu) (by simp)
      have q13_g0 := q12_g0.upd (uu) (by simp)
      have HL_b_n := Lib.hid (show ∀ b ∈ fp_b_n, wA.heap.size ≤ b from fun b hb => by have := ge_b_n b hb; have := ud12.size; omega)
      have HD_w0_b_n := Lib.hid (show ∀ b ∈ fp_w0, b ∉ fp_b_n from fun b hb hm => by have := lt_w0 b hb; have := ge_b_n b hm; omega)
      have HD_x_x_b_n := Lib.hid (show ∀ b ∈ fp_x_x, b ∉ fp_b_n from fun b hb hm => by have := lt_x_x b hb; have := ge_b_n b hm; omega)
      have HD_x_n_b_n := Lib.hid (show ∀ b ∈ fp_x_n, b ∉ fp_b_n from fun b hb hm => by have := lt_x_n b hb; have := ge_b_n b hm; omega)
      have HD_g0_b_n := Lib.hid (show ∀ b ∈ fp_g0, b ∉ fp_b_n from fun b hb hm => by have := lt_g0 b hb; have := ge_b_n b hm; omega)
      have HN_w0_b_n := Lib.hid (show B_w0 ∉ fp_b_n from fun hm => by have := ge_b_n _ hm; omega)
      have HN_x_x_b_n := Lib.hid (show B_x_x ∉ fp_b_n from fun hm => by have := ge_b_n _ hm; omega)
      have HN_g0_b_n := Lib.hid (show B_g0 ∉ fp_b_n from fun hm => by have := ge_b_n _ hm; omega)
      have r13_b_n := rr
      have o13_b_n := oo
      clear ud12 r12_w0 o12_w0 r12_x_x o12_x_x r12_x_n o12_x_n r12_g0 o12_g0 q12_w0 q12_x_x q12_g0 uu ge_b_n rr oo lt_w0 lt_x_x lt_x_n lt_g0 bl_w0 bl_x_x bl_g0
      have S2 := eq_N1 (.slice p1_x_n B.length q1_x_n) (.slice p1_b_n B.length q1_b_n) _ _ w13 _ _ r13_x_n r13_b_n
      go_wp2_with fail
      refine S2.mono ?_
      clear S2
      rintro e w14 ⟨rfl, uu⟩
      rw [beq_refl_true]
      have ud14 : Upd [] wA w14 := ud13.trans (uu)
      have r14_w0 := R_L1k.upd r13_w0 (uu) (by simp)
      have o14_w0 := o13_w0.upd (uu) (by simp)
      have r14_x_x := R_L1k.upd r13_x_x (uu) (by simp)
      have o14_x_x := o13_x_x.upd (uu) (by simp)
      have r14_x_n := R1k.upd r13_x_n (uu) (by simp)
      have o14_x_n := o13_x_n.upd (uu) (by simp)
      have r14_g0 := R_L1k.upd r13_g0 (uu) (by simp)
      have o14_g0 := o13_g0.upd (uu) (by simp)
      have q14_w0 := q13_w0.upd (uu) (by simp)
      have q14_x_x := q13_x_x.upd (uu) (by simp)
      have q14_g0 := q13_g0.upd (uu) (by simp)
      clear ud13 r13_w0 o13_w0 r13_x_x o13_x_x r13_x_n o13_x_n r13_g0 o13_g0 r13_b_n o13_b_n q13_w0 q13_x_x q13_g0 uu
      have z_x_x_0 := q14_x_x.cell 0 _ rfl
      have z_x_x_1 := q14_x_x.cell 1 _ rfl
      have z_x_x_2 := q14_x_x.cell 2 _ rfl
      have z_x_x_3 := q14_x_x.cell 3 _ rfl
      go_wp2_with fail
      refine (mark_Lts (.agg #[ei A.st, ei A.ini, .slice p2_x_x A.labs.length q2_x_x, .slice p3_x_x A.eds.length q3_x_x]) A _ _ fp_x_x (by omega) (by omega) r14_x_x o14_x_x).mono ?_
      clear z_x_x_0 z_x_x_1 z_x_x_2 z_x_x_3
      rintro e w15 ⟨rfl, r15_x_x, o15_x_x, uu⟩
      have ud15 : Upd [] wA w15 := ud14.fresh (uu) (fun b hb => Or.inl (HL_x_x.out b hb))
      have r15_w0 := R_L1k.upd r14_w0 (uu) HD_w0_x_x.out
      have o15_w0 := o14_w0.upd (uu) HD_w0_x_x.out
      have r15_x_n := R1k.upd r14_x_n (uu) (fun b hb hm => HD_x_x_x_n.out b hm hb)
      have o15_x_n := o14_x_n.upd (uu) (fun b hb hm => HD_x_x_x_n.out b hm hb)
      have r15_g0 := R_L1k.upd r14_g0 (uu) (fun b hb hm => HD_x_x_g0.out b hm hb)
      have o15_g0 := o14_g0.upd (uu) (fun b hb hm => HD_x_x_g0.out b hm hb)
      have q15_w0 := q14_w0.upd (uu) HN_w0_x_x.out
      have q15_x_x := q14_x_x.upd (uu) HN_x_x_x_x.out
      have q15_g0 := q14_g0.upd (uu) HN_g0_x_x.out
      clear ud14 r14_w0 o14_w0 r14_x_x o14_x_x r14_x_n o14_x_n r14_g0 o14_g0 q14_w0 q14_x_x q14_g0 r15_x_x o15_x_x q15_x_x uu
      go_wp2_with fail
      refine (mark_N1 (.slice p1_x_n B.length q1_x_n) B _ _ fp_x_n (by omega) (by omega) r15_x_n o15_x_n).mono ?_
      rintro e w16 ⟨rfl, r16_x_n, o16_x_n, uu⟩
      have ud16 : Upd [] wA w16 := ud15.fresh (uu) (fun b hb => Or.inl (HL_x_n.out b hb))
      have r16_w0 := R_L1k.upd r15_w0 (uu) HD_w0_x_n.out
      have o16_w0 := o15_w0.upd (uu) HD_w0_x_n.out
      have r16_g0 := R_L1k.upd r15_g0 (uu) (fun b hb hm => HD_x_n_g0.out b hm hb)
      have o16_g0 := o15_g0.upd (uu) (fun b hb hm => HD_x_n_g0.out b hm hb)
      have q16_w0 := q15_w0.upd (uu) HN_w0_x_n.out
      have q16_g0 := q15_g0.upd (uu) HN_g0_x_n.out
      clear ud15 r15_w0 o15_w0 r15_x_n o15_x_n r15_g0 o15_g0 q15_w0 q15_g0 r16_x_n o16_x_n uu
      have hk : 0 ≤ 1 + mkF_L1 A + mkF_N1 B := by omega
      have z_g0_0 := q16_g0.cell 0 _ rfl
      have z_g0_1 := q16_g0.cell 1 _ rfl
      have z_g0_2 := q16_g0.cell 2 _ rfl
      have z_g0_3 := q16_g0.cell 3 _ rfl
      have z_w0_0 := q16_w0.cell 0 _ rfl
      have z_w0_1 := q16_w0.cell 1 _ rfl
      have z_w0_2 := q16_w0.cell 2 _ rfl
      have z_w0_3 := q16_w0.cell 3 _ rfl
      have S2 := eq_Lts (.agg #[ei y.st, ei y.ini, .slice p2_g0 y.labs.length q2_g0, .slice p3_g0 y.eds.length q3_g0]) (.agg #[ei y.st, ei y.ini, .slice p2_w0 y.labs.length q2_w0, .slice p3_w0 y.eds.length q3_w0]) _ w16 _ _ r16_g0 r16_w0
      go_wp2_with fail
      refine S2.mono ?_
      clear S2 z_g0_0 z_g0_1 z_g0_2 z_g0_3 z_w0_0 z_w0_1 z_w0_2 z_w0_3
      rintro e w17 ⟨rfl, uu⟩
      have ud17 : Upd [] wA w17 := ud16.trans (uu)
      have r17_w0 := R_L1k.upd r16_w0 (uu) (by simp)
      have o17_w0 := o16_w0.upd (uu) (by simp)
      have r17_g0 := R_L1k.upd r16_g0 (uu) (by simp)
      have o17_g0 := o16_g0.upd (uu) (by simp)
      have q17_w0 := q16_w0.upd (uu) (by simp)
      have q17_g0 := q16_g0.upd (uu) (by simp)
      clear ud16 r16_w0 o16_w0 r16_g0 o16_g0 q16_w0 q16_g0 uu
      have z_g0_0 := q17_g0.cell 0 _ rfl
      have z_g0_1 := q17_g0.cell 1 _ rfl
      have z_g0_2 := q17_g0.cell 2 _ rfl
      have z_g0_3 := q17_g0.cell 3 _ rfl
      go_wp2_with fail
      refine (mark_Lts (.agg #[ei y.st, ei y.ini, .slice p2_g0 y.labs.length q2_g0, .slice p3_g0 y.eds.length q3_g0]) y _ _ fp_g0 (by omega) (by omega) r17_g0 o17_g0).mono ?_
      clear z_g0_0 z_g0_1 z_g0_2 z_g0_3
      rintro e w18 ⟨rfl, r18_g0, o18_g0, uu⟩
      have ud18 : Upd [] wA w18 := ud17.fresh (uu) (fun b hb => Or.inl (HL_g0.out b hb))
      have r18_w0 := R_L1k.upd r17_w0 (uu) HD_w0_g0.out
      have o18_w0 := o17_w0.upd (uu) HD_w0_g0.out
      have q18_w0 := q17_w0.upd (uu) HN_w0_g0.out
      have q18_g0 := q17_g0.upd (uu) HN_g0_g0.out
      clear ud17 r17_w0 o17_w0 r17_g0 o17_g0 q17_w0 q17_g0 uu
      have hk0 : 0 ≤ 1 + mkF_L1 y := by omega
      have hne : ((1 + mkF_L1 y) != (1 + mkF_L1 y)) = false := by simp
      have z_g0_0 := q18_g0.cell 0 _ rfl
      have z_g0_1 := q18_g0.cell 1 _ rfl
      have z_g0_2 := q18_g0.cell 2 _ rfl
      have z_g0_3 := q18_g0.cell 3 _ rfl
      have S2 := held_Lts (.agg #[ei y.st, ei y.ini, .slice p2_g0 y.labs.length q2_g0, .slice p3_g0 y.eds.length q3_g0]) y 1 w18 fp_g0 (by omega) hMk r18_g0
      go_wp2_with fail
      refine S2.mono ?_
      clear S2 z_g0_0 z_g0_1 z_g0_2 z_g0_3
      rintro e w19 ⟨rfl, uu⟩
      have ud19 : Upd [] wA w19 := ud18.trans (uu)
      have r19_w0 := R_L1k.upd r18_w0 (uu) (by simp)
      have o19_w0 := o18_w0.upd (uu) (by simp)
      have r19_g0 := R_L1k.upd r18_g0 (uu) (by simp)
      have o19_g0 := o18_g0.upd (uu) (by simp)
      have q19_w0 := q18_w0.upd (uu) (by simp)
      have q19_g0 := q18_g0.upd (uu) (by simp)
      clear ud18 r18_w0 o18_w0 r18_g0 o18_g0 q18_w0 q18_g0 uu
      have z_A_0 := (HQA.out _ ud19).cell 0 _ rfl
      have z_A_1 := (HQA.out _ ud19).cell 1 _ rfl
      have z_A_2 := (HQA.out _ ud19).cell 2 _ rfl
      have z_A_3 := (HQA.out _ ud19).cell 3 _ rfl
      have S2 := to_Lts _ A w19 _ HSZA.out (HRA.out _ (UA.out.trans ud19))
      go_wp2_with fail
      refine S2.mono ?_
      clear S2 z_A_0 z_A_1 z_A_2 z_A_3
      rintro e w20 ⟨⟨v_t, rfl, hn⟩, uu⟩
      obtain ⟨p2_c_x, q2_c_x, p3_c_x, q3_c_x, rfl⟩ := lt_form hn
      obtain ⟨fp_c_x, rr, oo, ge_c_x⟩ := hn
      have lt_w0 := R_L1k.lt r19_w0
      have lt_g0 := R_L1k.lt r19_g0
      have bl_w0 := q19_w0.lt
      have bl_g0 := q19_g0.lt
      have ud20 : Upd [] wA w20 := ud19.trans (uu)
      have r20_w0 := R_L1k.upd r19_w0 (uu) (by simp)
      have o20_w0 := o19_w0.upd (uu) (by simp)
      have r20_g0 := R_L1k.upd r19_g0 (uu) (by simp)
      have o20_g0 := o19_g0.upd (uu) (by simp)
      have q20_w0 := q19_w0.upd (uu) (by simp)
      have q20_g0 := q19_g0.upd (uu) (by simp)
      have HL_c_x := Lib.hid (show ∀ b ∈ fp_c_x, wA.heap.size ≤ b from fun b hb => by have := ge_c_x b hb; have := ud19.size; omega)
      have HD_w0_c_x := Lib.hid (show ∀ b ∈ fp_w0, b ∉ fp_c_x from fun b hb hm => by have := lt_w0 b hb; have := ge_c_x b hm; omega)
      have HD_g0_c_x := Lib.hid (show ∀ b ∈ fp_g0, b ∉ fp_c_x from fun b hb hm => by have := lt_g0 b hb; have := ge_c_x b hm; omega)
      have HN_w0_c_x := Lib.hid (show B_w0 ∉ fp_c_x from fun hm => by have := ge_c_x _ hm; omega)
      have HN_g0_c_x := Lib.hid (show B_g0 ∉ fp_c_x from fun hm => by have := ge_c_x _ hm; omega)
      have r20_c_x := rr
      have o20_c_x := oo
      clear ud19 r19_w0 o19_w0 r19_g0 o19_g0 q19_w0 q19_g0 uu ge_c_x rr oo lt_w0 lt_g0 bl_w0 bl_g0
      have S2 := to_N1 _ B w20 _ hzB (HRB.out _ (UA.out.trans ud20))
      go_wp2_with fail
      refine S2.mono ?_
      clear S2
      rintro e w21 ⟨⟨v_t, rfl, hn⟩, uu⟩
      obtain ⟨p1_c_n, q1_c_n, rfl⟩ := n1_form hn
      obtain ⟨fp_c_n, rr, oo, ge_c_n⟩ := hn
      have lt_w0 := R_L1k.lt r20_w0
      have lt_g0 := R_L1k.lt r20_g0
      have lt_c_x := R_L1k.lt r20_c_x
      have bl_w0 := q20_w0.lt
      have bl_g0 := q20_g0.lt
      have ud21 : Upd [] wA w21 := ud20.trans (uu)
      have r21_w0 := R_L1k.upd r20_w0 (uu) (by simp)
      have o21_w0 := o20_w0.upd (uu) (by simp)
      have r21_g0 := R_L1k.upd r20_g0 (uu) (by simp)
      have o21_g0 := o20_g0.upd (uu) (by simp)
      have r21_c_x := R_L1k.upd r20_c_x (uu) (by simp)
      have o21_c_x := o20_c_x.upd (uu) (by simp)
      have q21_w0 := q20_w0.upd (uu) (by simp)
      have q21_g0 := q20_g0.upd (uu) (by simp)
      have HL_c_n := Lib.hid (show ∀ b ∈ fp_c_n, wA.heap.size ≤ b from fun b hb => by have := ge_c_n b hb; have := ud20.size; omega)
      have HD_w0_c_n := Lib.hid (show ∀ b ∈ fp_w0, b ∉ fp_c_n from fun b hb hm => by have := lt_w0 b hb; have := ge_c_n b hm; omega)
      have HD_g0_c_n := Lib.hid (show ∀ b ∈ fp_g0, b ∉ fp_c_n from fun b hb hm => by have := lt_g0 b hb; have := ge_c_n b hm; omega)
      have HD_c_x_c_n := Lib.hid (show ∀ b ∈ fp_c_x, b ∉ fp_c_n from fun b hb hm => by have := lt_c_x b hb; have := ge_c_n b hm; omega)
      have HN_w0_c_n := Lib.hid (show B_w0 ∉ fp_c_n from fun hm => by have := ge_c_n _ hm; omega)
      have HN_g0_c_n := Lib.hid (show B_g0 ∉ fp_c_n from fun hm => by have := ge_c_n _ hm; omega)
      have r21_c_n := rr
      have o21_c_n := oo
      clear ud20 r20_w0 o20_w0 r20_g0 o20_g0 r20_c_x o20_c_x q20_w0 q20_g0 uu ge_c_n rr oo lt_w0 lt_g0 lt_c_x bl_w0 bl_g0
      obtain ⟨_, _, g1_A, g2_A, hv, s1_A, s2_A, -⟩ := (id r21_c_x)
      cases hv
      have S2 : Calls Tryz.prog 9 _ w21 (GaveL2 w21 (y, cc)) := HG.out ▸ prioI A B _ _ _ w21 _ _ _ s1_A s2_A r21_c_n HBA2.out (HE.out.upd (UA.out.trans ud21))
      clear s1_A s2_A
      go_wp2_with fail
      refine S2.mono ?_
      clear S2
      rintro e w22 ⟨⟨v_t, rfl, hn⟩, uu⟩
      obtain ⟨p2_h0, q2_h0, p3_h0, q3_h0, rfl⟩ := lt_form hn
      obtain ⟨fp_h0, rr, oo, ge_h0⟩ := hn
      have lt_w0 := R_L1k.lt r21_w0
      have lt_g0 := R_L1k.lt r21_g0
      have lt_c_x := R_L1k.lt r21_c_x
      have lt_c_n := R1k.lt r21_c_n
      have bl_w0 := q21_w0.lt
      have bl_g0 := q21_g0.lt
      have ud22 : Upd [] wA w22 := ud21.trans (uu)
      have r22_w0 := R_L1k.upd r21_w0 (uu) (by simp)
      have o22_w0 := o21_w0.upd (uu) (by simp)
      have r22_g0 := R_L1k.upd r21_g0 (uu) (by simp)
      have o22_g0 := o21_g0.upd (uu) (by simp)
      have q22_w0 := q21_w0.upd (uu) (by simp)
      have q22_g0 := q21_g0.upd (uu) (by simp)
      have HL_h0 := Lib.hid (show ∀ b ∈ fp_h0, wA.heap.size ≤ b from fun b hb => by have := ge_h0 b hb; have := ud21.size; omega)
      have HD_w0_h0 := Lib.hid (show ∀ b ∈ fp_w0, b ∉ fp_h0 from fun b hb hm => by have := lt_w0 b hb; have := ge_h0 b hm; omega)
      have HD_g0_h0 := Lib.hid (show ∀ b ∈ fp_g0, b ∉ fp_h0 from fun b hb hm => by have := lt_g0 b hb; have := ge_h0 b hm; omega)
      have HN_w0_h0 := Lib.hid (show B_w0 ∉ fp_h0 from fun hm => by have := ge_h0 _ hm; omega)
      have HN_g0_h0 := Lib.hid (show B_g0 ∉ fp_h0 from fun hm => by have := ge_h0 _ hm; omega)
      have r22_h0 := rr
      have o22_h0 := oo
      clear ud21 r21_w0 o21_w0 r21_g0 o21_g0 r21_c_x o21_c_x r21_c_n o21_c_n q21_w0 q21_g0 uu ge_h0 rr oo lt_w0 lt_g0 lt_c_x lt_c_n bl_w0 bl_g0
      obtain ⟨w23, hwB⟩ : ∃ wB, wB = w22.alloc (.cells #[ei y.st, ei y.ini, .slice p2_h0 y.labs.length q2_h0, .slice p3_h0 y.eds.length q3_h0] 30) := ⟨_, rfl⟩
      have uB : Upd [] w22 w23 := by rw [hwB]; exact (Upd.refl _ _).alloc _
      obtain ⟨B_h0, hB⟩ : ∃ B, B = w22.heap.size := ⟨_, rfl⟩
      have qq : RowAt w23 B_h0 30 [ei y.st, ei y.ini, .slice p2_h0 y.labs.length q2_h0, .slice p3_h0 y.eds.length q3_h0] := by rw [hwB, hB]; exact RowAt.new _ _ _
      have lt_w0 := R_L1k.lt r22_w0
      have lt_g0 := R_L1k.lt r22_g0
      have lt_h0 := R_L1k.lt r22_h0
      have bl_w0 := q22_w0.lt
      have bl_g0 := q22_g0.lt
      have HN_h0_w0 := Lib.hid (show B_h0 ∉ fp_w0 from fun hm => by have := lt_w0 _ hm; omega)
      have HN_h0_g0 := Lib.hid (show B_h0 ∉ fp_g0 from fun hm => by have := lt_g0 _ hm; omega)
      have HN_h0_h0 := Lib.hid (show B_h0 ∉ fp_h0 from fun hm => by have := lt_h0 _ hm; omega)
      have ud23 : Upd [] wA w23 := ud22.trans (uB)
      have r23_w0 := R_L1k.upd r22_w0 (uB) (by simp)
      have o23_w0 := o22_w0.upd (uB) (by simp)
      have r23_g0 := R_L1k.upd r22_g0 (uB) (by simp)
      have o23_g0 := o22_g0.upd (uB) (by simp)
      have r23_h0 := R_L1k.upd r22_h0 (uB) (by simp)
      have o23_h0 := o22_h0.upd (uB) (by simp)
      have q23_w0 := q22_w0.upd (uB) (by simp)
      have q23_g0 := q22_g0.upd (uB) (by simp)
      have q23_h0 := qq
      clear ud22 r22_w0 o22_w0 r22_g0 o22_g0 r22_h0 o22_h0 q22_w0 q22_g0 lt_w0 lt_g0 lt_h0 bl_w0 bl_g0 uB qq
      go_upto_region 31 with (fail)
      rw [← hwB, ← hB]
      clear hwB hB
      have z_h0_0 := q23_h0.cell 0 _ rfl
      have z_h0_1 := q23_h0.cell 1 _ rfl
      have z_h0_2 := q23_h0.cell 2 _ rfl
      have z_h0_3 := q23_h0.cell 3 _ rfl
      have z_w0_0 := q23_w0.cell 0 _ rfl
      have z_w0_1 := q23_w0.cell 1 _ rfl
      have z_w0_2 := q23_w0.cell 2 _ rfl
      have z_w0_3 := q23_w0.cell 3 _ rfl
      have S2 := eq_Lts (.agg #[ei y.st, ei y.ini, .slice p2_h0 y.labs.length q2_h0, .slice p3_h0 y.eds.length q3_h0]) (.agg #[ei y.st, ei y.ini, .slice p2_w0 y.labs.length q2_w0, .slice p3_w0 y.eds.length q3_w0]) _ w23 _ _ r23_h0 r23_w0
      go_wp2_with fail
      refine S2.mono ?_
      clear S2 z_h0_0 z_h0_1 z_h0_2 z_h0_3 z_w0_0 z_w0_1 z_w0_2 z_w0_3
      rintro e w24 ⟨rfl, uu⟩
      have ud24 : Upd [] wA w24 := ud23.trans (uu)
      have r24_w0 := R_L1k.upd r23_w0 (uu) (by simp)
      have o24_w0 := o23_w0.upd (uu) (by simp)
      have r24_g0 := R_L1k.upd r23_g0 (uu) (by simp)
      have o24_g0 := o23_g0.upd (uu) (by simp)
      have r24_h0 := R_L1k.upd r23_h0 (uu) (by simp)
      have o24_h0 := o23_h0.upd (uu) (by simp)
      have q24_w0 := q23_w0.upd (uu) (by simp)
      have q24_g0 := q23_g0.upd (uu) (by simp)
      have q24_h0 := q23_h0.upd (uu) (by simp)
      clear ud23 r23_w0 o23_w0 r23_g0 o23_g0 r23_h0 o23_h0 q23_w0 q23_g0 q23_h0 uu
      have z_g0_0 := q24_g0.cell 0 _ rfl
      have z_g0_1 := q24_g0.cell 1 _ rfl
      have z_g0_2 := q24_g0.cell 2 _ rfl
      have z_g0_3 := q24_g0.cell 3 _ rfl
      have S2 := held_Lts (.agg #[ei y.st, ei y.ini, .slice p2_g0 y.labs.length q2_g0, .slice p3_g0 y.eds.length q3_g0]) y 1 w24 fp_g0 (by omega) hMk r24_g0
      go_wp2_with fail
      refine S2.mono ?_
      clear S2 z_g0_0 z_g0_1 z_g0_2 z_g0_3
      rintro e w25 ⟨rfl, uu⟩
      have ud25 : Upd [] wA w25 := ud24.trans (uu)
      have r25_w0 := R_L1k.upd r24_w0 (uu) (by simp)
      have o25_w0 := o24_w0.upd (uu) (by simp)
      have r25_g0 := R_L1k.upd r24_g0 (uu) (by simp)
      have o25_g0 := o24_g0.upd (uu) (by simp)
      have r25_h0 := R_L1k.upd r24_h0 (uu) (by simp)
      have o25_h0 := o24_h0.upd (uu) (by simp)
      have q25_w0 := q24_w0.upd (uu) (by simp)
      have q25_g0 := q24_g0.upd (uu) (by simp)
      have q25_h0 := q24_h0.upd (uu) (by simp)
      clear ud24 r24_w0 o24_w0 r24_g0 o24_g0 r24_h0 o24_h0 q24_w0 q24_g0 q24_h0 uu
      have HU := Lib.hid (UA.out.trans ud25)
      go_wp2_with fail
      go_ret
      exact ⟨rfl, HU.out⟩

end Go.Proofs.YtlondofadjcooaaGreatDoor

/-
  What the listed variables and the world's shape give the walks of labels.
-/
namespace Go.Proofs.YtlondofadjcooaaGreatDoor
open Go.RowKit Go.ChangeShapes

theorem errStar : "*" ++ "errors.errorString" = "*errors.errorString" := by decide
theorem errRow (u : TypeId) (h : Tryz.prog.typeName? 3 u = some "*errors.errorString") : u = 227 :=
  typeName_ptr_named (nm := "errors.errorString") (by rw [errStar]; kernel_rfl) (by kernel_rfl) (by decide) u (by rw [errStar]; exact h)

theorem env_of {W : World} {r1 r2 r3 : List (String × DataW Unit)} {d : DataW Unit} {x1 x2 : List UInt8} (hd : d = Lib.tabData .u64 Lib.pow10Tab)
    (h1 : laidMet Tryz.prog (("internal/strconv.uint64pow10", d) :: r1) W)
    (h2 : laidMet Tryz.prog (("strconv.ErrRange", .iface "*errors.errorString" (.ptr (.agg [.lit (.string x1)]))) :: r2) W)
    (h3 : laidMet Tryz.prog (("strconv.ErrSyntax", .iface "*errors.errorString" (.ptr (.agg [.lit (.string x2)]))) :: r3) W)
    (hs : W.ShapedOpen Tryz.prog) : Env W := by
  subst hd
  refine ⟨?_, ?_, ?_, ?_⟩
  · exact cell_of_shapedOpen_int (g := 0) (zero := #[.int .i64 0]) (t := 3) hs (of_decide_eq_true (by kernel_rfl)) (by kernel_rfl) rfl (by kernel_rfl) (by kernel_rfl) Tryz.underlying3
  · exact Lib.tabIs_of_head (g := 5) (t := 231) (e := 137) (n := 20) (by kernel_rfl) (by kernel_rfl) Tryz.underlying231 Tryz.underlying137 (by kernel_rfl) (by kernel_rfl) h1
  · obtain ⟨a, s, hv, -⟩ := laid_sentinel (g := 1) (ti := 162) (tp := 227) (te := 229) (ts := 9) h3 (by kernel_rfl) (by kernel_rfl) Tryz.underlying162 errRow Tryz.underlying227 Tryz.underlying229 rfl rfl Tryz.underlying9 (by kernel_rfl) (by kernel_rfl)
    exact ⟨_, _, hv⟩
  · obtain ⟨a, s, hv, -⟩ := laid_sentinel (g := 2) (ti := 162) (tp := 227) (te := 229) (ts := 9) h2 (by kernel_rfl) (by kernel_rfl) Tryz.underlying162 errRow Tryz.underlying227 Tryz.underlying229 rfl rfl Tryz.underlying9 (by kernel_rfl) (by kernel_rfl)
    exact ⟨_, _, hv⟩

/-- the wrap with a condition on the world, the world's shape kept. -/
theorem handed_and_shaped {H : Type} {enc : TypeId × Value → H} {a : Assume} {C : Checked} {os : Os} {f : FuncId} {fn : Func} {s : ChangeSpec} {conds : List PathCond} {apart fresh handsOn twice : Bool} {X : World → Array Value → Prop}
    (hX : ∀ (w w' : World) (args : Array Value), w.heap = w'.heap → X w args → X w' args)
    (own : ownKnob C.prog.godebug = none) (started : os.Started) (noInit : C.prog.inits.idxOf? f = none) (hfn : C.prog.funcs[f]? = some fn)
    (witness : ∃ (w : World) (tape : Tape) (i : Input), w.os = os ∧ (w.forCall tape i).Shaped C.prog ∧ i.vars = [] ∧ Input.okWide C.prog (w.forCall tape i) .any w.heap.size f i ∧
      ((s.pre enc C.prog fn conds apart (w.forCall tape i).memory i.args ∧ X (w.forCall tape i).memory i.args) ∧ sizedMet enc C.prog fn (OpenSpec.ofChange s) apart (w.forCall tape i).memory i.args) ∧ a.holds C.prog (lone (Frame.enter C.prog f i.args CallKind.normal) [] (w.forCall tape i)))
    (contract : ∀ (W : World) (base : Nat) (args : Array Value) (ds gs : List (DataW H)) (before : List MemPlace),
      (∀ (j : Nat) t v, fn.params[j]? = some t → args[j]? = some v → Value.okWide C.prog W .any base t v) →
      DataW.Whole enc C.prog fn.params.toList s.vars apart W args.toList ds gs before →
      conds.all (PathCond.test C.prog ⟨fn.params.toList, ds, s.plain.varTypes C.prog, gs⟩) = true → X W args →
      W.ShapedOpen C.prog →
      Calls C.prog f args W fun e W' => ∃ v, e = .returned v ∧ s.post enc C.prog fn apart fresh handsOn twice W args v W') :
    ReturnsInHanded a C os f .any (fun w args => (s.pre enc C.prog fn conds apart w args ∧ X w args) ∧ sizedMet enc C.prog fn (OpenSpec.ofChange s) apart w args) (s.post enc C.prog fn apart fresh handsOn twice) := by
  refine returnsInHanded_of_calls own started noInit witness ?_
  intro w tape i _ hsh _ hok hpre _
  obtain ⟨_, _, _, fn', hfn', _, _, _, _, hval⟩ := hok
  have e : fn' = fn := Option.some.inj (hfn'.symm.trans hfn)
  subst e
  obtain ⟨⟨⟨ds, gs, before, hw, hc⟩, hx⟩, hz⟩ := hpre
  have hw' := DataW.Whole.of_heap (w' := w.forCall tape i) (by rfl) hw
  refine (contract (w.forCall tape i) w.heap.size i.args ds gs before hval hw' hc (hX _ _ _ (by rfl) hx) hsh).mono fun e W' ⟨v, he, hp⟩ => ?_
  subst he
  exact ChangeSpec.post_blind hp

end Go.Proofs.YtlondofadjcooaaGreatDoor
