/-
  Linear processes: readings, and what the laws' helper functions return and make.
-/
import Derived.Test.YtnfghgaadnobbaaGreatDoorHarnSm2
import Derived.Deep.DeepCutAuto
namespace Go.Proofs.YtnfghgaadnobbaaGreatDoor
open Go.RowKit

structure Ln where
  pars : Int
  start : List Int
  sms : List Sm
deriving DecidableEq
/-- its 3 cells. -/
def R_Ln : Rp Ln := fun fp w cs x => ∃ (v1 v2 : Value) (f1 f2 : List Nat), cs = [ei x.pars, v1, v2] ∧ R_I1 f1 w [v1] x.start ∧ R_Sm1 f2 w [v2] x.sms ∧ fp = f1 ++ (f2)
theorem R_Lnk : Kept R_Ln := by
  constructor
  · rintro fp w cs x ⟨v1, v2, f1, f2, rfl, h1, h2, rfl⟩ b hb
    simp only [List.mem_append] at hb
    rcases hb with hb | hb
    · exact R_I1k.lt h1 b hb
    · exact R_Sm1k.lt h2 b hb
  · rintro fp w w' cs x ⟨v1, v2, f1, f2, rfl, h1, h2, rfl⟩ hs hb
    exact ⟨v1, v2, f1, f2, rfl, R_I1k.frame h1 hs (fun b h => hb b (by simp [h])), R_Sm1k.frame h2 hs (fun b h => hb b (by simp [h])), rfl⟩
def szF_Ln (x : Ln) : Int := szF_I1 x.start + szF_Sm1 x.sms
def mkF_Ln (x : Ln) : Int := mkF_I1 x.start + mkF_Sm1 x.sms
theorem szF_Ln_nonneg (x : Ln) : 0 ≤ szF_Ln x := by have := szF_I1_nonneg x.start; have := szF_Sm1_nonneg x.sms; unfold szF_Ln; omega
theorem mkF_Ln_nonneg (x : Ln) : 0 ≤ mkF_Ln x := by have := mkF_I1_nonneg x.start; have := mkF_Sm1_nonneg x.sms; unfold mkF_Ln; omega
theorem mkF_Ln_le (x : Ln) : mkF_Ln x ≤ 16 * szF_Ln x + 0 := by have := mkF_I1_le x.start; have := mkF_Sm1_le x.sms; unfold mkF_Ln szF_Ln; omega
/-- what each text's length is below. -/
def LnOk (x : Ln) : Prop := Sm1Ok x.sms

set_option maxRecDepth 20000 in
set_option maxHeartbeats 1600000 in
theorem sz_Ln (cs : List Value) (x : Ln) (left : Int) (w : World) (fp : List Nat) (hl : 0 ≤ left) (hl2 : left ≤ 1048576) (hR : R_Ln fp w cs x) (hS : LnOk x) :
    Calls Tryz.prog 4 #[.agg cs.toArray, .int .i64 left] w fun e w' => (∃ r : Int, e = .returned (.int .i64 r) ∧ (r = -1 ∨ (0 ≤ r ∧ r + szF_Ln x = left))) ∧ Upd [] w w' := by
  obtain ⟨v1, v2, f1, f2, rfl, h1, h2, rfl⟩ := hR
  obtain ⟨wA, hwA⟩ : ∃ wA, wA = w.alloc (.cells #[ei x.pars, v1, v2] 25) := ⟨_, rfl⟩
  obtain ⟨BA, hBA⟩ : ∃ BA, BA = w.heap.size := ⟨_, rfl⟩
  have uA : Upd [] w wA := by rw [hwA]; exact (Upd.refl _ _).alloc _
  have S1 := Lib.hid (fun (W : World) (hu : Upd [] w W) (l : Int) (q1 : 0 ≤ l) (q2 : l ≤ 1048576) => sz_I1 v1 x.start l W f1 q1 q2 (R_I1k.upd h1 hu (by simp)))
  have S2 := Lib.hid (fun (W : World) (hu : Upd [] w W) (l : Int) (q1 : 0 ≤ l) (q2 : l ≤ 1048576) => sz_Sm1 v2 x.sms l W f2 q1 q2 (R_Sm1k.upd h2 hu (by simp)) hS)
  have HC := Lib.hid (fun W (hu : Upd [] wA W) => show W.cell? ⟨BA, 1, none⟩ = some (v1) ∧ W.cell? ⟨BA, 2, none⟩ = some (v2) from
    ⟨hu.keep (by rw [hwA, hBA]; exact cell_new w _ _ _ rfl 1 _ rfl), hu.keep (by rw [hwA, hBA]; exact cell_new w _ _ _ rfl 2 _ rfl)⟩)
  have HZ := Lib.hid (show szF_Ln x = szF_I1 x.start + szF_Sm1 x.sms from rfl)
  have hn1 := szF_I1_nonneg x.start
  have hn2 := szF_Sm1_nonneg x.sms
  generalize szF_I1 x.start = z1 at *
  generalize szF_Sm1 x.sms = z2 at *
  generalize szF_Ln x = ZZ at *
  obtain ⟨c1, c2⟩ := HC.out wA (Upd.refl _ _)
  have HU := Lib.hid uA
  have HX := Lib.hid (Upd.refl [] wA)
  clear h1 h2 hS uA
  go_enter Tryz.func4, Tryz.ntmps4
  have T1 := Lib.hid (S1.out wA HU.out left hl hl2)
  clear S1
  go_wp2_with fail
  rw [← hwA, ← hBA]
  clear hwA hBA
  refine T1.out.mono ?_
  rintro e w1 ⟨⟨r, rfl, hr⟩, rfl⟩
  clear T1
  rcases hr with rfl | ⟨hge1, hr⟩
  · go_wp2_with fail
    go_ret
    exact ⟨⟨-1, rfl, Or.inl rfl⟩, HU.out⟩
  · have HR1 := Lib.hid hr
    have hle1 : r ≤ 1048576 := by omega
    clear hr
    generalize r = r1 at *
    have T2 := Lib.hid (S2.out wA HU.out r1 hge1 hle1)
    clear S2
    go_wp2_with fail
    refine T2.out.mono ?_
    rintro e w2 ⟨⟨r, rfl, hr⟩, hu⟩
    clear T2
    have HU := Lib.hid (HU.out.trans hu)
    have HX := Lib.hid (HX.out.trans hu)
    obtain ⟨c1, c2⟩ := HC.out w2 HX.out
    clear hu
    rcases hr with rfl | ⟨hge2, hr⟩
    · go_wp2_with fail
      go_ret
      exact ⟨⟨-1, rfl, Or.inl rfl⟩, HU.out⟩
    · have HR2 := Lib.hid hr
      have hle2 : r ≤ 1048576 := by omega
      clear hr
      generalize r = r2 at *
      go_wp2_with fail
      go_ret
      exact ⟨⟨r2, rfl, Or.inr ⟨hge2, by rw [HZ.out]; have := HR1.out; have := HR2.out; omega⟩⟩, HU.out⟩

theorem Ln_size : (Tryz.prog.info? 30).map (·.size) = some 3 := by kernel_rfl
set_option maxRecDepth 20000 in
set_option maxHeartbeats 4000000 in
theorem to_Ln (cs : List Value) (x : Ln) (w : World) (fp : List Nat) (hl : szF_Ln x ≤ 1048576) (hR : R_Ln fp w cs x) :
    Calls Tryz.prog 6 #[.agg cs.toArray] w fun e w' => (∃ us, e = .returned (.agg us.toArray) ∧ us.length = 3 ∧ us.toArray.all (·.oneCell') = true ∧ NewQ R_Ln w w' us x) ∧ Upd [] w w' := by
  obtain ⟨v1, v2, f1, f2, rfl, h1, h2, rfl⟩ := hR
  have hn1 := szF_I1_nonneg x.start
  have hn2 := szF_Sm1_nonneg x.sms
  unfold szF_Ln at hl
  have S1 := Lib.hid (fun (W : World) (hu : Upd [] w W) => to_I1 v1 x.start W f1 (by omega) (R_I1k.upd h1 hu (by simp)))
  have S2 := Lib.hid (fun (W : World) (hu : Upd [] w W) => to_Sm1 v2 x.sms W f2 (by omega) (R_Sm1k.upd h2 hu (by simp)))
  obtain ⟨wA, hwA⟩ : ∃ wA, wA = ((w.alloc (.cells #[ei x.pars, v1, v2] 25)).alloc (.cells #[.int .i64 0, .slice none 0 0, .slice none 0 0] 30)).alloc (.cells #[.int .i64 0, .slice none 0 0, .slice none 0 0] 30) := ⟨_, rfl⟩
  obtain ⟨B, hB⟩ : ∃ B, B = w.heap.size := ⟨_, rfl⟩
  have H0 := Lib.hid (show Three w wA 25 30 B [ei x.pars, v1, v2] [.int .i64 0, .slice none 0 0, .slice none 0 0] [.int .i64 0, .slice none 0 0, .slice none 0 0] from by rw [hwA, hB]; exact Three.mk0 w _ _ _ _ _)
  clear h1 h2 hl hn1 hn2
  go_enter Tryz.func6, Tryz.ntmps6
  go_upto_region 2 with (fail)
  rw [← hwA, ← hB]
  clear hwA hB
  have p0 := H0.out.pc 0 _ rfl
  have q0 := H0.out.oc 0 _ rfl
  have z0 := H0.out.fz 0
  go_upto_region 3 with (fail)
  obtain ⟨W0, hW0⟩ : ∃ W0, W0 = wA.setCell ⟨B + 2, 0, none⟩ (ei x.pars) := ⟨_, rfl⟩
  rw [← hW0]
  have H1 := Lib.hid (show Three w W0 25 30 B [ei x.pars, v1, v2] [.int .i64 0, .slice none 0 0, .slice none 0 0] _ from by rw [hW0]; exact H0.out.store 0 _)
  have D0 := Lib.hid (show Upd [B + 2] wA W0 from by rw [hW0]; exact (Upd.refl _ _).setCell (Or.inr (by simp)) _)
  have ds0 := D0.out.size
  clear p0 q0 z0 hW0
  have T1 := Lib.hid (S1.out W0 H1.out.upd)
  clear S1
  have p1 := H1.out.pc 1 _ rfl
  go_wp2_with fail
  refine T1.out.mono ?_
  rintro e w1 ⟨⟨u, rfl, hn⟩, hu⟩
  have G1 := Lib.hid (H1.out.call hu)
  have HN1 := Lib.hid hn
  have E1 := Lib.hid hu
  have hlo1 := H1.out.size
  have hhi1 := hu.size
  obtain ⟨m1, n1, rfl⟩ := New.form hn
  clear T1 p1 hn hu
  have q1 := G1.out.oc 1 _ rfl
  have z1 := G1.out.fz 1
  go_upto_region 4 with (fail)
  obtain ⟨W1, hW1⟩ : ∃ W1, W1 = w1.setCell ⟨B + 2, 1, none⟩ (.slice m1 x.start.length n1) := ⟨_, rfl⟩
  rw [← hW1]
  have H2 := Lib.hid (show Three w W1 25 30 B [ei x.pars, v1, v2] [.int .i64 0, .slice none 0 0, .slice none 0 0] _ from by rw [hW1]; exact G1.out.store 1 _)
  have D1 := Lib.hid (show Upd [B + 2] w1 W1 from by rw [hW1]; exact (Upd.refl _ _).setCell (Or.inr (by simp)) _)
  have ds1 := D1.out.size
  clear q1 z1 hW1
  have T2 := Lib.hid (S2.out W1 H2.out.upd)
  clear S2
  have p2 := H2.out.pc 2 _ rfl
  go_wp2_with fail
  refine T2.out.mono ?_
  rintro e w2 ⟨⟨u, rfl, hn⟩, hu⟩
  have G2 := Lib.hid (H2.out.call hu)
  have HN2 := Lib.hid hn
  have E2 := Lib.hid hu
  have hlo2 := H2.out.size
  have hhi2 := hu.size
  obtain ⟨m2, n2, rfl⟩ := New.formQ hn
  clear T2 p2 hn hu
  have q2 := G2.out.oc 2 _ rfl
  have z2 := G2.out.fz 2
  go_upto_region 5 with (fail)
  obtain ⟨W2, hW2⟩ : ∃ W2, W2 = w2.setCell ⟨B + 2, 2, none⟩ (.slice m2 x.sms.length n2) := ⟨_, rfl⟩
  rw [← hW2]
  have H3 := Lib.hid (show Three w W2 25 30 B [ei x.pars, v1, v2] [.int .i64 0, .slice none 0 0, .slice none 0 0] _ from by rw [hW2]; exact G2.out.store 2 _)
  have D2 := Lib.hid (show Upd [B + 2] w2 W2 from by rw [hW2]; exact (Upd.refl _ _).setCell (Or.inr (by simp)) _)
  have ds2 := D2.out.size
  clear q2 z2 hW2
  have HF := Lib.hid (show Three w W2 25 30 B [ei x.pars, v1, v2] [.int .i64 0, .slice none 0 0, .slice none 0 0] [ei x.pars, .slice m1 x.start.length n1, .slice m2 x.sms.length n2] from H3.out)
  have hlast := HF.out.h2
  have hres := HF.out.h1
  clear G1 G2
  go_wp2_with (first
    | (refine wpList_load_row rfl 30 _ rfl (B + 2) rfl 30 #[ei x.pars, .slice m1 x.start.length n1, .slice m2 x.sms.length n2] (0, 0) _ hlast Tryz.underlying30 rfl Ln_size ?_)
    | (refine wpList_store_row rfl 30 _ _ rfl (B + 1) #[ei x.pars, .slice m1 x.start.length n1, .slice m2 x.sms.length n2] rfl rfl 30 _ hres Ln_size rfl (by simp [Value.oneCell']) ?_)
    | fail)
  have hC := setRow_heap W2 (B + 1) _ #[ei x.pars, .slice m1 x.start.length n1, .slice m2 x.sms.length n2] _ _ hres
  refine bodyPost_ret (results_cell_row Tryz.results6 _ _ (B + 1) 30 _ (0, 0) _ rfl hC Tryz.underlying30 rfl Ln_size) rfl ?_
  have hb := HF.out.base
  have UE : Upd [] w (W2.setRow (B + 1) #[ei x.pars, .slice m1 x.start.length n1, .slice m2 x.sms.length n2]) := HF.out.upd.row (Or.inl (by omega)) _
  refine ⟨⟨[ei x.pars, .slice m1 x.start.length n1, .slice m2 x.sms.length n2], rfl, rfl, by simp [Value.oneCell'], ?_⟩, UE⟩
  obtain ⟨g1, P1⟩ := Part.of R_I1k HN1.out
  have P1 := P1.upd R_I1k D1.out (by intro b hb; simp at hb; omega)
  have P1 := P1.upd R_I1k (show Upd [] W1 w2 from E2.out) (by simp)
  have P1 := P1.upd R_I1k D2.out (by intro b hb; simp at hb; omega)
  have P1 := P1.upd R_I1k (show Upd [B + 1] W2 (W2.setRow (B + 1) #[ei x.pars, .slice m1 x.start.length n1, .slice m2 x.sms.length n2]) from (Upd.refl _ _).row (Or.inr (by simp)) _) (by intro b hb; simp at hb; omega)
  obtain ⟨g2, P2⟩ := Part.of R_Sm1k HN2.out
  have P2 := P2.upd R_Sm1k D2.out (by intro b hb; simp at hb; omega)
  have P2 := P2.upd R_Sm1k (show Upd [B + 1] W2 (W2.setRow (B + 1) #[ei x.pars, .slice m1 x.start.length n1, .slice m2 x.sms.length n2]) from (Upd.refl _ _).row (Or.inr (by simp)) _) (by intro b hb; simp at hb; omega)
  refine ⟨g1 ++ (g2), ⟨_, _, g1, g2, rfl, P1.r, P2.r, rfl⟩, ?_, ?_⟩
  · exact own_join P1.o (P2.o) (fun b hb hc => by have := P1.b b hb; have := P2.b b hc; omega)
  · intro b hb
    simp only [List.mem_append] at hb
    rcases hb with hb | hb
    · have := P1.b b hb; omega
    · have := P2.b b hb; omega

set_option maxRecDepth 20000 in
set_option maxHeartbeats 2000000 in
theorem eq_Ln (cs ds : List Value) (x : Ln) (w : World) (fp fp2 : List Nat) (hA : R_Ln fp w cs x) (hB : R_Ln fp2 w ds x) :
    Calls Tryz.prog 8 #[.agg cs.toArray, .agg ds.toArray] w fun e w' => e = .returned (.bool true) ∧ Upd [] w w' := by
  obtain ⟨v1, v2, f1, f2, rfl, h1, h2, rfl⟩ := hA
  obtain ⟨u1, u2, g1, g2, rfl, k1, k2, rfl⟩ := hB
  obtain ⟨wA, hwA⟩ : ∃ wA, wA = w.alloc (.cells #[ei x.pars, v1, v2] 30) := ⟨_, rfl⟩
  obtain ⟨wB, hwB⟩ : ∃ wB, wB = wA.alloc (.cells #[ei x.pars, u1, u2] 30) := ⟨_, rfl⟩
  obtain ⟨BA, hBA⟩ : ∃ BA, BA = w.heap.size := ⟨_, rfl⟩
  have sA : wA.heap.size = BA + 1 := by rw [hwA, hBA]; simp
  have uA : Upd [] w wA := by rw [hwA]; exact (Upd.refl _ _).alloc _
  have uB : Upd [] wA wB := by rw [hwB]; exact (Upd.refl _ _).alloc _
  have HC := Lib.hid (fun W (hu : Upd [] wB W) => show W.cell? ⟨BA, 0, none⟩ = some (ei x.pars) ∧ W.cell? ⟨BA + 1, 0, none⟩ = some (ei x.pars) ∧ W.cell? ⟨BA, 1, none⟩ = some (v1) ∧ W.cell? ⟨BA + 1, 1, none⟩ = some (u1) ∧ W.cell? ⟨BA, 2, none⟩ = some (v2) ∧ W.cell? ⟨BA + 1, 2, none⟩ = some (u2) from
    ⟨hu.keep (uB.keep (by rw [hwA, hBA]; exact cell_new w _ _ _ rfl 0 _ rfl)), hu.keep (by rw [hwB]; exact cell_new wA _ _ _ sA 0 _ rfl), hu.keep (uB.keep (by rw [hwA, hBA]; exact cell_new w _ _ _ rfl 1 _ rfl)), hu.keep (by rw [hwB]; exact cell_new wA _ _ _ sA 1 _ rfl), hu.keep (uB.keep (by rw [hwA, hBA]; exact cell_new w _ _ _ rfl 2 _ rfl)), hu.keep (by rw [hwB]; exact cell_new wA _ _ _ sA 2 _ rfl)⟩)
  have S1 := Lib.hid (fun W (hu : Upd [] w W) => show Calls Tryz.prog 23 #[v1, u1] W (fun e w' => e = .returned (.bool true) ∧ Upd [] W w') from by
    have := eq_I1 v1 u1 x.start x.start W f1 g1 (R_I1k.upd h1 hu (by simp)) (R_I1k.upd k1 hu (by simp))
    rw [show (x.start == x.start) = true by simp] at this
    exact this)
  have S2 := Lib.hid (fun W (hu : Upd [] w W) => eq_Sm1 v2 u2 x.sms W f2 g2 (R_Sm1k.upd h2 hu (by simp)) (R_Sm1k.upd k2 hu (by simp)))
  have HU := Lib.hid (uA.trans uB)
  have HX := Lib.hid (Upd.refl [] wB)
  obtain ⟨c0, d0, c1, d1, c2, d2⟩ := HC.out wB (Upd.refl _ _)
  generalize x.pars = t0 at *
  have b0 : (t0 != t0) = false := by simp
  clear h1 k1 h2 k2 uA uB sA
  go_enter Tryz.func8, Tryz.ntmps8
  have T1 := Lib.hid (S1.out wB HU.out)
  clear S1
  go_wp2_with fail
  rw [← hwA, ← hwB, ← hBA]
  clear hwA hwB hBA
  refine T1.out.mono ?_
  rintro e w1 ⟨rfl, hu⟩
  have HU := Lib.hid (HU.out.trans hu)
  have HX := Lib.hid (HX.out.trans hu)
  obtain ⟨c0, d0, c1, d1, c2, d2⟩ := HC.out w1 HX.out
  clear T1 hu
  have T2 := Lib.hid (S2.out w1 HU.out)
  clear S2
  go_wp2_with fail
  refine T2.out.mono ?_
  rintro e w2 ⟨rfl, hu⟩
  have HU := Lib.hid (HU.out.trans hu)
  have HX := Lib.hid (HX.out.trans hu)
  obtain ⟨c0, d0, c1, d1, c2, d2⟩ := HC.out w2 HX.out
  clear T2 hu
  go_wp2_with fail
  go_ret
  exact ⟨rfl, HU.out⟩
def up_Ln (k : Int) (x : Ln) : Ln := ⟨x.pars, up_I1 (k) x.start, mkd_Sm1 (k + mkF_I1 x.start) x.sms⟩

end Go.Proofs.YtnfghgaadnobbaaGreatDoor
