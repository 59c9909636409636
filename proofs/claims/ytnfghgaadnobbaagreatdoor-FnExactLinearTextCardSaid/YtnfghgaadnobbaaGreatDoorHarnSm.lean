/-
  Summands of linear processes: readings, and what the laws' helper functions return and make.
-/
import Derived.Test.YtnfghgaadnobbaaGreatDoorHarnW
import Derived.Test.YtnfghgaadnobbaaGreatDoorHarnS
import Derived.Test.YtnfghgaadnobbaaGreatDoorLib3
import Derived.Deep.DeepCutAuto
namespace Go.Proofs.YtnfghgaadnobbaaGreatDoor
open Go.RowKit

structure Sm where
  sums : List Int
  guard : List Tm
  name : List UInt8
  args : List (List Tm)
  next : List (List Tm)
deriving DecidableEq
/-- its 5 cells. -/
def R_Sm : Rp Sm := fun fp w cs x => ∃ (v0 v1 v3 v4 : Value) (f0 f1 f3 f4 : List Nat), cs = [v0, v1, es x.name, v3, v4] ∧ R_I1 f0 w [v0] x.sums ∧ R_T1 f1 w [v1] x.guard ∧ R_T2 f3 w [v3] x.args ∧ R_T2 f4 w [v4] x.next ∧ fp = f0 ++ (f1 ++ (f3 ++ (f4)))
theorem R_Smk : Kept R_Sm := by
  constructor
  · rintro fp w cs x ⟨v0, v1, v3, v4, f0, f1, f3, f4, rfl, h0, h1, h3, h4, rfl⟩ b hb
    simp only [List.mem_append] at hb
    rcases hb with hb | hb | hb | hb
    · exact R_I1k.lt h0 b hb
    · exact R_T1k.lt h1 b hb
    · exact R_T2k.lt h3 b hb
    · exact R_T2k.lt h4 b hb
  · rintro fp w w' cs x ⟨v0, v1, v3, v4, f0, f1, f3, f4, rfl, h0, h1, h3, h4, rfl⟩ hs hb
    exact ⟨v0, v1, v3, v4, f0, f1, f3, f4, rfl, R_I1k.frame h0 hs (fun b h => hb b (by simp [h])), R_T1k.frame h1 hs (fun b h => hb b (by simp [h])), R_T2k.frame h3 hs (fun b h => hb b (by simp [h])), R_T2k.frame h4 hs (fun b h => hb b (by simp [h])), rfl⟩
def szF_Sm (x : Sm) : Int := szF_I1 x.sums + szF_T1 x.guard + (x.name.length : Int) + szF_T2 x.args + szF_T2 x.next
def mkF_Sm (x : Sm) : Int := mkF_I1 x.sums + mkF_T1 x.guard + 1 + mkF_T2 x.args + mkF_T2 x.next
theorem szF_Sm_nonneg (x : Sm) : 0 ≤ szF_Sm x := by have := szF_I1_nonneg x.sums; have := szF_T1_nonneg x.guard; have := szF_T2_nonneg x.args; have := szF_T2_nonneg x.next; unfold szF_Sm; omega
theorem mkF_Sm_nonneg (x : Sm) : 0 ≤ mkF_Sm x := by have := mkF_I1_nonneg x.sums; have := mkF_T1_nonneg x.guard; have := mkF_T2_nonneg x.args; have := mkF_T2_nonneg x.next; unfold mkF_Sm; omega
theorem mkF_Sm_le (x : Sm) : mkF_Sm x ≤ 16 * szF_Sm x + 1 := by have := mkF_I1_le x.sums; have := mkF_T1_le x.guard; have := mkF_T2_le x.args; have := mkF_T2_le x.next; unfold mkF_Sm szF_Sm; omega
/-- what each text's length is below. -/
def SmOk (x : Sm) : Prop := x.name.length ≤ 9223372036854775807

set_option maxRecDepth 20000 in
set_option maxHeartbeats 1600000 in
theorem sz_Sm (cs : List Value) (x : Sm) (left : Int) (w : World) (fp : List Nat) (hl : 0 ≤ left) (hl2 : left ≤ 1048576) (hR : R_Sm fp w cs x) (hS : SmOk x) :
    Calls Tryz.prog 25 #[.agg cs.toArray, .int .i64 left] w fun e w' => (∃ r : Int, e = .returned (.int .i64 r) ∧ (r = -1 ∨ (0 ≤ r ∧ r + szF_Sm x = left))) ∧ Upd [] w w' := by
  obtain ⟨v0, v1, v3, v4, f0, f1, f3, f4, rfl, h0, h1, h3, h4, rfl⟩ := hR
  obtain ⟨wA, hwA⟩ : ∃ wA, wA = w.alloc (.cells #[v0, v1, es x.name, v3, v4] 60) := ⟨_, rfl⟩
  obtain ⟨BA, hBA⟩ : ∃ BA, BA = w.heap.size := ⟨_, rfl⟩
  have uA : Upd [] w wA := by rw [hwA]; exact (Upd.refl _ _).alloc _
  have S0 := Lib.hid (fun (W : World) (hu : Upd [] w W) (l : Int) (q1 : 0 ≤ l) (q2 : l ≤ 1048576) => sz_I1 v0 x.sums l W f0 q1 q2 (R_I1k.upd h0 hu (by simp)))
  have S1 := Lib.hid (fun (W : World) (hu : Upd [] w W) (l : Int) (q1 : 0 ≤ l) (q2 : l ≤ 1048576) => sz_T1 v1 x.guard l W f1 q1 q2 (R_T1k.upd h1 hu (by simp)))
  have S3 := Lib.hid (fun (W : World) (hu : Upd [] w W) (l : Int) (q1 : 0 ≤ l) (q2 : l ≤ 1048576) => sz_T2 v3 x.args l W f3 q1 q2 (R_T2k.upd h3 hu (by simp)))
  have S4 := Lib.hid (fun (W : World) (hu : Upd [] w W) (l : Int) (q1 : 0 ≤ l) (q2 : l ≤ 1048576) => sz_T2 v4 x.next l W f4 q1 q2 (R_T2k.upd h4 hu (by simp)))
  have HC := Lib.hid (fun W (hu : Upd [] wA W) => show W.cell? ⟨BA, 0, none⟩ = some (v0) ∧ W.cell? ⟨BA, 1, none⟩ = some (v1) ∧ W.cell? ⟨BA, 2, none⟩ = some (es x.name) ∧ W.cell? ⟨BA, 3, none⟩ = some (v3) ∧ W.cell? ⟨BA, 4, none⟩ = some (v4) from
    ⟨hu.keep (by rw [hwA, hBA]; exact cell_new w _ _ _ rfl 0 _ rfl), hu.keep (by rw [hwA, hBA]; exact cell_new w _ _ _ rfl 1 _ rfl), hu.keep (by rw [hwA, hBA]; exact cell_new w _ _ _ rfl 2 _ rfl), hu.keep (by rw [hwA, hBA]; exact cell_new w _ _ _ rfl 3 _ rfl), hu.keep (by rw [hwA, hBA]; exact cell_new w _ _ _ rfl 4 _ rfl)⟩)
  have HZ := Lib.hid (show szF_Sm x = szF_I1 x.sums + szF_T1 x.guard + (x.name.length : Int) + szF_T2 x.args + szF_T2 x.next from rfl)
  have hs2 : x.name.length ≤ 9223372036854775807 := hS
  have hn0 := szF_I1_nonneg x.sums
  have hn1 := szF_T1_nonneg x.guard
  have hn3 := szF_T2_nonneg x.args
  have hn4 := szF_T2_nonneg x.next
  generalize szF_I1 x.sums = z0 at *
  generalize szF_T1 x.guard = z1 at *
  generalize szF_T2 x.args = z3 at *
  generalize szF_T2 x.next = z4 at *
  generalize x.name = t2 at *
  generalize szF_Sm x = ZZ at *
  obtain ⟨c0, c1, c2, c3, c4⟩ := HC.out wA (Upd.refl _ _)
  have HU := Lib.hid uA
  have HX := Lib.hid (Upd.refl [] wA)
  clear h0 h1 h3 h4 hS uA
  go_enter Tryz.func25, Tryz.ntmps25
  have T0 := Lib.hid (S0.out wA HU.out left hl hl2)
  clear S0
  go_wp2_with fail
  rw [← hwA, ← hBA]
  clear hwA hBA
  refine T0.out.mono ?_
  rintro e w0 ⟨⟨r, rfl, hr⟩, rfl⟩
  clear T0
  rcases hr with rfl | ⟨hge0, hr⟩
  · go_wp2_with fail
    go_ret
    exact ⟨⟨-1, rfl, Or.inl rfl⟩, HU.out⟩
  · have HR0 := Lib.hid hr
    have hle0 : r ≤ 1048576 := by omega
    clear hr
    generalize r = r0 at *
    have T1 := Lib.hid (S1.out wA HU.out r0 hge0 hle0)
    clear S1
    go_wp2_with fail
    refine T1.out.mono ?_
    rintro e w1 ⟨⟨r, rfl, hr⟩, rfl⟩
    clear T1
    rcases hr with rfl | ⟨hge1, hr⟩
    · go_wp2_with fail
      go_ret
      exact ⟨⟨-1, rfl, Or.inl rfl⟩, HU.out⟩
    · have HR1 := Lib.hid hr
      have hle1 : r ≤ 1048576 := by omega
      clear hr
      generalize r = r1 at *
      by_cases hlt2 : r1 - (t2.length : Int) < 0
      · go_wp2_with fail
        go_ret
        exact ⟨⟨-1, rfl, Or.inl rfl⟩, HU.out⟩
      · obtain ⟨r2, hr2⟩ : ∃ r2 : Int, r2 = r1 - (t2.length : Int) := ⟨_, rfl⟩
        have hge2 : 0 ≤ r2 := by omega
        have hle2 : r2 ≤ 1048576 := by omega
        have HR2 := Lib.hid hr2
        rw [← hr2] at hlt2
        have hse2 : r1 - (t2.length : Int) = r2 := hr2.symm
        clear hr2
        have T3 := Lib.hid (S3.out wA HU.out r2 hge2 hle2)
        clear S3
        go_wp2_with fail
        refine T3.out.mono ?_
        rintro e w3 ⟨⟨r, rfl, hr⟩, rfl⟩
        clear T3
        rcases hr with rfl | ⟨hge3, hr⟩
        · go_wp2_with fail
          go_ret
          exact ⟨⟨-1, rfl, Or.inl rfl⟩, HU.out⟩
        · have HR3 := Lib.hid hr
          have hle3 : r ≤ 1048576 := by omega
          clear hr
          generalize r = r3 at *
          have T4 := Lib.hid (S4.out wA HU.out r3 hge3 hle3)
          clear S4
          go_wp2_with fail
          refine T4.out.mono ?_
          rintro e w4 ⟨⟨r, rfl, hr⟩, rfl⟩
          clear T4
          rcases hr with rfl | ⟨hge4, hr⟩
          · go_wp2_with fail
            go_ret
            exact ⟨⟨-1, rfl, Or.inl rfl⟩, HU.out⟩
          · have HR4 := Lib.hid hr
            have hle4 : r ≤ 1048576 := by omega
            clear hr
            generalize r = r4 at *
            go_wp2_with fail
            go_ret
            exact ⟨⟨r4, rfl, Or.inr ⟨hge4, by rw [HZ.out]; have := HR0.out; have := HR1.out; have := HR2.out; have := HR3.out; have := HR4.out; omega⟩⟩, HU.out⟩

theorem Sm_size : (Tryz.prog.info? 48).map (·.size) = some 5 := by kernel_rfl
set_option maxRecDepth 20000 in
set_option maxHeartbeats 4000000 in
theorem to_Sm (cs : List Value) (x : Sm) (w : World) (fp : List Nat) (hl : szF_Sm x ≤ 1048576) (hR : R_Sm fp w cs x) :
    Calls Tryz.prog 33 #[.agg cs.toArray] w fun e w' => (∃ us, e = .returned (.agg us.toArray) ∧ us.length = 5 ∧ us.toArray.all (·.oneCell') = true ∧ NewQ R_Sm w w' us x) ∧ Upd [] w w' := by
  obtain ⟨v0, v1, v3, v4, f0, f1, f3, f4, rfl, h0, h1, h3, h4, rfl⟩ := hR
  have hn0 := szF_I1_nonneg x.sums
  have hn1 := szF_T1_nonneg x.guard
  have hn3 := szF_T2_nonneg x.args
  have hn4 := szF_T2_nonneg x.next
  unfold szF_Sm at hl
  have S0 := Lib.hid (fun (W : World) (hu : Upd [] w W) => to_I1 v0 x.sums W f0 (by omega) (R_I1k.upd h0 hu (by simp)))
  have S1 := Lib.hid (fun (W : World) (hu : Upd [] w W) => to_T1 v1 x.guard W f1 (by omega) (R_T1k.upd h1 hu (by simp)))
  have S3 := Lib.hid (fun (W : World) (hu : Upd [] w W) => to_T2 v3 x.args W f3 (by omega) (R_T2k.upd h3 hu (by simp)))
  have S4 := Lib.hid (fun (W : World) (hu : Upd [] w W) => to_T2 v4 x.next W f4 (by omega) (R_T2k.upd h4 hu (by simp)))
  obtain ⟨wA, hwA⟩ : ∃ wA, wA = ((w.alloc (.cells #[v0, v1, es x.name, v3, v4] 60)).alloc (.cells #[.slice none 0 0, .slice none 0 0, .string ⟨#[]⟩, .slice none 0 0, .slice none 0 0] 48)).alloc (.cells #[.slice none 0 0, .slice none 0 0, .string ⟨#[]⟩, .slice none 0 0, .slice none 0 0] 48) := ⟨_, rfl⟩
  obtain ⟨B, hB⟩ : ∃ B, B = w.heap.size := ⟨_, rfl⟩
  have H0 := Lib.hid (show Three w wA 60 48 B [v0, v1, es x.name, v3, v4] [.slice none 0 0, .slice none 0 0, .string ⟨#[]⟩, .slice none 0 0, .slice none 0 0] [.slice none 0 0, .slice none 0 0, .string ⟨#[]⟩, .slice none 0 0, .slice none 0 0] from by rw [hwA, hB]; exact Three.mk0 w _ _ _ _ _)
  clear h0 h1 h3 h4 hl hn0 hn1 hn3 hn4
  go_enter Tryz.func33, Tryz.ntmps33
  go_upto_region 2 with (fail)
  rw [← hwA, ← hB]
  clear hwA hB
  have T0 := Lib.hid (S0.out wA H0.out.upd)
  clear S0
  have p0 := H0.out.pc 0 _ rfl
  go_wp2_with fail
  refine T0.out.mono ?_
  rintro e w0 ⟨⟨u, rfl, hn⟩, hu⟩
  have G0 := Lib.hid (H0.out.call hu)
  have HN0 := Lib.hid hn
  have E0 := Lib.hid hu
  have hlo0 := H0.out.size
  have hhi0 := hu.size
  obtain ⟨m0, n0, rfl⟩ := New.form hn
  clear T0 p0 hn hu
  have q0 := G0.out.oc 0 _ rfl
  have z0 := G0.out.fz 0
  go_upto_region 3 with (fail)
  obtain ⟨W0, hW0⟩ : ∃ W0, W0 = w0.setCell ⟨B + 2, 0, none⟩ (.slice m0 x.sums.length n0) := ⟨_, rfl⟩
  rw [← hW0]
  have H1 := Lib.hid (show Three w W0 60 48 B [v0, v1, es x.name, v3, v4] [.slice none 0 0, .slice none 0 0, .string ⟨#[]⟩, .slice none 0 0, .slice none 0 0] _ from by rw [hW0]; exact G0.out.store 0 _)
  have D0 := Lib.hid (show Upd [B + 2] w0 W0 from by rw [hW0]; exact (Upd.refl _ _).setCell (Or.inr (by simp)) _)
  have ds0 := D0.out.size
  clear q0 z0 hW0
  have T1 := Lib.hid (S1.out W0 H1.out.upd)
  clear S1
  have p1 := H1.out.pc 1 _ rfl
  go_wp2_with fail
  refine T1.out.mono ?_
  rintro e w1 ⟨⟨u, rfl, hn⟩, hu⟩
  have G1 := Lib.hid (H1.out.call hu)
  have HN1 := Lib.hid hn
  have E1 := Lib.hid hu
  have hlo1 := H1.out.size
  have hhi1 := hu.size
  obtain ⟨m1, n1, rfl⟩ := New.form hn
  clear T1 p1 hn hu
  have q1 := G1.out.oc 1 _ rfl
  have z1 := G1.out.fz 1
  go_upto_region 4 with (fail)
  obtain ⟨W1, hW1⟩ : ∃ W1, W1 = w1.setCell ⟨B + 2, 1, none⟩ (.slice m1 x.guard.length n1) := ⟨_, rfl⟩
  rw [← hW1]
  have H2 := Lib.hid (show Three w W1 60 48 B [v0, v1, es x.name, v3, v4] [.slice none 0 0, .slice none 0 0, .string ⟨#[]⟩, .slice none 0 0, .slice none 0 0] _ from by rw [hW1]; exact G1.out.store 1 _)
  have D1 := Lib.hid (show Upd [B + 2] w1 W1 from by rw [hW1]; exact (Upd.refl _ _).setCell (Or.inr (by simp)) _)
  have ds1 := D1.out.size
  clear q1 z1 hW1
  have p2 := H2.out.pc 2 _ rfl
  have q2 := H2.out.oc 2 _ rfl
  have z2 := H2.out.fz 2
  go_upto_region 5 with (fail)
  obtain ⟨W2, hW2⟩ : ∃ W2, W2 = W1.setCell ⟨B + 2, 2, none⟩ (es x.name) := ⟨_, rfl⟩
  rw [← hW2]
  have H3 := Lib.hid (show Three w W2 60 48 B [v0, v1, es x.name, v3, v4] [.slice none 0 0, .slice none 0 0, .string ⟨#[]⟩, .slice none 0 0, .slice none 0 0] _ from by rw [hW2]; exact H2.out.store 2 _)
  have D2 := Lib.hid (show Upd [B + 2] W1 W2 from by rw [hW2]; exact (Upd.refl _ _).setCell (Or.inr (by simp)) _)
  have ds2 := D2.out.size
  clear p2 q2 z2 hW2
  have T3 := Lib.hid (S3.out W2 H3.out.upd)
  clear S3
  have p3 := H3.out.pc 3 _ rfl
  go_wp2_with fail
  refine T3.out.mono ?_
  rintro e w3 ⟨⟨u, rfl, hn⟩, hu⟩
  have G3 := Lib.hid (H3.out.call hu)
  have HN3 := Lib.hid hn
  have E3 := Lib.hid hu
  have hlo3 := H3.out.size
  have hhi3 := hu.size
  obtain ⟨m3, n3, rfl⟩ := New.formP hn
  clear T3 p3 hn hu
  have q3 := G3.out.oc 3 _ rfl
  have z3 := G3.out.fz 3
  go_upto_region 6 with (fail)
  obtain ⟨W3, hW3⟩ : ∃ W3, W3 = w3.setCell ⟨B + 2, 3, none⟩ (.slice m3 x.args.length n3) := ⟨_, rfl⟩
  rw [← hW3]
  have H4 := Lib.hid (show Three w W3 60 48 B [v0, v1, es x.name, v3, v4] [.slice none 0 0, .slice none 0 0, .string ⟨#[]⟩, .slice none 0 0, .slice none 0 0] _ from by rw [hW3]; exact G3.out.store 3 _)
  have D3 := Lib.hid (show Upd [B + 2] w3 W3 from by rw [hW3]; exact (Upd.refl _ _).setCell (Or.inr (by simp)) _)
  have ds3 := D3.out.size
  clear q3 z3 hW3
  have T4 := Lib.hid (S4.out W3 H4.out.upd)
  clear S4
  have p4 := H4.out.pc 4 _ rfl
  go_wp2_with fail
  refine T4.out.mono ?_
  rintro e w4 ⟨⟨u, rfl, hn⟩, hu⟩
  have G4 := Lib.hid (H4.out.call hu)
  have HN4 := Lib.hid hn
  have E4 := Lib.hid hu
  have hlo4 := H4.out.size
  have hhi4 := hu.size
  obtain ⟨m4, n4, rfl⟩ := New.formP hn
  clear T4 p4 hn hu
  have q4 := G4.out.oc 4 _ rfl
  have z4 := G4.out.fz 4
  go_upto_region 7 with (fail)
  obtain ⟨W4, hW4⟩ : ∃ W4, W4 = w4.setCell ⟨B + 2, 4, none⟩ (.slice m4 x.next.length n4) := ⟨_, rfl⟩
  rw [← hW4]
  have H5 := Lib.hid (show Three w W4 60 48 B [v0, v1, es x.name, v3, v4] [.slice none 0 0, .slice none 0 0, .string ⟨#[]⟩, .slice none 0 0, .slice none 0 0] _ from by rw [hW4]; exact G4.out.store 4 _)
  have D4 := Lib.hid (show Upd [B + 2] w4 W4 from by rw [hW4]; exact (Upd.refl _ _).setCell (Or.inr (by simp)) _)
  have ds4 := D4.out.size
  clear q4 z4 hW4
  have HF := Lib.hid (show Three w W4 60 48 B [v0, v1, es x.name, v3, v4] [.slice none 0 0, .slice none 0 0, .string ⟨#[]⟩, .slice none 0 0, .slice none 0 0] [.slice m0 x.sums.length n0, .slice m1 x.guard.length n1, es x.name, .slice m3 x.args.length n3, .slice m4 x.next.length n4] from H5.out)
  have hlast := HF.out.h2
  have hres := HF.out.h1
  clear G0 G1 G3 G4
  go_wp2_with (first
    | (refine wpList_load_row rfl 48 _ rfl (B + 2) rfl 48 #[.slice m0 x.sums.length n0, .slice m1 x.guard.length n1, es x.name, .slice m3 x.args.length n3, .slice m4 x.next.length n4] (0, 0) _ hlast Tryz.underlying48 rfl Sm_size ?_)
    | (refine wpList_store_row rfl 48 _ _ rfl (B + 1) #[.slice m0 x.sums.length n0, .slice m1 x.guard.length n1, es x.name, .slice m3 x.args.length n3, .slice m4 x.next.length n4] rfl rfl 48 _ hres Sm_size rfl (by simp [Value.oneCell']) ?_)
    | fail)
  have hC := setRow_heap W4 (B + 1) _ #[.slice m0 x.sums.length n0, .slice m1 x.guard.length n1, es x.name, .slice m3 x.args.length n3, .slice m4 x.next.length n4] _ _ hres
  refine bodyPost_ret (results_cell_row Tryz.results33 _ _ (B + 1) 48 _ (0, 0) _ rfl hC Tryz.underlying48 rfl Sm_size) rfl ?_
  have hb := HF.out.base
  have UE : Upd [] w (W4.setRow (B + 1) #[.slice m0 x.sums.length n0, .slice m1 x.guard.length n1, es x.name, .slice m3 x.args.length n3, .slice m4 x.next.length n4]) := HF.out.upd.row (Or.inl (by omega)) _
  refine ⟨⟨[.slice m0 x.sums.length n0, .slice m1 x.guard.length n1, es x.name, .slice m3 x.args.length n3, .slice m4 x.next.length n4], rfl, rfl, by simp [Value.oneCell'], ?_⟩, UE⟩
  obtain ⟨g0, P0⟩ := Part.of R_I1k HN0.out
  have P0 := P0.upd R_I1k D0.out (by intro b hb; simp at hb; omega)
  have P0 := P0.upd R_I1k (show Upd [] W0 w1 from E1.out) (by simp)
  have P0 := P0.upd R_I1k D1.out (by intro b hb; simp at hb; omega)
  have P0 := P0.upd R_I1k D2.out (by intro b hb; simp at hb; omega)
  have P0 := P0.upd R_I1k (show Upd [] W2 w3 from E3.out) (by simp)
  have P0 := P0.upd R_I1k D3.out (by intro b hb; simp at hb; omega)
  have P0 := P0.upd R_I1k (show Upd [] W3 w4 from E4.out) (by simp)
  have P0 := P0.upd R_I1k D4.out (by intro b hb; simp at hb; omega)
  have P0 := P0.upd R_I1k (show Upd [B + 1] W4 (W4.setRow (B + 1) #[.slice m0 x.sums.length n0, .slice m1 x.guard.length n1, es x.name, .slice m3 x.args.length n3, .slice m4 x.next.length n4]) from (Upd.refl _ _).row (Or.inr (by simp)) _) (by intro b hb; simp at hb; omega)
  obtain ⟨g1, P1⟩ := Part.of R_T1k HN1.out
  have P1 := P1.upd R_T1k D1.out (by intro b hb; simp at hb; omega)
  have P1 := P1.upd R_T1k D2.out (by intro b hb; simp at hb; omega)
  have P1 := P1.upd R_T1k (show Upd [] W2 w3 from E3.out) (by simp)
  have P1 := P1.upd R_T1k D3.out (by intro b hb; simp at hb; omega)
  have P1 := P1.upd R_T1k (show Upd [] W3 w4 from E4.out) (by simp)
  have P1 := P1.upd R_T1k D4.out (by intro b hb; simp at hb; omega)
  have P1 := P1.upd R_T1k (show Upd [B + 1] W4 (W4.setRow (B + 1) #[.slice m0 x.sums.length n0, .slice m1 x.guard.length n1, es x.name, .slice m3 x.args.length n3, .slice m4 x.next.length n4]) from (Upd.refl _ _).row (Or.inr (by simp)) _) (by intro b hb; simp at hb; omega)
  obtain ⟨g3, P3⟩ := Part.of R_T2k HN3.out
  have P3 := P3.upd R_T2k D3.out (by intro b hb; simp at hb; omega)
  have P3 := P3.upd R_T2k (show Upd [] W3 w4 from E4.out) (by simp)
  have P3 := P3.upd R_T2k D4.out (by intro b hb; simp at hb; omega)
  have P3 := P3.upd R_T2k (show Upd [B + 1] W4 (W4.setRow (B + 1) #[.slice m0 x.sums.length n0, .slice m1 x.guard.length n1, es x.name, .slice m3 x.args.length n3, .slice m4 x.next.length n4]) from (Upd.refl _ _).row (Or.inr (by simp)) _) (by intro b hb; simp at hb; omega)
  obtain ⟨g4, P4⟩ := Part.of R_T2k HN4.out
  have P4 := P4.upd R_T2k D4.out (by intro b hb; simp at hb; omega)
  have P4 := P4.upd R_T2k (show Upd [B + 1] W4 (W4.setRow (B + 1) #[.slice m0 x.sums.length n0, .slice m1 x.guard.length n1, es x.name, .slice m3 x.args.length n3, .slice m4 x.next.length n4]) from (Upd.refl _ _).row (Or.inr (by simp)) _) (by intro b hb; simp at hb; omega)
  refine ⟨g0 ++ (g1 ++ (g3 ++ (g4))), ⟨_, _, _, _, g0, g1, g3, g4, rfl, P0.r, P1.r, P3.r, P4.r, rfl⟩, ?_, ?_⟩
  · exact own_join P0.o (own_join P1.o (own_join P3.o (P4.o) (fun b hb hc => by have := P3.b b hb; have := P4.b b hc; omega)) (fun b hb hc => by
        have := P1.b b hb
        simp only [List.mem_append] at hc
        rcases hc with hc | hc
        · have := P3.b b hc; omega
        · have := P4.b b hc; omega
        )) (fun b hb hc => by
        have := P0.b b hb
        simp only [List.mem_append] at hc
        rcases hc with hc | hc | hc
        · have := P1.b b hc; omega
        · have := P3.b b hc; omega
        · have := P4.b b hc; omega
        )
  · intro b hb
    simp only [List.mem_append] at hb
    rcases hb with hb | hb | hb | hb
    · have := P0.b b hb; omega
    · have := P1.b b hb; omega
    · have := P3.b b hb; omega
    · have := P4.b b hb; omega

set_option maxRecDepth 20000 in
set_option maxHeartbeats 2000000 in
theorem eq_Sm (cs ds : List Value) (x : Sm) (w : World) (fp fp2 : List Nat) (hA : R_Sm fp w cs x) (hB : R_Sm fp2 w ds x) :
    Calls Tryz.prog 48 #[.agg cs.toArray, .agg ds.toArray] w fun e w' => e = .returned (.bool true) ∧ Upd [] w w' := by
  obtain ⟨v0, v1, v3, v4, f0, f1, f3, f4, rfl, h0, h1, h3, h4, rfl⟩ := hA
  obtain ⟨u0, u1, u3, u4, g0, g1, g3, g4, rfl, k0, k1, k3, k4, rfl⟩ := hB
  obtain ⟨wA, hwA⟩ : ∃ wA, wA = w.alloc (.cells #[v0, v1, es x.name, v3, v4] 48) := ⟨_, rfl⟩
  obtain ⟨wB, hwB⟩ : ∃ wB, wB = wA.alloc (.cells #[u0, u1, es x.name, u3, u4] 48) := ⟨_, rfl⟩
  obtain ⟨BA, hBA⟩ : ∃ BA, BA = w.heap.size := ⟨_, rfl⟩
  have sA : wA.heap.size = BA + 1 := by rw [hwA, hBA]; simp
  have uA : Upd [] w wA := by rw [hwA]; exact (Upd.refl _ _).alloc _
  have uB : Upd [] wA wB := by rw [hwB]; exact (Upd.refl _ _).alloc _
  have HC := Lib.hid (fun W (hu : Upd [] wB W) => show W.cell? ⟨BA, 0, none⟩ = some (v0) ∧ W.cell? ⟨BA + 1, 0, none⟩ = some (u0) ∧ W.cell? ⟨BA, 1, none⟩ = some (v1) ∧ W.cell? ⟨BA + 1, 1, none⟩ = some (u1) ∧ W.cell? ⟨BA, 2, none⟩ = some (es x.name) ∧ W.cell? ⟨BA + 1, 2, none⟩ = some (es x.name) ∧ W.cell? ⟨BA, 3, none⟩ = some (v3) ∧ W.cell? ⟨BA + 1, 3, none⟩ = some (u3) ∧ W.cell? ⟨BA, 4, none⟩ = some (v4) ∧ W.cell? ⟨BA + 1, 4, none⟩ = some (u4) from
    ⟨hu.keep (uB.keep (by rw [hwA, hBA]; exact cell_new w _ _ _ rfl 0 _ rfl)), hu.keep (by rw [hwB]; exact cell_new wA _ _ _ sA 0 _ rfl), hu.keep (uB.keep (by rw [hwA, hBA]; exact cell_new w _ _ _ rfl 1 _ rfl)), hu.keep (by rw [hwB]; exact cell_new wA _ _ _ sA 1 _ rfl), hu.keep (uB.keep (by rw [hwA, hBA]; exact cell_new w _ _ _ rfl 2 _ rfl)), hu.keep (by rw [hwB]; exact cell_new wA _ _ _ sA 2 _ rfl), hu.keep (uB.keep (by rw [hwA, hBA]; exact cell_new w _ _ _ rfl 3 _ rfl)), hu.keep (by rw [hwB]; exact cell_new wA _ _ _ sA 3 _ rfl), hu.keep (uB.keep (by rw [hwA, hBA]; exact cell_new w _ _ _ rfl 4 _ rfl)), hu.keep (by rw [hwB]; exact cell_new wA _ _ _ sA 4 _ rfl)⟩)
  have S0 := Lib.hid (fun W (hu : Upd [] w W) => show Calls Tryz.prog 23 #[v0, u0] W (fun e w' => e = .returned (.bool true) ∧ Upd [] W w') from by
    have := eq_I1 v0 u0 x.sums x.sums W f0 g0 (R_I1k.upd h0 hu (by simp)) (R_I1k.upd k0 hu (by simp))
    rw [show (x.sums == x.sums) = true by simp] at this
    exact this)
  have S1 := Lib.hid (fun W (hu : Upd [] w W) => show Calls Tryz.prog 74 #[v1, u1] W (fun e w' => e = .returned (.bool true) ∧ Upd [] W w') from by
    have := eq_T1 v1 u1 x.guard x.guard W f1 g1 (R_T1k.upd h1 hu (by simp)) (R_T1k.upd k1 hu (by simp))
    rw [show (x.guard == x.guard) = true by simp] at this
    exact this)
  have S3 := Lib.hid (fun W (hu : Upd [] w W) => show Calls Tryz.prog 75 #[v3, u3] W (fun e w' => e = .returned (.bool true) ∧ Upd [] W w') from by
    have := eq_T2 v3 u3 x.args x.args W f3 g3 (R_T2k.upd h3 hu (by simp)) (R_T2k.upd k3 hu (by simp))
    rw [show (x.args == x.args) = true by simp] at this
    exact this)
  have S4 := Lib.hid (fun W (hu : Upd [] w W) => show Calls Tryz.prog 75 #[v4, u4] W (fun e w' => e = .returned (.bool true) ∧ Upd [] W w') from by
    have := eq_T2 v4 u4 x.next x.next W f4 g4 (R_T2k.upd h4 hu (by simp)) (R_T2k.upd k4 hu (by simp))
    rw [show (x.next == x.next) = true by simp] at this
    exact this)
  have HU := Lib.hid (uA.trans uB)
  have HX := Lib.hid (Upd.refl [] wB)
  obtain ⟨c0, d0, c1, d1, c2, d2, c3, d3, c4, d4⟩ := HC.out wB (Upd.refl _ _)
  generalize x.name = t2 at *
  have b2 : (t2 != t2) = false := by simp
  clear h0 k0 h1 k1 h3 k3 h4 k4 uA uB sA
  go_enter Tryz.func48, Tryz.ntmps48
  have T0 := Lib.hid (S0.out wB HU.out)
  clear S0
  go_wp2_with fail
  rw [← hwA, ← hwB, ← hBA]
  clear hwA hwB hBA
  refine T0.out.mono ?_
  rintro e w0 ⟨rfl, hu⟩
  have HU := Lib.hid (HU.out.trans hu)
  have HX := Lib.hid (HX.out.trans hu)
  obtain ⟨c0, d0, c1, d1, c2, d2, c3, d3, c4, d4⟩ := HC.out w0 HX.out
  clear T0 hu
  have T1 := Lib.hid (S1.out w0 HU.out)
  clear S1
  go_wp2_with fail
  refine T1.out.mono ?_
  rintro e w1 ⟨rfl, hu⟩
  have HU := Lib.hid (HU.out.trans hu)
  have HX := Lib.hid (HX.out.trans hu)
  obtain ⟨c0, d0, c1, d1, c2, d2, c3, d3, c4, d4⟩ := HC.out w1 HX.out
  clear T1 hu
  have T3 := Lib.hid (S3.out w1 HU.out)
  clear S3
  go_wp2_with fail
  refine T3.out.mono ?_
  rintro e w3 ⟨rfl, hu⟩
  have HU := Lib.hid (HU.out.trans hu)
  have HX := Lib.hid (HX.out.trans hu)
  obtain ⟨c0, d0, c1, d1, c2, d2, c3, d3, c4, d4⟩ := HC.out w3 HX.out
  clear T3 hu
  have T4 := Lib.hid (S4.out w3 HU.out)
  clear S4
  go_wp2_with fail
  refine T4.out.mono ?_
  rintro e w4 ⟨rfl, hu⟩
  have HU := Lib.hid (HU.out.trans hu)
  have HX := Lib.hid (HX.out.trans hu)
  obtain ⟨c0, d0, c1, d1, c2, d2, c3, d3, c4, d4⟩ := HC.out w4 HX.out
  clear T4 hu
  go_wp2_with fail
  go_ret
  exact ⟨rfl, HU.out⟩

end Go.Proofs.YtnfghgaadnobbaaGreatDoor
