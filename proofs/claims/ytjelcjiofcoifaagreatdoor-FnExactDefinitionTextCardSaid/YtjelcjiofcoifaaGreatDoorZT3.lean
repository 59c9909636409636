/-
  Texts joined in one file: HarnPa, HarnPa1, HarnDe, HarnDe1, DfB, DfS, DfSc, DfU, DfW, DfI, DfE, DfF, DfR.
-/
import Derived.Test.YtjelcjiofcoifaaGreatDoorZT1
import Derived.Test.YtjelcjiofcoifaaGreatDoorZT2
import Derived.Deep.DeepCutAuto
import Derived.Deep.RegionLaw
import Derived.Deep.RegionHeld3
import Derived.Deep.AppendLies
import Derived.Laws.EntriesVeiled
/-
  Parts of bodies: readings, and what the laws' helper functions return and make.
-/
namespace Go.Proofs.YtjelcjiofcoifaaGreatDoor
open Go.RowKit

/-- its 4 cells. -/
def R_Pa : Rp Pa := fun fp w cs x => ∃ (v3 : Value) (f3 : List Nat), cs = [ei x.kind, ei x.num, es x.name, v3] ∧ R_T2 f3 w [v3] x.args ∧ fp = f3 ++ []
theorem R_Pak : Kept R_Pa := by
  constructor
  · rintro fp w cs x ⟨v3, f3, rfl, h3, rfl⟩ b hb
    exact R_T2k.lt h3 b (by simpa using hb)
  · rintro fp w w' cs x ⟨v3, f3, rfl, h3, rfl⟩ hs hb
    exact ⟨v3, f3, rfl, R_T2k.frame h3 hs (fun b h => hb b (by simp [h])), rfl⟩
def szF_Pa (x : Pa) : Int := (x.name.length : Int) + szF_T2 x.args
def mkF_Pa (x : Pa) : Int := 1 + 1 + 1 + mkF_T2 x.args
theorem szF_Pa_nonneg (x : Pa) : 0 ≤ szF_Pa x := by have := szF_T2_nonneg x.args; unfold szF_Pa; omega
/-- what each text's length is below. -/
def PaOk (x : Pa) : Prop := x.name.length ≤ 9223372036854775807

set_option maxRecDepth 20000 in
set_option maxHeartbeats 1600000 in
theorem sz_Pa (cs : List Value) (x : Pa) (left : Int) (w : World) (fp : List Nat) (hl : 0 ≤ left) (hl2 : left ≤ 1048576) (hR : R_Pa fp w cs x) (hS : PaOk x) :
    Calls Tryz.prog 79 #[.agg cs.toArray, .int .i64 left] w fun e w' => (∃ r : Int, e = .returned (.int .i64 r) ∧ (r = -1 ∨ (0 ≤ r ∧ r + szF_Pa x = left))) ∧ Upd [] w w' := by
  obtain ⟨v3, f3, rfl, h3, rfl⟩ := hR
  obtain ⟨wA, hwA⟩ : ∃ wA, wA = w.alloc (.cells #[ei x.kind, ei x.num, es x.name, v3] 127) := ⟨_, rfl⟩
  obtain ⟨BA, hBA⟩ : ∃ BA, BA = w.heap.size := ⟨_, rfl⟩
  have uA : Upd [] w wA := by rw [hwA]; exact (Upd.refl _ _).alloc _
  have S3 := Lib.hid (fun (W : World) (hu : Upd [] w W) (l : Int) (q1 : 0 ≤ l) (q2 : l ≤ 1048576) => sz_T2 v3 x.args l W f3 q1 q2 (R_T2k.upd h3 hu (by simp)))
  have HC := Lib.hid (fun W (hu : Upd [] wA W) => show W.cell? ⟨BA, 2, none⟩ = some (es x.name) ∧ W.cell? ⟨BA, 3, none⟩ = some (v3) from
    ⟨hu.keep (by rw [hwA, hBA]; exact cell_new w _ _ _ rfl 2 _ rfl), hu.keep (by rw [hwA, hBA]; exact cell_new w _ _ _ rfl 3 _ rfl)⟩)
  have HZ := Lib.hid (show szF_Pa x = (x.name.length : Int) + szF_T2 x.args from rfl)
  have hs2 : x.name.length ≤ 9223372036854775807 := hS
  have hn3 := szF_T2_nonneg x.args
  generalize szF_T2 x.args = z3 at *
  generalize x.name = t2 at *
  generalize szF_Pa x = ZZ at *
  obtain ⟨c2, c3⟩ := HC.out wA (Upd.refl _ _)
  have HU := Lib.hid uA
  have HX := Lib.hid (Upd.refl [] wA)
  clear h3 hS uA
  go_enter Tryz.func79, Tryz.ntmps79
  go_upto_region 1 with (fail)
  rw [← hwA, ← hBA]
  clear hwA hBA
  by_cases hlt2 : left - (t2.length : Int) < 0
  · go_wp2_with fail
    go_ret
    exact ⟨⟨-1, rfl, Or.inl rfl⟩, HU.out⟩
  · obtain ⟨r2, hr2⟩ : ∃ r2 : Int, r2 = left - (t2.length : Int) := ⟨_, rfl⟩
    have hge2 : 0 ≤ r2 := by omega
    have hle2 : r2 ≤ 1048576 := by omega
    have HR2 := Lib.hid hr2
    rw [← hr2] at hlt2
    have hse2 : left - (t2.length : Int) = r2 := hr2.symm
    clear hr2
    have T3 := Lib.hid (S3.out wA HU.out r2 hge2 hle2)
    clear S3
    go_wp2_with fail
    refine T3.out.mono ?_
    rintro e w3 ⟨⟨r, rfl, hr⟩, rfl⟩
    clear T3
    rcases hr with rfl | ⟨hge3, hr⟩
    · go_wp2_with fail
      go_ret
      exact ⟨⟨-1, rfl, Or.inl rfl⟩, HU.out⟩
    · have HR3 := Lib.hid hr
      have hle3 : r ≤ 1048576 := by omega
      clear hr
      generalize r = r3 at *
      go_wp2_with fail
      go_ret
      exact ⟨⟨r3, rfl, Or.inr ⟨hge3, by rw [HZ.out]; have := HR2.out; have := HR3.out; omega⟩⟩, HU.out⟩

theorem Pa_size : (Tryz.prog.info? 134).map (·.size) = some 4 := by kernel_rfl
set_option maxRecDepth 20000 in
set_option maxHeartbeats 4000000 in
theorem to_Pa (cs : List Value) (x : Pa) (w : World) (fp : List Nat) (hl : szF_Pa x ≤ 1048576) (hR : R_Pa fp w cs x) :
    Calls Tryz.prog 87 #[.agg cs.toArray] w fun e w' => (∃ us, e = .returned (.agg us.toArray) ∧ us.length = 4 ∧ us.toArray.all (·.oneCell') = true ∧ NewQ R_Pa w w' us x) ∧ Upd [] w w' := by
  obtain ⟨v3, f3, rfl, h3, rfl⟩ := hR
  have hn3 := szF_T2_nonneg x.args
  unfold szF_Pa at hl
  have S3 := Lib.hid (fun (W : World) (hu : Upd [] w W) => to_T2 v3 x.args W f3 (by omega) (R_T2k.upd h3 hu (by simp)))
  obtain ⟨wA, hwA⟩ : ∃ wA, wA = ((w.alloc (.cells #[ei x.kind, ei x.num, es x.name, v3] 127)).alloc (.cells #[.int .i64 0, .int .i64 0, .string ⟨#[]⟩, .slice none 0 0] 134)).alloc (.cells #[.int .i64 0, .int .i64 0, .string ⟨#[]⟩, .slice none 0 0] 134) := ⟨_, rfl⟩
  obtain ⟨B, hB⟩ : ∃ B, B = w.heap.size := ⟨_, rfl⟩
  have H0 := Lib.hid (show Three w wA 127 134 B [ei x.kind, ei x.num, es x.name, v3] [.int .i64 0, .int .i64 0, .string ⟨#[]⟩, .slice none 0 0] [.int .i64 0, .int .i64 0, .string ⟨#[]⟩, .slice none 0 0] from by rw [hwA, hB]; exact Three.mk0 w _ _ _ _ _)
  clear h3 hl hn3
  go_enter Tryz.func87, Tryz.ntmps87
  go_upto_region 2 with (fail)
  rw [← hwA, ← hB]
  clear hwA hB
  have p0 := H0.out.pc 0 _ rfl
  have q0 := H0.out.oc 0 _ rfl
  have z0 := H0.out.fz 0
  go_upto_region 3 with (fail)
  obtain ⟨W0, hW0⟩ : ∃ W0, W0 = wA.setCell ⟨B + 2, 0, none⟩ (ei x.kind) := ⟨_, rfl⟩
  rw [← hW0]
  have H1 := Lib.hid (show Three w W0 127 134 B [ei x.kind, ei x.num, es x.name, v3] [.int .i64 0, .int .i64 0, .string ⟨#[]⟩, .slice none 0 0] _ from by rw [hW0]; exact H0.out.store 0 _)
  have D0 := Lib.hid (show Upd [B + 2] wA W0 from by rw [hW0]; exact (Upd.refl _ _).setCell (Or.inr (by simp)) _)
  have ds0 := D0.out.size
  clear p0 q0 z0 hW0
  have p1 := H1.out.pc 1 _ rfl
  have q1 := H1.out.oc 1 _ rfl
  have z1 := H1.out.fz 1
  go_upto_region 4 with (fail)
  obtain ⟨W1, hW1⟩ : ∃ W1, W1 = W0.setCell ⟨B + 2, 1, none⟩ (ei x.num) := ⟨_, rfl⟩
  rw [← hW1]
  have H2 := Lib.hid (show Three w W1 127 134 B [ei x.kind, ei x.num, es x.name, v3] [.int .i64 0, .int .i64 0, .string ⟨#[]⟩, .slice none 0 0] _ from by rw [hW1]; exact H1.out.store 1 _)
  have D1 := Lib.hid (show Upd [B + 2] W0 W1 from by rw [hW1]; exact (Upd.refl _ _).setCell (Or.inr (by simp)) _)
  have ds1 := D1.out.size
  clear p1 q1 z1 hW1
  have p2 := H2.out.pc 2 _ rfl
  have q2 := H2.out.oc 2 _ rfl
  have z2 := H2.out.fz 2
  go_upto_region 5 with (fail)
  obtain ⟨W2, hW2⟩ : ∃ W2, W2 = W1.setCell ⟨B + 2, 2, none⟩ (es x.name) := ⟨_, rfl⟩
  rw [← hW2]
  have H3 := Lib.hid (show Three w W2 127 134 B [ei x.kind, ei x.num, es x.name, v3] [.int .i64 0, .int .i64 0, .string ⟨#[]⟩, .slice none 0 0] _ from by rw [hW2]; exact H2.out.store 2 _)
  have D2 := Lib.hid (show Upd [B + 2] W1 W2 from by rw [hW2]; exact (Upd.refl _ _).setCell (Or.inr (by simp)) _)
  have ds2 := D2.out.size
  clear p2 q2 z2 hW2
  have T3 := Lib.hid (S3.out W2 H3.out.upd)
  clear S3
  have p3 := H3.out.pc 3 _ rfl
  go_wp2_with fail
  refine T3.out.mono ?_
  rintro e w3 ⟨⟨u, rfl, hn⟩, hu⟩
  have G3 := Lib.hid (H3.out.call hu)
  have HN3 := Lib.hid hn
  have E3 := Lib.hid hu
  have hlo3 := H3.out.size
  have hhi3 := hu.size
  obtain ⟨m3, n3, rfl⟩ := New.formP hn
  clear T3 p3 hn hu
  have q3 := G3.out.oc 3 _ rfl
  have z3 := G3.out.fz 3
  go_upto_region 6 with (fail)
  obtain ⟨W3, hW3⟩ : ∃ W3, W3 = w3.setCell ⟨B + 2, 3, none⟩ (.slice m3 x.args.length n3) := ⟨_, rfl⟩
  rw [← hW3]
  have H4 := Lib.hid (show Three w W3 127 134 B [ei x.kind, ei x.num, es x.name, v3] [.int .i64 0, .int .i64 0, .string ⟨#[]⟩, .slice none 0 0] _ from by rw [hW3]; exact G3.out.store 3 _)
  have D3 := Lib.hid (show Upd [B + 2] w3 W3 from by rw [hW3]; exact (Upd.refl _ _).setCell (Or.inr (by simp)) _)
  have ds3 := D3.out.size
  clear q3 z3 hW3
  have HF := Lib.hid (show Three w W3 127 134 B [ei x.kind, ei x.num, es x.name, v3] [.int .i64 0, .int .i64 0, .string ⟨#[]⟩, .slice none 0 0] [ei x.kind, ei x.num, es x.name, .slice m3 x.args.length n3] from H4.out)
  have hlast := HF.out.h2
  have hres := HF.out.h1
  clear G3
  go_wp2_with (first
    | (refine wpList_load_row rfl 134 _ rfl (B + 2) rfl 134 #[ei x.kind, ei x.num, es x.name, .slice m3 x.args.length n3] (0, 0) _ hlast Tryz.underlying134 rfl Pa_size ?_)
    | (refine wpList_store_row rfl 134 _ _ rfl (B + 1) #[ei x.kind, ei x.num, es x.name, .slice m3 x.args.length n3] rfl rfl 134 _ hres Pa_size rfl (by simp [Value.oneCell']) ?_)
    | fail)
  have hC := setRow_heap W3 (B + 1) _ #[ei x.kind, ei x.num, es x.name, .slice m3 x.args.length n3] _ _ hres
  refine bodyPost_ret (results_cell_row Tryz.results87 _ _ (B + 1) 134 _ (0, 0) _ rfl hC Tryz.underlying134 rfl Pa_size) rfl ?_
  have hb := HF.out.base
  have UE : Upd [] w (W3.setRow (B + 1) #[ei x.kind, ei x.num, es x.name, .slice m3 x.args.length n3]) := HF.out.upd.row (Or.inl (by omega)) _
  refine ⟨⟨[ei x.kind, ei x.num, es x.name, .slice m3 x.args.length n3], rfl, rfl, by simp [Value.oneCell'], ?_⟩, UE⟩
  obtain ⟨g3, P3⟩ := Part.of R_T2k HN3.out
  have P3 := P3.upd R_T2k D3.out (by intro b hb; simp at hb; omega)
  have P3 := P3.upd R_T2k (show Upd [B + 1] W3 (W3.setRow (B + 1) #[ei x.kind, ei x.num, es x.name, .slice m3 x.args.length n3]) from (Upd.refl _ _).row (Or.inr (by simp)) _) (by intro b hb; simp at hb; omega)
  refine ⟨g3 ++ [], ⟨_, g3, rfl, P3.r, rfl⟩, ?_, ?_⟩
  · simpa using P3.o
  · intro b hb
    simp only [List.append_nil] at hb
    rcases hb with hb
    · have := P3.b b hb; omega

set_option maxRecDepth 20000 in
set_option maxHeartbeats 2000000 in
theorem eq_Pa (cs ds : List Value) (x : Pa) (w : World) (fp fp2 : List Nat) (hA : R_Pa fp w cs x) (hB : R_Pa fp2 w ds x) :
    Calls Tryz.prog 101 #[.agg cs.toArray, .agg ds.toArray] w fun e w' => e = .returned (.bool true) ∧ Upd [] w w' := by
  obtain ⟨v3, f3, rfl, h3, rfl⟩ := hA
  obtain ⟨u3, g3, rfl, k3, rfl⟩ := hB
  obtain ⟨wA, hwA⟩ : ∃ wA, wA = w.alloc (.cells #[ei x.kind, ei x.num, es x.name, v3] 134) := ⟨_, rfl⟩
  obtain ⟨wB, hwB⟩ : ∃ wB, wB = wA.alloc (.cells #[ei x.kind, ei x.num, es x.name, u3] 134) := ⟨_, rfl⟩
  obtain ⟨BA, hBA⟩ : ∃ BA, BA = w.heap.size := ⟨_, rfl⟩
  have sA : wA.heap.size = BA + 1 := by rw [hwA, hBA]; simp
  have uA : Upd [] w wA := by rw [hwA]; exact (Upd.refl _ _).alloc _
  have uB : Upd [] wA wB := by rw [hwB]; exact (Upd.refl _ _).alloc _
  have HC := Lib.hid (fun W (hu : Upd [] wB W) => show W.cell? ⟨BA, 0, none⟩ = some (ei x.kind) ∧ W.cell? ⟨BA + 1, 0, none⟩ = some (ei x.kind) ∧ W.cell? ⟨BA, 1, none⟩ = some (ei x.num) ∧ W.cell? ⟨BA + 1, 1, none⟩ = some (ei x.num) ∧ W.cell? ⟨BA, 2, none⟩ = some (es x.name) ∧ W.cell? ⟨BA + 1, 2, none⟩ = some (es x.name) ∧ W.cell? ⟨BA, 3, none⟩ = some (v3) ∧ W.cell? ⟨BA + 1, 3, none⟩ = some (u3) from
    ⟨hu.keep (uB.keep (by rw [hwA, hBA]; exact cell_new w _ _ _ rfl 0 _ rfl)), hu.keep (by rw [hwB]; exact cell_new wA _ _ _ sA 0 _ rfl), hu.keep (uB.keep (by rw [hwA, hBA]; exact cell_new w _ _ _ rfl 1 _ rfl)), hu.keep (by rw [hwB]; exact cell_new wA _ _ _ sA 1 _ rfl), hu.keep (uB.keep (by rw [hwA, hBA]; exact cell_new w _ _ _ rfl 2 _ rfl)), hu.keep (by rw [hwB]; exact cell_new wA _ _ _ sA 2 _ rfl), hu.keep (uB.keep (by rw [hwA, hBA]; exact cell_new w _ _ _ rfl 3 _ rfl)), hu.keep (by rw [hwB]; exact cell_new wA _ _ _ sA 3 _ rfl)⟩)
  have S3 := Lib.hid (fun W (hu : Upd [] w W) => show Calls Tryz.prog 137 #[v3, u3] W (fun e w' => e = .returned (.bool true) ∧ Upd [] W w') from by
    have := eq_T2 v3 u3 x.args x.args W f3 g3 (R_T2k.upd h3 hu (by simp)) (R_T2k.upd k3 hu (by simp))
    rw [show (x.args == x.args) = true by simp] at this
    exact this)
  have HU := Lib.hid (uA.trans uB)
  have HX := Lib.hid (Upd.refl [] wB)
  obtain ⟨c0, d0, c1, d1, c2, d2, c3, d3⟩ := HC.out wB (Upd.refl _ _)
  generalize x.kind = t0 at *
  have b0 : (t0 != t0) = false := by simp
  generalize x.num = t1 at *
  have b1 : (t1 != t1) = false := by simp
  generalize x.name = t2 at *
  have b2 : (t2 != t2) = false := by simp
  clear h3 k3 uA uB sA
  go_enter Tryz.func101, Tryz.ntmps101
  go_upto_region 1 with (fail)
  rw [← hwA, ← hwB, ← hBA]
  clear hwA hwB hBA
  have T3 := Lib.hid (S3.out wB HU.out)
  clear S3
  go_wp2_with fail
  refine T3.out.mono ?_
  rintro e w3 ⟨rfl, hu⟩
  have HU := Lib.hid (HU.out.trans hu)
  have HX := Lib.hid (HX.out.trans hu)
  obtain ⟨c0, d0, c1, d1, c2, d2, c3, d3⟩ := HC.out w3 HX.out
  clear T3 hu
  go_wp2_with fail
  go_ret
  exact ⟨rfl, HU.out⟩

end Go.Proofs.YtjelcjiofcoifaaGreatDoor

/-
  Bodies: readings, and what the laws' helper functions return and make.
-/
namespace Go.Proofs.YtjelcjiofcoifaaGreatDoor
open Go.RowKit


abbrev R_Pa1 : Rp (List Pa) := slQ 4 R_Pa
theorem R_Pa1k : Kept R_Pa1 := slQ_kept R_Pak
def szF_Pa1 (xs : List Pa) : Int := xs.length + (xs.map szF_Pa).sum
def mkF_Pa1 (xs : List Pa) : Int := (xs.map mkF_Pa).sum
def Pa1Ok (xs : List Pa) : Prop := ∀ x ∈ xs, PaOk x
theorem szF_Pa1_sum (xs : List Pa) : 0 ≤ (xs.map szF_Pa).sum := by
  induction xs with
  | nil => simp
  | cons r rs ih => simp only [List.map_cons, List.sum_cons]; have := szF_Pa_nonneg r; omega
theorem szF_Pa1_nonneg (xs : List Pa) : 0 ≤ szF_Pa1 xs := by have := szF_Pa1_sum xs; unfold szF_Pa1; omega
theorem szF_Pa1_snoc (xs : List Pa) (k : Nat) (h : k < xs.length) : ((xs.take (k + 1)).map szF_Pa).sum = ((xs.take k).map szF_Pa).sum + szF_Pa xs[k] := by
  rw [List.take_succ_eq_append_getElem h, List.map_append, List.sum_append]; simp
theorem szF_Pa1_take (xs : List Pa) (k : Nat) : ((xs.take k).map szF_Pa).sum ≤ (xs.map szF_Pa).sum := by
  have h := szF_Pa1_sum (xs.drop k)
  conv => rhs; rw [← List.take_append_drop k xs]
  rw [List.map_append, List.sum_append]; omega
def up_Pa (k : Int) (x : Pa) : Pa := ⟨(k), (k + 1), mtx (k + 1 + 1), mkd_T2 (k + 1 + 1 + 1) x.args⟩
def mkd_Pa1 : Int → List Pa → List Pa
  | _, [] => []
  | k, r :: rs => up_Pa k r :: mkd_Pa1 (k + mkF_Pa r) rs
@[simp] theorem mkd_Pa1_length (k : Int) (xss : List Pa) : (mkd_Pa1 k xss).length = xss.length := by
  induction xss generalizing k with
  | nil => rfl
  | cons r rs ih => simp [mkd_Pa1, ih]
theorem mkd_Pa1_append (k : Int) (xs ys : List Pa) : mkd_Pa1 k (xs ++ ys) = mkd_Pa1 k xs ++ mkd_Pa1 (k + mkF_Pa1 xs) ys := by
  induction xs generalizing k with
  | nil => simp [mkd_Pa1, mkF_Pa1]
  | cons r rs ih => simp only [List.cons_append, mkd_Pa1, ih, mkF_Pa1, List.map_cons, List.sum_cons, Int.add_assoc]
set_option maxRecDepth 20000 in
set_option maxHeartbeats 1600000 in
theorem sz_Pa1 (v : Value) (xs : List Pa) (left : Int) (w : World) (fp : List Nat) (hl : 0 ≤ left) (hl2 : left ≤ 1048576) (hR : R_Pa1 fp w [v] xs) (hS : Pa1Ok xs) :
    Calls Tryz.prog 49 #[v, .int .i64 left] w fun e w' => (∃ r : Int, e = .returned (.int .i64 r) ∧ (r = -1 ∨ (0 ≤ r ∧ r + szF_Pa1 xs = left))) ∧ Upd [] w w' := by
  obtain ⟨a, cap, rfl, h1, h2, hc⟩ := slQ_open hR
  unfold maxLen at h2
  have HS := Lib.hid hS
  have HC := Lib.hid hc
  clear hR hS hc
  by_cases hlt : left - (xs.length : Int) < 0
  · go_enter Tryz.func49, Tryz.ntmps49
    go_wp2_with fail
    go_ret
    exact ⟨⟨-1, rfl, Or.inl rfl⟩, Upd.refl _ _⟩
  · have hge : 0 ≤ left - (xs.length : Int) := by omega
    clear hlt
    go_enter Tryz.func49, Tryz.ntmps49
    go_wp2_with fail
    go_loopw [1, 5] (fun kk i wr => ∃ (k : Nat) (l : Int), k ≤ xs.length ∧ i = .int .i64 k ∧ kk = .int .i64 l ∧ 0 ≤ l ∧ l ≤ 1048576 ∧ Hid (l + xs.length + ((xs.take k).map szF_Pa).sum = left) ∧ Hid (Upd [] w wr)) (fun _ i _ => xs.length - (intOf i).toNat)
    case atStart => exact ⟨0, _, Nat.zero_le _, rfl, rfl, hge, by omega, Lib.hid (by simp), Lib.hid (Upd.refl _ _)⟩
    case round =>
      obtain ⟨wo, rfl⟩ : ∃ wo : World, wo = wr := ⟨_, rfl⟩
      obtain ⟨k, l, hk, rfl, rfl, hl0, hl9, HL, HU⟩ := hrel
      by_cases hlt : k < xs.length
      · obtain ⟨b, off, u, f, rfl, -, -, -, hcell, -, hr⟩ := HC.out k hlt
        have HR := Lib.hid (R_Pak.upd hr HU.out (by simp))
        obtain ⟨v3, f3, rfl, -, -⟩ := hr
        have p0 := HU.out.keep (hcell 0 _ rfl)
        have p1 := HU.out.keep (hcell 1 _ rfl)
        have p2 := HU.out.keep (hcell 2 _ rfl)
        have p3 := HU.out.keep (hcell 3 _ rfl)
        simp only [Nat.add_zero] at p0
        have HT := Lib.hid (szF_Pa1_snoc xs k hlt)
        have HO := Lib.hid (HS.out xs[k] (List.getElem_mem hlt))
        clear hcell
        generalize hx : xs[k] = x at *
        clear hx
        have S1 := Lib.hid (sz_Pa _ x l wo f hl0 hl9 HR.out HO.out)
        have hzz := szF_Pa_nonneg x
        generalize szF_Pa x = zz at *
        go_wp2_with fail
        refine S1.out.mono ?_
        rintro e w1 ⟨⟨r, rfl, hr2⟩, hu⟩
        have HU1 := Lib.hid (HU.out.trans hu)
        clear S1 hu
        rcases hr2 with rfl | ⟨hr2, hr3⟩
        · go_wp2_with fail
          go_ret
          exact ⟨⟨-1, rfl, Or.inl rfl⟩, HU1.out⟩
        · have H3 := Lib.hid hr3
          have hr4 : r ≤ 1048576 := by omega
          clear hr3
          go_wp2_with fail
          go_roundw
          case rel => exact ⟨k + 1, r, by omega, by go_num, rfl, hr2, hr4, Lib.hid (by have := H3.out; have := HL.out; rw [HT.out]; omega), HU1⟩
          case measure => simp [intOf]; omega
      · obtain rfl : k = xs.length := by omega
        go_wp2_with fail
        go_ret
        exact ⟨⟨l, rfl, Or.inr ⟨hl0, by have := HL.out; rw [List.take_length] at this; unfold szF_Pa1; omega⟩⟩, HU.out⟩

theorem Tryz.infoPa : (Tryz.prog.info? 134).map (fun i => (i.zero, i.size, i.bytes)) = some (some (.agg #[.int .i64 0, .int .i64 0, .string ⟨#[]⟩, .slice none 0 0]), 4, 56) := by kernel_rfl
set_option maxRecDepth 20000 in
set_option maxHeartbeats 2000000 in
theorem to_Pa1 (v : Value) (xs : List Pa) (w : World) (fp : List Nat) (hl : szF_Pa1 xs ≤ 1048576) (hR : R_Pa1 fp w [v] xs) :
    Calls Tryz.prog 54 #[v] w fun e w' => (∃ v', e = .returned v' ∧ New R_Pa1 w w' v' xs) ∧ Upd [] w w' := by
  obtain ⟨i0, hi, hz0, hz1, hz2⟩ := info_parts Tryz.infoPa
  obtain ⟨a, cap, rfl, h1, h2, hc⟩ := slQ_open hR
  unfold maxLen at h2
  have htn := szF_Pa1_sum xs
  unfold szF_Pa1 at hl
  have HC := Lib.hid hc
  clear hR hc
  have hm1 : i0.bytes * xs.length ≤ 281474976710656 := by rw [hz2]; omega
  go_enter Tryz.func54, Tryz.ntmps54
  go_wp2_with (first
    | (at_make; refine wpList_make_full _ rfl _ _ 54 rfl w.heap.size 134 i0 (.agg #[.int .i64 0, .int .i64 0, .string ⟨#[]⟩, .slice none 0 0]) 4 Tryz.underlying54 hi hz0 hz1 .i64 .i64 _ _ xs.length rfl rfl rfl rfl hm1 (by unfold maxLen; omega) (Nat.le_refl _) ?_; intro w1 hown hgrow)
    | fail)
  have hmd := made_Q ([.int .i64 0, .int .i64 0, .string ⟨#[]⟩, .slice none 0 0] : List Value) (n := 4) rfl (by decide) xs.length
  rw [hmd] at hown
  have hsz : w.heap.size < w1.heap.size := hown.lt w.heap.size rfl |>.2
  have hU : Upd [] w w1 := (Upd.refl _ _).grown hgrow (by simp)
  clear hgrow hm1 hmd
  go_loopw [4] (fun i wr => ∃ (k : Nat) (us : List (List Value)), k ≤ xs.length ∧ i = .int .i64 k ∧ Hid (Upd [] w wr) ∧ w.heap.size < wr.heap.size ∧
      Hid (wr.ownsRow w.heap.size 134 4 (.slice (some ⟨w.heap.size, 0, none⟩) xs.length xs.length) xs.length (us.flatten ++ (List.replicate (xs.length - k) ([.int .i64 0, .int .i64 0, .string ⟨#[]⟩, .slice none 0 0] : List Value)).flatten)) ∧
      Hid (RowsQ 4 R_Pa w.heap.size [w.heap.size] wr us (xs.take k)))
    (fun i _ => xs.length - (intOf i).toNat)
  case atStart => exact ⟨0, [], Nat.zero_le _, rfl, Lib.hid hU, hsz, Lib.hid (by simpa using hown), Lib.hid (RowsQ.nil _ _ _ _ _)⟩
  case round =>
    clear hown hU hsz
    obtain ⟨wo, rfl⟩ : ∃ wo : World, wo = wr := ⟨_, rfl⟩
    obtain ⟨k, us, hk, rfl, HU, hsz, HO, HW⟩ := hrel
    have hlu : us.length = k := by have := HW.out.length; simp at this; omega
    by_cases hlt : k < xs.length
    · obtain ⟨b, off, u, f, rfl, -, -, -, hcell, -, hr⟩ := HC.out k hlt
      have HR := Lib.hid (R_Pak.upd hr HU.out (by simp))
      obtain ⟨v3, f3, rfl, -, -⟩ := hr
      have p0 := HU.out.keep (hcell 0 _ rfl)
      have p1 := HU.out.keep (hcell 1 _ rfl)
      have p2 := HU.out.keep (hcell 2 _ rfl)
      have p3 := HU.out.keep (hcell 3 _ rfl)
      simp only [Nat.add_zero] at p0
      have hxl : szF_Pa xs[k] ≤ 1048576 := by
        have h1 := szF_Pa1_snoc xs k hlt
        have h2 := szF_Pa1_take xs (k + 1)
        have h3 := szF_Pa1_sum (xs.take k)
        omega
      have HTK := Lib.hid (List.take_succ_eq_append_getElem hlt)
      have HLU := Lib.hid hlu
      clear hcell hlu
      generalize hx : xs[k] = x at *
      clear hx
      have S1 := Lib.hid (to_Pa _ x wo f hxl HR.out)
      clear hxl
      go_wp2_with fail
      refine S1.out.mono ?_
      rintro e w2 ⟨⟨u2, rfl, hlen, hone, hnew⟩, hu2⟩
      have hown2 := ownsRow_upd HO.out hu2
      have hrep : (List.replicate (xs.length - k) ([.int .i64 0, .int .i64 0, .string ⟨#[]⟩, .slice none 0 0] : List Value)).flatten.length = (xs.length - k) * 4 := by
        rw [flat_len (n := 4) (by intro y hy; rw [(List.mem_replicate.1 hy).2]; rfl)]; simp
      have hfl : us.flatten.length = k * 4 := by rw [flat_len HW.out.each, HLU.out]
      have hth : w2.there w.heap.size (k * 4) u2.toArray.size := fun j hj => by
        have hj' : j < 4 := by simpa [hlen] using hj
        refine ⟨?_, hown2.frozenAt _⟩
        rw [hown2.cellAt (k * 4 + j) (by omega), List.getElem?_eq_getElem (by rw [List.length_append, hfl, hrep]; omega)]; rfl
      have hszz : (Tryz.prog.info? 134).map (·.size) = some u2.toArray.size := by rw [Pa_size]; simp [hlen]
      have hrun := run_storeCells_cells (P := Tryz.prog) w.heap.size (k * 4) u2 0 w2 (fun j hj => by simpa using (hth j (by simpa using hj)).1) (fun j hj => by simpa using (hth j (by simpa using hj)).2) (fun v hv => (Array.all_eq_true_iff_forall_mem.1 hone) v (by simpa using hv))
      simp only [Nat.add_zero] at hrun
      have hst := ownsRow_setCells u2 (k * 4) hown2 (by rw [hlen]; omega)
      rw [show xs.length - k = (xs.length - (k + 1)) + 1 by omega, ← HLU.out, filled_set us ([.int .i64 0, .int .i64 0, .string ⟨#[]⟩, .slice none 0 0] : List Value) _ 4 rfl HW.out.each u2 hlen, HLU.out] at hst
      have hw3 : Upd [w.heap.size] w2 (w2.setCells w.heap.size (k * 4) u2) := upd_setCells _ (Or.inr (by simp)) _ _ (Upd.refl _ _)
      have hrows2 := (HW.out.push R_Pak hu2 hnew hlen (by omega) (by simpa using hsz)).upd R_Pak hw3 (by simp)
      rw [← HTK.out] at hrows2
      have hU2 : Upd [] w (w2.setCells w.heap.size (k * 4) u2) := upd_setCells _ (Or.inl (Nat.le_refl _)) _ _ (HU.out.trans hu2)
      have hsz2 : w.heap.size < (w2.setCells w.heap.size (k * 4) u2).heap.size := by have := hu2.size; have := hw3.size; omega
      have HS := Lib.hid (And.intro hst (And.intro hrows2 hU2))
      clear hown2 hrep hfl hst hw3 hrows2 hU2 hnew hu2 S1 HO HW HU
      clear hth hszz hone
      go_wp2_with fail
      go_roundw
      case rel => exact ⟨k + 1, us ++ [u2], by omega, by go_num, Lib.hid HS.out.2.2, hsz2, Lib.hid HS.out.1, Lib.hid HS.out.2.1⟩
      case measure => simp [intOf]; omega
    · obtain rfl : k = xs.length := by omega
      go_wp2_with fail
      go_ret
      have hrows := HW.out
      have hown := HO.out
      rw [List.take_length] at hrows
      refine ⟨⟨_, rfl, hrows.new (e := 134) (by simpa using hown) (by simp [Value.ownBlock]) (Nat.le_refl _)⟩, HU.out⟩

set_option maxRecDepth 20000 in
set_option maxHeartbeats 2000000 in
theorem eq_Pa1 (v1 v2 : Value) (xs : List Pa) (w : World) (fp fp2 : List Nat) (h1 : R_Pa1 fp w [v1] xs) (h2 : R_Pa1 fp2 w [v2] xs) :
    Calls Tryz.prog 62 #[v1, v2] w fun e w' => e = .returned (.bool true) ∧ Upd [] w w' := by
  obtain ⟨a1, c1, rfl, hl1, hm1, hc1⟩ := slQ_open h1
  obtain ⟨a2, c2, rfl, hl2, hm2, hc2⟩ := slQ_open h2
  unfold maxLen at hm1 hm2
  have HC1 := Lib.hid hc1
  have HC2 := Lib.hid hc2
  have hbe : ((xs.length : Int) != (xs.length : Int)) = false := by simp
  clear h1 h2 hc1 hc2
  go_enter Tryz.func62, Tryz.ntmps62
  go_wp2_with fail
  go_loopw [5] (fun i wr => ∃ k : Nat, k ≤ xs.length ∧ i = .int .i64 k ∧ Hid (Upd [] w wr)) (fun i _ => xs.length - (intOf i).toNat)
  case atStart => exact ⟨0, Nat.zero_le _, rfl, Lib.hid (Upd.refl _ _)⟩
  case round =>
    obtain ⟨wo, rfl⟩ : ∃ wo : World, wo = wr := ⟨_, rfl⟩
    obtain ⟨k, hk, rfl, HU⟩ := hrel
    by_cases hlt : k < xs.length
    · obtain ⟨b1, o1, u, f, rfl, -, -, -, hcell, -, hr⟩ := HC1.out k hlt
      obtain ⟨b2, o2, u', f', rfl, -, -, -, hcell2, -, hr2⟩ := HC2.out k hlt
      have HR := Lib.hid (R_Pak.drewN (R_Pak.upd hr HU.out (by simp)))
      have HR2 := Lib.hid (R_Pak.drewN (R_Pak.upd hr2 HU.out (by simp)))
      obtain ⟨v3, f3, rfl, -, -⟩ := hr
      obtain ⟨u3, _, rfl, -, -⟩ := hr2
      have p0 := HU.out.keep (hcell 0 _ rfl)
      have p1 := HU.out.keep (hcell 1 _ rfl)
      have p2 := HU.out.keep (hcell 2 _ rfl)
      have p3 := HU.out.keep (hcell 3 _ rfl)
      have q0 := HU.out.keep (hcell2 0 _ rfl)
      have q1 := HU.out.keep (hcell2 1 _ rfl)
      have q2 := HU.out.keep (hcell2 2 _ rfl)
      have q3 := HU.out.keep (hcell2 3 _ rfl)
      simp only [Nat.add_zero] at p0 q0
      clear hcell hcell2
      generalize hx : xs[k] = x at *
      clear hx
      have S1 := Lib.hid (fun W (hu : Upd [] wo W) => eq_Pa _ _ x W f f' (R_Pak.upd (HR.out 0) hu (by simp)) (R_Pak.upd (HR2.out 0) hu (by simp)))
      clear HR HR2
      obtain ⟨t0, ht0⟩ : ∃ t, t = ei x.kind := ⟨_, rfl⟩
      rw [← ht0] at p0 q0 S1
      clear ht0
      obtain ⟨t1, ht1⟩ : ∃ t, t = ei x.num := ⟨_, rfl⟩
      rw [← ht1] at p1 q1 S1
      clear ht1
      obtain ⟨t2, ht2⟩ : ∃ t, t = es x.name := ⟨_, rfl⟩
      rw [← ht2] at p2 q2 S1
      clear ht2
      go_wp2_with fail
      go_region_held3 (fun w' => w'.cell? ⟨b1, o1 + k * 4, none⟩ = some (t0) ∧ w'.cell? ⟨b1, o1 + k * 4 + 1, none⟩ = some (t1) ∧ w'.cell? ⟨b1, o1 + k * 4 + 2, none⟩ = some (t2) ∧ w'.cell? ⟨b1, o1 + k * 4 + 3, none⟩ = some (v3) ∧ w'.cell? ⟨b2, o2 + k * 4, none⟩ = some (t0) ∧ w'.cell? ⟨b2, o2 + k * 4 + 1, none⟩ = some (t1) ∧ w'.cell? ⟨b2, o2 + k * 4 + 2, none⟩ = some (t2) ∧ w'.cell? ⟨b2, o2 + k * 4 + 3, none⟩ = some (u3)) (go_keep) (((with_reducible refine (S1.out _ (by repeat (first | exact Upd.refl _ _ | refine Upd.drew ?_ | refine Upd.drewN ?_ _))).mono ?_); rintro e w1 ⟨rfl, hu1⟩; have a0 := hu1.keep p0; have b0 := hu1.keep q0; have a1 := hu1.keep p1; have b1 := hu1.keep q1; have a2 := hu1.keep p2; have b2 := hu1.keep q2; have a3 := hu1.keep p3; have b3 := hu1.keep q3; skip))
      all_goals
        have HU1 := Lib.hid (HU.out.drew.trans hu1)
        clear hu1 HU
        go_wp2_with fail
        go_roundw
        case rel => exact ⟨k + 1, by omega, by go_num, HU1⟩
        case measure => simp [intOf]; omega
    · have hge : xs.length ≤ k := by omega
      go_wp2_with fail
      go_ret
      exact ⟨rfl, HU.out⟩

end Go.Proofs.YtjelcjiofcoifaaGreatDoor

/-
  Definitions: readings, and what the laws' helper functions return and make.
-/
namespace Go.Proofs.YtjelcjiofcoifaaGreatDoor
open Go.RowKit

/-- its 3 cells. -/
def R_De : Rp De := fun fp w cs x => ∃ (v2 : Value) (f2 : List Nat), cs = [es x.name, ei x.pars, v2] ∧ R_Pa1 f2 w [v2] x.body ∧ fp = f2 ++ []
theorem R_Dek : Kept R_De := by
  constructor
  · rintro fp w cs x ⟨v2, f2, rfl, h2, rfl⟩ b hb
    exact R_Pa1k.lt h2 b (by simpa using hb)
  · rintro fp w w' cs x ⟨v2, f2, rfl, h2, rfl⟩ hs hb
    exact ⟨v2, f2, rfl, R_Pa1k.frame h2 hs (fun b h => hb b (by simp [h])), rfl⟩
def szF_De (x : De) : Int := (x.name.length : Int) + szF_Pa1 x.body
def mkF_De (x : De) : Int := 1 + 1 + mkF_Pa1 x.body
theorem szF_De_nonneg (x : De) : 0 ≤ szF_De x := by have := szF_Pa1_nonneg x.body; unfold szF_De; omega
/-- what each text's length is below. -/
def DeOk (x : De) : Prop := x.name.length ≤ 9223372036854775807 ∧ Pa1Ok x.body

set_option maxRecDepth 20000 in
set_option maxHeartbeats 1600000 in
theorem sz_De (cs : List Value) (x : De) (left : Int) (w : World) (fp : List Nat) (hl : 0 ≤ left) (hl2 : left ≤ 1048576) (hR : R_De fp w cs x) (hS : DeOk x) :
    Calls Tryz.prog 22 #[.agg cs.toArray, .int .i64 left] w fun e w' => (∃ r : Int, e = .returned (.int .i64 r) ∧ (r = -1 ∨ (0 ≤ r ∧ r + szF_De x = left))) ∧ Upd [] w w' := by
  obtain ⟨v2, f2, rfl, h2, rfl⟩ := hR
  obtain ⟨wA, hwA⟩ : ∃ wA, wA = w.alloc (.cells #[es x.name, ei x.pars, v2] 51) := ⟨_, rfl⟩
  obtain ⟨BA, hBA⟩ : ∃ BA, BA = w.heap.size := ⟨_, rfl⟩
  have uA : Upd [] w wA := by rw [hwA]; exact (Upd.refl _ _).alloc _
  have S2 := Lib.hid (fun (W : World) (hu : Upd [] w W) (l : Int) (q1 : 0 ≤ l) (q2 : l ≤ 1048576) => sz_Pa1 v2 x.body l W f2 q1 q2 (R_Pa1k.upd h2 hu (by simp)) hS.2)
  have HC := Lib.hid (fun W (hu : Upd [] wA W) => show W.cell? ⟨BA, 0, none⟩ = some (es x.name) ∧ W.cell? ⟨BA, 2, none⟩ = some (v2) from
    ⟨hu.keep (by rw [hwA, hBA]; exact cell_new w _ _ _ rfl 0 _ rfl), hu.keep (by rw [hwA, hBA]; exact cell_new w _ _ _ rfl 2 _ rfl)⟩)
  have HZ := Lib.hid (show szF_De x = (x.name.length : Int) + szF_Pa1 x.body from rfl)
  have hs0 : x.name.length ≤ 9223372036854775807 := hS.1
  have hn2 := szF_Pa1_nonneg x.body
  generalize szF_Pa1 x.body = z2 at *
  generalize x.name = t0 at *
  generalize szF_De x = ZZ at *
  obtain ⟨c0, c2⟩ := HC.out wA (Upd.refl _ _)
  have HU := Lib.hid uA
  have HX := Lib.hid (Upd.refl [] wA)
  clear h2 hS uA
  go_enter Tryz.func22, Tryz.ntmps22
  go_upto_region 1 with (fail)
  rw [← hwA, ← hBA]
  clear hwA hBA
  by_cases hlt0 : left - (t0.length : Int) < 0
  · go_wp2_with fail
    go_ret
    exact ⟨⟨-1, rfl, Or.inl rfl⟩, HU.out⟩
  · obtain ⟨r0, hr0⟩ : ∃ r0 : Int, r0 = left - (t0.length : Int) := ⟨_, rfl⟩
    have hge0 : 0 ≤ r0 := by omega
    have hle0 : r0 ≤ 1048576 := by omega
    have HR0 := Lib.hid hr0
    rw [← hr0] at hlt0
    have hse0 : left - (t0.length : Int) = r0 := hr0.symm
    clear hr0
    have T2 := Lib.hid (S2.out wA HU.out r0 hge0 hle0)
    clear S2
    go_wp2_with fail
    refine T2.out.mono ?_
    rintro e w2 ⟨⟨r, rfl, hr⟩, hu⟩
    clear T2
    have HU := Lib.hid (HU.out.trans hu)
    have HX := Lib.hid (HX.out.trans hu)
    obtain ⟨c0, c2⟩ := HC.out w2 HX.out
    clear hu
    rcases hr with rfl | ⟨hge2, hr⟩
    · go_wp2_with fail
      go_ret
      exact ⟨⟨-1, rfl, Or.inl rfl⟩, HU.out⟩
    · have HR2 := Lib.hid hr
      have hle2 : r ≤ 1048576 := by omega
      clear hr
      generalize r = r2 at *
      go_wp2_with fail
      go_ret
      exact ⟨⟨r2, rfl, Or.inr ⟨hge2, by rw [HZ.out]; have := HR0.out; have := HR2.out; omega⟩⟩, HU.out⟩

theorem De_size : (Tryz.prog.info? 56).map (·.size) = some 3 := by kernel_rfl
set_option maxRecDepth 20000 in
set_option maxHeartbeats 4000000 in
theorem to_De (cs : List Value) (x : De) (w : World) (fp : List Nat) (hl : szF_De x ≤ 1048576) (hR : R_De fp w cs x) :
    Calls Tryz.prog 26 #[.agg cs.toArray] w fun e w' => (∃ us, e = .returned (.agg us.toArray) ∧ us.length = 3 ∧ us.toArray.all (·.oneCell') = true ∧ NewQ R_De w w' us x) ∧ Upd [] w w' := by
  obtain ⟨v2, f2, rfl, h2, rfl⟩ := hR
  have hn2 := szF_Pa1_nonneg x.body
  unfold szF_De at hl
  have S2 := Lib.hid (fun (W : World) (hu : Upd [] w W) => to_Pa1 v2 x.body W f2 (by omega) (R_Pa1k.upd h2 hu (by simp)))
  obtain ⟨wA, hwA⟩ : ∃ wA, wA = ((w.alloc (.cells #[es x.name, ei x.pars, v2] 51)).alloc (.cells #[.string ⟨#[]⟩, .int .i64 0, .slice none 0 0] 56)).alloc (.cells #[.string ⟨#[]⟩, .int .i64 0, .slice none 0 0] 56) := ⟨_, rfl⟩
  obtain ⟨B, hB⟩ : ∃ B, B = w.heap.size := ⟨_, rfl⟩
  have H0 := Lib.hid (show Three w wA 51 56 B [es x.name, ei x.pars, v2] [.string ⟨#[]⟩, .int .i64 0, .slice none 0 0] [.string ⟨#[]⟩, .int .i64 0, .slice none 0 0] from by rw [hwA, hB]; exact Three.mk0 w _ _ _ _ _)
  clear h2 hl hn2
  go_enter Tryz.func26, Tryz.ntmps26
  go_upto_region 2 with (fail)
  rw [← hwA, ← hB]
  clear hwA hB
  have p0 := H0.out.pc 0 _ rfl
  have q0 := H0.out.oc 0 _ rfl
  have z0 := H0.out.fz 0
  go_upto_region 3 with (fail)
  obtain ⟨W0, hW0⟩ : ∃ W0, W0 = wA.setCell ⟨B + 2, 0, none⟩ (es x.name) := ⟨_, rfl⟩
  rw [← hW0]
  have H1 := Lib.hid (show Three w W0 51 56 B [es x.name, ei x.pars, v2] [.string ⟨#[]⟩, .int .i64 0, .slice none 0 0] _ from by rw [hW0]; exact H0.out.store 0 _)
  have D0 := Lib.hid (show Upd [B + 2] wA W0 from by rw [hW0]; exact (Upd.refl _ _).setCell (Or.inr (by simp)) _)
  have ds0 := D0.out.size
  clear p0 q0 z0 hW0
  have p1 := H1.out.pc 1 _ rfl
  have q1 := H1.out.oc 1 _ rfl
  have z1 := H1.out.fz 1
  go_upto_region 4 with (fail)
  obtain ⟨W1, hW1⟩ : ∃ W1, W1 = W0.setCell ⟨B + 2, 1, none⟩ (ei x.pars) := ⟨_, rfl⟩
  rw [← hW1]
  have H2 := Lib.hid (show Three w W1 51 56 B [es x.name, ei x.pars, v2] [.string ⟨#[]⟩, .int .i64 0, .slice none 0 0] _ from by rw [hW1]; exact H1.out.store 1 _)
  have D1 := Lib.hid (show Upd [B + 2] W0 W1 from by rw [hW1]; exact (Upd.refl _ _).setCell (Or.inr (by simp)) _)
  have ds1 := D1.out.size
  clear p1 q1 z1 hW1
  have T2 := Lib.hid (S2.out W1 H2.out.upd)
  clear S2
  have p2 := H2.out.pc 2 _ rfl
  go_wp2_with fail
  refine T2.out.mono ?_
  rintro e w2 ⟨⟨u, rfl, hn⟩, hu⟩
  have G2 := Lib.hid (H2.out.call hu)
  have HN2 := Lib.hid hn
  have E2 := Lib.hid hu
  have hlo2 := H2.out.size
  have hhi2 := hu.size
  obtain ⟨m2, n2, rfl⟩ := New.formQ hn
  clear T2 p2 hn hu
  have q2 := G2.out.oc 2 _ rfl
  have z2 := G2.out.fz 2
  go_upto_region 5 with (fail)
  obtain ⟨W2, hW2⟩ : ∃ W2, W2 = w2.setCell ⟨B + 2, 2, none⟩ (.slice m2 x.body.length n2) := ⟨_, rfl⟩
  rw [← hW2]
  have H3 := Lib.hid (show Three w W2 51 56 B [es x.name, ei x.pars, v2] [.string ⟨#[]⟩, .int .i64 0, .slice none 0 0] _ from by rw [hW2]; exact G2.out.store 2 _)
  have D2 := Lib.hid (show Upd [B + 2] w2 W2 from by rw [hW2]; exact (Upd.refl _ _).setCell (Or.inr (by simp)) _)
  have ds2 := D2.out.size
  clear q2 z2 hW2
  have HF := Lib.hid (show Three w W2 51 56 B [es x.name, ei x.pars, v2] [.string ⟨#[]⟩, .int .i64 0, .slice none 0 0] [es x.name, ei x.pars, .slice m2 x.body.length n2] from H3.out)
  have hlast := HF.out.h2
  have hres := HF.out.h1
  clear G2
  go_wp2_with (first
    | (refine wpList_load_row rfl 56 _ rfl (B + 2) rfl 56 #[es x.name, ei x.pars, .slice m2 x.body.length n2] (0, 0) _ hlast Tryz.underlying56 rfl De_size ?_)
    | (refine wpList_store_row rfl 56 _ _ rfl (B + 1) #[es x.name, ei x.pars, .slice m2 x.body.length n2] rfl rfl 56 _ hres De_size rfl (by simp [Value.oneCell']) ?_)
    | fail)
  have hC := setRow_heap W2 (B + 1) _ #[es x.name, ei x.pars, .slice m2 x.body.length n2] _ _ hres
  refine bodyPost_ret (results_cell_row Tryz.results26 _ _ (B + 1) 56 _ (0, 0) _ rfl hC Tryz.underlying56 rfl De_size) rfl ?_
  have hb := HF.out.base
  have UE : Upd [] w (W2.setRow (B + 1) #[es x.name, ei x.pars, .slice m2 x.body.length n2]) := HF.out.upd.row (Or.inl (by omega)) _
  refine ⟨⟨[es x.name, ei x.pars, .slice m2 x.body.length n2], rfl, rfl, by simp [Value.oneCell'], ?_⟩, UE⟩
  obtain ⟨g2, P2⟩ := Part.of R_Pa1k HN2.out
  have P2 := P2.upd R_Pa1k D2.out (by intro b hb; simp at hb; omega)
  have P2 := P2.upd R_Pa1k (show Upd [B + 1] W2 (W2.setRow (B + 1) #[es x.name, ei x.pars, .slice m2 x.body.length n2]) from (Upd.refl _ _).row (Or.inr (by simp)) _) (by intro b hb; simp at hb; omega)
  refine ⟨g2 ++ [], ⟨_, g2, rfl, P2.r, rfl⟩, ?_, ?_⟩
  · simpa using P2.o
  · intro b hb
    simp only [List.append_nil] at hb
    rcases hb with hb
    · have := P2.b b hb; omega

set_option maxRecDepth 20000 in
set_option maxHeartbeats 2000000 in
theorem eq_De (cs ds : List Value) (x : De) (w : World) (fp fp2 : List Nat) (hA : R_De fp w cs x) (hB : R_De fp2 w ds x) :
    Calls Tryz.prog 30 #[.agg cs.toArray, .agg ds.toArray] w fun e w' => e = .returned (.bool true) ∧ Upd [] w w' := by
  obtain ⟨v2, f2, rfl, h2, rfl⟩ := hA
  obtain ⟨u2, g2, rfl, k2, rfl⟩ := hB
  obtain ⟨wA, hwA⟩ : ∃ wA, wA = w.alloc (.cells #[es x.name, ei x.pars, v2] 56) := ⟨_, rfl⟩
  obtain ⟨wB, hwB⟩ : ∃ wB, wB = wA.alloc (.cells #[es x.name, ei x.pars, u2] 56) := ⟨_, rfl⟩
  obtain ⟨BA, hBA⟩ : ∃ BA, BA = w.heap.size := ⟨_, rfl⟩
  have sA : wA.heap.size = BA + 1 := by rw [hwA, hBA]; simp
  have uA : Upd [] w wA := by rw [hwA]; exact (Upd.refl _ _).alloc _
  have uB : Upd [] wA wB := by rw [hwB]; exact (Upd.refl _ _).alloc _
  have HC := Lib.hid (fun W (hu : Upd [] wB W) => show W.cell? ⟨BA, 0, none⟩ = some (es x.name) ∧ W.cell? ⟨BA + 1, 0, none⟩ = some (es x.name) ∧ W.cell? ⟨BA, 1, none⟩ = some (ei x.pars) ∧ W.cell? ⟨BA + 1, 1, none⟩ = some (ei x.pars) ∧ W.cell? ⟨BA, 2, none⟩ = some (v2) ∧ W.cell? ⟨BA + 1, 2, none⟩ = some (u2) from
    ⟨hu.keep (uB.keep (by rw [hwA, hBA]; exact cell_new w _ _ _ rfl 0 _ rfl)), hu.keep (by rw [hwB]; exact cell_new wA _ _ _ sA 0 _ rfl), hu.keep (uB.keep (by rw [hwA, hBA]; exact cell_new w _ _ _ rfl 1 _ rfl)), hu.keep (by rw [hwB]; exact cell_new wA _ _ _ sA 1 _ rfl), hu.keep (uB.keep (by rw [hwA, hBA]; exact cell_new w _ _ _ rfl 2 _ rfl)), hu.keep (by rw [hwB]; exact cell_new wA _ _ _ sA 2 _ rfl)⟩)
  have S2 := Lib.hid (fun W (hu : Upd [] w W) => eq_Pa1 v2 u2 x.body W f2 g2 (R_Pa1k.upd h2 hu (by simp)) (R_Pa1k.upd k2 hu (by simp)))
  have HU := Lib.hid (uA.trans uB)
  have HX := Lib.hid (Upd.refl [] wB)
  obtain ⟨c0, d0, c1, d1, c2, d2⟩ := HC.out wB (Upd.refl _ _)
  generalize x.name = t0 at *
  have b0 : (t0 != t0) = false := by simp
  generalize x.pars = t1 at *
  have b1 : (t1 != t1) = false := by simp
  clear h2 k2 uA uB sA
  go_enter Tryz.func30, Tryz.ntmps30
  go_upto_region 1 with (fail)
  rw [← hwA, ← hwB, ← hBA]
  clear hwA hwB hBA
  have T2 := Lib.hid (S2.out wB HU.out)
  clear S2
  go_wp2_with fail
  refine T2.out.mono ?_
  rintro e w2 ⟨rfl, hu⟩
  have HU := Lib.hid (HU.out.trans hu)
  have HX := Lib.hid (HX.out.trans hu)
  obtain ⟨c0, d0, c1, d1, c2, d2⟩ := HC.out w2 HX.out
  clear T2 hu
  go_wp2_with fail
  go_ret
  exact ⟨rfl, HU.out⟩

end Go.Proofs.YtjelcjiofcoifaaGreatDoor

/-
  Lists of definitions: readings, and what the laws' helper functions return and make.
-/
namespace Go.Proofs.YtjelcjiofcoifaaGreatDoor
open Go.RowKit


abbrev R_De1 : Rp (List De) := slQ 3 R_De
theorem R_De1k : Kept R_De1 := slQ_kept R_Dek
def szF_De1 (xs : List De) : Int := xs.length + (xs.map szF_De).sum
def mkF_De1 (xs : List De) : Int := (xs.map mkF_De).sum
def De1Ok (xs : List De) : Prop := ∀ x ∈ xs, DeOk x
theorem szF_De1_sum (xs : List De) : 0 ≤ (xs.map szF_De).sum := by
  induction xs with
  | nil => simp
  | cons r rs ih => simp only [List.map_cons, List.sum_cons]; have := szF_De_nonneg r; omega
theorem szF_De1_snoc (xs : List De) (k : Nat) (h : k < xs.length) : ((xs.take (k + 1)).map szF_De).sum = ((xs.take k).map szF_De).sum + szF_De xs[k] := by
  rw [List.take_succ_eq_append_getElem h, List.map_append, List.sum_append]; simp
theorem szF_De1_take (xs : List De) (k : Nat) : ((xs.take k).map szF_De).sum ≤ (xs.map szF_De).sum := by
  have h := szF_De1_sum (xs.drop k)
  conv => rhs; rw [← List.take_append_drop k xs]
  rw [List.map_append, List.sum_append]; omega
def up_De (k : Int) (x : De) : De := ⟨mtx (k), (k + 1), mkd_Pa1 (k + 1 + 1) x.body⟩
def mkd_De1 : Int → List De → List De
  | _, [] => []
  | k, r :: rs => up_De k r :: mkd_De1 (k + mkF_De r) rs
@[simp] theorem mkd_De1_length (k : Int) (xss : List De) : (mkd_De1 k xss).length = xss.length := by
  induction xss generalizing k with
  | nil => rfl
  | cons r rs ih => simp [mkd_De1, ih]
theorem mkd_De1_append (k : Int) (xs ys : List De) : mkd_De1 k (xs ++ ys) = mkd_De1 k xs ++ mkd_De1 (k + mkF_De1 xs) ys := by
  induction xs generalizing k with
  | nil => simp [mkd_De1, mkF_De1]
  | cons r rs ih => simp only [List.cons_append, mkd_De1, ih, mkF_De1, List.map_cons, List.sum_cons, Int.add_assoc]
set_option maxRecDepth 20000 in
set_option maxHeartbeats 1600000 in
theorem sz_De1 (v : Value) (xs : List De) (left : Int) (w : World) (fp : List Nat) (hl : 0 ≤ left) (hl2 : left ≤ 1048576) (hR : R_De1 fp w [v] xs) (hS : De1Ok xs) :
    Calls Tryz.prog 6 #[v, .int .i64 left] w fun e w' => (∃ r : Int, e = .returned (.int .i64 r) ∧ (r = -1 ∨ (0 ≤ r ∧ r + szF_De1 xs = left))) ∧ Upd [] w w' := by
  obtain ⟨a, cap, rfl, h1, h2, hc⟩ := slQ_open hR
  unfold maxLen at h2
  have HS := Lib.hid hS
  have HC := Lib.hid hc
  clear hR hS hc
  by_cases hlt : left - (xs.length : Int) < 0
  · go_enter Tryz.func6, Tryz.ntmps6
    go_wp2_with fail
    go_ret
    exact ⟨⟨-1, rfl, Or.inl rfl⟩, Upd.refl _ _⟩
  · have hge : 0 ≤ left - (xs.length : Int) := by omega
    clear hlt
    go_enter Tryz.func6, Tryz.ntmps6
    go_wp2_with fail
    go_loopw [1, 5] (fun kk i wr => ∃ (k : Nat) (l : Int), k ≤ xs.length ∧ i = .int .i64 k ∧ kk = .int .i64 l ∧ 0 ≤ l ∧ l ≤ 1048576 ∧ Hid (l + xs.length + ((xs.take k).map szF_De).sum = left) ∧ Hid (Upd [] w wr)) (fun _ i _ => xs.length - (intOf i).toNat)
    case atStart => exact ⟨0, _, Nat.zero_le _, rfl, rfl, hge, by omega, Lib.hid (by simp), Lib.hid (Upd.refl _ _)⟩
    case round =>
      obtain ⟨wo, rfl⟩ : ∃ wo : World, wo = wr := ⟨_, rfl⟩
      obtain ⟨k, l, hk, rfl, rfl, hl0, hl9, HL, HU⟩ := hrel
      by_cases hlt : k < xs.length
      · obtain ⟨b, off, u, f, rfl, -, -, -, hcell, -, hr⟩ := HC.out k hlt
        have HR := Lib.hid (R_Dek.upd hr HU.out (by simp))
        obtain ⟨v2, f2, rfl, -, -⟩ := hr
        have p0 := HU.out.keep (hcell 0 _ rfl)
        have p1 := HU.out.keep (hcell 1 _ rfl)
        have p2 := HU.out.keep (hcell 2 _ rfl)
        simp only [Nat.add_zero] at p0
        have HT := Lib.hid (szF_De1_snoc xs k hlt)
        have HO := Lib.hid (HS.out xs[k] (List.getElem_mem hlt))
        clear hcell
        generalize hx : xs[k] = x at *
        clear hx
        have S1 := Lib.hid (sz_De _ x l wo f hl0 hl9 HR.out HO.out)
        have hzz := szF_De_nonneg x
        generalize szF_De x = zz at *
        go_wp2_with fail
        refine S1.out.mono ?_
        rintro e w1 ⟨⟨r, rfl, hr2⟩, hu⟩
        have HU1 := Lib.hid (HU.out.trans hu)
        clear S1 hu
        rcases hr2 with rfl | ⟨hr2, hr3⟩
        · go_wp2_with fail
          go_ret
          exact ⟨⟨-1, rfl, Or.inl rfl⟩, HU1.out⟩
        · have H3 := Lib.hid hr3
          have hr4 : r ≤ 1048576 := by omega
          clear hr3
          go_wp2_with fail
          go_roundw
          case rel => exact ⟨k + 1, r, by omega, by go_num, rfl, hr2, hr4, Lib.hid (by have := H3.out; have := HL.out; rw [HT.out]; omega), HU1⟩
          case measure => simp [intOf]; omega
      · obtain rfl : k = xs.length := by omega
        go_wp2_with fail
        go_ret
        exact ⟨⟨l, rfl, Or.inr ⟨hl0, by have := HL.out; rw [List.take_length] at this; unfold szF_De1; omega⟩⟩, HU.out⟩

theorem Tryz.infoDe : (Tryz.prog.info? 56).map (fun i => (i.zero, i.size, i.bytes)) = some (some (.agg #[.string ⟨#[]⟩, .int .i64 0, .slice none 0 0]), 3, 48) := by kernel_rfl
set_option maxRecDepth 20000 in
set_option maxHeartbeats 2000000 in
theorem to_De1 (v : Value) (xs : List De) (w : World) (fp : List Nat) (hl : szF_De1 xs ≤ 1048576) (hR : R_De1 fp w [v] xs) :
    Calls Tryz.prog 8 #[v] w fun e w' => (∃ v', e = .returned v' ∧ New R_De1 w w' v' xs) ∧ Upd [] w w' := by
  obtain ⟨i0, hi, hz0, hz1, hz2⟩ := info_parts Tryz.infoDe
  obtain ⟨a, cap, rfl, h1, h2, hc⟩ := slQ_open hR
  unfold maxLen at h2
  have htn := szF_De1_sum xs
  unfold szF_De1 at hl
  have HC := Lib.hid hc
  clear hR hc
  have hm1 : i0.bytes * xs.length ≤ 281474976710656 := by rw [hz2]; omega
  go_enter Tryz.func8, Tryz.ntmps8
  go_wp2_with (first
    | (at_make; refine wpList_make_full _ rfl _ _ 25 rfl w.heap.size 56 i0 (.agg #[.string ⟨#[]⟩, .int .i64 0, .slice none 0 0]) 3 Tryz.underlying25 hi hz0 hz1 .i64 .i64 _ _ xs.length rfl rfl rfl rfl hm1 (by unfold maxLen; omega) (Nat.le_refl _) ?_; intro w1 hown hgrow)
    | fail)
  have hmd := made_Q ([.string ⟨#[]⟩, .int .i64 0, .slice none 0 0] : List Value) (n := 3) rfl (by decide) xs.length
  rw [hmd] at hown
  have hsz : w.heap.size < w1.heap.size := hown.lt w.heap.size rfl |>.2
  have hU : Upd [] w w1 := (Upd.refl _ _).grown hgrow (by simp)
  clear hgrow hm1 hmd
  go_loopw [4] (fun i wr => ∃ (k : Nat) (us : List (List Value)), k ≤ xs.length ∧ i = .int .i64 k ∧ Hid (Upd [] w wr) ∧ w.heap.size < wr.heap.size ∧
      Hid (wr.ownsRow w.heap.size 56 3 (.slice (some ⟨w.heap.size, 0, none⟩) xs.length xs.length) xs.length (us.flatten ++ (List.replicate (xs.length - k) ([.string ⟨#[]⟩, .int .i64 0, .slice none 0 0] : List Value)).flatten)) ∧
      Hid (RowsQ 3 R_De w.heap.size [w.heap.size] wr us (xs.take k)))
    (fun i _ => xs.length - (intOf i).toNat)
  case atStart => exact ⟨0, [], Nat.zero_le _, rfl, Lib.hid hU, hsz, Lib.hid (by simpa using hown), Lib.hid (RowsQ.nil _ _ _ _ _)⟩
  case round =>
    clear hown hU hsz
    obtain ⟨wo, rfl⟩ : ∃ wo : World, wo = wr := ⟨_, rfl⟩
    obtain ⟨k, us, hk, rfl, HU, hsz, HO, HW⟩ := hrel
    have hlu : us.length = k := by have := HW.out.length; simp at this; omega
    by_cases hlt : k < xs.length
    · obtain ⟨b, off, u, f, rfl, -, -, -, hcell, -, hr⟩ := HC.out k hlt
      have HR := Lib.hid (R_Dek.upd hr HU.out (by simp))
      obtain ⟨v2, f2, rfl, -, -⟩ := hr
      have p0 := HU.out.keep (hcell 0 _ rfl)
      have p1 := HU.out.keep (hcell 1 _ rfl)
      have p2 := HU.out.keep (hcell 2 _ rfl)
      simp only [Nat.add_zero] at p0
      have hxl : szF_De xs[k] ≤ 1048576 := by
        have h1 := szF_De1_snoc xs k hlt
        have h2 := szF_De1_take xs (k + 1)
        have h3 := szF_De1_sum (xs.take k)
        omega
      have HTK := Lib.hid (List.take_succ_eq_append_getElem hlt)
      have HLU := Lib.hid hlu
      clear hcell hlu
      generalize hx : xs[k] = x at *
      clear hx
      have S1 := Lib.hid (to_De _ x wo f hxl HR.out)
      clear hxl
      go_wp2_with fail
      refine S1.out.mono ?_
      rintro e w2 ⟨⟨u2, rfl, hlen, hone, hnew⟩, hu2⟩
      have hown2 := ownsRow_upd HO.out hu2
      have hrep : (List.replicate (xs.length - k) ([.string ⟨#[]⟩, .int .i64 0, .slice none 0 0] : List Value)).flatten.length = (xs.length - k) * 3 := by
        rw [flat_len (n := 3) (by intro y hy; rw [(List.mem_replicate.1 hy).2]; rfl)]; simp
      have hfl : us.flatten.length = k * 3 := by rw [flat_len HW.out.each, HLU.out]
      have hth : w2.there w.heap.size (k * 3) u2.toArray.size := fun j hj => by
        have hj' : j < 3 := by simpa [hlen] using hj
        refine ⟨?_, hown2.frozenAt _⟩
        rw [hown2.cellAt (k * 3 + j) (by omega), List.getElem?_eq_getElem (by rw [List.length_append, hfl, hrep]; omega)]; rfl
      have hszz : (Tryz.prog.info? 56).map (·.size) = some u2.toArray.size := by rw [De_size]; simp [hlen]
      have hrun := run_storeCells_cells (P := Tryz.prog) w.heap.size (k * 3) u2 0 w2 (fun j hj => by simpa using (hth j (by simpa using hj)).1) (fun j hj => by simpa using (hth j (by simpa using hj)).2) (fun v hv => (Array.all_eq_true_iff_forall_mem.1 hone) v (by simpa using hv))
      simp only [Nat.add_zero] at hrun
      have hst := ownsRow_setCells u2 (k * 3) hown2 (by rw [hlen]; omega)
      rw [show xs.length - k = (xs.length - (k + 1)) + 1 by omega, ← HLU.out, filled_set us ([.string ⟨#[]⟩, .int .i64 0, .slice none 0 0] : List Value) _ 3 rfl HW.out.each u2 hlen, HLU.out] at hst
      have hw3 : Upd [w.heap.size] w2 (w2.setCells w.heap.size (k * 3) u2) := upd_setCells _ (Or.inr (by simp)) _ _ (Upd.refl _ _)
      have hrows2 := (HW.out.push R_Dek hu2 hnew hlen (by omega) (by simpa using hsz)).upd R_Dek hw3 (by simp)
      rw [← HTK.out] at hrows2
      have hU2 : Upd [] w (w2.setCells w.heap.size (k * 3) u2) := upd_setCells _ (Or.inl (Nat.le_refl _)) _ _ (HU.out.trans hu2)
      have hsz2 : w.heap.size < (w2.setCells w.heap.size (k * 3) u2).heap.size := by have := hu2.size; have := hw3.size; omega
      have HS := Lib.hid (And.intro hst (And.intro hrows2 hU2))
      clear hown2 hrep hfl hst hw3 hrows2 hU2 hnew hu2 S1 HO HW HU
      clear hth hszz hone
      go_wp2_with fail
      go_roundw
      case rel => exact ⟨k + 1, us ++ [u2], by omega, by go_num, Lib.hid HS.out.2.2, hsz2, Lib.hid HS.out.1, Lib.hid HS.out.2.1⟩
      case measure => simp [intOf]; omega
    · obtain rfl : k = xs.length := by omega
      go_wp2_with fail
      go_ret
      have hrows := HW.out
      have hown := HO.out
      rw [List.take_length] at hrows
      refine ⟨⟨_, rfl, hrows.new (e := 56) (by simpa using hown) (by simp [Value.ownBlock]) (Nat.le_refl _)⟩, HU.out⟩

set_option maxRecDepth 20000 in
set_option maxHeartbeats 2000000 in
theorem eq_De1 (v1 v2 : Value) (xs : List De) (w : World) (fp fp2 : List Nat) (h1 : R_De1 fp w [v1] xs) (h2 : R_De1 fp2 w [v2] xs) :
    Calls Tryz.prog 10 #[v1, v2] w fun e w' => e = .returned (.bool true) ∧ Upd [] w w' := by
  obtain ⟨a1, c1, rfl, hl1, hm1, hc1⟩ := slQ_open h1
  obtain ⟨a2, c2, rfl, hl2, hm2, hc2⟩ := slQ_open h2
  unfold maxLen at hm1 hm2
  have HC1 := Lib.hid hc1
  have HC2 := Lib.hid hc2
  have hbe : ((xs.length : Int) != (xs.length : Int)) = false := by simp
  clear h1 h2 hc1 hc2
  go_enter Tryz.func10, Tryz.ntmps10
  go_wp2_with fail
  go_loopw [5] (fun i wr => ∃ k : Nat, k ≤ xs.length ∧ i = .int .i64 k ∧ Hid (Upd [] w wr)) (fun i _ => xs.length - (intOf i).toNat)
  case atStart => exact ⟨0, Nat.zero_le _, rfl, Lib.hid (Upd.refl _ _)⟩
  case round =>
    obtain ⟨wo, rfl⟩ : ∃ wo : World, wo = wr := ⟨_, rfl⟩
    obtain ⟨k, hk, rfl, HU⟩ := hrel
    by_cases hlt : k < xs.length
    · obtain ⟨b1, o1, u, f, rfl, -, -, -, hcell, -, hr⟩ := HC1.out k hlt
      obtain ⟨b2, o2, u', f', rfl, -, -, -, hcell2, -, hr2⟩ := HC2.out k hlt
      have HR := Lib.hid (R_Dek.drewN (R_Dek.upd hr HU.out (by simp)))
      have HR2 := Lib.hid (R_Dek.drewN (R_Dek.upd hr2 HU.out (by simp)))
      obtain ⟨v2, f2, rfl, -, -⟩ := hr
      obtain ⟨u2, _, rfl, -, -⟩ := hr2
      have p0 := HU.out.keep (hcell 0 _ rfl)
      have p1 := HU.out.keep (hcell 1 _ rfl)
      have p2 := HU.out.keep (hcell 2 _ rfl)
      have q0 := HU.out.keep (hcell2 0 _ rfl)
      have q1 := HU.out.keep (hcell2 1 _ rfl)
      have q2 := HU.out.keep (hcell2 2 _ rfl)
      simp only [Nat.add_zero] at p0 q0
      clear hcell hcell2
      generalize hx : xs[k] = x at *
      clear hx
      have S1 := Lib.hid (fun W (hu : Upd [] wo W) => eq_De _ _ x W f f' (R_Dek.upd (HR.out 0) hu (by simp)) (R_Dek.upd (HR2.out 0) hu (by simp)))
      clear HR HR2
      obtain ⟨t0, ht0⟩ : ∃ t, t = es x.name := ⟨_, rfl⟩
      rw [← ht0] at p0 q0 S1
      clear ht0
      obtain ⟨t1, ht1⟩ : ∃ t, t = ei x.pars := ⟨_, rfl⟩
      rw [← ht1] at p1 q1 S1
      clear ht1
      go_wp2_with fail
      go_region_held3 (fun w' => w'.cell? ⟨b1, o1 + k * 3, none⟩ = some (t0) ∧ w'.cell? ⟨b1, o1 + k * 3 + 1, none⟩ = some (t1) ∧ w'.cell? ⟨b1, o1 + k * 3 + 2, none⟩ = some (v2) ∧ w'.cell? ⟨b2, o2 + k * 3, none⟩ = some (t0) ∧ w'.cell? ⟨b2, o2 + k * 3 + 1, none⟩ = some (t1) ∧ w'.cell? ⟨b2, o2 + k * 3 + 2, none⟩ = some (u2)) (go_keep) (((with_reducible refine (S1.out _ (by repeat (first | exact Upd.refl _ _ | refine Upd.drew ?_ | refine Upd.drewN ?_ _))).mono ?_); rintro e w1 ⟨rfl, hu1⟩; have a0 := hu1.keep p0; have b0 := hu1.keep q0; have a1 := hu1.keep p1; have b1 := hu1.keep q1; have a2 := hu1.keep p2; have b2 := hu1.keep q2; skip))
      all_goals
        have HU1 := Lib.hid (HU.out.drew.trans hu1)
        clear hu1 HU
        go_wp2_with fail
        go_roundw
        case rel => exact ⟨k + 1, by omega, by go_num, HU1⟩
        case measure => simp [intOf]; omega
    · have hge : xs.length ≤ k := by omega
      go_wp2_with fail
      go_ret
      exact ⟨rfl, HU.out⟩

end Go.Proofs.YtjelcjiofcoifaaGreatDoor

/-
  The text of a body: what the reference's calls return.
-/
namespace Go.Proofs.YtjelcjiofcoifaaGreatDoor
open Go.RowKit

theorem Tryz.infoStrD : (Tryz.prog.info? 9).map (fun i => (i.zero, i.size, i.bytes)) = some (some (.string ⟨#[]⟩), 1, 16) := by kernel_rfl
theorem Tryz.infoBoolD : (Tryz.prog.info? 4).map (fun i => (i.zero, i.size, i.bytes)) = some (some (.bool false), 1, 1) := by kernel_rfl
theorem nodeD_len (ns : List (List UInt8)) {ds : List De} (hn : ∀ n ∈ ns, n.length ≤ 10) (p : Pa) (hp : PaFine ds p) (c0 : Bool) (t0 t1 : List UInt8) (h0 : t0.length ≤ 40000) (h1 : t1.length ≤ 40000) : (nodeD ns p c0 t0 t1).length ≤ 90000 := by
  have ha := args_len p.args hp.three
  have hg := getD_len ns hn p.num.toNat
  have hb := par_len c0 t0
  unfold nodeD
  split
  · rename_i e
    have := hp.act e
    simp only [List.length_append, List.length_cons, List.length_nil]; omega
  split
  · simp only [List.length_append, List.length_cons, List.length_nil]; omega
  split
  · have := expT_len (p.args.getD 0 [])
    simp only [List.length_append, List.length_cons, List.length_nil]; omega
  split
  · rename_i e
    have := hp.sum e
    have := itoa_two (n := p.num) (by omega) (by omega)
    simp only [List.length_append, List.length_cons, List.length_nil]; omega
  split
  · simp only [List.length_append]; omega
  · simp only [List.length_cons, List.length_nil]; omega

/-- what stands on the reference's stacks: the forest of the parts from k on. -/
structure BdS (ns : List (List UInt8)) (w0 w : World) (tv lv : Value) (n g ct gl cl : Nat) (xs : List (Tr Pa)) : Prop where
  st : StkB (pT ns) chP w0 w tv lv xs
  tv : tv = .slice (some ⟨g, 0, none⟩) n ct
  lv : lv = .slice (some ⟨gl, 0, none⟩) n cl
  tc : n ≤ ct ∧ ct ≤ 9223372036854775807
  lc : n ≤ cl ∧ cl ≤ 9223372036854775807

set_option maxRecDepth 20000 in
set_option maxHeartbeats 16000000 in
theorem bodyDS (ds : List De) (dv : Value) (fd : List Nat) (v : Value) (f : List Pa) (x : Tr Pa) (w : World) (fp : List Nat) (ns : List (List UInt8)) (hnsd : ns = ds.map De.name) (hnn : ∀ n ∈ ns, n.length ≤ 10) (hDS : R_De1 fd w [dv] ds) (hR : R_Pa1 fp w [v] f) (hsg : shapeG folP 1 f = true) (hln : f.length ≤ 20) (hfit : ∀ n ∈ f, PaFine ds n) (hx : forestT folP f = [x]) :
    Calls Tryz.prog 53 #[dv, v] w fun e w' => e = .returned (es (pT ns x)) ∧ Upd [] w w' := by
  obtain ⟨i1, ki, kz0, kz1, kz2⟩ := info_parts Tryz.infoBoolD
  obtain ⟨i2, ji, jz0, jz1, jz2⟩ := info_parts Tryz.infoStrD
  obtain ⟨a1, c1, rfl, hl1, hm1, hc1⟩ := slQ_open hR
  obtain ⟨ad, qd, rfl, -, hqd, hcd⟩ := slQ_open hDS
  unfold maxLen at hm1 hqd
  have HST := Lib.hid (fun k hk => forestT_step folP_nn hsg k hk)
  have HFL := Lib.hid (fun k (hk : k ≤ f.length) => by
    obtain ⟨q, q0, -, q2⟩ := shapeG_drop folP_nn f 1 (by omega) hsg k hk
    exact (forestT_ok folP_nn _ q q0 q2).2.2 : ∀ k, k ≤ f.length → flatTs (forestT folP (f.drop k)) = f.drop k)
  have HFO2 := Lib.hid (fun k (hk : k ≤ f.length) => by
    obtain ⟨q, q0, -, q2⟩ := shapeG_drop folP_nn f 1 (by omega) hsg k hk
    exact (forestT_ok folP_nn _ q q0 q2).2.1 : ∀ k, k ≤ f.length → okTs folP (forestT folP (f.drop k)) = true)
  have HX0 := Lib.hid (show forestT folP (f.drop 0) = [x] from hx)
  have HXE := Lib.hid (show forestT folP (f.drop f.length) = [] by rw [List.drop_length]; rfl)
  have HFIT := Lib.hid hfit
  have HC := Lib.hid hc1
  have HCD := Lib.hid hcd
  have HNS := Lib.hid hnsd
  have HL0 := Lib.hid (fun (w : World) (T : TypeId) => World.ownsRow_lit (base := w.heap.size) (e := T) (size := 1) w #[] 0 (Nat.le_refl _) (by simp [maxLen]) (by simp))
  generalize hFO : (fun k => forestT folP (f.drop k)) = FO at *
  have HFO := Lib.hid (show ∀ k, forestT folP (f.drop k) = FO k from fun k => by rw [← hFO])
  clear hR hfit hx hsg hc1 hFO hDS hcd hnsd
  go_enter Tryz.func53, Tryz.ntmps53
  go_wp2_with fail
  go_loopw [5, 6, 7] (fun tv lv iv wr => ∃ (k n g ct gl cl : Nat), k ≤ f.length ∧ iv = .int .i64 ((k : Int) - 1) ∧ tv = .slice (some ⟨g, 0, none⟩) n ct ∧ lv = .slice (some ⟨gl, 0, none⟩) n cl ∧ n = (FO k).length ∧ Upd [] w wr ∧ Hid (BdS ns w wr tv lv n g ct gl cl (FO k))) (fun _ _ iv _ => (intOf iv + 1).toNat)
  case atStart =>
    have h0 : FO f.length = [] := by rw [← HFO.out]; exact HXE.out
    refine ⟨f.length, 0, w.heap.size, 0, w.heap.size + 1, 0, Nat.le_refl _, by go_num, rfl, rfl, by rw [h0]; rfl, ((Upd.refl _ _).alloc _).alloc _, Lib.hid ?_⟩
    rw [h0]
    refine ⟨⟨?_, ?_, ?_⟩, rfl, rfl, by omega, by omega⟩
    · simpa [txG] using ownsRow_upd (HL0.out w 9) ((Upd.refl [] _).alloc (.cells #[] 4))
    · have := World.ownsRow_lit (base := w.heap.size) (e := 4) (size := 1) (w.alloc (.cells #[] 9)) #[] 0 (by simp) (by simp [maxLen]) (by simp)
      simpa [lvB] using this
    · intro b hb hb2
      simp [Value.ownBlock] at hb hb2
      omega
  case round =>
    clear HL0
    obtain ⟨wo, rfl⟩ : ∃ wo : World, wo = wr := ⟨_, rfl⟩
    obtain ⟨k, n, g, ct, gl, cl, hk, rfl, rfl, rfl, hn, hU, hS⟩ := hrel
    obtain ⟨htc1, htc2⟩ := hS.out.tc
    obtain ⟨hlc1, hlc2⟩ := hS.out.lc
    match k, hk, hS with
    | 0, hk, hS =>
      have h0 : FO 0 = [x] := by rw [← HFO.out]; exact HX0.out
      rw [h0] at hn
      subst hn
      have hS1 := hS.out
      rw [h0] at hS1
      have hc0 : wo.cell? ⟨g, 0, none⟩ = some (es (pT ns x)) := by
        have := hS1.st.t.cellAt 0 (by simp)
        simpa [txG] using this
      have HU := Lib.hid hU
      simp only [List.length_cons, List.length_nil, Nat.zero_add] at htc1 htc2 ⊢
      clear hS hS1 hU h0
      go_wp2_with fail
      go_ret
      exact ⟨rfl, HU.out⟩
    | k + 1, hk, hS =>
      subst hn
      rw [show (((k + 1 : Nat) : Int) - 1) = (k : Int) by omega]
      obtain ⟨b1, o1, u, f', rfl, -, -, -, hcell, -, hr⟩ := HC.out k (by omega)
      obtain ⟨v3, f3, rfl, h3, rfl⟩ := hr
      have h3' := h3
      obtain ⟨a3, c3, rfl, l3, m3, -⟩ := slP_open h3
      unfold maxLen at m3
      have p0 := hU.keep (hcell 0 _ rfl)
      have p1 := hU.keep (hcell 1 _ rfl)
      have p2 := hU.keep (hcell 2 _ rfl)
      have p3 := hU.keep (hcell 3 _ rfl)
      simp only [Nat.add_zero] at p0
      obtain ⟨hstep, hle⟩ := HST.out k (by omega)
      rw [HFO.out, HFO.out] at hstep
      rw [HFO.out] at hle
      have hfit := HFIT.out f[k] (List.getElem_mem _)
      have hfl := HFL.out (k + 1) (by omega)
      rw [HFO.out] at hfl
      have hoks := HFO2.out (k + 1) (by omega)
      rw [HFO.out, okTs_all, List.all_eq_true] at hoks
      have hall : ∀ y ∈ FO (k + 1), (pT ns y).length ≤ 40000 := by
        intro y hy
        have h1 : ∀ t ∈ flatT y, PaFine ds t := fun t ht => HFIT.out t (List.mem_of_mem_drop (hfl ▸ flatTs_mem hy t ht))
        have h2 := pT_len hnn y (hoks y hy) h1
        obtain ⟨i, hi, rfl⟩ := List.getElem_of_mem hy
        have h3 := flatT_arg_le (FO (k + 1)) i hi
        rw [hfl, List.length_drop] at h3
        omega
      have hnx : (FO (k + 1)).length ≤ 20 := by
        have h1 := forestT_leD (FO (k + 1))
        rw [hfl, List.length_drop] at h1
        omega
      generalize FO (k + 1) = xs at *
      have htx := pT_node ns f[k] xs
      have hkt0 : ∀ q, chP (.mk f[k] q) = (f[k].kind == 2) := fun _ => rfl
      have hai := folP_le f[k]
      have hai0 := folP_nn f[k]
      have HRT := Lib.hid (fun W (hu : Upd [] w W) => R_T2k.upd h3' hu (by simp))
      generalize f[k] = t at *
      obtain ⟨t1, t2, t3, t4⟩ := t
      obtain ⟨a, ha⟩ : ∃ a : Nat, folP ⟨t1, t2, t3, t4⟩ = a := ⟨(folP ⟨t1, t2, t3, t4⟩).toNat, by omega⟩
      have hat : (folP (⟨t1, t2, t3, t4⟩ : Pa)).toNat = a := by omega
      rw [hat] at hle hstep htx
      simp only at p0 p1 p2 p3 htx hkt0 HRT l3
      obtain ⟨ys, hys⟩ : ∃ ys, ys = xs.drop a := ⟨_, rfl⟩
      have hmx : ys.length = xs.length - a := by rw [hys, List.length_drop]
      have hm : xs.length = ys.length + a := by omega
      have htk := ownsRow_take hS.out.st.t ys.length (by omega)
      have hlk := ownsRow_take hS.out.st.l ys.length (by omega)
      rw [hmx, txG_take, ← hmx, ← hys] at htk
      rw [hmx, lvB_take, ← hmx, ← hys] at hlk
      rw [← hys] at hstep
      have hcells : ∀ i, (hi : i < xs.length) → wo.cell? ⟨g, ys.length + a - 1 - i, none⟩ = some (es (pT ns xs[i])) ∧ wo.cell? ⟨gl, ys.length + a - 1 - i, none⟩ = some (.bool (chP xs[i])) := fun i hi => by
        have q1 := hS.out.st.t.cellAt (xs.length - 1 - i) (by omega)
        have q2 := hS.out.st.l.cellAt (xs.length - 1 - i) (by omega)
        rw [txG_at xs i hi] at q1
        rw [lvB_at xs i hi] at q2
        rw [← hm]
        exact ⟨q1, q2⟩
      have C0 := Lib.hid (show 1 ≤ a → wo.cell? ⟨g, ys.length + a - 1, none⟩ = some (es ((xs.map (pT ns)).getD 0 [])) ∧ wo.cell? ⟨gl, ys.length + a - 1, none⟩ = some (.bool ((xs.map chP).getD 0 false)) from fun h => by
        have h0 : 0 < xs.length := by omega
        rw [getD_ltD xs _ 0 _ h0, getD_ltD xs _ 0 _ h0]
        exact hcells 0 h0)
      have C1 := Lib.hid (show 2 ≤ a → wo.cell? ⟨g, ys.length + a - 2, none⟩ = some (es ((xs.map (pT ns)).getD 1 [])) from fun h => by
        have h0 : 1 < xs.length := by omega
        rw [getD_ltD xs _ 1 _ h0]
        exact (hcells 1 h0).1)
      have hT0 : ((xs.map (pT ns)).getD 0 []).length ≤ 40000 ∧ ((xs.map (pT ns)).getD 1 []).length ≤ 40000 := by
        constructor
        · by_cases h0 : 0 < xs.length
          · rw [getD_ltD xs _ 0 _ h0]; exact hall _ (List.getElem_mem h0)
          · have : xs = [] := List.eq_nil_of_length_eq_zero (by omega)
            subst this; simp
        · by_cases h0 : 1 < xs.length
          · rw [getD_ltD xs _ 1 _ h0]; exact hall _ (List.getElem_mem h0)
          · rw [List.getD_eq_getElem?_getD, List.getElem?_eq_none (by simp; omega)]; simp
      obtain ⟨tr, htr⟩ : ∃ tr, tr = Tr.mk (⟨t1, t2, t3, t4⟩ : Pa) (xs.take a) := ⟨_, rfl⟩
      rw [← htr] at hstep htx
      have hkt : chP tr = (t1 == 2) := by rw [htr]; rfl
      have HTK := Lib.hid htk
      have HLK := Lib.hid hlk
      have HFK := Lib.hid (And.intro hstep hkt)
      have HAP := Lib.hid hS.out.st.apart
      have HU := Lib.hid hU
      generalize (xs.map (pT ns)).getD 0 [] = T0 at *
      generalize (xs.map (pT ns)).getD 1 [] = T1 at *
      generalize (xs.map chP).getD 0 false = K0 at *
      have HTX := Lib.hid htx
      have hSl := nodeD_len ns hnn ⟨t1, t2, t3, t4⟩ hfit K0 T0 T1 hT0.1 hT0.2
      obtain ⟨S, hSd⟩ : ∃ S, S = nodeD ns ⟨t1, t2, t3, t4⟩ K0 T0 T1 := ⟨_, rfl⟩
      rw [← hSd] at hSl
      have HSD := Lib.hid hSd
      have HA := Lib.hid ha
      have HF := Lib.hid hfit
      have hkd := hfit.kind
      have ha2 : a ≤ 2 := by omega
      have hT0l := hT0.1
      have hT1l := hT0.2
      have hsz0 := hU.size
      have hkl : k < f.length := by omega
      have hki : (k : Int) < (f.length : Int) := by omega
      have PS := Lib.hid (show (W : World) → W = wo.alloc (.cells #[ei t1, ei t2, es t3, .slice a3 t4.length c3] 134) → Upd [] wo W ∧ W.cell? ⟨wo.heap.size, 0, none⟩ = some (ei t1) ∧ W.cell? ⟨wo.heap.size, 1, none⟩ = some (ei t2) ∧ W.cell? ⟨wo.heap.size, 2, none⟩ = some (es t3) ∧ W.cell? ⟨wo.heap.size, 3, none⟩ = some (.slice a3 t4.length c3) from fun W hW => by
        subst hW
        exact ⟨(Upd.refl _ _).alloc _, cell_new wo _ _ _ rfl 0 _ rfl, cell_new wo _ _ _ rfl 1 _ rfl, cell_new wo _ _ _ rfl 2 _ rfl, cell_new wo _ _ _ rfl 3 _ rfl⟩)
      clear hU hS htk hlk hstep hle htx hall hcells hfl hat ha hai hai0 hmx hSd hT0 hkt htr hys hkt0 hoks hfit h3 h3' hcell
      generalize xs.length = n at *
      subst hm
      simp only at hkd
      obtain ⟨wP, hwP⟩ : ∃ q, q = wo.alloc (.cells #[ei t1, ei t2, es t3, .slice a3 t4.length c3] 134) := ⟨_, rfl⟩
      obtain ⟨uP, x0, x1, x2, x3⟩ := PS.out wP hwP
      obtain ⟨BP, hBP⟩ : ∃ q, q = wo.heap.size := ⟨_, rfl⟩
      rw [← hBP] at x0 x1 x2 x3
      have hgBP : g < BP := by have := (HTK.out.lt g rfl).2; omega
      have hgw : w.heap.size ≤ g := (HTK.out.lt g rfl).1
      have HTK := Lib.hid (ownsRow_upd HTK.out uP)
      have HLK := Lib.hid (ownsRow_upd HLK.out uP)
      have C0 := Lib.hid (fun h => And.intro (uP.keep (C0.out h).1) (uP.keep (C0.out h).2))
      have C1 := Lib.hid (fun h => uP.keep (C1.out h))
      have HU := Lib.hid (HU.out.trans uP)
      have hsz0 := HU.out.size
      go_upto_region 7 with (fail)
      rw [← hwP, ← hBP]
      clear hwP hBP p0 p1 p2 p3 PS uP
      obtain ⟨wo', rfl⟩ : ∃ q, q = wo := ⟨_, rfl⟩
      obtain ⟨wo, rfl⟩ : ∃ q, q = wP := ⟨_, rfl⟩
      rcases (by omega : t1 = 0 ∨ t1 = 5 ∨ t1 = 1 ∨ t1 = 2 ∨ t1 = 3 ∨ t1 = 4) with rfl | rfl | rfl | rfl | rfl | rfl
      · obtain rfl : a = 0 := by have h := HA.out; rw [show folP _ = 0 from rfl] at h; omega
        obtain rfl : S = [48] := by rw [HSD.out]; rfl
        obtain ⟨wq, rfl⟩ : ∃ wq : World, wq = wo := ⟨_, rfl⟩
        have ht2 := HTK.out
        have hl2 := HLK.out
        have HU2 := HU
        have z1 : ys.length + 0 = ys.length := rfl
        clear C0 C1 HA HTK HLK HU x1 x2 x3
        go_wp2_with (first
          | (at_builtin; refine wpList_append_lies _ rfl _ _ 31 rfl w.heap.size 9 i2 (.string ⟨#[]⟩) 1 16 Tryz.underlying31 ji jz0 jz1 jz2 rfl (by decide) (.slice (some ⟨g, 0, none⟩) ys.length ct) ys.length (txG (pT ns) ys) rfl (ht2.alloc _) ⟨wq.heap.size, 0, none⟩ 1 1 [es ([48] : List UInt8)] rfl rfl (fun j u hj => by rw [addr_add]; exact cell_new wq #[es ([48] : List UInt8)] _ _ rfl _ _ (by simpa using hj)) (by simp [Value.oneCell']) (by decide) (by unfold maxLen; omega) (by omega) (by simp; omega) (wq.heap.size + 1) (by simp) ?_)
          | fail)
        intro g3 cap3 w3 hown3 hg3 hat3 hlt3
        obtain ⟨_, _, hv3, mm1, mm2, -, -, -⟩ := own_cellsX hown3 (by omega)
        simp only [Value.slice.injEq] at hv3
        obtain ⟨-, -, rfl⟩ := hv3
        unfold maxLen at mm2
        have hla := ownsRow_upd hl2 ((Upd.refl [] wq).alloc (.cells #[es ([48] : List UInt8)] 9))
        have hg3 : (wq.alloc (.cells #[es ([48] : List UInt8)] 9)).grownBy w3 (Value.slice (some ⟨g, 0, none⟩) ys.length ct).ownBlock := ⟨hg3.os, hg3.tape, hg3.output, hg3.size, hg3.block⟩
        have hl3 := StkB.levels (o := .cells #[.bool false] 4) (tvc := Value.slice (some ⟨g, 0, none⟩) ys.length ct) hla HAP.out hg3
        have hU3 := (HU2.out.alloc (.cells #[es ([48] : List UInt8)] 9)).grown hg3 (fun b hb => Or.inl ((ht2.lt b hb).1))
        have hsz3 := hU3.size
        have HU3 := Lib.hid hU3
        have HLA := Lib.hid hla
        have HT3 := Lib.hid (show ∀ b, (Value.slice (some ⟨g3, 0, none⟩) (ys.length + 1) cap3).ownBlock = some b → (Value.slice (some ⟨g, 0, none⟩) ys.length ct).ownBlock = some b ∨ (wq.alloc (.cells #[es ([48] : List UInt8)] 9)).heap.size ≤ b from fun b hb => by
          simp only [Value.ownBlock, Option.some.injEq] at hb
          subst hb
          rcases hat3 with h | h
          · exact Or.inl h
          · exact Or.inr (by simp; omega))
        have HO3 := Lib.hid hown3
        clear hg3 hat3 hlt3 ht2 hl2 hown3 hla hU3
        go_wp2_with (first
          | (at_builtin; refine wpList_append_lies _ rfl _ _ 131 rfl w.heap.size 4 i1 (.bool false) 1 1 Tryz.underlying131 ki kz0 kz1 kz2 rfl (by decide) (.slice (some ⟨gl, 0, none⟩) ys.length cl) ys.length (lvB chP ys) rfl hl3 ⟨w3.heap.size, 0, none⟩ 1 1 [.bool false] rfl rfl (fun j u hj => by rw [addr_add]; exact cell_new w3 #[.bool false] _ _ rfl _ _ (by simpa using hj)) (by simp [Value.oneCell']) (by decide) (by unfold maxLen; omega) (by omega) (by simp; omega) (w3.heap.size + 1) (by simp) ?_)
          | fail)
        intro g4 cap4 w4 hown4 hg4 hat4 hlt4
        obtain ⟨_, _, hv4, nn1, nn2, -, -, -⟩ := own_cellsX hown4 (by omega)
        simp only [Value.slice.injEq] at hv4
        obtain ⟨-, -, rfl⟩ := hv4
        unfold maxLen at nn2
        have hS4 : StkB (pT ns) chP w w4 (.slice (some ⟨g3, 0, none⟩) (ys.length + 1) cap3) (.slice (some ⟨g4, 0, none⟩) (ys.length + 1) cap4) (tr :: ys) := StkB.done (o := .cells #[.bool false] 4) HLA.out HAP.out (by rw [HTX.out, ← HSD.out]; exact HO3.out) HT3.out (by rw [HFK.out.2]; exact hown4) hg4 (fun b hb => by
          simp only [Value.ownBlock, Option.some.injEq] at hb
          subst hb
          rcases hat4 with h | h
          · exact Or.inl h
          · exact Or.inr (by simp; omega))
        have hU4 : Upd [] w w4 := (HU3.out.alloc (.cells #[.bool false] 4)).grown hg4 (fun b hb => Or.inl ((hl3.lt b hb).1))
        have HP := Lib.hid (And.intro hS4 hU4)
        clear hown4 hg4 hat4 hlt4 hS4 hU4 hl3 HTX HSD HLA HT3 HO3 HU3
        go_wp2_with fail
        go_roundw
        case rel => exact ⟨k, ys.length + 1, g3, cap3, g4, cap4, by omega, by go_num, rfl, rfl, by rw [HFK.out.1]; rfl, HP.out.2, Lib.hid ⟨by rw [HFK.out.1]; exact HP.out.1, rfl, rfl, ⟨mm1, mm2⟩, ⟨nn1, nn2⟩⟩⟩
        case measure => simp [intOf]
      · obtain rfl : a = 0 := by have h := HA.out; rw [show folP _ = 0 from rfl] at h; omega
        as_aux_lemma =>
          obtain ⟨e0, e1⟩ := HF.out.call rfl
          simp only at e0 e1
          obtain ⟨j, rfl⟩ : ∃ j : Nat, t2 = j := ⟨t2.toNat, by omega⟩
          have hj : j < ds.length := by omega
          obtain ⟨bl, ol, ul, fl, rfl, -, hbl, -, hcelll, -, hrl⟩ := HCD.out j hj
          obtain ⟨v5, f5, rfl, -, -⟩ := hrl
          have dl := HU.out.keep (hcelll 0 _ rfl)
          simp only [Nat.add_zero] at dl
          have hnj : ns.getD j [] = ds[j].name := by
            rw [HNS.out, List.getD_eq_getElem?_getD, List.getElem?_map, List.getElem?_eq_getElem hj]; rfl
          have hnl : ds[j].name.length ≤ 10 := hnn _ (by rw [HNS.out]; exact List.mem_map.2 ⟨_, List.getElem_mem hj, rfl⟩)
          have hAl := args_len t4 HF.out.three
          have TA := Lib.hid (fun V (hu : Upd [] wo V) => argsDS (.slice a3 t4.length c3) t4 V f3 (HRT.out V (HU.out.trans hu)) HF.out.three HF.out.exps)
          have hjl : (j : Int) < (ds.length : Int) := by omega
          obtain ⟨A, hA⟩ : ∃ A, A = argsTxt t4 := ⟨_, rfl⟩
          rw [← hA] at TA hAl
          have hc1 : (ByteArray.mk ds[j].name.toArray ++ ByteArray.mk A.toArray) = ByteArray.mk S.toArray := by rw [show S = ds[j].name ++ A by rw [HSD.out, hA, ← hnj]; simp [nodeD], catE]
          clear hcelll hnj hA
          generalize ds[j].name = nm at *
          have n1 : ¬ (9223372036854775807 < nm.length + A.length) := by omega
          have nBg : BP ∉ (Value.slice (some ⟨g, 0, none⟩) ys.length ct).ownBlock.toList := by simp [Value.ownBlock]; omega
          have nLg : bl ∉ (Value.slice (some ⟨g, 0, none⟩) ys.length ct).ownBlock.toList := by simp [Value.ownBlock]; omega
          have z1 : ys.length + 0 = ys.length := rfl
          clear C0 C1 HA x2
          go_wp2_with fail
          go_region_held3 (fun w' => w'.cell? ⟨BP, 1, none⟩ = some (ei j) ∧ w'.cell? ⟨BP, 3, none⟩ = some (.slice a3 t4.length c3) ∧ w'.cell? ⟨bl, ol + j * 3, none⟩ = some (es nm)) (go_keep)
            (first
              | (go_at_call 84; (with_reducible refine (TA.out _ (by repeat (first | exact Upd.refl _ _ | assumption | refine Upd.drew ?_))).mono ?_); rintro e wq ⟨rfl, hu1⟩; have hV1 : Upd [] wo wq := Upd.trans (by repeat (first | exact Upd.refl _ _ | assumption | refine Upd.drew ?_)) hu1; have y1 := hV1.keep x1; have y3 := hV1.keep x3; have yl := hV1.keep dl; have ht2 := ownsRow_upd HTK.out hV1; have HU2 := Lib.hid (HU.out.trans hV1); have hsz2 : w.heap.size ≤ wq.heap.size := HU2.out.size)
              | (refine step_append_lies _ (by rfl) _ _ 31 (by rfl) w.heap.size 9 i2 (.string ⟨#[]⟩) 1 16 Tryz.underlying31 ji jz0 jz1 jz2 rfl (by decide) (.slice (some ⟨g, 0, none⟩) ys.length ct) ys.length (txG (pT ns) ys) (by rfl) (ht2.alloc _) ⟨wq.heap.size, 0, none⟩ 1 1 [es S] (by rfl) (by rfl) (by intro j u hj; rw [addr_add, Nat.zero_add]; exact cell_new wq #[es S] _ _ rfl j u (by simpa using hj)) (by simp [Value.oneCell']) (by decide) (by unfold maxLen; omega) (by omega) (by simp; omega) (wq.heap.size + 1) (by simp) ?_; intro g3 cap3 w3 hown3 hg3 hat3 hlt3; have hv7 : Upd (Value.slice (some ⟨g, 0, none⟩) ys.length ct).ownBlock.toList (wq.alloc (.cells #[es S] 9)) w3 := (Upd.refl _ _).grown hg3 (fun k hk => Or.inr (by simp [hk])); have m1 := hv7.keepF nBg (((Upd.refl [] wq).alloc (.cells #[es S] 9)).keep y1); have m3 := hv7.keepF nBg (((Upd.refl [] wq).alloc (.cells #[es S] 9)).keep y3); have ml := hv7.keepF nLg (((Upd.refl [] wq).alloc (.cells #[es S] 9)).keep yl)))
          all_goals
            have hl2 := ownsRow_upd HLK.out hV1
            clear hv7 m1 m3 ml y1 y3 yl hu1 TA x0 x1 x3 dl HTK HLK HU
            obtain ⟨_, _, hv3, mm1, mm2, -, -, -⟩ := own_cellsX hown3 (by omega)
            simp only [Value.slice.injEq] at hv3
            obtain ⟨-, -, rfl⟩ := hv3
            unfold maxLen at mm2
            have hla := ownsRow_upd hl2 ((Upd.refl [] wq).alloc (.cells #[es S] 9))
            have hg3 : (wq.alloc (.cells #[es S] 9)).grownBy w3 (Value.slice (some ⟨g, 0, none⟩) ys.length ct).ownBlock := ⟨hg3.os, hg3.tape, hg3.output, hg3.size, hg3.block⟩
            have hl3 := StkB.levels (o := .cells #[.bool false] 4) (tvc := Value.slice (some ⟨g, 0, none⟩) ys.length ct) hla HAP.out hg3
            have hU3 := (HU2.out.alloc (.cells #[es S] 9)).grown hg3 (fun b hb => Or.inl ((ht2.lt b hb).1))
            have hsz3 := hU3.size
            have HU3 := Lib.hid hU3
            have HLA := Lib.hid hla
            have HT3 := Lib.hid (show ∀ b, (Value.slice (some ⟨g3, 0, none⟩) (ys.length + 1) cap3).ownBlock = some b → (Value.slice (some ⟨g, 0, none⟩) ys.length ct).ownBlock = some b ∨ (wq.alloc (.cells #[es S] 9)).heap.size ≤ b from fun b hb => by
              simp only [Value.ownBlock, Option.some.injEq] at hb
              subst hb
              rcases hat3 with h | h
              · exact Or.inl h
              · exact Or.inr (by simp; omega))
            have HO3 := Lib.hid hown3
            clear hg3 hat3 hlt3 ht2 hl2 hown3 hla hU3
            go_wp2_with (first
              | (at_builtin; refine wpList_append_lies _ rfl _ _ 131 rfl w.heap.size 4 i1 (.bool false) 1 1 Tryz.underlying131 ki kz0 kz1 kz2 rfl (by decide) (.slice (some ⟨gl, 0, none⟩) ys.length cl) ys.length (lvB chP ys) rfl hl3 ⟨w3.heap.size, 0, none⟩ 1 1 [.bool false] rfl rfl (fun j u hj => by rw [addr_add]; exact cell_new w3 #[.bool false] _ _ rfl _ _ (by simpa using hj)) (by simp [Value.oneCell']) (by decide) (by unfold maxLen; omega) (by omega) (by simp; omega) (w3.heap.size + 1) (by simp) ?_)
              | fail)
            intro g4 cap4 w4 hown4 hg4 hat4 hlt4
            obtain ⟨_, _, hv4, nn1, nn2, -, -, -⟩ := own_cellsX hown4 (by omega)
            simp only [Value.slice.injEq] at hv4
            obtain ⟨-, -, rfl⟩ := hv4
            unfold maxLen at nn2
            have hS4 : StkB (pT ns) chP w w4 (.slice (some ⟨g3, 0, none⟩) (ys.length + 1) cap3) (.slice (some ⟨g4, 0, none⟩) (ys.length + 1) cap4) (tr :: ys) := StkB.done (o := .cells #[.bool false] 4) HLA.out HAP.out (by rw [HTX.out, ← HSD.out]; exact HO3.out) HT3.out (by rw [HFK.out.2]; exact hown4) hg4 (fun b hb => by
              simp only [Value.ownBlock, Option.some.injEq] at hb
              subst hb
              rcases hat4 with h | h
              · exact Or.inl h
              · exact Or.inr (by simp; omega))
            have hU4 : Upd [] w w4 := (HU3.out.alloc (.cells #[.bool false] 4)).grown hg4 (fun b hb => Or.inl ((hl3.lt b hb).1))
            have HP := Lib.hid (And.intro hS4 hU4)
            clear hown4 hg4 hat4 hlt4 hS4 hU4 hl3 HTX HSD HLA HT3 HO3 HU3
            go_wp2_with fail
            go_roundw
            case rel => exact ⟨k, ys.length + 1, g3, cap3, g4, cap4, by omega, by go_num, rfl, rfl, by rw [HFK.out.1]; rfl, HP.out.2, Lib.hid ⟨by rw [HFK.out.1]; exact HP.out.1, rfl, rfl, ⟨mm1, mm2⟩, ⟨nn1, nn2⟩⟩⟩
            case measure => simp [intOf]
      · obtain rfl : a = 1 := by have h := HA.out; rw [show folP _ = 1 from rfl] at h; omega
        obtain ⟨d0, d1⟩ := C0.out (by omega)
        rw [Nat.add_sub_cancel] at d0 d1
        have hw1 : IntKind.i64.wrap ((ys.length : Int) + 1 - 1) = (ys.length : Int) := by rw [IntKind.wrap_i64]; omega
        have hw2 : IntKind.i64.wrap (ys.length : Int) = (ys.length : Int) := by rw [IntKind.wrap_i64]; omega
        have s1 : (0 : Int) ≤ (ys.length : Int) := by omega
        have s4 : (ys.length : Int) < (ys.length : Int) + 1 := by omega
        have s5 : ys.length < ys.length + 1 := by omega
        have s2 : (ys.length : Int) ≤ (ct : Int) := by omega
        have s3 : (ys.length : Int) ≤ (cl : Int) := by omega
        clear C0 C1 HA
        go_upto_region 21 with (fail)
        go_cut [11] (fun sx wx => sx = es S ∧ Upd [] wo wx)
        case first =>
          as_aux_lemma =>
            have hnl := HF.out.act rfl
            simp only at hnl
            have hAl := args_len t4 HF.out.three
            have TA := Lib.hid (fun V (hu : Upd [] wo V) => argsDS (.slice a3 t4.length c3) t4 V f3 (HRT.out V (HU.out.trans hu)) HF.out.three HF.out.exps)
            obtain ⟨A, hA⟩ : ∃ A, A = argsTxt t4 := ⟨_, rfl⟩
            rw [← hA] at TA hAl
            have WS := Lib.hid (fun W => wrapDS T0 K0 (by omega) W)
            have hPl := par_len K0 T0
            obtain ⟨P, hP⟩ : ∃ P, P = par K0 T0 := ⟨_, rfl⟩
            rw [← hP] at WS hPl
            obtain ⟨M1, hM1⟩ : ∃ M1, M1 = t3 ++ A := ⟨_, rfl⟩
            have hc1 : (ByteArray.mk t3.toArray ++ ByteArray.mk A.toArray) = ByteArray.mk M1.toArray := by rw [hM1, catE]
            have hm1 : M1.length ≤ 2000 := by rw [hM1, List.length_append]; omega
            obtain ⟨M2, hM2⟩ : ∃ M2, M2 = M1 ++ [46] := ⟨_, rfl⟩
            have hc2 : (ByteArray.mk M1.toArray ++ ByteArray.mk #[46]) = ByteArray.mk M2.toArray := by rw [hM2, catE]
            have hm2 : M2.length ≤ 2001 := by rw [hM2, List.length_append]; simp; omega
            have hc3 : (ByteArray.mk M2.toArray ++ ByteArray.mk P.toArray) = ByteArray.mk S.toArray := by rw [show S = M2 ++ P by rw [HSD.out, hM2, hM1, hA, hP]; simp [nodeD], catE]
            have n1 : ¬ (9223372036854775807 < t3.length + A.length) := by omega
            have n2 : ¬ (9223372036854775807 < M1.length + 1) := by omega
            have n3 : ¬ (9223372036854775807 < M2.length + P.length) := by omega
            clear hM1 hM2 hA hP HTK HLK HFK HAP HTX HU HSD
            go_wp2_with fail
            go_region_held3 (fun w' => w'.cell? ⟨BP, 2, none⟩ = some (es t3) ∧ w'.cell? ⟨BP, 3, none⟩ = some (.slice a3 t4.length c3) ∧ w'.cell? ⟨g, ys.length, none⟩ = some (es T0) ∧ w'.cell? ⟨gl, ys.length, none⟩ = some (.bool K0)) (go_keep)
              (first
                | (go_at_call 84; (with_reducible refine (TA.out _ (by repeat (first | exact Upd.refl _ _ | assumption | refine Upd.drew ?_))).mono ?_); rintro e w1 ⟨rfl, hu1⟩; have hV1 : Upd [] wo w1 := Upd.trans (by repeat (first | exact Upd.refl _ _ | assumption | refine Upd.drew ?_)) hu1; have yx2 := hV1.keep x2; have yx3 := hV1.keep x3; have yd0 := hV1.keep d0; have yd1 := hV1.keep d1)
                | (go_at_call 85; (with_reducible refine (WS.out _).mono ?_); rintro e wz ⟨rfl, rfl⟩))
            all_goals
              go_wp2_with fail
              go_meet
              exact ⟨rfl, by repeat (first | exact Upd.refl _ _ | assumption | refine Upd.drew ?_)⟩
        case rest =>
          as_aux_lemma =>
            obtain ⟨rfl, hu⟩ := hcut
            obtain ⟨wq, rfl⟩ : ∃ wq : World, wq = wc := ⟨_, rfl⟩
            have UQ := Lib.hid hu
            have ht2 := ownsRow_upd HTK.out UQ.out
            have hl2 := ownsRow_upd HLK.out UQ.out
            have HU2 := Lib.hid (HU.out.trans UQ.out)
            have hsz2 := HU2.out.size
            clear hu x0 x1 x2 x3 d0 d1
            go_wp2_with (first
              | (at_builtin; refine wpList_append_lies _ rfl _ _ 31 rfl w.heap.size 9 i2 (.string ⟨#[]⟩) 1 16 Tryz.underlying31 ji jz0 jz1 jz2 rfl (by decide) (.slice (some ⟨g, 0, none⟩) ys.length ct) ys.length (txG (pT ns) ys) rfl (ht2.alloc _) ⟨wq.heap.size, 0, none⟩ 1 1 [es S] rfl rfl (fun j u hj => by rw [addr_add]; exact cell_new wq #[es S] _ _ rfl _ _ (by simpa using hj)) (by simp [Value.oneCell']) (by decide) (by unfold maxLen; omega) (by omega) (by simp; omega) (wq.heap.size + 1) (by simp) ?_)
              | fail)
            intro g3 cap3 w3 hown3 hg3 hat3 hlt3
            obtain ⟨_, _, hv3, mm1, mm2, -, -, -⟩ := own_cellsX hown3 (by omega)
            simp only [Value.slice.injEq] at hv3
            obtain ⟨-, -, rfl⟩ := hv3
            unfold maxLen at mm2
            have hla := ownsRow_upd hl2 ((Upd.refl [] wq).alloc (.cells #[es S] 9))
            have hg3 : (wq.alloc (.cells #[es S] 9)).grownBy w3 (Value.slice (some ⟨g, 0, none⟩) ys.length ct).ownBlock := ⟨hg3.os, hg3.tape, hg3.output, hg3.size, hg3.block⟩
            have hl3 := StkB.levels (o := .cells #[.bool false] 4) (tvc := Value.slice (some ⟨g, 0, none⟩) ys.length ct) hla HAP.out hg3
            have hU3 := (HU2.out.alloc (.cells #[es S] 9)).grown hg3 (fun b hb => Or.inl ((ht2.lt b hb).1))
            have hsz3 := hU3.size
            have HU3 := Lib.hid hU3
            have HLA := Lib.hid hla
            have HT3 := Lib.hid (show ∀ b, (Value.slice (some ⟨g3, 0, none⟩) (ys.length + 1) cap3).ownBlock = some b → (Value.slice (some ⟨g, 0, none⟩) ys.length ct).ownBlock = some b ∨ (wq.alloc (.cells #[es S] 9)).heap.size ≤ b from fun b hb => by
              simp only [Value.ownBlock, Option.some.injEq] at hb
              subst hb
              rcases hat3 with h | h
              · exact Or.inl h
              · exact Or.inr (by simp; omega))
            have HO3 := Lib.hid hown3
            clear hg3 hat3 hlt3 ht2 hl2 hown3 hla hU3
            go_wp2_with (first
              | (at_builtin; refine wpList_append_lies _ rfl _ _ 131 rfl w.heap.size 4 i1 (.bool false) 1 1 Tryz.underlying131 ki kz0 kz1 kz2 rfl (by decide) (.slice (some ⟨gl, 0, none⟩) ys.length cl) ys.length (lvB chP ys) rfl hl3 ⟨w3.heap.size, 0, none⟩ 1 1 [.bool false] rfl rfl (fun j u hj => by rw [addr_add]; exact cell_new w3 #[.bool false] _ _ rfl _ _ (by simpa using hj)) (by simp [Value.oneCell']) (by decide) (by unfold maxLen; omega) (by omega) (by simp; omega) (w3.heap.size + 1) (by simp) ?_)
              | fail)
            intro g4 cap4 w4 hown4 hg4 hat4 hlt4
            obtain ⟨_, _, hv4, nn1, nn2, -, -, -⟩ := own_cellsX hown4 (by omega)
            simp only [Value.slice.injEq] at hv4
            obtain ⟨-, -, rfl⟩ := hv4
            unfold maxLen at nn2
            have hS4 : StkB (pT ns) chP w w4 (.slice (some ⟨g3, 0, none⟩) (ys.length + 1) cap3) (.slice (some ⟨g4, 0, none⟩) (ys.length + 1) cap4) (tr :: ys) := StkB.done (o := .cells #[.bool false] 4) HLA.out HAP.out (by rw [HTX.out, ← HSD.out]; exact HO3.out) HT3.out (by rw [HFK.out.2]; exact hown4) hg4 (fun b hb => by
              simp only [Value.ownBlock, Option.some.injEq] at hb
              subst hb
              rcases hat4 with h | h
              · exact Or.inl h
              · exact Or.inr (by simp; omega))
            have hU4 : Upd [] w w4 := (HU3.out.alloc (.cells #[.bool false] 4)).grown hg4 (fun b hb => Or.inl ((hl3.lt b hb).1))
            have HP := Lib.hid (And.intro hS4 hU4)
            clear hown4 hg4 hat4 hlt4 hS4 hU4 hl3 HTX HSD HLA HT3 HO3 HU3
            go_wp2_with fail
            go_roundw
            case rel => exact ⟨k, ys.length + 1, g3, cap3, g4, cap4, by omega, by go_num, rfl, rfl, by rw [HFK.out.1]; rfl, HP.out.2, Lib.hid ⟨by rw [HFK.out.1]; exact HP.out.1, rfl, rfl, ⟨mm1, mm2⟩, ⟨nn1, nn2⟩⟩⟩
            case measure => simp [intOf]
      · obtain rfl : a = 2 := by have h := HA.out; rw [show folP _ = 2 from rfl] at h; omega
        obtain ⟨d0, d1⟩ := C0.out (by omega)
        have d2 := C1.out (by omega)
        rw [show ys.length + 2 - 1 = ys.length + 1 by omega] at d0 d1
        rw [show ys.length + 2 - 2 = ys.length by omega] at d2
        have hw1 : IntKind.i64.wrap ((ys.length : Int) + 2 - 1) = (ys.length : Int) + 1 := by rw [IntKind.wrap_i64]; omega
        have hw2 : IntKind.i64.wrap ((ys.length : Int) + 1) = (ys.length : Int) + 1 := by rw [IntKind.wrap_i64]; omega
        have hw3 : IntKind.i64.wrap ((ys.length : Int) + 1 - 1) = (ys.length : Int) := by rw [IntKind.wrap_i64]; omega
        have hw4 : IntKind.i64.wrap (ys.length : Int) = (ys.length : Int) := by rw [IntKind.wrap_i64]; omega
        have hw5 : IntKind.i64.wrap ((ys.length : Int) + 2 - 1 - 1) = (ys.length : Int) := by rw [IntKind.wrap_i64]; omega
        have hn1 : ((ys.length : Int) + 1).toNat = ys.length + 1 := by omega
        have s1 : (0 : Int) ≤ (ys.length : Int) := by omega
        have s4 : (ys.length : Int) < (ys.length : Int) + 1 := by omega
        have s5 : ys.length < ys.length + 1 := by omega
        have s2 : (ys.length : Int) ≤ (ct : Int) := by omega
        have s3 : (ys.length : Int) ≤ (cl : Int) := by omega
        clear C0 C1 HA
        go_upto_region 17 with (fail)
        go_cut [10] (fun sx wx => sx = es S ∧ Upd [] wo wx)
        case first =>
          as_aux_lemma =>
            have WS := Lib.hid (fun W => wrapDS T0 K0 (by omega) W)
            have hPl := par_len K0 T0
            obtain ⟨P, hP⟩ : ∃ P, P = par K0 T0 := ⟨_, rfl⟩
            rw [← hP] at WS hPl
            have WA := Lib.hid (fun n' => Calls.quiet_of_same (n := n') ((WS.out (wo.drewN n')).mono (fun e w' h => ⟨h.1, h.2.symm⟩)))
            obtain ⟨M1, hM1⟩ : ∃ M1, M1 = P ++ [32, 43, 32] := ⟨_, rfl⟩
            have hc1 : (ByteArray.mk P.toArray ++ ByteArray.mk #[32, 43, 32]) = ByteArray.mk M1.toArray := by rw [hM1, catE]
            have hm1 : M1.length ≤ 50000 := by rw [hM1, List.length_append]; simp; omega
            have hc2 : (ByteArray.mk M1.toArray ++ ByteArray.mk T1.toArray) = ByteArray.mk S.toArray := by rw [show S = M1 ++ T1 by rw [HSD.out, hM1, hP]; simp [nodeD], catE]
            have n1 : ¬ (9223372036854775807 < P.length + 3) := by omega
            have n2 : ¬ (9223372036854775807 < M1.length + T1.length) := by omega
            clear hM1 hP HTK HLK HFK HAP HTX HU HSD WS
            go_wp2_with fail
            go_quiet ((go_at_call 85; with_reducible exact WA.out _))
            go_wp2_with fail
            go_meet
            exact ⟨rfl, (Upd.refl _ _).drewN _⟩
        case rest =>
          as_aux_lemma =>
            obtain ⟨rfl, hu⟩ := hcut
            obtain ⟨wq, rfl⟩ : ∃ wq : World, wq = wc := ⟨_, rfl⟩
            have UQ := Lib.hid hu
            have ht2 := ownsRow_upd HTK.out UQ.out
            have hl2 := ownsRow_upd HLK.out UQ.out
            have HU2 := Lib.hid (HU.out.trans UQ.out)
            have hsz2 := HU2.out.size
            clear hu x0 x1 x2 x3 d0 d1 d2
            go_wp2_with (first
              | (at_builtin; refine wpList_append_lies _ rfl _ _ 31 rfl w.heap.size 9 i2 (.string ⟨#[]⟩) 1 16 Tryz.underlying31 ji jz0 jz1 jz2 rfl (by decide) (.slice (some ⟨g, 0, none⟩) ys.length ct) ys.length (txG (pT ns) ys) rfl (ht2.alloc _) ⟨wq.heap.size, 0, none⟩ 1 1 [es S] rfl rfl (fun j u hj => by rw [addr_add]; exact cell_new wq #[es S] _ _ rfl _ _ (by simpa using hj)) (by simp [Value.oneCell']) (by decide) (by unfold maxLen; omega) (by omega) (by simp; omega) (wq.heap.size + 1) (by simp) ?_)
              | fail)
            intro g3 cap3 w3 hown3 hg3 hat3 hlt3
            obtain ⟨_, _, hv3, mm1, mm2, -, -, -⟩ := own_cellsX hown3 (by omega)
            simp only [Value.slice.injEq] at hv3
            obtain ⟨-, -, rfl⟩ := hv3
            unfold maxLen at mm2
            have hla := ownsRow_upd hl2 ((Upd.refl [] wq).alloc (.cells #[es S] 9))
            have hg3 : (wq.alloc (.cells #[es S] 9)).grownBy w3 (Value.slice (some ⟨g, 0, none⟩) ys.length ct).ownBlock := ⟨hg3.os, hg3.tape, hg3.output, hg3.size, hg3.block⟩
            have hl3 := StkB.levels (o := .cells #[.bool true] 4) (tvc := Value.slice (some ⟨g, 0, none⟩) ys.length ct) hla HAP.out hg3
            have hU3 := (HU2.out.alloc (.cells #[es S] 9)).grown hg3 (fun b hb => Or.inl ((ht2.lt b hb).1))
            have hsz3 := hU3.size
            have HU3 := Lib.hid hU3
            have HLA := Lib.hid hla
            have HT3 := Lib.hid (show ∀ b, (Value.slice (some ⟨g3, 0, none⟩) (ys.length + 1) cap3).ownBlock = some b → (Value.slice (some ⟨g, 0, none⟩) ys.length ct).ownBlock = some b ∨ (wq.alloc (.cells #[es S] 9)).heap.size ≤ b from fun b hb => by
              simp only [Value.ownBlock, Option.some.injEq] at hb
              subst hb
              rcases hat3 with h | h
              · exact Or.inl h
              · exact Or.inr (by simp; omega))
            have HO3 := Lib.hid hown3
            clear hg3 hat3 hlt3 ht2 hl2 hown3 hla hU3
            go_wp2_with (first
              | (at_builtin; refine wpList_append_lies _ rfl _ _ 131 rfl w.heap.size 4 i1 (.bool false) 1 1 Tryz.underlying131 ki kz0 kz1 kz2 rfl (by decide) (.slice (some ⟨gl, 0, none⟩) ys.length cl) ys.length (lvB chP ys) rfl hl3 ⟨w3.heap.size, 0, none⟩ 1 1 [.bool true] rfl rfl (fun j u hj => by rw [addr_add]; exact cell_new w3 #[.bool true] _ _ rfl _ _ (by simpa using hj)) (by simp [Value.oneCell']) (by decide) (by unfold maxLen; omega) (by omega) (by simp; omega) (w3.heap.size + 1) (by simp) ?_)
              | fail)
            intro g4 cap4 w4 hown4 hg4 hat4 hlt4
            obtain ⟨_, _, hv4, nn1, nn2, -, -, -⟩ := own_cellsX hown4 (by omega)
            simp only [Value.slice.injEq] at hv4
            obtain ⟨-, -, rfl⟩ := hv4
            unfold maxLen at nn2
            have hS4 : StkB (pT ns) chP w w4 (.slice (some ⟨g3, 0, none⟩) (ys.length + 1) cap3) (.slice (some ⟨g4, 0, none⟩) (ys.length + 1) cap4) (tr :: ys) := StkB.done (o := .cells #[.bool true] 4) HLA.out HAP.out (by rw [HTX.out, ← HSD.out]; exact HO3.out) HT3.out (by rw [HFK.out.2]; exact hown4) hg4 (fun b hb => by
              simp only [Value.ownBlock, Option.some.injEq] at hb
              subst hb
              rcases hat4 with h | h
              · exact Or.inl h
              · exact Or.inr (by simp; omega))
            have hU4 : Upd [] w w4 := (HU3.out.alloc (.cells #[.bool true] 4)).grown hg4 (fun b hb => Or.inl ((hl3.lt b hb).1))
            have HP := Lib.hid (And.intro hS4 hU4)
            clear hown4 hg4 hat4 hlt4 hS4 hU4 hl3 HTX HSD HLA HT3 HO3 HU3
            go_wp2_with fail
            go_roundw
            case rel => exact ⟨k, ys.length + 1, g3, cap3, g4, cap4, by omega, by go_num, rfl, rfl, by rw [HFK.out.1]; rfl, HP.out.2, Lib.hid ⟨by rw [HFK.out.1]; exact HP.out.1, rfl, rfl, ⟨mm1, mm2⟩, ⟨nn1, nn2⟩⟩⟩
            case measure => simp [intOf]
      · obtain rfl : a = 1 := by have h := HA.out; rw [show folP _ = 1 from rfl] at h; omega
        obtain ⟨d0, d1⟩ := C0.out (by omega)
        rw [Nat.add_sub_cancel] at d0 d1
        have hw1 : IntKind.i64.wrap ((ys.length : Int) + 1 - 1) = (ys.length : Int) := by rw [IntKind.wrap_i64]; omega
        have hw2 : IntKind.i64.wrap (ys.length : Int) = (ys.length : Int) := by rw [IntKind.wrap_i64]; omega
        have s1 : (0 : Int) ≤ (ys.length : Int) := by omega
        have s4 : (ys.length : Int) < (ys.length : Int) + 1 := by omega
        have s5 : ys.length < ys.length + 1 := by omega
        have s2 : (ys.length : Int) ≤ (ct : Int) := by omega
        have s3 : (ys.length : Int) ≤ (cl : Int) := by omega
        clear C0 C1 HA
        go_upto_region 25 with (fail)
        go_cut [12] (fun sx wx => sx = es S ∧ Upd [] wo wx)
        case first =>
          as_aux_lemma =>
            have ho := HF.out.one rfl
            simp only at ho
            match t4, ho with
            | [ex], _ =>
              obtain ⟨ae, ce, hve, -, -, hce⟩ := slP_open (HRT.out wo HU.out)
              obtain ⟨be, oe, ue, fe, hae, -, -, ge, -, re⟩ := hce 0 (by simp)
              simp only [Value.slice.injEq] at hve
              obtain ⟨rfl, -, -⟩ := hve
              subst hae
              have re : R_T1 fe wo [ue] ex := re
              have ge : wo.cell? ⟨be, oe, none⟩ = some ue := by simpa using ge
              have hex := HF.out.exps ex (by simp)
              have hAl := expT_len ex
              have TA := Lib.hid (fun V (hu : Upd [] wo V) => expTextS ue ex V fe hex (R_T1k.upd re hu (by simp)))
              obtain ⟨ax, cx, rfl, -, -, -⟩ := slF2_open re
              obtain ⟨A, hA⟩ : ∃ A, A = expT ex := ⟨_, rfl⟩
              rw [← hA] at TA hAl
              have WS := Lib.hid (fun W => wrapDS T0 K0 (by omega) W)
              have hPl := par_len K0 T0
              obtain ⟨P, hP⟩ : ∃ P, P = par K0 T0 := ⟨_, rfl⟩
              rw [← hP] at WS hPl
              obtain ⟨M1, hM1⟩ : ∃ M1, M1 = [91] ++ A := ⟨_, rfl⟩
              have hc1 : (ByteArray.mk #[91] ++ ByteArray.mk A.toArray) = ByteArray.mk M1.toArray := by rw [hM1, catE]
              have hm1 : M1.length ≤ 2000 := by rw [hM1, List.length_append]; simp; omega
              obtain ⟨M2, hM2⟩ : ∃ M2, M2 = M1 ++ [93] := ⟨_, rfl⟩
              have hc2 : (ByteArray.mk M1.toArray ++ ByteArray.mk #[93]) = ByteArray.mk M2.toArray := by rw [hM2, catE]
              have hm2 : M2.length ≤ 2001 := by rw [hM2, List.length_append]; simp; omega
              have hc3 : (ByteArray.mk M2.toArray ++ ByteArray.mk P.toArray) = ByteArray.mk S.toArray := by rw [show S = M2 ++ P by rw [HSD.out, hM2, hM1, hA, hP]; simp [nodeD], catE]
              have n1 : ¬ (9223372036854775807 < 1 + A.length) := by omega
              have n2 : ¬ (9223372036854775807 < M1.length + 1) := by omega
              have n3 : ¬ (9223372036854775807 < M2.length + P.length) := by omega
              clear hM1 hM2 hA hP HTK HLK HFK HAP HTX HU HSD
              clear hce re
              go_wp2_with fail
              go_region_held3 (fun w' => w'.cell? ⟨BP, 3, none⟩ = some (.slice (some ⟨be, oe, none⟩) 1 c3) ∧ w'.cell? ⟨be, oe, none⟩ = some (.slice ax ex.length cx) ∧ w'.cell? ⟨g, ys.length, none⟩ = some (es T0) ∧ w'.cell? ⟨gl, ys.length, none⟩ = some (.bool K0)) (go_keep)
                (first
                  | (go_at_call 86; (with_reducible refine (TA.out _ (by repeat (first | exact Upd.refl _ _ | assumption | refine Upd.drew ?_))).mono ?_); rintro e w1 ⟨rfl, hu1⟩; have hV1 : Upd [] wo w1 := Upd.trans (by repeat (first | exact Upd.refl _ _ | assumption | refine Upd.drew ?_)) hu1; have yx3 := hV1.keep x3; have yge := hV1.keep ge; have yd0 := hV1.keep d0; have yd1 := hV1.keep d1)
                  | (go_at_call 85; (with_reducible refine (WS.out _).mono ?_); rintro e wz ⟨rfl, rfl⟩))
              all_goals
                go_wp2_with fail
                go_meet
                exact ⟨rfl, by repeat (first | exact Upd.refl _ _ | assumption | refine Upd.drew ?_)⟩
        case rest =>
          as_aux_lemma =>
            obtain ⟨rfl, hu⟩ := hcut
            obtain ⟨wq, rfl⟩ : ∃ wq : World, wq = wc := ⟨_, rfl⟩
            have UQ := Lib.hid hu
            have ht2 := ownsRow_upd HTK.out UQ.out
            have hl2 := ownsRow_upd HLK.out UQ.out
            have HU2 := Lib.hid (HU.out.trans UQ.out)
            have hsz2 := HU2.out.size
            clear hu x0 x1 x2 x3 d0 d1
            go_wp2_with (first
              | (at_builtin; refine wpList_append_lies _ rfl _ _ 31 rfl w.heap.size 9 i2 (.string ⟨#[]⟩) 1 16 Tryz.underlying31 ji jz0 jz1 jz2 rfl (by decide) (.slice (some ⟨g, 0, none⟩) ys.length ct) ys.length (txG (pT ns) ys) rfl (ht2.alloc _) ⟨wq.heap.size, 0, none⟩ 1 1 [es S] rfl rfl (fun j u hj => by rw [addr_add]; exact cell_new wq #[es S] _ _ rfl _ _ (by simpa using hj)) (by simp [Value.oneCell']) (by decide) (by unfold maxLen; omega) (by omega) (by simp; omega) (wq.heap.size + 1) (by simp) ?_)
              | fail)
            intro g3 cap3 w3 hown3 hg3 hat3 hlt3
            obtain ⟨_, _, hv3, mm1, mm2, -, -, -⟩ := own_cellsX hown3 (by omega)
            simp only [Value.slice.injEq] at hv3
            obtain ⟨-, -, rfl⟩ := hv3
            unfold maxLen at mm2
            have hla := ownsRow_upd hl2 ((Upd.refl [] wq).alloc (.cells #[es S] 9))
            have hg3 : (wq.alloc (.cells #[es S] 9)).grownBy w3 (Value.slice (some ⟨g, 0, none⟩) ys.length ct).ownBlock := ⟨hg3.os, hg3.tape, hg3.output, hg3.size, hg3.block⟩
            have hl3 := StkB.levels (o := .cells #[.bool false] 4) (tvc := Value.slice (some ⟨g, 0, none⟩) ys.length ct) hla HAP.out hg3
            have hU3 := (HU2.out.alloc (.cells #[es S] 9)).grown hg3 (fun b hb => Or.inl ((ht2.lt b hb).1))
            have hsz3 := hU3.size
            have HU3 := Lib.hid hU3
            have HLA := Lib.hid hla
            have HT3 := Lib.hid (show ∀ b, (Value.slice (some ⟨g3, 0, none⟩) (ys.length + 1) cap3).ownBlock = some b → (Value.slice (some ⟨g, 0, none⟩) ys.length ct).ownBlock = some b ∨ (wq.alloc (.cells #[es S] 9)).heap.size ≤ b from fun b hb => by
              simp only [Value.ownBlock, Option.some.injEq] at hb
              subst hb
              rcases hat3 with h | h
              · exact Or.inl h
              · exact Or.inr (by simp; omega))
            have HO3 := Lib.hid hown3
            clear hg3 hat3 hlt3 ht2 hl2 hown3 hla hU3
            go_wp2_with (first
              | (at_builtin; refine wpList_append_lies _ rfl _ _ 131 rfl w.heap.size 4 i1 (.bool false) 1 1 Tryz.underlying131 ki kz0 kz1 kz2 rfl (by decide) (.slice (some ⟨gl, 0, none⟩) ys.length cl) ys.length (lvB chP ys) rfl hl3 ⟨w3.heap.size, 0, none⟩ 1 1 [.bool false] rfl rfl (fun j u hj => by rw [addr_add]; exact cell_new w3 #[.bool false] _ _ rfl _ _ (by simpa using hj)) (by simp [Value.oneCell']) (by decide) (by unfold maxLen; omega) (by omega) (by simp; omega) (w3.heap.size + 1) (by simp) ?_)
              | fail)
            intro g4 cap4 w4 hown4 hg4 hat4 hlt4
            obtain ⟨_, _, hv4, nn1, nn2, -, -, -⟩ := own_cellsX hown4 (by omega)
            simp only [Value.slice.injEq] at hv4
            obtain ⟨-, -, rfl⟩ := hv4
            unfold maxLen at nn2
            have hS4 : StkB (pT ns) chP w w4 (.slice (some ⟨g3, 0, none⟩) (ys.length + 1) cap3) (.slice (some ⟨g4, 0, none⟩) (ys.length + 1) cap4) (tr :: ys) := StkB.done (o := .cells #[.bool false] 4) HLA.out HAP.out (by rw [HTX.out, ← HSD.out]; exact HO3.out) HT3.out (by rw [HFK.out.2]; exact hown4) hg4 (fun b hb => by
              simp only [Value.ownBlock, Option.some.injEq] at hb
              subst hb
              rcases hat4 with h | h
              · exact Or.inl h
              · exact Or.inr (by simp; omega))
            have hU4 : Upd [] w w4 := (HU3.out.alloc (.cells #[.bool false] 4)).grown hg4 (fun b hb => Or.inl ((hl3.lt b hb).1))
            have HP := Lib.hid (And.intro hS4 hU4)
            clear hown4 hg4 hat4 hlt4 hS4 hU4 hl3 HTX HSD HLA HT3 HO3 HU3
            go_wp2_with fail
            go_roundw
            case rel => exact ⟨k, ys.length + 1, g3, cap3, g4, cap4, by omega, by go_num, rfl, rfl, by rw [HFK.out.1]; rfl, HP.out.2, Lib.hid ⟨by rw [HFK.out.1]; exact HP.out.1, rfl, rfl, ⟨mm1, mm2⟩, ⟨nn1, nn2⟩⟩⟩
            case measure => simp [intOf]
      · obtain rfl : a = 1 := by have h := HA.out; rw [show folP _ = 1 from rfl] at h; omega
        obtain ⟨d0, d1⟩ := C0.out (by omega)
        rw [Nat.add_sub_cancel] at d0 d1
        have hw1 : IntKind.i64.wrap ((ys.length : Int) + 1 - 1) = (ys.length : Int) := by rw [IntKind.wrap_i64]; omega
        have hw2 : IntKind.i64.wrap (ys.length : Int) = (ys.length : Int) := by rw [IntKind.wrap_i64]; omega
        have s1 : (0 : Int) ≤ (ys.length : Int) := by omega
        have s4 : (ys.length : Int) < (ys.length : Int) + 1 := by omega
        have s5 : ys.length < ys.length + 1 := by omega
        have s2 : (ys.length : Int) ≤ (ct : Int) := by omega
        have s3 : (ys.length : Int) ≤ (cl : Int) := by omega
        clear C0 C1 HA
        go_upto_region 29 with (fail)
        go_cut [13] (fun sx wx => sx = es S ∧ Upd [] wo wx)
        case first =>
          as_aux_lemma =>
            obtain ⟨g1', g7⟩ := HF.out.sum rfl
            simp only at g1' g7
            have hAl := itoa_two (n := t2) (by omega) (by omega)
            have TA := Lib.hid (fun V (_ : Upd [] wo V) => decSmall t2 V (by omega) (by omega))
            obtain ⟨A, hA⟩ : ∃ A, A = Lib.itoa t2 := ⟨_, rfl⟩
            rw [← hA] at TA hAl
            have WS := Lib.hid (fun W => wrapDS T0 K0 (by omega) W)
            have hPl := par_len K0 T0
            obtain ⟨P, hP⟩ : ∃ P, P = par K0 T0 := ⟨_, rfl⟩
            rw [← hP] at WS hPl
            obtain ⟨M1, hM1⟩ : ∃ M1, M1 = [115, 117, 109, 32] ++ A := ⟨_, rfl⟩
            have hc1 : (ByteArray.mk #[115, 117, 109, 32] ++ ByteArray.mk A.toArray) = ByteArray.mk M1.toArray := by rw [hM1, catE]
            have hm1 : M1.length ≤ 2000 := by rw [hM1, List.length_append]; simp; omega
            obtain ⟨M2, hM2⟩ : ∃ M2, M2 = M1 ++ [46] := ⟨_, rfl⟩
            have hc2 : (ByteArray.mk M1.toArray ++ ByteArray.mk #[46]) = ByteArray.mk M2.toArray := by rw [hM2, catE]
            have hm2 : M2.length ≤ 2001 := by rw [hM2, List.length_append]; simp; omega
            have hc3 : (ByteArray.mk M2.toArray ++ ByteArray.mk P.toArray) = ByteArray.mk S.toArray := by rw [show S = M2 ++ P by rw [HSD.out, hM2, hM1, hA, hP]; simp [nodeD], catE]
            have n1 : ¬ (9223372036854775807 < 4 + A.length) := by omega
            have n2 : ¬ (9223372036854775807 < M1.length + 1) := by omega
            have n3 : ¬ (9223372036854775807 < M2.length + P.length) := by omega
            clear hM1 hM2 hA hP HTK HLK HFK HAP HTX HU HSD
            go_wp2_with fail
            go_region_held3 (fun w' => w'.cell? ⟨BP, 1, none⟩ = some (ei t2) ∧ w'.cell? ⟨g, ys.length, none⟩ = some (es T0) ∧ w'.cell? ⟨gl, ys.length, none⟩ = some (.bool K0)) (go_keep)
              (first
                | (go_at_call 52; (with_reducible refine (TA.out _ (by repeat (first | exact Upd.refl _ _ | assumption | refine Upd.drew ?_))).mono ?_); rintro e w1 ⟨rfl, hu1⟩; have hV1 : Upd [] wo w1 := Upd.trans (by repeat (first | exact Upd.refl _ _ | assumption | refine Upd.drew ?_)) hu1; have yx1 := hV1.keep x1; have yd0 := hV1.keep d0; have yd1 := hV1.keep d1)
                | (go_at_call 85; (with_reducible refine (WS.out _).mono ?_); rintro e wz ⟨rfl, rfl⟩))
            all_goals
              go_wp2_with fail
              go_meet
              exact ⟨rfl, by repeat (first | exact Upd.refl _ _ | assumption | refine Upd.drew ?_)⟩
        case rest =>
          as_aux_lemma =>
            obtain ⟨rfl, hu⟩ := hcut
            obtain ⟨wq, rfl⟩ : ∃ wq : World, wq = wc := ⟨_, rfl⟩
            have UQ := Lib.hid hu
            have ht2 := ownsRow_upd HTK.out UQ.out
            have hl2 := ownsRow_upd HLK.out UQ.out
            have HU2 := Lib.hid (HU.out.trans UQ.out)
            have hsz2 := HU2.out.size
            clear hu x0 x1 x2 x3 d0 d1
            go_wp2_with (first
              | (at_builtin; refine wpList_append_lies _ rfl _ _ 31 rfl w.heap.size 9 i2 (.string ⟨#[]⟩) 1 16 Tryz.underlying31 ji jz0 jz1 jz2 rfl (by decide) (.slice (some ⟨g, 0, none⟩) ys.length ct) ys.length (txG (pT ns) ys) rfl (ht2.alloc _) ⟨wq.heap.size, 0, none⟩ 1 1 [es S] rfl rfl (fun j u hj => by rw [addr_add]; exact cell_new wq #[es S] _ _ rfl _ _ (by simpa using hj)) (by simp [Value.oneCell']) (by decide) (by unfold maxLen; omega) (by omega) (by simp; omega) (wq.heap.size + 1) (by simp) ?_)
              | fail)
            intro g3 cap3 w3 hown3 hg3 hat3 hlt3
            obtain ⟨_, _, hv3, mm1, mm2, -, -, -⟩ := own_cellsX hown3 (by omega)
            simp only [Value.slice.injEq] at hv3
            obtain ⟨-, -, rfl⟩ := hv3
            unfold maxLen at mm2
            have hla := ownsRow_upd hl2 ((Upd.refl [] wq).alloc (.cells #[es S] 9))
            have hg3 : (wq.alloc (.cells #[es S] 9)).grownBy w3 (Value.slice (some ⟨g, 0, none⟩) ys.length ct).ownBlock := ⟨hg3.os, hg3.tape, hg3.output, hg3.size, hg3.block⟩
            have hl3 := StkB.levels (o := .cells #[.bool false] 4) (tvc := Value.slice (some ⟨g, 0, none⟩) ys.length ct) hla HAP.out hg3
            have hU3 := (HU2.out.alloc (.cells #[es S] 9)).grown hg3 (fun b hb => Or.inl ((ht2.lt b hb).1))
            have hsz3 := hU3.size
            have HU3 := Lib.hid hU3
            have HLA := Lib.hid hla
            have HT3 := Lib.hid (show ∀ b, (Value.slice (some ⟨g3, 0, none⟩) (ys.length + 1) cap3).ownBlock = some b → (Value.slice (some ⟨g, 0, none⟩) ys.length ct).ownBlock = some b ∨ (wq.alloc (.cells #[es S] 9)).heap.size ≤ b from fun b hb => by
              simp only [Value.ownBlock, Option.some.injEq] at hb
              subst hb
              rcases hat3 with h | h
              · exact Or.inl h
              · exact Or.inr (by simp; omega))
            have HO3 := Lib.hid hown3
            clear hg3 hat3 hlt3 ht2 hl2 hown3 hla hU3
            go_wp2_with (first
              | (at_builtin; refine wpList_append_lies _ rfl _ _ 131 rfl w.heap.size 4 i1 (.bool false) 1 1 Tryz.underlying131 ki kz0 kz1 kz2 rfl (by decide) (.slice (some ⟨gl, 0, none⟩) ys.length cl) ys.length (lvB chP ys) rfl hl3 ⟨w3.heap.size, 0, none⟩ 1 1 [.bool false] rfl rfl (fun j u hj => by rw [addr_add]; exact cell_new w3 #[.bool false] _ _ rfl _ _ (by simpa using hj)) (by simp [Value.oneCell']) (by decide) (by unfold maxLen; omega) (by omega) (by simp; omega) (w3.heap.size + 1) (by simp) ?_)
              | fail)
            intro g4 cap4 w4 hown4 hg4 hat4 hlt4
            obtain ⟨_, _, hv4, nn1, nn2, -, -, -⟩ := own_cellsX hown4 (by omega)
            simp only [Value.slice.injEq] at hv4
            obtain ⟨-, -, rfl⟩ := hv4
            unfold maxLen at nn2
            have hS4 : StkB (pT ns) chP w w4 (.slice (some ⟨g3, 0, none⟩) (ys.length + 1) cap3) (.slice (some ⟨g4, 0, none⟩) (ys.length + 1) cap4) (tr :: ys) := StkB.done (o := .cells #[.bool false] 4) HLA.out HAP.out (by rw [HTX.out, ← HSD.out]; exact HO3.out) HT3.out (by rw [HFK.out.2]; exact hown4) hg4 (fun b hb => by
              simp only [Value.ownBlock, Option.some.injEq] at hb
              subst hb
              rcases hat4 with h | h
              · exact Or.inl h
              · exact Or.inr (by simp; omega))
            have hU4 : Upd [] w w4 := (HU3.out.alloc (.cells #[.bool false] 4)).grown hg4 (fun b hb => Or.inl ((hl3.lt b hb).1))
            have HP := Lib.hid (And.intro hS4 hU4)
            clear hown4 hg4 hat4 hlt4 hS4 hU4 hl3 HTX HSD HLA HT3 HO3 HU3
            go_wp2_with fail
            go_roundw
            case rel => exact ⟨k, ys.length + 1, g3, cap3, g4, cap4, by omega, by go_num, rfl, rfl, by rw [HFK.out.1]; rfl, HP.out.2, Lib.hid ⟨by rw [HFK.out.1]; exact HP.out.1, rfl, rfl, ⟨mm1, mm2⟩, ⟨nn1, nn2⟩⟩⟩
            case measure => simp [intOf]

end Go.Proofs.YtjelcjiofcoifaaGreatDoor

/-
  Shapes, ends and scopes of parts: what the reference's calls return.
-/
namespace Go.Proofs.YtjelcjiofcoifaaGreatDoor
open Go.RowKit

set_option maxRecDepth 20000 in
set_option maxHeartbeats 1000000 in
theorem folPS (p : Pa) (b o : Nat) (w : World) (c0 : w.cell? ⟨b, o, none⟩ = some (ei p.kind)) :
    Calls Tryz.prog 117 #[.pointer (some ⟨b, o, none⟩)] w fun e w' => e = .returned (.int .i64 (folP p)) ∧ w = w' := by
  have HM := Lib.hid (show folP p = (if (p.kind == 1) = true then 1 else if (p.kind == 3) = true then 1 else if (p.kind == 4) = true then 1 else if (p.kind == 2) = true then 2 else 0) by
    unfold folP; simp only [beq_iff_eq]; by_cases h1 : p.kind = 1 <;> by_cases h3 : p.kind = 3 <;> by_cases h4 : p.kind = 4 <;> simp [h1, h3, h4])
  generalize folP p = Z at *
  generalize p.kind = k at *
  obtain ⟨q1, h1⟩ : ∃ q, (k == 1) = q := ⟨_, rfl⟩
  obtain ⟨q3, h3⟩ : ∃ q, (k == 3) = q := ⟨_, rfl⟩
  obtain ⟨q4, h4⟩ : ∃ q, (k == 4) = q := ⟨_, rfl⟩
  obtain ⟨q2, h2⟩ : ∃ q, (k == 2) = q := ⟨_, rfl⟩
  rw [h1, h3, h4, h2] at HM
  cases q1 with
  | true =>
    go_enter Tryz.func117, Tryz.ntmps117
    go_wp2_with fail
    go_ret
    exact ⟨by rw [HM.out]; rfl, rfl⟩
  | false =>
    cases q3 with
    | true =>
      go_enter Tryz.func117, Tryz.ntmps117
      go_wp2_with fail
      go_ret
      exact ⟨by rw [HM.out]; rfl, rfl⟩
    | false =>
      cases q4 with
      | true =>
        go_enter Tryz.func117, Tryz.ntmps117
        go_wp2_with fail
        go_ret
        exact ⟨by rw [HM.out]; rfl, rfl⟩
      | false =>
        cases q2 with
        | true =>
          go_enter Tryz.func117, Tryz.ntmps117
          go_wp2_with fail
          go_ret
          exact ⟨by rw [HM.out]; rfl, rfl⟩
        | false =>
          go_enter Tryz.func117, Tryz.ntmps117
          go_wp2_with fail
          go_ret
          exact ⟨by rw [HM.out]; rfl, rfl⟩

set_option maxRecDepth 20000 in
set_option maxHeartbeats 4000000 in
theorem shapeDS (v : Value) (l : List Pa) (w : World) (fp : List Nat) (hR : R_Pa1 fp w [v] l) (hl : l.length ≤ 2000000) :
    Calls Tryz.prog 82 #[v] w fun e w' => e = .returned (.bool (inB (l.length : Int) 1 20 && shapeG folP 1 l)) ∧ w = w' := by
  obtain ⟨a, cap, rfl, g1, g2, hc⟩ := slQ_open hR
  unfold maxLen at g2
  have HC := Lib.hid hc
  clear hR hc
  by_cases h0 : l.length = 0
  · have HZ := Lib.hid (show (inB (l.length : Int) 1 20 && shapeG folP 1 l) = false by rw [inB_no (by omega)]; rfl)
    have hb : ((l.length : Int) == 0) = true := by rw [h0]; rfl
    clear h0
    go_enter Tryz.func82, Tryz.ntmps82
    go_wp2_with fail
    go_ret
    exact ⟨by rw [HZ.out]; rfl, rfl⟩
  · have hb : ((l.length : Int) == 0) = false := by simp; intro h; exact h0 (by rw [h]; rfl)
    by_cases h20 : 20 < l.length
    · have HZ := Lib.hid (show (inB (l.length : Int) 1 20 && shapeG folP 1 l) = false by rw [inB_no (by omega)]; rfl)
      have hb2 : (20 : Int) < (l.length : Int) := by omega
      clear h0 h20
      go_enter Tryz.func82, Tryz.ntmps82
      go_wp2_with fail
      go_ret
      exact ⟨by rw [HZ.out]; rfl, rfl⟩
    · have HZ := Lib.hid (show (inB (l.length : Int) 1 20 && shapeG folP 1 l) = shapeG folP 1 l by rw [inB_mk (by omega)]; rfl)
      have hb2 : ¬ (20 : Int) < (l.length : Int) := by omega
      go_enter Tryz.func82, Tryz.ntmps82
      go_wp2_with fail
      go_loopw [3, 4] (fun mv iv wr => ∃ (k : Nat) (m : Int), k ≤ l.length ∧ iv = .int .i64 k ∧ mv = .int .i64 m ∧ 0 ≤ m ∧ m ≤ 1 + k ∧ Hid (shapeG folP m (l.drop k) = shapeG folP 1 l) ∧ wr = w) (fun _ iv _ => l.length - (intOf iv).toNat)
      case atStart => exact ⟨0, 1, Nat.zero_le _, rfl, rfl, by omega, by omega, Lib.hid rfl, rfl⟩
      case round =>
        obtain ⟨k, m, hk, rfl, rfl, hm0, hm1, HS, rfl⟩ := hrel
        by_cases hlt : k < l.length
        · obtain ⟨b1, o1, u, f, rfl, -, -, -, hcell, -, hr⟩ := HC.out k hlt
          obtain ⟨v3, f3, rfl, -, -⟩ := hr
          have p0 := hcell 0 _ rfl
          simp only [Nat.add_zero] at p0
          have hS := HS.out
          rw [List.drop_eq_getElem_cons hlt, shapeG] at hS
          have hkl : (k : Int) < (l.length : Int) := by omega
          have S1 := Lib.hid (folPS l[k] b1 (o1 + k * 4) wr p0)
          have hf0 := folP_nn l[k]
          have hf1 := folP_le l[k]
          clear HS hcell p0
          generalize folP l[k] = q at *
          by_cases hz : m = 0
          · rw [if_pos hz] at hS
            have HN := Lib.hid hS
            have bz : (m == 0) = true := by simpa using hz
            clear hS hz S1
            go_wp2_with fail
            go_ret
            exact ⟨by rw [HZ.out, ← HN.out]; rfl, rfl⟩
          · rw [if_neg hz] at hS
            have HN := Lib.hid hS
            have bz : (m == 0) = false := by simpa using hz
            clear hS
            go_wp2_with fail
            refine S1.out.mono ?_
            rintro e w1 ⟨rfl, rfl⟩
            clear S1
            go_wp2_with fail
            go_roundw
            case rel => exact ⟨k + 1, m + (q - 1), by omega, by go_num, rfl, by omega, by omega, Lib.hid (by rw [← HN.out]; congr 1; omega), by trivial⟩
            case measure => simp [intOf]; omega
        · have hS := HS.out
          rw [List.drop_of_length_le (by omega), shapeG] at hS
          have HN := Lib.hid hS
          have hkl : ¬ (k : Int) < (l.length : Int) := by omega
          clear hS
          go_wp2_with fail
          go_ret
          exact ⟨by rw [HZ.out, ← HN.out]; rfl, rfl⟩

set_option maxRecDepth 20000 in
set_option maxHeartbeats 4000000 in
theorem endDS (v : Value) (l : List Pa) (k0 : Nat) (M0 : Int) (w : World) (fp : List Nat) (hR : R_Pa1 fp w [v] l) (hl : l.length ≤ 1000) (h0 : 1 ≤ M0) (hk0 : k0 < l.length) (hM : M0 ≤ 1000) (hsh : shapeG folP M0 (l.drop k0) = true) :
    Calls Tryz.prog 150 #[v, .int .i64 k0] w fun e w' => e = .returned (.int .i64 ((k0 : Int) + ((endN folP 1 (l.drop k0) : Nat) : Int))) ∧ w = w' := by
  obtain ⟨a, cap, rfl, g1, g2, hc⟩ := slQ_open hR
  unfold maxLen at g2
  have HC := Lib.hid hc
  clear hR hc
  go_enter Tryz.func150, Tryz.ntmps150
  go_wp2_with fail
  go_loopw [1, 5] (fun iv mv wr => ∃ (k : Nat) (m M : Int), k ≤ l.length ∧ iv = .int .i64 k ∧ mv = .int .i64 m ∧ 0 ≤ m ∧ m ≤ M ∧ M ≤ M0 + k ∧ Hid (shapeG folP M (l.drop k) = true) ∧ Hid (k + endN folP m (l.drop k) = k0 + endN folP 1 (l.drop k0)) ∧ wr = w) (fun iv _ _ => l.length - (intOf iv).toNat)
  case atStart => exact ⟨k0, 1, M0, by omega, rfl, rfl, by omega, h0, by omega, Lib.hid hsh, Lib.hid rfl, rfl⟩
  case round =>
    obtain ⟨k, m, M, hk, rfl, rfl, hm0, hmM, hMk, HS, HE, rfl⟩ := hrel
    by_cases hm : 0 < m
    · have hlt : k < l.length := by
        rcases Nat.lt_or_ge k l.length with h | h
        · exact h
        · have hS := HS.out
          rw [List.drop_of_length_le h, shapeG] at hS
          have : M = 0 := by simpa using hS
          omega
      obtain ⟨b1, o1, u, f, rfl, -, -, -, hcell, -, hr⟩ := HC.out k hlt
      obtain ⟨v3, f3, rfl, -, -⟩ := hr
      have p0 := hcell 0 _ rfl
      simp only [Nat.add_zero] at p0
      have hS := HS.out
      have hE := HE.out
      rw [List.drop_eq_getElem_cons hlt, shapeG, if_neg (by omega)] at hS
      rw [List.drop_eq_getElem_cons hlt, endN_step folP m _ _ hm] at hE
      have hkl : (k : Int) < (l.length : Int) := by omega
      have S1 := Lib.hid (folPS l[k] b1 (o1 + k * 4) wr p0)
      have hf0 := folP_nn l[k]
      have hf1 := folP_le l[k]
      clear HS HE hcell p0
      generalize folP l[k] = q at *
      have HS := Lib.hid hS
      have HE := Lib.hid hE
      clear hS hE
      go_wp2_with fail
      refine S1.out.mono ?_
      rintro e w1 ⟨rfl, rfl⟩
      clear S1
      go_wp2_with fail
      go_roundw
      case rel =>
        exact ⟨k + 1, m + (q - 1), M + q - 1, by omega, by go_num, rfl, by omega, by omega, by omega, HS, Lib.hid (by rw [← HE.out, show m + (q - 1) = m + q - 1 by omega]; omega), by trivial⟩
      case measure => simp [intOf]; omega
    · obtain rfl : m = 0 := by omega
      have HN := Lib.hid (show k = k0 + endN folP 1 (l.drop k0) by have := HE.out; rw [endN_done _ _ _ (Int.le_refl _)] at this; omega)
      go_wp2_with fail
      go_ret
      exact ⟨by rw [show ((k0 : Int) + ((endN folP 1 (l.drop k0) : Nat) : Int)) = (k : Int) by have := HN.out; omega]; rfl, rfl⟩

end Go.Proofs.YtjelcjiofcoifaaGreatDoor

/-
  The scope of a part: what the reference's call returns.
-/
namespace Go.Proofs.YtjelcjiofcoifaaGreatDoor
open Go.RowKit

theorem shapeG_le {α : Type} {ar : α → Int} (h0 : ∀ t, 0 ≤ ar t) : ∀ (l : List α) (m : Int), shapeG ar m l = true → m ≤ (l.length : Int)
  | [], m, h => by
    have : m = 0 := by simpa [shapeG] using h
    simp [this]
  | t :: l, m, h => by
    rw [shapeG] at h
    split at h
    · cases h
    · have := shapeG_le h0 l _ h
      have := h0 t
      rw [List.length_cons]; omega
/-- a definition lies at a place. -/
structure DeAt (b o : Nat) (f : List Nat) (w : World) (d : De) : Prop where
  c0 : w.cell? ⟨b, o, none⟩ = some (es d.name)
  c1 : w.cell? ⟨b, o + 1, none⟩ = some (ei d.pars)
  c2 : ∃ v, w.cell? ⟨b, o + 2, none⟩ = some v ∧ R_Pa1 f w [v] d.body
theorem DeAt.upd {b o : Nat} {f : List Nat} {w w' : World} {d : De} (h : DeAt b o f w d) (hu : Upd [] w w') : DeAt b o f w' d :=
  ⟨hu.keep h.c0, hu.keep h.c1, by obtain ⟨v, h1, h2⟩ := h.c2; exact ⟨v, hu.keep h1, R_Pa1k.upd h2 hu (by simp)⟩⟩
theorem DeAt.of {b o : Nat} {f : List Nat} {w : World} {d : De} {u : List Value} (hc : ∀ (j : Nat) c, u[j]? = some c → w.cell? ⟨b, o + j, none⟩ = some c) (hr : R_De f w u d) : ∃ f', DeAt b o f' w d := by
  obtain ⟨v2, f2, rfl, h2, rfl⟩ := hr
  exact ⟨f2, hc 0 _ rfl, hc 1 _ rfl, v2, hc 2 _ rfl, h2⟩

set_option maxRecDepth 20000 in
set_option maxHeartbeats 4000000 in
theorem scopeS (b o : Nat) (f : List Nat) (d : De) (part : Nat) (w : World) (hD : DeAt b o f w d) (hl : d.body.length ≤ 20) (hp : part < d.body.length) (hp0 : 0 ≤ d.pars) (hp1 : d.pars ≤ 3) (hsh : shapeG folP 1 d.body = true) :
    Calls Tryz.prog 119 #[.pointer (some ⟨b, o, none⟩), .int .i64 part] w fun e w' => e = .returned (.int .i64 (d.pars + cntB folP sumP d.body part)) ∧ w = w' := by
  obtain ⟨-, c1, v, c2, hR⟩ := hD
  have hR' := hR
  obtain ⟨a, cap, rfl, g1, g2, hc⟩ := slQ_open hR
  unfold maxLen at g2
  have HC := Lib.hid hc
  have HRR := Lib.hid hR'
  have HSH := Lib.hid hsh
  clear hR hc hR' hsh
  generalize d.body = l at *
  generalize d.pars = P at *
  go_enter Tryz.func119, Tryz.ntmps119
  go_wp2_with fail
  go_loopw [5, 6] (fun ov iv wr => ∃ (k : Nat) (c : Int), k ≤ part ∧ iv = .int .i64 k ∧ ov = .int .i64 c ∧ 0 ≤ c ∧ c ≤ 3 + k ∧ Hid (c + cntB folP sumP (l.drop k) (part - k) = P + cntB folP sumP l part) ∧ wr = w) (fun _ iv _ => part - (intOf iv).toNat)
  case atStart => exact ⟨0, P, Nat.zero_le _, rfl, rfl, hp0, by omega, Lib.hid (by simp), by trivial⟩
  case round =>
    obtain ⟨k, c, hk, rfl, rfl, hc0, hc1, HE, rfl⟩ := hrel
    by_cases hlt : k < part
    · have hkl0 : k < l.length := by omega
      obtain ⟨b1, o1, u, f1, rfl, -, -, -, hcell, -, hr⟩ := HC.out k hkl0
      obtain ⟨v3, f3, rfl, -, -⟩ := hr
      have p0 := hcell 0 _ rfl
      simp only [Nat.add_zero] at p0
      have hE := HE.out
      obtain ⟨i, hi⟩ : ∃ i, part - k = i + 1 := ⟨part - k - 1, by omega⟩
      have hdr := List.drop_eq_getElem_cons hkl0
      obtain ⟨q, q0, q1, q2⟩ := shapeG_drop folP_nn l 1 (by omega) HSH.out k (by omega)
      have hqle := shapeG_le folP_nn _ _ q2
      rw [List.length_drop] at hqle
      have S1 := Lib.hid (endDS (.slice (some ⟨b1, o1, none⟩) l.length cap) l k q wr f HRR.out (by omega) (q1 hkl0) hkl0 (by omega) q2)
      rw [hi, hdr, cntB, ← hdr, show i = part - (k + 1) by omega] at hE
      have hkp : (k : Int) < (part : Int) := by omega
      have hkl : (k : Int) < (l.length : Int) := by omega
      have HEN := Lib.hid (show (i + 1 < endN folP 1 (l.drop k)) ↔ (part : Int) < (k : Int) + ((endN folP 1 (l.drop k) : Nat) : Int) by omega)
      rw [show part - (k + 1) + 1 = i + 1 by omega] at hE
      have HE2 := Lib.hid hE
      have hle : endN folP 1 (l.drop k) ≤ 1000 := by
        have : ∀ (m : Int) (x : List Pa), endN folP m x ≤ x.length := by
          intro m x
          induction x generalizing m with
          | nil => simp [endN]
          | cons t x ih =>
            rw [endN]
            split
            · simp
            · have := ih (m + folP t - 1)
              simp; omega
        have := this 1 (l.drop k)
        rw [List.length_drop] at this
        omega
      clear HE hE hcell hdr q0 q1 q2 hqle hi
      generalize endN folP 1 (l.drop k) = E at *
      have HSU := Lib.hid (show sumP l[k] = (l[k].kind == 4) from rfl)
      generalize l[k] = p at *
      obtain ⟨q4, h4⟩ : ∃ q, (p.kind == 4) = q := ⟨_, rfl⟩
      cases q4 with
      | false =>
        have HN := Lib.hid (show c + cntB folP sumP (l.drop (k + 1)) (part - (k + 1)) = P + cntB folP sumP l part by
          rw [← HE2.out, if_neg (by rw [HSU.out, h4]; simp)]; omega)
        clear S1 HE2 HEN HSU
        go_wp2_with fail
        go_roundw
        case rel => exact ⟨k + 1, c, by omega, by go_num, rfl, by omega, by omega, HN, by trivial⟩
        case measure => simp [intOf]; omega
      | true =>
        by_cases hg : (part : Int) < (k : Int) + (E : Int)
        · have HN := Lib.hid (show c + 1 + cntB folP sumP (l.drop (k + 1)) (part - (k + 1)) = P + cntB folP sumP l part by
            rw [← HE2.out, if_pos ⟨by rw [HSU.out, h4], HEN.out.2 hg⟩]; omega)
          clear HE2 HEN HSU
          go_wp2_with fail
          refine S1.out.mono ?_
          rintro e w1 ⟨rfl, rfl⟩
          clear S1
          go_wp2_with fail
          go_roundw
          case rel => exact ⟨k + 1, c + 1, by omega, by go_num, by go_num, by omega, by omega, HN, by trivial⟩
          case measure => simp [intOf]; omega
        · have HN := Lib.hid (show c + cntB folP sumP (l.drop (k + 1)) (part - (k + 1)) = P + cntB folP sumP l part by
            rw [← HE2.out, if_neg (fun h => hg (HEN.out.1 h.2))]; omega)
          clear HE2 HEN HSU
          go_wp2_with fail
          refine S1.out.mono ?_
          rintro e w1 ⟨rfl, rfl⟩
          clear S1
          go_wp2_with fail
          go_roundw
          case rel => exact ⟨k + 1, c, by omega, by go_num, rfl, by omega, by omega, HN, by trivial⟩
          case measure => simp [intOf]; omega
    · obtain rfl : k = part := by omega
      have HN := Lib.hid (show P + cntB folP sumP l k = c by
        have := HE.out
        rw [Nat.sub_self] at this
        rw [← this]
        cases l.drop k with
        | nil => simp [cntB]
        | cons t x => simp [cntB])
      have hkp : ¬ (k : Int) < (k : Int) := by omega
      go_wp2_with fail
      go_ret
      exact ⟨by rw [HN.out]; rfl, rfl⟩

end Go.Proofs.YtjelcjiofcoifaaGreatDoor

/-
  Why a part of a body is not valid: what the reference's calls return.
-/
namespace Go.Proofs.YtjelcjiofcoifaaGreatDoor
open Go.RowKit

set_option maxRecDepth 20000 in
set_option maxHeartbeats 4000000 in
theorem kindS05 (p : Pa) (B : Nat) (a : Option Addr) (c : Nat) (w : World) (c0 : w.cell? ⟨B, 0, none⟩ = some (ei p.kind)) (c1 : w.cell? ⟨B, 1, none⟩ = some (ei p.num)) (c2 : w.cell? ⟨B, 2, none⟩ = some (es p.name)) (c3 : w.cell? ⟨B, 3, none⟩ = some (.slice a p.args.length c)) :
    Calls Tryz.prog 118 #[.pointer (some ⟨B, 0, none⟩)] w fun e w' => e = .returned (.bool (kindP p)) ∧ w = w' := by
  have HM := Lib.hid (show kindP p = (inB p.kind 0 5 && ((p.kind == 4 || p.kind == 5) || p.num == 0) && (p.kind == 1 || p.name == []) && ((p.kind == 1 || p.kind == 3 || p.kind == 5) || p.args.length == 0)) from rfl)
  obtain ⟨k, num, name, args⟩ := p
  simp only at *
  generalize kindP ⟨k, num, name, args⟩ = Z at *
  generalize args.length = n at *
  obtain ⟨q0, h0⟩ : ∃ q, (k == 0) = q := ⟨_, rfl⟩
  obtain ⟨q1, h1⟩ : ∃ q, (k == 1) = q := ⟨_, rfl⟩
  obtain ⟨q2, h2⟩ : ∃ q, (k == 2) = q := ⟨_, rfl⟩
  obtain ⟨q3, h3⟩ : ∃ q, (k == 3) = q := ⟨_, rfl⟩
  obtain ⟨q4, h4⟩ : ∃ q, (k == 4) = q := ⟨_, rfl⟩
  obtain ⟨q5, h5⟩ : ∃ q, (k == 5) = q := ⟨_, rfl⟩
  obtain ⟨n0, hn⟩ : ∃ q, (num == 0) = q := ⟨_, rfl⟩
  obtain ⟨e0, he⟩ : ∃ q, (name == []) = q := ⟨_, rfl⟩
  obtain ⟨a0, ha⟩ : ∃ q, (n == 0) = q := ⟨_, rfl⟩
  obtain ⟨qi, hi⟩ : ∃ q, inB k 0 5 = q := ⟨_, rfl⟩
  have ha2 : ((n : Int) == 0) = a0 := by rw [← ha]; cases n <;> rfl
  have HQ := Lib.hid (show q0 = false → q1 = false → q2 = false → q3 = false → q4 = false → q5 = false → false = qi from by
    intro g0 g1 g2 g3 g4 g5
    rw [← h0] at g0; rw [← h1] at g1; rw [← h2] at g2; rw [← h3] at g3; rw [← h4] at g4; rw [← h5] at g5
    simp only [beq_eq_false_iff_ne, ne_eq] at g0 g1 g2 g3 g4 g5
    rw [← hi, inB_no (by omega)])
  rw [h1, h3, h4, h5, hn, he, ha, hi] at HM
  clear ha
  cases q0 with
  | false =>
    cases q2 with
    | false =>
      cases q1 with
      | false =>
        cases q3 with
        | false =>
          cases q4 with
          | false =>
            cases q5 with
            | false =>
              obtain rfl : false = qi := HQ.out rfl rfl rfl rfl rfl rfl
              go_enter Tryz.func118, Tryz.ntmps118
              go_wp2_with fail
              go_ret
              exact ⟨by rw [HM.out]; rfl, rfl⟩
            | true =>
              clear HQ
              obtain rfl : k = 5 := by simpa using h5
              obtain rfl : true = qi := hi
              cases e0 with
              | false =>
                go_enter Tryz.func118, Tryz.ntmps118
                go_wp2_with fail
                go_ret
                exact ⟨by rw [HM.out]; rfl, rfl⟩
              | true =>
                go_enter Tryz.func118, Tryz.ntmps118
                go_wp2_with fail
                go_ret
                exact ⟨by rw [HM.out]; rfl, rfl⟩
          | true =>
            clear HQ
            obtain rfl : k = 4 := by simpa using h4
            obtain rfl : true = qi := hi
            obtain rfl : false = q5 := h5
            cases e0 with
            | false =>
              go_enter Tryz.func118, Tryz.ntmps118
              go_wp2_with fail
              go_ret
              exact ⟨by rw [HM.out]; rfl, rfl⟩
            | true =>
              cases a0 with
              | false =>
                go_enter Tryz.func118, Tryz.ntmps118
                go_wp2_with fail
                go_ret
                exact ⟨by rw [HM.out]; rfl, rfl⟩
              | true =>
                go_enter Tryz.func118, Tryz.ntmps118
                go_wp2_with fail
                go_ret
                exact ⟨by rw [HM.out]; rfl, rfl⟩
        | true =>
          clear HQ
          obtain rfl : k = 3 := by simpa using h3
          obtain rfl : true = qi := hi
          obtain rfl : false = q4 := h4
          obtain rfl : false = q5 := h5
          cases n0 with
          | false =>
            go_enter Tryz.func118, Tryz.ntmps118
            go_wp2_with fail
            go_ret
            exact ⟨by rw [HM.out]; rfl, rfl⟩
          | true =>
            cases e0 with
            | false =>
              go_enter Tryz.func118, Tryz.ntmps118
              go_wp2_with fail
              go_ret
              exact ⟨by rw [HM.out]; rfl, rfl⟩
            | true =>
              go_enter Tryz.func118, Tryz.ntmps118
              go_wp2_with fail
              go_ret
              exact ⟨by rw [HM.out]; rfl, rfl⟩
      | true =>
        clear HQ
        obtain rfl : k = 1 := by simpa using h1
        obtain rfl : true = qi := hi
        obtain rfl : false = q3 := h3
        obtain rfl : false = q4 := h4
        obtain rfl : false = q5 := h5
        cases n0 with
        | false =>
          go_enter Tryz.func118, Tryz.ntmps118
          go_wp2_with fail
          go_ret
          exact ⟨by rw [HM.out]; rfl, rfl⟩
        | true =>
          go_enter Tryz.func118, Tryz.ntmps118
          go_wp2_with fail
          go_ret
          exact ⟨by rw [HM.out]; rfl, rfl⟩
    | true =>
      clear HQ
      obtain rfl : k = 2 := by simpa using h2
      obtain rfl : true = qi := hi
      obtain rfl : false = q1 := h1
      obtain rfl : false = q3 := h3
      obtain rfl : false = q4 := h4
      obtain rfl : false = q5 := h5
      cases n0 with
      | false =>
        go_enter Tryz.func118, Tryz.ntmps118
        go_wp2_with fail
        go_ret
        exact ⟨by rw [HM.out]; rfl, rfl⟩
      | true =>
        cases e0 with
        | false =>
          go_enter Tryz.func118, Tryz.ntmps118
          go_wp2_with fail
          go_ret
          exact ⟨by rw [HM.out]; rfl, rfl⟩
        | true =>
          cases a0 with
          | false =>
            go_enter Tryz.func118, Tryz.ntmps118
            go_wp2_with fail
            go_ret
            exact ⟨by rw [HM.out]; rfl, rfl⟩
          | true =>
            go_enter Tryz.func118, Tryz.ntmps118
            go_wp2_with fail
            go_ret
            exact ⟨by rw [HM.out]; rfl, rfl⟩
  | true =>
    clear HQ
    obtain rfl : k = 0 := by simpa using h0
    obtain rfl : true = qi := hi
    obtain rfl : false = q2 := h2
    obtain rfl : false = q1 := h1
    obtain rfl : false = q3 := h3
    obtain rfl : false = q4 := h4
    obtain rfl : false = q5 := h5
    cases n0 with
    | false =>
      go_enter Tryz.func118, Tryz.ntmps118
      go_wp2_with fail
      go_ret
      exact ⟨by rw [HM.out]; rfl, rfl⟩
    | true =>
      cases e0 with
      | false =>
        go_enter Tryz.func118, Tryz.ntmps118
        go_wp2_with fail
        go_ret
        exact ⟨by rw [HM.out]; rfl, rfl⟩
      | true =>
        cases a0 with
        | false =>
          go_enter Tryz.func118, Tryz.ntmps118
          go_wp2_with fail
          go_ret
          exact ⟨by rw [HM.out]; rfl, rfl⟩
        | true =>
          go_enter Tryz.func118, Tryz.ntmps118
          go_wp2_with fail
          go_ret
          exact ⟨by rw [HM.out]; rfl, rfl⟩

set_option maxRecDepth 20000 in
set_option maxHeartbeats 16000000 in
theorem reasonS (ds : List De) (dv : Value) (fd : List Nat) (bd od : Nat) (fb : List Nat) (d : De) (at' : Nat) (w : World) (hDS : R_De1 fd w [dv] ds) (hD : DeAt bd od fb w d) (hdl : ds.length ≤ 1000000) (hl : d.body.length ≤ 20) (hat' : at' < d.body.length) (hsh : shapeG folP 1 d.body = true) (hp0 : 0 ≤ d.pars) (hp1 : d.pars ≤ 3)
    (hnl : d.body[at'].name.length ≤ 2000000) (hal : d.body[at'].args.length ≤ 2000000) :
    Calls Tryz.prog 83 #[dv, .pointer (some ⟨bd, od, none⟩), .int .i64 at'] w fun e w' => e = .returned (.int .i64 (reasonP ds d.body[at'] (d.pars + cntB folP sumP d.body at') (behindP d.body at'))) ∧ Upd [] w w' := by
  obtain ⟨ad, qd, rfl, dg1, dg2, hdc⟩ := slQ_open hDS
  unfold maxLen at dg2
  have hD' := hD
  obtain ⟨-, -, v, d2, hR⟩ := hD
  obtain ⟨a, cap, rfl, g1, g2, hc⟩ := slQ_open hR
  unfold maxLen at g2
  obtain ⟨bb, ob, u, f', rfl, -, -, -, hcell, -, hr⟩ := hc at' hat'
  obtain ⟨v3, f3, rfl, h3, rfl⟩ := hr
  have h3' := h3
  obtain ⟨a3, c3, rfl, ag1, ag2, hA⟩ := slP_open h3
  unfold maxLen at ag2
  have p0 := hcell 0 _ rfl
  have p1 := hcell 1 _ rfl
  have p2 := hcell 2 _ rfl
  have p3 := hcell 3 _ rfl
  simp only [Nat.add_zero] at p0
  have hal' : (at' : Int) < (d.body.length : Int) := by omega
  have hcb := cntB_bd folP sumP d.body at'
  have hs0 : 0 ≤ d.pars + cntB folP sumP d.body at' := by omega
  have hs1 : d.pars + cntB folP sumP d.body at' ≤ 29 := by omega
  obtain ⟨wP, hwP⟩ : ∃ q, q = w.alloc (.cells #[ei d.body[at'].kind, ei d.body[at'].num, es d.body[at'].name, .slice a3 d.body[at'].args.length c3] 134) := ⟨_, rfl⟩
  obtain ⟨BP, hBP⟩ : ∃ q, q = w.heap.size := ⟨_, rfl⟩
  have uP : Upd [] w wP := by rw [hwP]; exact (Upd.refl _ _).alloc _
  have x0 : wP.cell? ⟨BP, 0, none⟩ = some (ei d.body[at'].kind) := by rw [hwP, hBP]; exact cell_new w _ _ _ rfl 0 _ rfl
  have x1 : wP.cell? ⟨BP, 1, none⟩ = some (ei d.body[at'].num) := by rw [hwP, hBP]; exact cell_new w _ _ _ rfl 1 _ rfl
  have x2 : wP.cell? ⟨BP, 2, none⟩ = some (es d.body[at'].name) := by rw [hwP, hBP]; exact cell_new w _ _ _ rfl 2 _ rfl
  have x3 : wP.cell? ⟨BP, 3, none⟩ = some (.slice a3 d.body[at'].args.length c3) := by rw [hwP, hBP]; exact cell_new w _ _ _ rfl 3 _ rfl
  have e2 := uP.keep d2
  have hDP : DeAt bd od fb wP d := DeAt.upd hD' uP
  have SK := Lib.hid (kindS05 d.body[at'] BP a3 c3 wP x0 x1 x2 x3)
  have SN := Lib.hid (nameS d.body[at'].name wP hnl)
  have SW := Lib.hid (l00In d.body[at'].num 1 7 wP)
  have SI := Lib.hid (l00In d.body[at'].num 0 ((ds.length : Int) - 1) wP)
  have SS := Lib.hid (scopeS bd od fb d at' wP hDP hl hat' hp0 hp1 hsh)
  have HA := Lib.hid (fun j (hj : j < d.body[at'].args.length) => by
    obtain ⟨_, _, hv, _, _, h⟩ := slP_open (R_T2k.upd h3' uP (by simp))
    cases hv; exact h j hj)
  have HDS := Lib.hid (fun j (hj : j < ds.length) => by
    obtain ⟨_, _, hv, _, _, h⟩ := slQ_open (R_De1k.upd hDS uP (by simp))
    cases hv; exact h j hj)
  have HB0 := Lib.hid (fun (h : at' = 0) => show false = behindP d.body at' by rw [h]; rfl)
  have HB1 := Lib.hid (fun i (h : at' = i + 1) => show ∃ kb, wP.cell? ⟨bb, ob + i * 4, none⟩ = some (ei kb) ∧ (kb == 1) = behindP d.body at' by
    subst h
    obtain ⟨bb', ob', u', f'', he, -, -, -, hcell', -, hr'⟩ := hc i (by omega)
    simp only [Option.some.injEq, Addr.mk.injEq, and_true] at he
    obtain ⟨rfl, rfl⟩ := he
    obtain ⟨v4, f4, rfl, -, -⟩ := hr'
    refine ⟨d.body[i].kind, uP.keep (by simpa using hcell' 0 _ rfl), ?_⟩
    unfold behindP
    rw [decide_eq_true (by omega), Bool.true_and, Nat.add_sub_cancel, List.getD_eq_getElem?_getD, List.getElem?_map, List.getElem?_eq_getElem (show i < d.body.length by omega)]; rfl)
  have HM := Lib.hid (show reasonP ds d.body[at'] (d.pars + cntB folP sumP d.body at') (behindP d.body at') = (if (!kindP d.body[at']) = true then 2 else if (d.body[at'].kind == 1 && !nameF d.body[at'].name) = true then 3 else if ((d.body[at'].kind == 4 && !inB d.body[at'].num 1 7) || (d.body[at'].kind == 5 && !inB d.body[at'].num 0 ((ds.length : Int) - 1))) = true then 4
      else if (!(if (d.body[at'].kind == 1) = true then d.body[at'].args.length == 0 || (!(d.body[at'].name == tauL) && decide (d.body[at'].args.length ≤ 2)) else if (d.body[at'].kind == 3) = true then (d.body[at'].args.length : Int) == 1 else if (d.body[at'].kind == 5) = true then (d.body[at'].args.length : Int) == ((ds.map De.pars).getD d.body[at'].num.toNat 0) else true)) = true then 5
      else if (d.body[at'].kind == 5 && !behindP d.body at') = true then 6 else if (d.body[at'].kind == 4 && decide (6 ≤ d.pars + cntB folP sumP d.body at')) = true then 7 else if (d.body[at'].args.any (fun e => !isE e (d.pars + cntB folP sumP d.body at') 15)) = true then 8 else 0) by
    unfold reasonP
    have : countP ds d.body[at'] = (if (d.body[at'].kind == 1) = true then d.body[at'].args.length == 0 || (!(d.body[at'].name == tauL) && decide (d.body[at'].args.length ≤ 2)) else if (d.body[at'].kind == 3) = true then (d.body[at'].args.length : Int) == 1 else if (d.body[at'].kind == 5) = true then (d.body[at'].args.length : Int) == ((ds.map De.pars).getD d.body[at'].num.toNat 0) else true) := by
      unfold countP; simp only [beq_iff_eq, bne]
      split <;> try rfl
      split <;> try rfl
      cases d.body[at'].args.length with
      | zero => rfl
      | succ n => cases n <;> rfl
    rw [this])
  have HANY := Lib.hid (fun j (hj : j < d.body[at'].args.length) (h : isE d.body[at'].args[j] (d.pars + cntB folP sumP d.body at') 15 = false) => show (d.body[at'].args.any (fun e => !isE e (d.pars + cntB folP sumP d.body at') 15)) = true from
    List.any_eq_true.2 ⟨_, List.getElem_mem hj, by rw [h]; rfl⟩)
  have HALL := Lib.hid (fun (h : ∀ j (hj : j < d.body[at'].args.length), isE d.body[at'].args[j] (d.pars + cntB folP sumP d.body at') 15 = true) => show (d.body[at'].args.any (fun e => !isE e (d.pars + cntB folP sumP d.body at') 15)) = false from by
    rw [List.any_eq_false]
    intro e he
    obtain ⟨j, hj, rfl⟩ := List.mem_iff_getElem.1 he
    rw [h j hj]; simp)
  have UP := Lib.hid uP
  have hlb20 : d.body.length ≤ 20 := hl
  clear hcell hc hR h3 h3' hA hcb uP hDP hDS hdc hsh hnl hD'
  generalize reasonP ds d.body[at'] (d.pars + cntB folP sumP d.body at') (behindP d.body at') = Z at *
  generalize d.pars + cntB folP sumP d.body at' = sc at *
  generalize behindP d.body at' = bh at *
  generalize d.body[at'] = p at *
  generalize d.body.length = lb at *
  obtain ⟨k, num, name, args⟩ := p
  simp only at *
  have HI := Lib.hid (fun (h : inB num 0 ((ds.length : Int) - 1) = true) => show 0 ≤ num ∧ num < ds.length by have := inB_true h; omega)
  generalize kindP ⟨k, num, name, args⟩ = qk at *
  generalize nameF name = qa at *
  generalize inB num 1 7 = r4 at *
  generalize inB num 0 ((ds.length : Int) - 1) = r5 at *
  generalize hga : (args.any fun e => !isE e sc 15) = ga at *
  clear hga
  obtain ⟨n, hn⟩ : ∃ n, n = args.length := ⟨_, rfl⟩
  rw [← hn] at x3 p3 HM hal ag1
  have HLN := Lib.hid hn.symm
  rw [← hn] at hwP
  clear hn
  obtain ⟨q1, h1⟩ : ∃ q, (k == 1) = q := ⟨_, rfl⟩
  obtain ⟨q3, h3⟩ : ∃ q, (k == 3) = q := ⟨_, rfl⟩
  obtain ⟨q4, h4⟩ : ∃ q, (k == 4) = q := ⟨_, rfl⟩
  obtain ⟨q5, h5⟩ : ∃ q, (k == 5) = q := ⟨_, rfl⟩
  obtain ⟨t0, htb⟩ : ∃ q, (name == tauL) = q := ⟨_, rfl⟩
  obtain ⟨a0, ha⟩ : ∃ q, (n == 0) = q := ⟨_, rfl⟩
  obtain ⟨l2, hl2⟩ : ∃ q, decide (n ≤ 2) = q := ⟨_, rfl⟩
  obtain ⟨b1, hb1⟩ : ∃ q, ((n : Int) == 1) = q := ⟨_, rfl⟩
  obtain ⟨bP, hbP⟩ : ∃ q, ((n : Int) == (ds.map De.pars).getD num.toNat 0) = q := ⟨_, rfl⟩
  obtain ⟨s6, hs⟩ : ∃ q, decide (6 ≤ sc) = q := ⟨_, rfl⟩
  rw [h1, h3, h4, h5, htb, ha, hl2, hb1, hbP, hs] at HM
  have htb2 : (name == [116, 97, 117]) = t0 := htb
  clear htb
  go_enter Tryz.func83, Tryz.ntmps83
  go_upto_region 2 with (fail)
  rw [← hwP, ← hBP]
  clear hwP hBP p0 p1 p2 p3 d2
  go_wp2_with fail
  refine (SK.out).mono ?_
  rintro e wq ⟨rfl, rfl⟩
  cases qk with
  | false =>
    go_wp2_with fail
    go_ret
    exact ⟨by rw [HM.out]; rfl, UP.out⟩
  | true =>
    cases q1 with
    | false =>
      cases q4 with
      | false =>
        cases q5 with
        | false =>
          cases q3 with
          | false =>
            go_wp2_with fail
            refine (SS.out).mono ?_
            rintro e wq ⟨rfl, rfl⟩
            go_wp2_with fail
            go_loopw [10] (fun iv wr => ∃ j : Nat, j ≤ n ∧ iv = .int .i64 j ∧ Hid (∀ i (_ : i < j) (hi : i < args.length), isE args[i] sc 15 = true) ∧ wr = wP) (fun iv _ => n - (intOf iv).toNat)
            case atStart => exact ⟨0, Nat.zero_le _, rfl, Lib.hid (fun i hi => absurd hi (Nat.not_lt_zero _)), by trivial⟩
            case round =>
              obtain ⟨j, hj, rfl, HG, rfl⟩ := hrel
              by_cases hlt : j < n
              · have hla : j < args.length := by rw [HLN.out]; exact hlt
                obtain ⟨b1, o1, u, f9, rfl, -, -, s0, -, hr⟩ := HA.out j hla
                have S9 := Lib.hid (l03Is u args[j] sc 15 wr f9 hs0 hs1 (by omega) hr)
                have HNX := Lib.hid (fun (h : isE args[j] sc 15 = true) i (hij : i < j + 1) (hi : i < args.length) => (show isE args[i] sc 15 = true by
                  by_cases e : i = j
                  · subst e; exact h
                  · exact HG.out i (by omega) hi))
                have HNO := Lib.hid (fun (h : isE args[j] sc 15 = false) => HANY.out j hla h)
                have hjn : (j : Int) < (n : Int) := by omega
                clear hr HG
                generalize isE args[j] sc 15 = qe at *
                go_wp2_with fail
                refine S9.out.mono ?_
                rintro e wq ⟨rfl, rfl⟩
                clear S9
                cases qe with
                | false =>
                  have HZ2 := Lib.hid (HNO.out rfl)
                  clear HNX HNO
                  go_wp2_with fail
                  go_ret
                  exact ⟨by rw [HM.out, HZ2.out]; rfl, UP.out⟩
                | true =>
                  have HN2 := Lib.hid (HNX.out rfl)
                  clear HNX HNO
                  go_wp2_with fail
                  go_roundw
                  case rel => exact ⟨j + 1, by omega, by go_num, HN2, by trivial⟩
                  case measure => simp [intOf]; omega
              · have HZ2 := Lib.hid (HALL.out (fun i hi => HG.out i (by rw [HLN.out] at hi; omega) hi))
                have hjn : ¬ (j : Int) < (n : Int) := by omega
                clear HG
                go_wp2_with fail
                go_ret
                exact ⟨by rw [HM.out, HZ2.out]; rfl, UP.out⟩
          | true =>
            obtain rfl : k = 3 := by simpa using h3
            cases b1 with
            | false =>
              have gb : ((n : Int) != 1) = true := by simp [bne, hb1]
              go_wp2_with fail
              go_ret
              exact ⟨by rw [HM.out]; rfl, UP.out⟩
            | true =>
              have gb : ((n : Int) != 1) = false := by simp [bne, hb1]
              go_wp2_with fail
              refine (SS.out).mono ?_
              rintro e wq ⟨rfl, rfl⟩
              go_wp2_with fail
              go_loopw [10] (fun iv wr => ∃ j : Nat, j ≤ n ∧ iv = .int .i64 j ∧ Hid (∀ i (_ : i < j) (hi : i < args.length), isE args[i] sc 15 = true) ∧ wr = wP) (fun iv _ => n - (intOf iv).toNat)
              case atStart => exact ⟨0, Nat.zero_le _, rfl, Lib.hid (fun i hi => absurd hi (Nat.not_lt_zero _)), by trivial⟩
              case round =>
                obtain ⟨j, hj, rfl, HG, rfl⟩ := hrel
                by_cases hlt : j < n
                · have hla : j < args.length := by rw [HLN.out]; exact hlt
                  obtain ⟨b1, o1, u, f9, rfl, -, -, s0, -, hr⟩ := HA.out j hla
                  have S9 := Lib.hid (l03Is u args[j] sc 15 wr f9 hs0 hs1 (by omega) hr)
                  have HNX := Lib.hid (fun (h : isE args[j] sc 15 = true) i (hij : i < j + 1) (hi : i < args.length) => (show isE args[i] sc 15 = true by
                    by_cases e : i = j
                    · subst e; exact h
                    · exact HG.out i (by omega) hi))
                  have HNO := Lib.hid (fun (h : isE args[j] sc 15 = false) => HANY.out j hla h)
                  have hjn : (j : Int) < (n : Int) := by omega
                  clear hr HG
                  generalize isE args[j] sc 15 = qe at *
                  go_wp2_with fail
                  refine S9.out.mono ?_
                  rintro e wq ⟨rfl, rfl⟩
                  clear S9
                  cases qe with
                  | false =>
                    have HZ2 := Lib.hid (HNO.out rfl)
                    clear HNX HNO
                    go_wp2_with fail
                    go_ret
                    exact ⟨by rw [HM.out, HZ2.out]; rfl, UP.out⟩
                  | true =>
                    have HN2 := Lib.hid (HNX.out rfl)
                    clear HNX HNO
                    go_wp2_with fail
                    go_roundw
                    case rel => exact ⟨j + 1, by omega, by go_num, HN2, by trivial⟩
                    case measure => simp [intOf]; omega
                · have HZ2 := Lib.hid (HALL.out (fun i hi => HG.out i (by rw [HLN.out] at hi; omega) hi))
                  have hjn : ¬ (j : Int) < (n : Int) := by omega
                  clear HG
                  go_wp2_with fail
                  go_ret
                  exact ⟨by rw [HM.out, HZ2.out]; rfl, UP.out⟩
        | true =>
          obtain rfl : k = 5 := by simpa using h5
          obtain rfl : false = q3 := h3
          go_wp2_with fail
          refine (SI.out).mono ?_
          rintro e wq ⟨rfl, rfl⟩
          cases r5 with
          | false =>
            go_wp2_with fail
            go_ret
            exact ⟨by rw [HM.out]; rfl, UP.out⟩
          | true =>
            obtain ⟨hn0, hn1⟩ := HI.out rfl
            obtain ⟨m, rfl⟩ : ∃ m : Nat, num = m := ⟨num.toNat, by omega⟩
            have hm : m < ds.length := by omega
            obtain ⟨b5, o5, u5, f5, rfl, -, -, -, hcell5, -, hr5⟩ := HDS.out m hm
            obtain ⟨v5, f6, rfl, -, -⟩ := hr5
            have z1 := hcell5 1 _ rfl
            have hPm : (ds.map De.pars).getD (Int.toNat (m : Int)) 0 = ds[m].pars := by
              rw [Int.toNat_natCast, List.getD_eq_getElem?_getD, List.getElem?_map, List.getElem?_eq_getElem hm]; rfl
            rw [hPm] at hbP
            clear hPm hcell5
            generalize ds[m].pars = P5 at *
            have hml : (m : Int) < (ds.length : Int) := by omega
            cases bP with
            | false =>
              have gb : ((n : Int) != P5) = true := by simp [bne, hbP]
              go_wp2_with fail
              go_ret
              exact ⟨by rw [HM.out]; rfl, UP.out⟩
            | true =>
              have gb : ((n : Int) != P5) = false := by simp [bne, hbP]
              by_cases hat : at' = 0
              · subst hat
                obtain rfl : false = bh := HB0.out rfl
                go_wp2_with fail
                go_ret
                exact ⟨by rw [HM.out]; rfl, UP.out⟩
              · obtain ⟨i, rfl⟩ : ∃ i, at' = i + 1 := ⟨at' - 1, by omega⟩
                obtain ⟨kb, s1, hkb⟩ := HB1.out i rfl
                have gat : (((i + 1 : Nat) : Int) == 0) = false := by simp; omega
                have gat2 : ((i : Int) + 1 == 0) = false := by simp; omega
                have gil : (i : Int) < (lb : Int) := by omega
                obtain ⟨qb, hqb⟩ : ∃ q, (kb == 1) = q := ⟨_, rfl⟩
                rw [hqb] at hkb
                subst hkb
                cases qb with
                | false =>
                  have gkb : (kb != 1) = true := by simp [bne, hqb]
                  go_wp2_with fail
                  go_ret
                  exact ⟨by rw [HM.out]; rfl, UP.out⟩
                | true =>
                  have gkb : (kb != 1) = false := by simp [bne, hqb]
                  go_wp2_with fail
                  refine (SS.out).mono ?_
                  rintro e wq ⟨rfl, rfl⟩
                  go_wp2_with fail
                  go_loopw [10] (fun iv wr => ∃ j : Nat, j ≤ n ∧ iv = .int .i64 j ∧ Hid (∀ i (_ : i < j) (hi : i < args.length), isE args[i] sc 15 = true) ∧ wr = wP) (fun iv _ => n - (intOf iv).toNat)
                  case atStart => exact ⟨0, Nat.zero_le _, rfl, Lib.hid (fun i hi => absurd hi (Nat.not_lt_zero _)), by trivial⟩
                  case round =>
                    obtain ⟨j, hj, rfl, HG, rfl⟩ := hrel
                    by_cases hlt : j < n
                    · have hla : j < args.length := by rw [HLN.out]; exact hlt
                      obtain ⟨b1, o1, u, f9, rfl, -, -, s0, -, hr⟩ := HA.out j hla
                      have S9 := Lib.hid (l03Is u args[j] sc 15 wr f9 hs0 hs1 (by omega) hr)
                      have HNX := Lib.hid (fun (h : isE args[j] sc 15 = true) i (hij : i < j + 1) (hi : i < args.length) => (show isE args[i] sc 15 = true by
                        by_cases e : i = j
                        · subst e; exact h
                        · exact HG.out i (by omega) hi))
                      have HNO := Lib.hid (fun (h : isE args[j] sc 15 = false) => HANY.out j hla h)
                      have hjn : (j : Int) < (n : Int) := by omega
                      clear hr HG
                      generalize isE args[j] sc 15 = qe at *
                      go_wp2_with fail
                      refine S9.out.mono ?_
                      rintro e wq ⟨rfl, rfl⟩
                      clear S9
                      cases qe with
                      | false =>
                        have HZ2 := Lib.hid (HNO.out rfl)
                        clear HNX HNO
                        go_wp2_with fail
                        go_ret
                        exact ⟨by rw [HM.out, HZ2.out]; rfl, UP.out⟩
                      | true =>
                        have HN2 := Lib.hid (HNX.out rfl)
                        clear HNX HNO
                        go_wp2_with fail
                        go_roundw
                        case rel => exact ⟨j + 1, by omega, by go_num, HN2, by trivial⟩
                        case measure => simp [intOf]; omega
                    · have HZ2 := Lib.hid (HALL.out (fun i hi => HG.out i (by rw [HLN.out] at hi; omega) hi))
                      have hjn : ¬ (j : Int) < (n : Int) := by omega
                      clear HG
                      go_wp2_with fail
                      go_ret
                      exact ⟨by rw [HM.out, HZ2.out]; rfl, UP.out⟩
      | true =>
        obtain rfl : k = 4 := by simpa using h4
        obtain rfl : false = q5 := h5
        obtain rfl : false = q3 := h3
        go_wp2_with fail
        refine (SW.out).mono ?_
        rintro e wq ⟨rfl, rfl⟩
        cases r4 with
        | false =>
          go_wp2_with fail
          go_ret
          exact ⟨by rw [HM.out]; rfl, UP.out⟩
        | true =>
          go_wp2_with fail
          refine (SS.out).mono ?_
          rintro e wq ⟨rfl, rfl⟩
          cases s6 with
          | false =>
            have hs2 : ¬ (6 ≤ sc) := of_decide_eq_false hs
            go_wp2_with fail
            go_loopw [10] (fun iv wr => ∃ j : Nat, j ≤ n ∧ iv = .int .i64 j ∧ Hid (∀ i (_ : i < j) (hi : i < args.length), isE args[i] sc 15 = true) ∧ wr = wP) (fun iv _ => n - (intOf iv).toNat)
            case atStart => exact ⟨0, Nat.zero_le _, rfl, Lib.hid (fun i hi => absurd hi (Nat.not_lt_zero _)), by trivial⟩
            case round =>
              obtain ⟨j, hj, rfl, HG, rfl⟩ := hrel
              by_cases hlt : j < n
              · have hla : j < args.length := by rw [HLN.out]; exact hlt
                obtain ⟨b1, o1, u, f9, rfl, -, -, s0, -, hr⟩ := HA.out j hla
                have S9 := Lib.hid (l03Is u args[j] sc 15 wr f9 hs0 hs1 (by omega) hr)
                have HNX := Lib.hid (fun (h : isE args[j] sc 15 = true) i (hij : i < j + 1) (hi : i < args.length) => (show isE args[i] sc 15 = true by
                  by_cases e : i = j
                  · subst e; exact h
                  · exact HG.out i (by omega) hi))
                have HNO := Lib.hid (fun (h : isE args[j] sc 15 = false) => HANY.out j hla h)
                have hjn : (j : Int) < (n : Int) := by omega
                clear hr HG
                generalize isE args[j] sc 15 = qe at *
                go_wp2_with fail
                refine S9.out.mono ?_
                rintro e wq ⟨rfl, rfl⟩
                clear S9
                cases qe with
                | false =>
                  have HZ2 := Lib.hid (HNO.out rfl)
                  clear HNX HNO
                  go_wp2_with fail
                  go_ret
                  exact ⟨by rw [HM.out, HZ2.out]; rfl, UP.out⟩
                | true =>
                  have HN2 := Lib.hid (HNX.out rfl)
                  clear HNX HNO
                  go_wp2_with fail
                  go_roundw
                  case rel => exact ⟨j + 1, by omega, by go_num, HN2, by trivial⟩
                  case measure => simp [intOf]; omega
              · have HZ2 := Lib.hid (HALL.out (fun i hi => HG.out i (by rw [HLN.out] at hi; omega) hi))
                have hjn : ¬ (j : Int) < (n : Int) := by omega
                clear HG
                go_wp2_with fail
                go_ret
                exact ⟨by rw [HM.out, HZ2.out]; rfl, UP.out⟩
          | true =>
            have hs2 : 6 ≤ sc := of_decide_eq_true hs
            go_wp2_with fail
            go_ret
            exact ⟨by rw [HM.out]; rfl, UP.out⟩
    | true =>
      obtain rfl : k = 1 := by simpa using h1
      obtain rfl : false = q4 := h4
      obtain rfl : false = q5 := h5
      obtain rfl : false = q3 := h3
      go_wp2_with fail
      refine (SN.out).mono ?_
      rintro e wq ⟨rfl, rfl⟩
      cases qa with
      | false =>
        go_wp2_with fail
        go_ret
        exact ⟨by rw [HM.out]; rfl, UP.out⟩
      | true =>
        cases l2 with
        | false =>
          have g2 : (2 : Int) < (n : Int) := by have := of_decide_eq_false hl2; omega
          obtain rfl : false = a0 := by rw [← ha]; have := of_decide_eq_false hl2; exact (beq_eq_false_iff_ne.2 (by omega)).symm
          go_wp2_with fail
          go_ret
          exact ⟨by rw [HM.out]; cases t0 <;> rfl, UP.out⟩
        | true =>
          have g2 : ¬ (2 : Int) < (n : Int) := by have := of_decide_eq_true hl2; omega
          cases a0 with
          | false =>
            have g0 : (0 : Int) < (n : Int) := by have := beq_eq_false_iff_ne.1 ha; omega
            cases t0 with
            | false =>
              go_wp2_with fail
              refine (SS.out).mono ?_
              rintro e wq ⟨rfl, rfl⟩
              go_wp2_with fail
              go_loopw [10] (fun iv wr => ∃ j : Nat, j ≤ n ∧ iv = .int .i64 j ∧ Hid (∀ i (_ : i < j) (hi : i < args.length), isE args[i] sc 15 = true) ∧ wr = wP) (fun iv _ => n - (intOf iv).toNat)
              case atStart => exact ⟨0, Nat.zero_le _, rfl, Lib.hid (fun i hi => absurd hi (Nat.not_lt_zero _)), by trivial⟩
              case round =>
                obtain ⟨j, hj, rfl, HG, rfl⟩ := hrel
                by_cases hlt : j < n
                · have hla : j < args.length := by rw [HLN.out]; exact hlt
                  obtain ⟨b1, o1, u, f9, rfl, -, -, s0, -, hr⟩ := HA.out j hla
                  have S9 := Lib.hid (l03Is u args[j] sc 15 wr f9 hs0 hs1 (by omega) hr)
                  have HNX := Lib.hid (fun (h : isE args[j] sc 15 = true) i (hij : i < j + 1) (hi : i < args.length) => (show isE args[i] sc 15 = true by
                    by_cases e : i = j
                    · subst e; exact h
                    · exact HG.out i (by omega) hi))
                  have HNO := Lib.hid (fun (h : isE args[j] sc 15 = false) => HANY.out j hla h)
                  have hjn : (j : Int) < (n : Int) := by omega
                  clear hr HG
                  generalize isE args[j] sc 15 = qe at *
                  go_wp2_with fail
                  refine S9.out.mono ?_
                  rintro e wq ⟨rfl, rfl⟩
                  clear S9
                  cases qe with
                  | false =>
                    have HZ2 := Lib.hid (HNO.out rfl)
                    clear HNX HNO
                    go_wp2_with fail
                    go_ret
                    exact ⟨by rw [HM.out, HZ2.out]; rfl, UP.out⟩
                  | true =>
                    have HN2 := Lib.hid (HNX.out rfl)
                    clear HNX HNO
                    go_wp2_with fail
                    go_roundw
                    case rel => exact ⟨j + 1, by omega, by go_num, HN2, by trivial⟩
                    case measure => simp [intOf]; omega
                · have HZ2 := Lib.hid (HALL.out (fun i hi => HG.out i (by rw [HLN.out] at hi; omega) hi))
                  have hjn : ¬ (j : Int) < (n : Int) := by omega
                  clear HG
                  go_wp2_with fail
                  go_ret
                  exact ⟨by rw [HM.out, HZ2.out]; rfl, UP.out⟩
            | true =>
              go_wp2_with fail
              go_ret
              exact ⟨by rw [HM.out]; rfl, UP.out⟩
          | true =>
            have g0 : ¬ (0 : Int) < (n : Int) := by have := beq_iff_eq.1 ha; omega
            go_wp2_with fail
            refine (SS.out).mono ?_
            rintro e wq ⟨rfl, rfl⟩
            go_wp2_with fail
            go_loopw [10] (fun iv wr => ∃ j : Nat, j ≤ n ∧ iv = .int .i64 j ∧ Hid (∀ i (_ : i < j) (hi : i < args.length), isE args[i] sc 15 = true) ∧ wr = wP) (fun iv _ => n - (intOf iv).toNat)
            case atStart => exact ⟨0, Nat.zero_le _, rfl, Lib.hid (fun i hi => absurd hi (Nat.not_lt_zero _)), by trivial⟩
            case round =>
              obtain ⟨j, hj, rfl, HG, rfl⟩ := hrel
              by_cases hlt : j < n
              · omega
              · have HZ2 := Lib.hid (HALL.out (fun i hi => HG.out i (by rw [HLN.out] at hi; omega) hi))
                have hjn : ¬ (j : Int) < (n : Int) := by omega
                clear HG
                go_wp2_with fail
                go_ret
                exact ⟨by rw [HM.out, HZ2.out]; rfl, UP.out⟩

end Go.Proofs.YtjelcjiofcoifaaGreatDoor

/-
  The reference's check of a list of definitions: what the calls return.
-/
namespace Go.Proofs.YtjelcjiofcoifaaGreatDoor
open Go.RowKit

/-- what bounds a definition that is looked at. -/
def DeFitS (d : De) : Prop := d.body.length ≤ 2000000 ∧ ∀ p ∈ d.body, p.name.length ≤ 2000000 ∧ p.args.length ≤ 2000000

set_option maxRecDepth 20000 in
set_option maxHeartbeats 8000000 in
theorem bodyS (ds : List De) (dv : Value) (fd : List Nat) (bd od : Nat) (fb : List Nat) (d : De) (w : World) (hDS : R_De1 fd w [dv] ds) (hD : DeAt bd od fb w d) (hdl : ds.length ≤ 1000000) (hF : DeFitS d) (hp0 : 0 ≤ d.pars) (hp1 : d.pars ≤ 3) :
    Calls Tryz.prog 51 #[dv, .pointer (some ⟨bd, od, none⟩)] w fun e w' => e = .returned (.tuple #[.int .i64 (faultP ds d).1, .int .i64 (faultP ds d).2]) ∧ Upd [] w w' := by
  have hD' := hD
  obtain ⟨-, -, v, d2, hR⟩ := hD
  have hR' := hR
  obtain ⟨a, cap, rfl, g1, g2, -⟩ := slQ_open hR
  obtain ⟨ad, qd, rfl, -, -, -⟩ := slQ_open hDS
  unfold maxLen at g2
  have S1 := Lib.hid (shapeDS (.slice a d.body.length cap) d.body w fb hR' hF.1)
  have HM := Lib.hid (show faultP ds d = if (inB (d.body.length : Int) 1 20 && shapeG folP 1 d.body) = true then faultFrom ds d d.body 0 d.body else (0, 1) by
    unfold faultP bodyOk inB
    rw [show decide ((1 : Int) ≤ (d.body.length : Int)) = decide (1 ≤ d.body.length) by congr 1; rw [eq_iff_iff]; omega, show decide ((d.body.length : Int) ≤ 20) = decide (d.body.length ≤ 20) by congr 1; rw [eq_iff_iff]; omega])
  cases hin : (inB (d.body.length : Int) 1 20 && shapeG folP 1 d.body) with
  | false =>
    rw [hin] at S1
    have HZ := Lib.hid (show faultP ds d = (0, 1) by rw [HM.out, hin]; rfl)
    generalize faultP ds d = Z at *
    clear HM hin hR hR' hDS hD' hF
    go_enter Tryz.func51, Tryz.ntmps51
    go_wp2_with fail
    refine S1.out.mono ?_
    rintro e w1 ⟨rfl, rfl⟩
    clear S1
    go_wp2_with fail
    go_ret2
    exact ⟨by rw [HZ.out]; rfl, Upd.refl _ _⟩
  | true =>
    rw [hin] at S1
    have HZ := Lib.hid (show faultP ds d = faultFrom ds d d.body 0 d.body by rw [HM.out, hin]; rfl)
    simp only [Bool.and_eq_true] at hin
    obtain ⟨hin, hsh⟩ := hin
    have h20 := inB_true hin
    have hl20 : d.body.length ≤ 20 := by omega
    have HRE := Lib.hid (fun (k : Nat) (hk : k < d.body.length) W (hu : Upd [] w W) => reasonS ds (.slice ad ds.length qd) fd bd od fb d k W (R_De1k.upd hDS hu (by simp)) (hD'.upd hu) hdl hl20 hk hsh hp0 hp1 (hF.2 _ (List.getElem_mem hk)).1 (hF.2 _ (List.getElem_mem hk)).2)
    have HD2 := Lib.hid (fun W (hu : Upd [] w W) => hu.keep d2)
    clear HM hin hR hR' hDS hD' hF h20 hsh
    go_enter Tryz.func51, Tryz.ntmps51
    go_wp2_with fail
    refine S1.out.mono ?_
    rintro e w1 ⟨rfl, rfl⟩
    clear S1
    go_wp2_with fail
    go_loopw [6] (fun iv wr => ∃ k : Nat, k ≤ d.body.length ∧ iv = .int .i64 k ∧ Hid (faultFrom ds d d.body k (d.body.drop k) = faultFrom ds d d.body 0 d.body) ∧ Hid (Upd [] w wr)) (fun iv _ => d.body.length - (intOf iv).toNat)
    case atStart => exact ⟨0, Nat.zero_le _, rfl, Lib.hid rfl, Lib.hid (Upd.refl _ _)⟩
    case round =>
      clear d2
      obtain ⟨wo, rfl⟩ : ∃ wo : World, wo = wr := ⟨_, rfl⟩
      obtain ⟨k, hk, rfl, HF, HU⟩ := hrel
      have e2 := HD2.out wo HU.out
      by_cases hlt : k < d.body.length
      · have hf := HF.out
        rw [List.drop_eq_getElem_cons hlt, faultFrom] at hf
        have HFN := Lib.hid hf
        have S2 := Lib.hid (HRE.out k hlt wo HU.out)
        have hrn := reasonP_nn ds d.body[k] (d.pars + cntB folP sumP d.body k) (behindP d.body k)
        have hkl : (k : Int) < (d.body.length : Int) := by omega
        clear hf HF
        generalize reasonP ds d.body[k] (d.pars + cntB folP sumP d.body k) (behindP d.body k) = rz at *
        go_wp2_with fail
        refine S2.out.mono ?_
        rintro e w2 ⟨rfl, hu⟩
        have HU2 := Lib.hid (HU.out.trans hu)
        clear S2 hu e2
        by_cases hz : rz = 0
        · have hzb : ¬ (0 : Int) < rz := by omega
          have HK := Lib.hid (show faultFrom ds d d.body (k + 1) (d.body.drop (k + 1)) = faultFrom ds d d.body 0 d.body by rw [← HFN.out, if_pos hz])
          clear hz HFN
          go_wp2_with fail
          go_roundw
          case rel => exact ⟨k + 1, by omega, by go_num, HK, HU2⟩
          case measure => simp [intOf]; omega
        · have hzb : (0 : Int) < rz := by omega
          have HK := Lib.hid (show faultP ds d = ((k : Int), rz) by rw [HZ.out, ← HFN.out, if_neg hz])
          clear hz HFN
          go_wp2_with fail
          go_ret2
          exact ⟨by rw [HK.out]; rfl, HU2.out⟩
      · have hf := HF.out
        rw [List.drop_of_length_le (by omega), faultFrom] at hf
        have HK := Lib.hid (show faultP ds d = (0, 0) by rw [HZ.out, ← hf])
        have hkl : ¬ (k : Int) < (d.body.length : Int) := by omega
        clear hf
        go_wp2_with fail
        go_ret2
        exact ⟨by rw [HK.out]; rfl, HU.out⟩

theorem defsOk_noname {ds : List De} {k : Nat} (hk : k < ds.length) (h : nameF ds[k].name = false) : defsOk ds = false :=
  defsOk_no hk (by unfold goodD; rw [h]; rfl)
theorem defsOk_nopars {ds : List De} {k : Nat} (hk : k < ds.length) (h : inB ds[k].pars 0 3 = false) : defsOk ds = false :=
  defsOk_size (by
    unfold sizeD
    rw [show (ds.all fun d => inB d.pars 0 3) = false from by
      rw [List.all_eq_false]; exact ⟨_, List.getElem_mem hk, by simp [h]⟩]
    simp)
theorem defsOk_nodup {ds : List De} {j k : Nat} (hj : j < k) (hk : k < ds.length) (h : (ds[j].name == ds[k].name) = true) : defsOk ds = false :=
  defsOk_no hk (by
    unfold goodD
    rw [show ((ds.take k).any fun o => o.name == ds[k].name) = true from List.any_eq_true.2 ⟨ds[j], List.mem_iff_getElem.2 ⟨j, by simp; omega, by simp⟩, h⟩]
    simp)
theorem defsOk_nofault {ds : List De} {k : Nat} (hk : k < ds.length) (h : (faultP ds ds[k]).2 ≠ 0) : defsOk ds = false :=
  defsOk_no hk (by unfold goodD; simp [h])
/-- names and parameters of a definition, and its name in no earlier one. -/
def headD (ds : List De) (k : Nat) (d : De) : Bool := nameF d.name && inB d.pars 0 3 && !((ds.take k).any fun o => o.name == d.name)
theorem defsOk_all {ds : List De} (hs : inB (ds.length : Int) 1 4 = true) (h1 : ∀ j (hj : j < ds.length), headD ds j ds[j] = true) (h2 : ∀ j (hj : j < ds.length), (faultP ds ds[j]).2 = 0) : defsOk ds = true := by
  have hh : ∀ j (hj : j < ds.length), nameF ds[j].name = true ∧ inB ds[j].pars 0 3 = true ∧ ((ds.take j).any fun o => o.name == ds[j].name) = false := fun j hj => by
    have := h1 j hj
    unfold headD at this
    simp only [Bool.and_eq_true, Bool.not_eq_true'] at this
    exact ⟨this.1.1, this.1.2, this.2⟩
  rw [defsOk_yes (fun j hj => by
    unfold goodD
    obtain ⟨a, b, c⟩ := hh j hj
    rw [a, c, h2 j hj]; rfl)]
  have hs := inB_true hs
  unfold sizeD
  rw [decide_eq_true (by omega), decide_eq_true (by omega), List.all_eq_true.2 (fun d hd => by obtain ⟨j, hj, rfl⟩ := List.mem_iff_getElem.1 hd; exact (hh j hj).2.1)]
  rfl
theorem defsOk_len {ds : List De} (h : inB (ds.length : Int) 1 4 = false) : defsOk ds = false := by
  have := inB_false h
  refine defsOk_size ?_
  unfold sizeD
  by_cases h1 : 1 ≤ ds.length
  · rw [decide_eq_true h1, decide_eq_false (by omega)]; rfl
  · rw [decide_eq_false h1]; rfl

end Go.Proofs.YtjelcjiofcoifaaGreatDoor

/-
  Parts of bodies: what the program's calls return.
-/
namespace Go.Proofs.YtjelcjiofcoifaaGreatDoor
open Go.RowKit

set_option maxRecDepth 20000 in
set_option maxHeartbeats 800000 in
theorem folPI (p : Pa) (v : Value) (w : World) : Calls Tryz.prog 125 #[.agg #[ei p.kind, ei p.num, es p.name, v]] w fun e w' => e = .returned (.int .i64 (folP p)) ∧ Upd [] w w' := by
  have HM := Lib.hid (show folP p = (if (p.kind == 1) = true then 1 else if (p.kind == 3) = true then 1 else if (p.kind == 4) = true then 1 else if (p.kind == 2) = true then 2 else 0) by
    unfold folP; simp only [beq_iff_eq]; by_cases h1 : p.kind = 1 <;> by_cases h3 : p.kind = 3 <;> by_cases h4 : p.kind = 4 <;> simp [h1, h3, h4])
  generalize folP p = Z at *
  generalize p.kind = k at *
  obtain ⟨q1, h1⟩ : ∃ q, (k == 1) = q := ⟨_, rfl⟩
  obtain ⟨q3, h3⟩ : ∃ q, (k == 3) = q := ⟨_, rfl⟩
  obtain ⟨q4, h4⟩ : ∃ q, (k == 4) = q := ⟨_, rfl⟩
  obtain ⟨q2, h2⟩ : ∃ q, (k == 2) = q := ⟨_, rfl⟩
  rw [h1, h3, h4, h2] at HM
  cases q1 with
  | false =>
    cases q3 with
    | false =>
      cases q4 with
      | false =>
        cases q2 with
        | false =>
          go_enter Tryz.func125, Tryz.ntmps125
          go_wp2_with fail
          go_ret
          exact ⟨by rw [HM.out]; rfl, (Upd.refl _ _).alloc _⟩
        | true =>
          go_enter Tryz.func125, Tryz.ntmps125
          go_wp2_with fail
          go_ret
          exact ⟨by rw [HM.out]; rfl, (Upd.refl _ _).alloc _⟩
      | true =>
        go_enter Tryz.func125, Tryz.ntmps125
        go_wp2_with fail
        go_ret
        exact ⟨by rw [HM.out]; rfl, (Upd.refl _ _).alloc _⟩
    | true =>
      go_enter Tryz.func125, Tryz.ntmps125
      go_wp2_with fail
      go_ret
      exact ⟨by rw [HM.out]; rfl, (Upd.refl _ _).alloc _⟩
  | true =>
    go_enter Tryz.func125, Tryz.ntmps125
    go_wp2_with fail
    go_ret
    exact ⟨by rw [HM.out]; rfl, (Upd.refl _ _).alloc _⟩

set_option maxRecDepth 20000 in
set_option maxHeartbeats 4000000 in
theorem kindOkI (p : Pa) (a : Option Addr) (c : Nat) (w : World) : Calls Tryz.prog 127 #[.agg #[ei p.kind, ei p.num, es p.name, .slice a p.args.length c]] w fun e w' => e = .returned (.bool (kindP p)) ∧ Upd [] w w' := by
  have HM := Lib.hid (show kindP p = (inB p.kind 0 5 && ((p.kind == 4 || p.kind == 5) || p.num == 0) && (p.kind == 1 || p.name == []) && ((p.kind == 1 || p.kind == 3 || p.kind == 5) || p.args.length == 0)) from rfl)
  obtain ⟨k, num, name, args⟩ := p
  simp only at *
  generalize kindP ⟨k, num, name, args⟩ = Z at *
  generalize args.length = n at *
  have S1 := Lib.hid (within k 0 5 (w.alloc (.cells #[ei k, ei num, es name, .slice a n c] 134)))
  obtain ⟨q1, h1⟩ : ∃ q, (k == 1) = q := ⟨_, rfl⟩
  obtain ⟨q3, h3⟩ : ∃ q, (k == 3) = q := ⟨_, rfl⟩
  obtain ⟨q4, h4⟩ : ∃ q, (k == 4) = q := ⟨_, rfl⟩
  obtain ⟨q5, h5⟩ : ∃ q, (k == 5) = q := ⟨_, rfl⟩
  obtain ⟨n0, hn⟩ : ∃ q, (num == 0) = q := ⟨_, rfl⟩
  obtain ⟨e0, he⟩ : ∃ q, (name == []) = q := ⟨_, rfl⟩
  obtain ⟨a0, ha⟩ : ∃ q, (n == 0) = q := ⟨_, rfl⟩
  have ha2 : ((n : Int) == 0) = a0 := by rw [← ha]; cases n <;> rfl
  rw [h1, h3, h4, h5, hn, he, ha] at HM
  clear ha
  obtain ⟨qi, hi⟩ : ∃ q, inB k 0 5 = q := ⟨_, rfl⟩
  rw [hi] at S1 HM
  cases q4 with
  | false =>
    cases q5 with
    | false =>
      cases q1 with
      | false =>
        cases q3 with
        | false =>
          cases qi with
          | false =>
            go_enter Tryz.func127, Tryz.ntmps127
            go_wp2_with fail
            refine S1.out.mono ?_
            rintro e w1 ⟨rfl, rfl⟩
            go_wp2_with fail
            go_ret
            exact ⟨by rw [HM.out]; rfl, (Upd.refl _ _).alloc _⟩
          | true =>
            cases n0 with
            | false =>
              go_enter Tryz.func127, Tryz.ntmps127
              go_wp2_with fail
              refine S1.out.mono ?_
              rintro e w1 ⟨rfl, rfl⟩
              go_wp2_with fail
              go_ret
              exact ⟨by rw [HM.out]; rfl, (Upd.refl _ _).alloc _⟩
            | true =>
              cases e0 with
              | false =>
                go_enter Tryz.func127, Tryz.ntmps127
                go_wp2_with fail
                refine S1.out.mono ?_
                rintro e w1 ⟨rfl, rfl⟩
                go_wp2_with fail
                go_ret
                exact ⟨by rw [HM.out]; rfl, (Upd.refl _ _).alloc _⟩
              | true =>
                cases a0 with
                | false =>
                  go_enter Tryz.func127, Tryz.ntmps127
                  go_wp2_with fail
                  refine S1.out.mono ?_
                  rintro e w1 ⟨rfl, rfl⟩
                  go_wp2_with fail
                  go_ret
                  exact ⟨by rw [HM.out]; rfl, (Upd.refl _ _).alloc _⟩
                | true =>
                  go_enter Tryz.func127, Tryz.ntmps127
                  go_wp2_with fail
                  refine S1.out.mono ?_
                  rintro e w1 ⟨rfl, rfl⟩
                  go_wp2_with fail
                  go_ret
                  exact ⟨by rw [HM.out]; rfl, (Upd.refl _ _).alloc _⟩
        | true =>
          obtain rfl : k = 3 := by simpa using h3

          obtain rfl : true = qi := hi
          cases n0 with
          | false =>
            go_enter Tryz.func127, Tryz.ntmps127
            go_wp2_with fail
            refine S1.out.mono ?_
            rintro e w1 ⟨rfl, rfl⟩
            go_wp2_with fail
            go_ret
            exact ⟨by rw [HM.out]; rfl, (Upd.refl _ _).alloc _⟩
          | true =>
            cases e0 with
            | false =>
              go_enter Tryz.func127, Tryz.ntmps127
              go_wp2_with fail
              refine S1.out.mono ?_
              rintro e w1 ⟨rfl, rfl⟩
              go_wp2_with fail
              go_ret
              exact ⟨by rw [HM.out]; rfl, (Upd.refl _ _).alloc _⟩
            | true =>
              go_enter Tryz.func127, Tryz.ntmps127
              go_wp2_with fail
              refine S1.out.mono ?_
              rintro e w1 ⟨rfl, rfl⟩
              go_wp2_with fail
              go_ret
              exact ⟨by rw [HM.out]; rfl, (Upd.refl _ _).alloc _⟩
      | true =>
        obtain rfl : k = 1 := by simpa using h1
        obtain rfl : false = q3 := h3
        obtain rfl : true = qi := hi
        cases n0 with
        | false =>
          go_enter Tryz.func127, Tryz.ntmps127
          go_wp2_with fail
          refine S1.out.mono ?_
          rintro e w1 ⟨rfl, rfl⟩
          go_wp2_with fail
          go_ret
          exact ⟨by rw [HM.out]; rfl, (Upd.refl _ _).alloc _⟩
        | true =>
          go_enter Tryz.func127, Tryz.ntmps127
          go_wp2_with fail
          refine S1.out.mono ?_
          rintro e w1 ⟨rfl, rfl⟩
          go_wp2_with fail
          go_ret
          exact ⟨by rw [HM.out]; rfl, (Upd.refl _ _).alloc _⟩
    | true =>
      obtain rfl : k = 5 := by simpa using h5
      obtain rfl : false = q1 := h1
      obtain rfl : false = q3 := h3
      obtain rfl : true = qi := hi
      cases e0 with
      | false =>
        go_enter Tryz.func127, Tryz.ntmps127
        go_wp2_with fail
        refine S1.out.mono ?_
        rintro e w1 ⟨rfl, rfl⟩
        go_wp2_with fail
        go_ret
        exact ⟨by rw [HM.out]; rfl, (Upd.refl _ _).alloc _⟩
      | true =>
        go_enter Tryz.func127, Tryz.ntmps127
        go_wp2_with fail
        refine S1.out.mono ?_
        rintro e w1 ⟨rfl, rfl⟩
        go_wp2_with fail
        go_ret
        exact ⟨by rw [HM.out]; rfl, (Upd.refl _ _).alloc _⟩
  | true =>
    obtain rfl : k = 4 := by simpa using h4
    obtain rfl : false = q1 := h1
    obtain rfl : false = q3 := h3
    obtain rfl : false = q5 := h5
    obtain rfl : true = qi := hi
    cases e0 with
    | false =>
      go_enter Tryz.func127, Tryz.ntmps127
      go_wp2_with fail
      refine S1.out.mono ?_
      rintro e w1 ⟨rfl, rfl⟩
      go_wp2_with fail
      go_ret
      exact ⟨by rw [HM.out]; rfl, (Upd.refl _ _).alloc _⟩
    | true =>
      cases a0 with
      | false =>
        go_enter Tryz.func127, Tryz.ntmps127
        go_wp2_with fail
        refine S1.out.mono ?_
        rintro e w1 ⟨rfl, rfl⟩
        go_wp2_with fail
        go_ret
        exact ⟨by rw [HM.out]; rfl, (Upd.refl _ _).alloc _⟩
      | true =>
        go_enter Tryz.func127, Tryz.ntmps127
        go_wp2_with fail
        refine S1.out.mono ?_
        rintro e w1 ⟨rfl, rfl⟩
        go_wp2_with fail
        go_ret
        exact ⟨by rw [HM.out]; rfl, (Upd.refl _ _).alloc _⟩

set_option maxRecDepth 20000 in
set_option maxHeartbeats 4000000 in
theorem countOkI (ds : List De) (dv : Value) (fd : List Nat) (p : Pa) (a : Option Addr) (c : Nat) (w : World) (hR : R_De1 fd w [dv] ds) (hn : p.kind = 5 → 0 ≤ p.num ∧ p.num < ds.length) (hl : p.args.length ≤ 2000000) :
    Calls Tryz.prog 129 #[.agg #[ei p.kind, ei p.num, es p.name, .slice a p.args.length c], dv] w fun e w' => e = .returned (.bool (countP ds p)) ∧ Upd [] w w' := by
  have HM := Lib.hid (show countP ds p = (if (p.kind == 1) = true then p.args.length == 0 || (!(p.name == tauL) && decide (p.args.length ≤ 2)) else if (p.kind == 3) = true then (p.args.length : Int) == 1 else if (p.kind == 5) = true then (p.args.length : Int) == ((ds.map De.pars).getD p.num.toNat 0) else true) by
    unfold countP; simp only [beq_iff_eq, bne]
    split <;> try rfl
    split <;> try rfl
    cases p.args.length with
    | zero => rfl
    | succ n => cases n <;> rfl)
  have HRG := Lib.hid hn
  obtain ⟨k, num, name, args⟩ := p
  simp only at *
  generalize countP ds ⟨k, num, name, args⟩ = Z at *
  generalize args.length = n at *
  obtain ⟨q1, h1⟩ : ∃ q, (k == 1) = q := ⟨_, rfl⟩
  obtain ⟨q3, h3⟩ : ∃ q, (k == 3) = q := ⟨_, rfl⟩
  obtain ⟨q5, h5⟩ : ∃ q, (k == 5) = q := ⟨_, rfl⟩
  obtain ⟨t0, ht⟩ : ∃ q, (name == tauL) = q := ⟨_, rfl⟩
  obtain ⟨a0, ha⟩ : ∃ q, (n == 0) = q := ⟨_, rfl⟩
  obtain ⟨l2, hl2⟩ : ∃ q, decide (n ≤ 2) = q := ⟨_, rfl⟩
  have ha2 : ((n : Int) == 0) = a0 := by rw [← ha]; cases n <;> rfl
  have hl3 : decide ((n : Int) ≤ 2) = l2 := by rw [← hl2]; congr 1; rw [eq_iff_iff]; omega
  rw [h1, h3, h5, ht, ha, hl2] at HM
  have htb : (name == [116, 97, 117]) = t0 := ht
  obtain ⟨t1, htn⟩ : ∃ q, (name != [116, 97, 117]) = q := ⟨_, rfl⟩
  have ht1 : t1 = !t0 := by rw [← htn, ← ht]; rfl
  clear ha hl2 hn ht
  cases q1 with
  | false =>
    cases q3 with
    | false =>
      cases q5 with
      | false =>
        go_enter Tryz.func129, Tryz.ntmps129
        go_wp2_with fail
        go_ret
        exact ⟨by rw [HM.out]; rfl, (Upd.refl _ _).alloc _⟩
      | true =>
        obtain rfl : k = 5 := by simpa using h5
        obtain ⟨ad, q, rfl, g1, g2, hc⟩ := slQ_open hR
        unfold maxLen at g2
        obtain ⟨hr0, hr1⟩ := HRG.out rfl
        obtain ⟨j, rfl⟩ : ∃ j : Nat, num = j := ⟨num.toNat, by omega⟩
        have hj : j < ds.length := by omega
        obtain ⟨b, off, u, f, rfl, -, -, -, hcell, -, hr⟩ := hc j hj
        obtain ⟨v2, f2, rfl, -, -⟩ := hr
        have p1 := ((Upd.refl [] w).alloc (.cells #[ei 5, ei j, es name, .slice a n c] 134)).keep (hcell 1 _ rfl)
        have hz : (ds.map De.pars).getD (Int.toNat (j : Int)) 0 = ds[j].pars := by
          rw [Int.toNat_natCast, List.getD_eq_getElem?_getD, List.getElem?_map, List.getElem?_eq_getElem hj]; rfl
        rw [hz] at HM
        have hjl : (j : Int) < (ds.length : Int) := by omega
        clear hcell hc hR hz HRG hr0 hr1
        generalize ds[j].pars = P at *
        generalize ds.length = N at *
        go_enter Tryz.func129, Tryz.ntmps129
        go_wp2_with fail
        go_ret
        exact ⟨by rw [HM.out]; rfl, (Upd.refl _ _).alloc _⟩
    | true =>
      go_enter Tryz.func129, Tryz.ntmps129
      go_wp2_with fail
      go_ret
      exact ⟨by rw [HM.out]; rfl, (Upd.refl _ _).alloc _⟩
  | true =>
    cases a0 with
    | false =>
      cases t0 with
      | false =>
        obtain rfl := ht1
        simp only [Bool.not_false] at htn
        cases l2 with
        | false =>
          go_enter Tryz.func129, Tryz.ntmps129
          go_wp2_with fail
          go_ret
          exact ⟨by rw [HM.out]; rfl, (Upd.refl _ _).alloc _⟩
        | true =>
          go_enter Tryz.func129, Tryz.ntmps129
          go_wp2_with fail
          go_ret
          exact ⟨by rw [HM.out]; rfl, (Upd.refl _ _).alloc _⟩
      | true =>
        obtain rfl := ht1
        simp only [Bool.not_true] at htn
        go_enter Tryz.func129, Tryz.ntmps129
        go_wp2_with fail
        go_ret
        exact ⟨by rw [HM.out]; rfl, (Upd.refl _ _).alloc _⟩
    | true =>
      go_enter Tryz.func129, Tryz.ntmps129
      go_wp2_with fail
      go_ret
      exact ⟨by rw [HM.out]; rfl, (Upd.refl _ _).alloc _⟩

end Go.Proofs.YtjelcjiofcoifaaGreatDoor

/-
  The shape of a body: what the program's call returns.
-/
namespace Go.Proofs.YtjelcjiofcoifaaGreatDoor
open Go.RowKit

set_option maxRecDepth 20000 in
set_option maxHeartbeats 4000000 in
theorem endDI (cs : List Value) (d : De) (w : World) (fp : List Nat) (hR : R_De fp w cs d) (hl : d.body.length ≤ 1000) :
    Calls Tryz.prog 93 #[.agg cs.toArray, .int .i64 0] w fun e w' => (∃ r : Int, e = .returned (.int .i64 r) ∧ -1 ≤ r ∧ r ≤ 1000 ∧ (r == (d.body.length : Int)) = shapeG folP 1 d.body) ∧ Upd [] w w' := by
  obtain ⟨v2, f2, rfl, h2, rfl⟩ := hR
  obtain ⟨a, cap, rfl, g1, g2, hc⟩ := slQ_open h2
  unfold maxLen at g2
  have HC := Lib.hid hc
  clear h2 hc
  obtain ⟨wA, hwA⟩ : ∃ wA, wA = w.alloc (.cells #[es d.name, ei d.pars, .slice a d.body.length cap] 56) := ⟨_, rfl⟩
  obtain ⟨BA, hBA⟩ : ∃ BA, BA = w.heap.size := ⟨_, rfl⟩
  have uA : Upd [] w wA := by rw [hwA]; exact (Upd.refl _ _).alloc _
  have c2 : wA.cell? ⟨BA, 2, none⟩ = some (.slice a d.body.length cap) := by rw [hwA, hBA]; exact cell_new w _ _ _ rfl 2 _ rfl
  have HB := Lib.hid c2
  have UA := Lib.hid uA
  clear uA c2
  generalize d.body = l at *
  go_enter Tryz.func93, Tryz.ntmps93
  go_upto_region 1 with (fail)
  rw [← hwA, ← hBA]
  clear hwA hBA
  go_wp2_with fail
  go_loopw [1, 5] (fun pv nv wr => ∃ (k : Nat) (m : Int), k ≤ l.length ∧ pv = .int .i64 k ∧ nv = .int .i64 m ∧ 0 ≤ m ∧ m ≤ 1 + k ∧ Hid (shapeG folP m (l.drop k) = shapeG folP 1 l) ∧ Hid (Upd [] wA wr)) (fun pv _ _ => l.length - (intOf pv).toNat)
  case atStart => exact ⟨0, 1, Nat.zero_le _, rfl, rfl, by omega, by omega, Lib.hid rfl, Lib.hid (Upd.refl _ _)⟩
  case round =>
    obtain ⟨wo, rfl⟩ : ∃ wo : World, wo = wr := ⟨_, rfl⟩
    obtain ⟨k, m, hk, rfl, rfl, hm0, hm1, HS, HU⟩ := hrel
    have c2 := HU.out.keep HB.out
    by_cases hm : 0 < m
    · by_cases hlt : k < l.length
      · obtain ⟨b1, o1, u, f, rfl, -, -, -, hcell, -, hr⟩ := HC.out k hlt
        obtain ⟨v3, f3, rfl, -, -⟩ := hr
        have UU := Lib.hid (UA.out.trans HU.out)
        have p0 := UU.out.keep (hcell 0 _ rfl)
        have p1 := UU.out.keep (hcell 1 _ rfl)
        have p2 := UU.out.keep (hcell 2 _ rfl)
        have p3 := UU.out.keep (hcell 3 _ rfl)
        simp only [Nat.add_zero] at p0
        have hS := HS.out
        rw [List.drop_eq_getElem_cons hlt, shapeG, if_neg (by omega)] at hS
        have HN := Lib.hid hS
        have hkl : (k : Int) < (l.length : Int) := by omega
        have S1 := Lib.hid (folPI l[k] v3 wo)
        have hf0 := folP_nn l[k]
        have hf1 := folP_le l[k]
        clear hS HS hcell
        generalize folP l[k] = q at *
        generalize l[k] = p at *
        have hkk : ¬ (l.length : Int) ≤ (k : Int) := by omega
        go_wp2_with fail
        refine S1.out.mono ?_
        rintro e w1 ⟨rfl, hu⟩
        have HU1 := Lib.hid (HU.out.trans hu)
        clear S1 hu p0 p1 p2 p3 c2
        go_wp2_with fail
        go_roundw
        case rel => exact ⟨k + 1, m + (q - 1), by omega, by go_num, rfl, by omega, by omega, Lib.hid (by rw [← HN.out]; congr 1; omega), HU1⟩
        case measure => simp [intOf]; omega
      · have hS := HS.out
        rw [List.drop_of_length_le (by omega), shapeG] at hS
        have hz : ((-1 : Int) == (l.length : Int)) = shapeG folP 1 l := by
          rw [← hS]
          have h1 : ((-1 : Int) == (l.length : Int)) = false := by simp <;> omega
          have h2 : (m == 0) = false := by simp <;> omega
          rw [h1, h2]
        have HZ := Lib.hid hz
        have hkk : (l.length : Int) ≤ (k : Int) := by omega
        clear hS hz
        go_wp2_with fail
        go_ret
        exact ⟨⟨-1, rfl, by omega, by omega, HZ.out⟩, UA.out.trans HU.out⟩
    · obtain rfl : m = 0 := by omega
      have hS := HS.out
      have hz : ((k : Int) == (l.length : Int)) = shapeG folP 1 l := by
        rw [← hS]
        by_cases hlt : k < l.length
        · rw [List.drop_eq_getElem_cons hlt, shapeG, if_pos rfl]
          simp <;> omega
        · rw [List.drop_of_length_le (by omega), shapeG]
          simp <;> omega
      have HZ := Lib.hid hz
      clear hS hz
      go_wp2_with fail
      go_ret
      exact ⟨⟨k, rfl, by omega, by omega, HZ.out⟩, UA.out.trans HU.out⟩

end Go.Proofs.YtjelcjiofcoifaaGreatDoor

/-
  The places of a body's parts: what the program's call returns (a closure that calls itself).
-/
namespace Go.Proofs.YtjelcjiofcoifaaGreatDoor
open Go.RowKit

abbrev R_pl : Rp (List (Int × Bool)) := slF 2 (fun t => [ei t.1, .bool t.2])
theorem R_plk : Kept R_pl := slF_kept _ _
theorem enter_fill (args : Array Value) (w : World) : Sem.run Tryz.prog (callFunc 126 args) w = .ok (.enter 126 args) w := by go_simp
/-- the closure's value. -/
abbrev fillV (O D F : Nat) : Value := .func (.func 126) #[] #[.pointer (some ⟨O, 0, none⟩), .pointer (some ⟨D, 0, none⟩), .pointer (some ⟨F, 0, none⟩)]
/-- what the closure finds: the row that it fills, the body, and itself. -/
structure FillW (O D F B n : Nat) (v : Value) (fb : List Nat) (body : List Pa) (w : World) : Prop where
  o : w.cell? ⟨O, 0, none⟩ = some (.slice (some ⟨B, 0, none⟩) n n)
  d : w.cell? ⟨D, 2, none⟩ = some v
  f : w.cell? ⟨F, 0, none⟩ = some (fillV O D F)
  r : R_Pa1 fb w [v] body
  nb : B ≠ O ∧ B ≠ D ∧ B ≠ F ∧ B ∉ fb
theorem FillW.upd {O D F B n : Nat} {v : Value} {fb : List Nat} {body : List Pa} {w w' : World} (h : FillW O D F B n v fb body w) (hu : Upd [B] w w') : FillW O D F B n v fb body w' :=
  ⟨hu.keepF (by simpa using h.nb.1.symm) h.o, hu.keepF (by simpa using h.nb.2.1.symm) h.d, hu.keepF (by simpa using h.nb.2.2.1.symm) h.f, R_Pa1k.upd h.r hu (by intro b hb hm; simp at hm; subst hm; exact h.nb.2.2.2 hb), h.nb⟩
/-- what the closure leaves. -/
def Filled (B n : Nat) (row : List (Int × Bool)) (at' : Nat) (w : World) (e : Ending) (w' : World) : Prop :=
  e = .returned (.int .i64 at') ∧ Upd [B] w w' ∧ Own [B] w' ∧ R_pl [B] w' [.slice (some ⟨B, 0, none⟩) n n] row

set_option maxRecDepth 20000 in
set_option maxHeartbeats 8000000 in
theorem fillI (O D F B n : Nat) (v : Value) (fb : List Nat) (body : List Pa) (hn : n ≤ 1000) (hbn : body.length = n) (N : Nat) : ∀ (x : Tr Pa) (k : Nat) (post : List Pa) (s : Int) (b : Bool) (w : World) (row : List (Int × Bool)), (flatT x).length ≤ N → okT folP x = true → body.drop k = flatT x ++ post → 0 ≤ s → s + N ≤ 1000 → row.length = n →
    FillW O D F B n v fb body w → Own [B] w → R_pl [B] w [.slice (some ⟨B, 0, none⟩) n n] row →
    Calls Tryz.prog 126 #[.int .i64 k, .agg #[ei s, .bool b], .pointer (some ⟨O, 0, none⟩), .pointer (some ⟨D, 0, none⟩), .pointer (some ⟨F, 0, none⟩)] w
      (Filled B n (row.take k ++ (plT x s b ++ row.drop (k + (flatT x).length))) (k + (flatT x).length) w) := by
  induction N with
  | zero => intro x k post s b w row hN; have := flatT_pos x; omega
  | succ N ih =>
    intro x k post s b w row hN hok hdr hs0 hs1 hrl hW hO hR
    obtain ⟨p, args⟩ := x
    have hkl : k < body.length := by
      have h1 := congrArg List.length hdr
      simp only [List.length_drop, flatT, List.cons_append, List.length_cons] at h1
      omega
    have hbl : k + (flatT (Tr.mk p args)).length ≤ n := by
      have h1 := congrArg List.length hdr
      simp only [List.length_drop, List.length_append] at h1
      omega
    have hpk : body[k] = p := by
      rw [List.drop_eq_getElem_cons hkl] at hdr
      simp only [flatT, List.cons_append, List.cons.injEq] at hdr
      exact hdr.1
    have hdr2 : body.drop (k + 1) = flatTs args ++ post := by
      rw [List.drop_eq_getElem_cons hkl] at hdr
      simp only [flatT, List.cons_append, List.cons.injEq] at hdr
      exact hdr.2
    simp only [okT, Bool.and_eq_true, decide_eq_true_eq] at hok
    simp only [flatT, List.length_cons] at hN hbl
    obtain ⟨W, hWk, hrow⟩ : ∃ q, q = n ∧ k < q := ⟨n, rfl, by omega⟩
    clear W hWk hrow
    -- the row's element
    obtain ⟨a0, q0, hv0, l0, m0, hrc⟩ := slF2_open hR
    obtain ⟨b0, o0, he0, -, hbz, r1, r2⟩ := hrc k (by omega)
    simp only [Value.slice.injEq] at hv0
    obtain ⟨hv0, -, -⟩ := hv0
    rw [← hv0] at he0
    simp only [Option.some.injEq, Addr.mk.injEq, and_true] at he0
    obtain ⟨rfl, rfl⟩ := he0
    rw [Nat.zero_add] at r1 r2
    clear hrc l0 m0 hv0
    -- the body's part
    obtain ⟨ab, cb, rfl, l1, m1, hbc⟩ := slQ_open hW.r
    obtain ⟨bb, ob, ub, fb', rfl, hbm, -, -, hcell, -, hrb⟩ := hbc k hkl
    obtain ⟨v3, f3, rfl, h3, -⟩ := hrb
    rw [hpk] at h3
    obtain ⟨a3, c3, rfl, -, -, -⟩ := slP_open h3
    clear h3
    rw [hpk] at hcell
    have p0 := hcell 0 _ rfl
    have p1 := hcell 1 _ rfl
    have p2 := hcell 2 _ rfl
    have p3 := hcell 3 _ rfl
    simp only [Nat.add_zero] at p0
    unfold maxLen at m1
    clear hcell hbc
    obtain ⟨wA, hwA⟩ : ∃ wA, wA = w.alloc (.cells #[ei s, .bool b] 148) := ⟨_, rfl⟩
    obtain ⟨BA, hBA⟩ : ∃ BA, BA = w.heap.size := ⟨_, rfl⟩
    have uA : Upd [] w wA := by rw [hwA]; exact (Upd.refl _ _).alloc _
    have e0 : wA.cell? ⟨BA, 0, none⟩ = some (ei s) := by rw [hwA, hBA]; exact cell_new w _ _ _ rfl 0 _ rfl
    have e1 : wA.cell? ⟨BA, 1, none⟩ = some (.bool b) := by rw [hwA, hBA]; exact cell_new w _ _ _ rfl 1 _ rfl
    have nBA : BA ≠ B := by omega
    have hWA := hW.upd (uA.mono (by simp))
    have co := hWA.o
    have cd := hWA.d
    have r1 := uA.keep r1
    have r2 := uA.keep r2
    have hOA := hO.upd uA (by simp)
    have z1 := hOA.frozen (b := B) (by simp) (k * 2)
    have z2 := hOA.frozen (b := B) (by simp) (k * 2 + 1)
    have hRA := R_plk.upd hR uA (by simp)
    -- the world behind the store
    obtain ⟨wB, hwB⟩ : ∃ wB, wB = (wA.setCell ⟨B, k * 2, none⟩ (ei s)).setCell ⟨B, k * 2 + 1, none⟩ (.bool b) := ⟨_, rfl⟩
    have uB : Upd [B] wA wB := by rw [hwB]; exact ((Upd.refl _ _).setCell (Or.inr (by simp)) _).setCell (Or.inr (by simp)) _
    have hOB : Own [B] wB := by rw [hwB]; exact (hOA.setCell _ _).setCell _ _
    have hRB : R_pl [B] wB [.slice (some ⟨B, 0, none⟩) n n] (row.set k (s, b)) := by
      have := slF2_set (b := B) (off := 0) (cap := n) (xs := row) (by rw [hrl]; exact hRA) k (by omega) (s, b)
      rw [hrl, Nat.zero_add] at this
      rw [hwB]; exact this
    have HOB := Lib.hid hOB
    have HRB := Lib.hid hRB
    have HUB := Lib.hid (show Upd [B] w wB from (uA.mono (by simp)).trans uB)
    have hWB := hWA.upd uB
    have HWB := Lib.hid hWB
    have cd' := hWB.d
    have UAB := Lib.hid uB
    have q0 := hWB.r
    have e0' : wB.cell? ⟨BA, 0, none⟩ = some (ei s) := uB.keepF (by simpa using nBA) e0
    have e1' : wB.cell? ⟨BA, 1, none⟩ = some (.bool b) := uB.keepF (by simpa using nBA) e1
    have nbb : bb ≠ B := fun h => hW.nb.2.2.2 (h ▸ hbm)
    have p0 := uB.keepF (by simpa using nbb) (uA.keep p0)
    have p1 := uB.keepF (by simpa using nbb) (uA.keep p1)
    have p2 := uB.keepF (by simpa using nbb) (uA.keep p2)
    have p3 := uB.keepF (by simpa using nbb) (uA.keep p3)
    have hkb : (k : Int) < (body.length : Int) := by omega
    have hkn : (k : Int) < (n : Int) := by omega
    clear q0 hWB hRB hOB uB hRA hOA hWA uA hW hO hR
    generalize row[k] = el at r1 r2
    generalize p.args.length = L3 at *
    go_enter Tryz.func126, Tryz.ntmps126
    go_upto_region 1 with (fail)
    rw [← hwA, ← hBA]
    clear hwA hBA
    go_upto_region 2 with (fail)
    rw [← hwB]
    clear hwB r1 r2 z1 z2 co e0 e1
    obtain ⟨wC, hwC⟩ : ∃ q, q = wB.alloc (.cells #[ei p.kind, ei p.num, es p.name, .slice a3 L3 c3] 134) := ⟨_, rfl⟩
    obtain ⟨BC, hBC⟩ : ∃ q, q = wB.heap.size := ⟨_, rfl⟩
    have uC : Upd [] wB wC := by rw [hwC]; exact (Upd.refl _ _).alloc _
    have g0 : wC.cell? ⟨BC, 0, none⟩ = some (ei p.kind) := by rw [hwC, hBC]; exact cell_new wB _ _ _ rfl 0 _ rfl
    have g1 : wC.cell? ⟨BC, 1, none⟩ = some (ei p.num) := by rw [hwC, hBC]; exact cell_new wB _ _ _ rfl 1 _ rfl
    have g2 : wC.cell? ⟨BC, 2, none⟩ = some (es p.name) := by rw [hwC, hBC]; exact cell_new wB _ _ _ rfl 2 _ rfl
    have g3 : wC.cell? ⟨BC, 3, none⟩ = some (.slice a3 L3 c3) := by rw [hwC, hBC]; exact cell_new wB _ _ _ rfl 3 _ rfl
    have hBw : B < wB.heap.size := by have := HUB.out.size; omega
    have hBB : B < BC := by omega
    have i0 := uC.keep e0'
    have i1 := uC.keep e1'
    go_upto_region 3 with (fail)
    rw [← hwC, ← hBC]
    have hBCs : wB.heap.size ≤ BC := by omega
    clear hwC hBC p0 p1 p2 p3 cd' e0' e1'
    obtain ⟨b', hb'⟩ : ∃ q, (p.kind == 1) = q := ⟨_, rfl⟩
    obtain ⟨wD, hwD⟩ : ∃ q, q = wC.alloc (.cells #[ei s, .bool b'] 148) := ⟨_, rfl⟩
    obtain ⟨BD, hBD⟩ : ∃ q, q = wC.heap.size := ⟨_, rfl⟩
    have uD : Upd [] wC wD := by rw [hwD]; exact (Upd.refl _ _).alloc _
    have j0 : wD.cell? ⟨BD, 0, none⟩ = some (ei s) := by rw [hwD, hBD]; exact cell_new wC _ _ _ rfl 0 _ rfl
    have j1 : wD.cell? ⟨BD, 1, none⟩ = some (.bool b') := by rw [hwD, hBD]; exact cell_new wC _ _ _ rfl 1 _ rfl
    have hhD : wD.heap[BD]? = some (.cells #[ei s, .bool b'] 148 (0, 0)) := by rw [hwD, hBD]; exact heap_alloc_new wC _
    have zD : wD.frozen? ⟨BD, 0, none⟩ = false := by simp [World.frozen?, hhD]
    have hBBD : B < BD := by have := uC.size; omega
    have hBCD : BC ≠ BD := by have := (World.block_lt_of_cell? wC _ g0); simp at this; omega
    have hBnew : wB.heap.size ≤ BD := by rw [hBD]; exact uC.size
    go_upto_region 4 with (fail)
    rw [← hwD, ← hBD]
    clear hwD hBD i0 i1
    have g0 := uD.keep g0
    have g1 := uD.keep g1
    have g2 := uD.keep g2
    have g3 := uD.keep g3
    have uBD := uC.trans uD
    clear uC uD hhD
    have HSUM := Lib.hid (show sumP p = (p.kind == 4) from rfl)
    have HFOL := Lib.hid (fun W => folPI p (.slice a3 L3 c3) W)
    have HOK := Lib.hid hok
    have HIH := Lib.hid ih
    have HDR := Lib.hid hdr2
    have HB1 := Lib.hid (show (p.kind == 1) = b' from hb')
    have HPL := Lib.hid (show plT (Tr.mk p args) s b = (s, b) :: plTs args (s + if sumP p then 1 else 0) (p.kind == 1) from rfl)
    clear ih hok hdr hdr2 hpk
    obtain ⟨q4, h4⟩ : ∃ q, (p.kind == 4) = q := ⟨_, rfl⟩
    have g0' := g0
    cases q4 with
    | false =>
      obtain ⟨wE, rfl⟩ : ∃ q, q = wD := ⟨_, rfl⟩
      obtain ⟨s', hs'⟩ : ∃ q, q = s := ⟨_, rfl⟩
      have UE := Lib.hid uBD
      have HS' := Lib.hid (show s' = s + (if sumP p then 1 else 0) by rw [HSUM.out, h4, hs']; simp)
      have k0 : wE.cell? ⟨BD, 0, none⟩ = some (ei s') := by rw [hs']; exact j0
      have k1 := j1
      have hs'0 : 0 ≤ s' ∧ s' + N ≤ 1000 := by omega
      have e4 := h4
      clear j0 j1 zD uBD HSUM hs'
      go_upto_region 6 with (fail)
      go_upto_region 7 with (fail)
      clear g0' e4
      have S1 := Lib.hid (HFOL.out wE)
      clear HFOL
      go_wp2_with fail
      refine S1.out.mono ?_
      rintro e w1 ⟨rfl, hu1⟩
      have UF := Lib.hid (UE.out.trans hu1)
      have x0 := hu1.keep k0
      have x1 := hu1.keep k1
      have UB1 := Lib.hid (HUB.out.trans (UF.out.mono (by simp)))
      have HW1 := Lib.hid (HWB.out.upd (UF.out.mono (by simp)))
      have HO1 := Lib.hid (HOB.out.upd UF.out (by simp))
      have HR1 := Lib.hid (R_plk.upd HRB.out UF.out (by simp))
      clear S1 hu1 k0 k1 g0 g1 g2 g3 HUB HWB HOB HRB UF UE
      have hal : (folP p) = (args.length : Int) := HOK.out.1.symm
      rw [hal]
      clear hal
      have hal2 : args.length ≤ 2 := by have := HOK.out.1; have := folP_le p; omega
      have hent := enter_fill
      have hL1 : (flatTs args).length + 1 + k ≤ n := by omega
      have HX0 := Lib.hid (And.intro x0 x1)
      clear x0 x1
      go_wp2_with fail
      go_loopw [10, 37] (fun nv iv wr => ∃ (j : Nat) (c : Nat), j ≤ args.length ∧ iv = .int .i64 j ∧ nv = .int .i64 c ∧ Hid (c = k + 1 + (flatTs (args.take j)).length) ∧ c ≤ n ∧ Hid (Upd [B] w1 wr) ∧ Hid (Own [B] wr) ∧
          Hid (R_pl [B] wr [.slice (some ⟨B, 0, none⟩) n n] (row.take k ++ (((s, b) :: plTs (args.take j) s' b') ++ row.drop c)))) (fun _ iv _ => args.length - (intOf iv).toNat)
      case atStart =>
        refine ⟨0, k + 1, Nat.zero_le _, rfl, by go_num, Lib.hid (by simp [flatTs]), by omega, Lib.hid (Upd.refl _ _), HO1, Lib.hid ?_⟩
        have := HR1.out
        rw [List.set_eq_take_append_cons_drop, if_pos (by omega)] at this
        simpa [plTs] using this
      case round =>
        obtain ⟨wo, rfl⟩ : ∃ wo : World, wo = wr := ⟨_, rfl⟩
        obtain ⟨j, c, hj, rfl, rfl, HC, hcn, HU, HO, HR⟩ := hrel
        by_cases hlt : j < args.length
        · have hW := HW1.out.upd HU.out
          have cf := hW.f
          have y0 := HU.out.keepF (by simp; omega) HX0.out.1
          have y1 := HU.out.keepF (by simp; omega) HX0.out.2
          have hsp : flatTs args = flatTs (args.take j) ++ (flatT args[j] ++ flatTs (args.drop (j + 1))) := by
            conv => lhs; rw [← List.take_append_drop j args, flatTs_append, List.drop_eq_getElem_cons hlt]
            rfl
          have hlen := congrArg List.length hsp
          simp only [List.length_append] at hlen
          have hc := HC.out
          have hpt := plTs_len (args.take j) s' b'
          have hdj : body.drop c = flatT args[j] ++ (flatTs (args.drop (j + 1)) ++ post) := by
            have := congrArg (List.drop (flatTs (args.take j)).length) HDR.out
            rw [List.drop_drop, hsp, List.append_assoc, List.drop_append_of_le_length (Nat.le_refl _), List.drop_of_length_le (Nat.le_refl _), List.nil_append, List.append_assoc] at this
            rw [hc]; exact this
          have hokj : okT folP args[j] = true := by
            have := HOK.out.2
            rw [okTs_all, List.all_eq_true] at this
            exact this _ (List.getElem_mem hlt)
          have hrow : (row.take k ++ (((s, b) :: plTs (args.take j) s' b') ++ row.drop c)).length = n := by
            simp only [List.length_append, List.length_take, List.length_cons, List.length_drop, hpt, hrl]; omega
          have S2 := Lib.hid (HIH.out args[j] c (flatTs (args.drop (j + 1)) ++ post) s' b' wo _ (by omega) hokj hdj (by omega) (by omega) hrow hW HO.out HR.out)
          have HNX := Lib.hid (show (row.take k ++ (((s, b) :: plTs (args.take j) s' b') ++ row.drop c)).take c ++ (plT args[j] s' b' ++ (row.take k ++ (((s, b) :: plTs (args.take j) s' b') ++ row.drop c)).drop (c + (flatT args[j]).length)) = row.take k ++ (((s, b) :: plTs (args.take (j + 1)) s' b') ++ row.drop (c + (flatT args[j]).length)) from by
            have hA : ((s, b) :: plTs (args.take j) s' b').length = (flatTs (args.take j)).length + 1 := by rw [List.length_cons, hpt]
            have hB := plT_len args[j] s' b'
            have := fill_in row ((s, b) :: plTs (args.take j) s' b') (plT args[j] s' b') k (by omega)
            rw [hA, hB, show k + ((flatTs (args.take j)).length + 1) = c by omega] at this
            rw [this, plTs_take _ _ _ _ hlt]; simp)
          have HNC := Lib.hid (show c + (flatT args[j]).length = k + 1 + (flatTs (args.take (j + 1))).length by rw [flatTs_take _ _ hlt, List.length_append]; omega)
          have hle : c + (flatT args[j]).length ≤ n := by omega
          have hjl : (j : Int) < (args.length : Int) := by omega
          clear hsp hlen hc hpt hdj hokj hrow hW HR HO HC
          generalize (flatT args[j]).length = z at *
          go_wp2_with fail
          refine S2.out.mono ?_
          rintro e w2 ⟨rfl, hu2, ho2, hr2⟩
          have HU2 := Lib.hid (HU.out.trans hu2)
          rw [HNX.out] at hr2
          have HR2 := Lib.hid (And.intro ho2 hr2)
          clear hu2 ho2 hr2 S2 cf y0 y1 HU HNX
          go_wp2_with fail
          go_roundw
          case rel => exact ⟨j + 1, c + z, by omega, by go_num, by go_num, HNC, hle, HU2, Lib.hid HR2.out.1, Lib.hid HR2.out.2⟩
          case measure => simp [intOf]; omega
        · obtain rfl : j = args.length := by omega
          have HE := Lib.hid (And.intro HC.out HR.out)
          have hjl : ¬ (args.length : Int) < (args.length : Int) := by omega
          clear HR
          go_wp2_with fail
          go_ret
          obtain ⟨hc, hr⟩ := HE.out
          rw [List.take_length] at hc hr
          refine ⟨?_, UB1.out.trans HU.out, HO.out, ?_⟩
          · rw [show k + (flatT (Tr.mk p args)).length = c by rw [flatT, List.length_cons]; omega]; rfl
          · rw [HPL.out, HB1.out, ← HS'.out, show k + (flatT (Tr.mk p args)).length = c by rw [flatT, List.length_cons]; omega]; exact hr
    | true =>
      obtain ⟨wE, hwE⟩ : ∃ q, q = wD.setCell ⟨BD, 0, none⟩ (ei (s + 1)) := ⟨_, rfl⟩
      obtain ⟨s', hs'⟩ : ∃ q, q = s + 1 := ⟨_, rfl⟩
      have UE := Lib.hid (show Upd [] wB wE by rw [hwE]; exact uBD.setCell (Or.inl hBnew) _)
      have HS' := Lib.hid (show s' = s + (if sumP p then 1 else 0) by rw [HSUM.out, h4, hs']; simp)
      have k0 : wE.cell? ⟨BD, 0, none⟩ = some (ei s') := by rw [hwE, hs']; exact World.cell?_setCell_same _ _ _ j0
      have hx : ∀ b1 o1, (b1 ≠ BD ∨ o1 ≠ 0) → wE.cell? ⟨b1, o1, none⟩ = wD.cell? ⟨b1, o1, none⟩ := fun b1 o1 ho => by rw [hwE]; exact World.cell?_setCell_other _ _ _ _ (by intro h; simp only [Addr.mk.injEq] at h; omega)
      have k1 := (hx BD 1 (by omega)).trans j1
      have G0 := (hx BC 0 (Or.inl hBCD)).trans g0
      have G1 := (hx BC 1 (Or.inl hBCD)).trans g1
      have G2 := (hx BC 2 (Or.inl hBCD)).trans g2
      have G3 := (hx BC 3 (Or.inl hBCD)).trans g3
      have hs'0 : 0 ≤ s' ∧ s' + N ≤ 1000 := by omega
      have e4 := h4
      clear hx uBD HSUM hs'
      go_upto_region 6 with (fail)
      rw [← hwE]
      clear hwE j0 j1 zD g0 g1 g2 g3
      have g0 := G0
      have g1 := G1
      have g2 := G2
      have g3 := G3
      clear G0 G1 G2 G3
      go_upto_region 7 with (fail)
      clear g0' e4
      have S1 := Lib.hid (HFOL.out wE)
      clear HFOL
      go_wp2_with fail
      refine S1.out.mono ?_
      rintro e w1 ⟨rfl, hu1⟩
      have UF := Lib.hid (UE.out.trans hu1)
      have x0 := hu1.keep k0
      have x1 := hu1.keep k1
      have UB1 := Lib.hid (HUB.out.trans (UF.out.mono (by simp)))
      have HW1 := Lib.hid (HWB.out.upd (UF.out.mono (by simp)))
      have HO1 := Lib.hid (HOB.out.upd UF.out (by simp))
      have HR1 := Lib.hid (R_plk.upd HRB.out UF.out (by simp))
      clear S1 hu1 k0 k1 g0 g1 g2 g3 HUB HWB HOB HRB UF UE
      have hal : (folP p) = (args.length : Int) := HOK.out.1.symm
      rw [hal]
      clear hal
      have hal2 : args.length ≤ 2 := by have := HOK.out.1; have := folP_le p; omega
      have hent := enter_fill
      have hL1 : (flatTs args).length + 1 + k ≤ n := by omega
      have HX0 := Lib.hid (And.intro x0 x1)
      clear x0 x1
      go_wp2_with fail
      go_loopw [10, 37] (fun nv iv wr => ∃ (j : Nat) (c : Nat), j ≤ args.length ∧ iv = .int .i64 j ∧ nv = .int .i64 c ∧ Hid (c = k + 1 + (flatTs (args.take j)).length) ∧ c ≤ n ∧ Hid (Upd [B] w1 wr) ∧ Hid (Own [B] wr) ∧
          Hid (R_pl [B] wr [.slice (some ⟨B, 0, none⟩) n n] (row.take k ++ (((s, b) :: plTs (args.take j) s' b') ++ row.drop c)))) (fun _ iv _ => args.length - (intOf iv).toNat)
      case atStart =>
        refine ⟨0, k + 1, Nat.zero_le _, rfl, by go_num, Lib.hid (by simp [flatTs]), by omega, Lib.hid (Upd.refl _ _), HO1, Lib.hid ?_⟩
        have := HR1.out
        rw [List.set_eq_take_append_cons_drop, if_pos (by omega)] at this
        simpa [plTs] using this
      case round =>
        obtain ⟨wo, rfl⟩ : ∃ wo : World, wo = wr := ⟨_, rfl⟩
        obtain ⟨j, c, hj, rfl, rfl, HC, hcn, HU, HO, HR⟩ := hrel
        by_cases hlt : j < args.length
        · have hW := HW1.out.upd HU.out
          have cf := hW.f
          have y0 := HU.out.keepF (by simp; omega) HX0.out.1
          have y1 := HU.out.keepF (by simp; omega) HX0.out.2
          have hsp : flatTs args = flatTs (args.take j) ++ (flatT args[j] ++ flatTs (args.drop (j + 1))) := by
            conv => lhs; rw [← List.take_append_drop j args, flatTs_append, List.drop_eq_getElem_cons hlt]
            rfl
          have hlen := congrArg List.length hsp
          simp only [List.length_append] at hlen
          have hc := HC.out
          have hpt := plTs_len (args.take j) s' b'
          have hdj : body.drop c = flatT args[j] ++ (flatTs (args.drop (j + 1)) ++ post) := by
            have := congrArg (List.drop (flatTs (args.take j)).length) HDR.out
            rw [List.drop_drop, hsp, List.append_assoc, List.drop_append_of_le_length (Nat.le_refl _), List.drop_of_length_le (Nat.le_refl _), List.nil_append, List.append_assoc] at this
            rw [hc]; exact this
          have hokj : okT folP args[j] = true := by
            have := HOK.out.2
            rw [okTs_all, List.all_eq_true] at this
            exact this _ (List.getElem_mem hlt)
          have hrow : (row.take k ++ (((s, b) :: plTs (args.take j) s' b') ++ row.drop c)).length = n := by
            simp only [List.length_append, List.length_take, List.length_cons, List.length_drop, hpt, hrl]; omega
          have S2 := Lib.hid (HIH.out args[j] c (flatTs (args.drop (j + 1)) ++ post) s' b' wo _ (by omega) hokj hdj (by omega) (by omega) hrow hW HO.out HR.out)
          have HNX := Lib.hid (show (row.take k ++ (((s, b) :: plTs (args.take j) s' b') ++ row.drop c)).take c ++ (plT args[j] s' b' ++ (row.take k ++ (((s, b) :: plTs (args.take j) s' b') ++ row.drop c)).drop (c + (flatT args[j]).length)) = row.take k ++ (((s, b) :: plTs (args.take (j + 1)) s' b') ++ row.drop (c + (flatT args[j]).length)) from by
            have hA : ((s, b) :: plTs (args.take j) s' b').length = (flatTs (args.take j)).length + 1 := by rw [List.length_cons, hpt]
            have hB := plT_len args[j] s' b'
            have := fill_in row ((s, b) :: plTs (args.take j) s' b') (plT args[j] s' b') k (by omega)
            rw [hA, hB, show k + ((flatTs (args.take j)).length + 1) = c by omega] at this
            rw [this, plTs_take _ _ _ _ hlt]; simp)
          have HNC := Lib.hid (show c + (flatT args[j]).length = k + 1 + (flatTs (args.take (j + 1))).length by rw [flatTs_take _ _ hlt, List.length_append]; omega)
          have hle : c + (flatT args[j]).length ≤ n := by omega
          have hjl : (j : Int) < (args.length : Int) := by omega
          clear hsp hlen hc hpt hdj hokj hrow hW HR HO HC
          generalize (flatT args[j]).length = z at *
          go_wp2_with fail
          refine S2.out.mono ?_
          rintro e w2 ⟨rfl, hu2, ho2, hr2⟩
          have HU2 := Lib.hid (HU.out.trans hu2)
          rw [HNX.out] at hr2
          have HR2 := Lib.hid (And.intro ho2 hr2)
          clear hu2 ho2 hr2 S2 cf y0 y1 HU HNX
          go_wp2_with fail
          go_roundw
          case rel => exact ⟨j + 1, c + z, by omega, by go_num, by go_num, HNC, hle, HU2, Lib.hid HR2.out.1, Lib.hid HR2.out.2⟩
          case measure => simp [intOf]; omega
        · obtain rfl : j = args.length := by omega
          have HE := Lib.hid (And.intro HC.out HR.out)
          have hjl : ¬ (args.length : Int) < (args.length : Int) := by omega
          clear HR
          go_wp2_with fail
          go_ret
          obtain ⟨hc, hr⟩ := HE.out
          rw [List.take_length] at hc hr
          refine ⟨?_, UB1.out.trans HU.out, HO.out, ?_⟩
          · rw [show k + (flatT (Tr.mk p args)).length = c by rw [flatT, List.length_cons]; omega]; rfl
          · rw [HPL.out, HB1.out, ← HS'.out, show k + (flatT (Tr.mk p args)).length = c by rw [flatT, List.length_cons]; omega]; exact hr

theorem Tryz.infoPl : (Tryz.prog.info? 148).map (fun i => (i.zero, i.size, i.bytes)) = some (some (.agg #[.int .i64 0, .bool false]), 2, 16) := by kernel_rfl
set_option maxRecDepth 20000 in
set_option maxHeartbeats 4000000 in
theorem placesI (cs : List Value) (d : De) (x : Tr Pa) (w : World) (fp : List Nat) (hR : R_De fp w cs d) (hok : okT folP x = true) (hfl : flatT x = d.body) (hl : d.body.length ≤ 20) (hp0 : 0 ≤ d.pars) (hp1 : d.pars ≤ 3) :
    Calls Tryz.prog 94 #[.agg cs.toArray] w fun e w' => (∃ v', e = .returned v' ∧ New R_pl w w' v' (plT x d.pars false)) ∧ Upd [] w w' := by
  obtain ⟨i0, hi, hz0, hz1, hz2⟩ := info_parts Tryz.infoPl
  obtain ⟨v2, f2, rfl, h2, rfl⟩ := hR
  have h2' := h2
  obtain ⟨a, cap, rfl, g1, g2, -⟩ := slQ_open h2
  have hpos := flatT_pos x
  rw [hfl] at hpos
  have hxl := plT_len x d.pars false
  rw [hfl] at hxl
  have HFL := Lib.hid hfl
  have HOK := Lib.hid hok
  obtain ⟨wA, hwA⟩ : ∃ wA, wA = w.alloc (.cells #[es d.name, ei d.pars, .slice a d.body.length cap] 56) := ⟨_, rfl⟩
  obtain ⟨D, hD⟩ : ∃ D, D = w.heap.size := ⟨_, rfl⟩
  have uA : Upd [] w wA := by rw [hwA]; exact (Upd.refl _ _).alloc _
  have d1 : wA.cell? ⟨D, 1, none⟩ = some (ei d.pars) := by rw [hwA, hD]; exact cell_new w _ _ _ rfl 1 _ rfl
  have d2 : wA.cell? ⟨D, 2, none⟩ = some (.slice a d.body.length cap) := by rw [hwA, hD]; exact cell_new w _ _ _ rfl 2 _ rfl
  have hDA : D < wA.heap.size := by rw [hwA, hD]; simp
  have hDw : w.heap.size = D := hD.symm
  have HB2 := Lib.hid (R_Pa1k.lt h2)
  have HBR := Lib.hid (R_Pa1k.upd h2' uA (by simp))
  clear h2 h2' hfl hok
  unfold maxLen at g2
  generalize d.body = body at *
  generalize d.pars = P at *
  generalize hn : body.length = n at *
  have HN := Lib.hid hn
  have HXL := Lib.hid hxl
  have HDW := Lib.hid hDw
  have HPOS := Lib.hid hpos
  clear hn hxl hDw hpos
  have hm1 : i0.bytes * n ≤ 281474976710656 := by rw [hz2]; omega
  go_enter Tryz.func94, Tryz.ntmps94
  go_upto_region 1 with (fail)
  rw [← hwA, ← hD]
  clear hwA hD
  go_upto_region 2 with (first
    | (at_make; refine wpList_make_full _ rfl _ _ 144 rfl wA.heap.size 148 i0 (.agg #[.int .i64 0, .bool false]) 2 Tryz.underlying144 hi hz0 hz1 .i64 .i64 _ _ n rfl rfl rfl rfl hm1 (by unfold maxLen; omega) (Nat.le_refl _) ?_; intro w1 hown hgrow)
    | fail)
  obtain ⟨B, hB⟩ : ∃ B, B = wA.heap.size := ⟨_, rfl⟩
  rw [← hB] at hown ⊢
  rw [made_two] at hown
  obtain ⟨fo, hT, hO, hb0⟩ := New.ofOwns2 (w := wA) (w' := w1) (e := 148) (xs := List.replicate n ((0, false) : Int × Bool)) (e1 := fun t => ei t.1) (e2 := fun t => .bool t.2) (by
    have e : ((List.replicate n ()).flatMap fun _ => [Value.int .i64 0, Value.bool false]) = (List.replicate n ((0, false) : Int × Bool)).flatMap fun t => [ei t.1, .bool t.2] := by
      generalize n = m
      induction m with
      | zero => rfl
      | succ m ih => simp only [List.replicate_succ, List.flatMap_cons, ih]
    rw [← e, ← hB]; simpa using hown)
  have hT : R_pl fo w1 [.slice (some ⟨B, 0, none⟩) n n] (List.replicate n (0, false)) := hT
  have hfo : fo = [B] := by
    obtain ⟨a', q', hv, -, -, hcell⟩ := slF2_open hT
    obtain ⟨b', o', he, hfo, -⟩ := hcell 0 (by simp; have := HPOS.out; omega)
    simp only [Value.slice.injEq] at hv
    rw [← hv.1] at he
    simp only [Option.some.injEq, Addr.mk.injEq, and_true] at he
    rw [hfo, ← he.1]
  subst hfo
  have u1 : Upd [] wA w1 := (Upd.refl _ _).grown hgrow (by simp)
  have hB1 : B < w1.heap.size := hO.lt B (by simp)
  obtain ⟨O, hOO⟩ : ∃ O, O = w1.heap.size := ⟨_, rfl⟩
  obtain ⟨wO, hwO⟩ : ∃ q, q = w1.alloc (.cells #[.slice (some ⟨B, 0, none⟩) n n] 144) := ⟨_, rfl⟩
  obtain ⟨wF, hwF⟩ : ∃ q, q = wO.alloc (.cells #[.nilFunc] 174) := ⟨_, rfl⟩
  have uO : Upd [] w1 wO := by rw [hwO]; exact (Upd.refl _ _).alloc _
  have uF : Upd [] wO wF := by rw [hwF]; exact (Upd.refl _ _).alloc _
  have o0 : wF.cell? ⟨O, 0, none⟩ = some (.slice (some ⟨B, 0, none⟩) n n) := uF.keep (by rw [hwO, hOO]; exact cell_new w1 _ _ _ rfl 0 _ rfl)
  have sO : wO.heap.size = O + 1 := by rw [hwO, hOO]; simp
  have hhF : wF.heap[O + 1]? = some (.cells #[.nilFunc] 174 (0, 0)) := by rw [hwF, ← sO]; exact heap_alloc_new wO _
  have f0 : wF.cell? ⟨O + 1, 0, none⟩ = some .nilFunc := by simp [World.cell?, hhF]
  have zf : wF.frozen? ⟨O + 1, 0, none⟩ = false := by simp [World.frozen?, hhF]
  obtain ⟨wG, hwG⟩ : ∃ q, q = wF.setCell ⟨O + 1, 0, none⟩ (fillV O D (O + 1)) := ⟨_, rfl⟩
  have hx : ∀ b1 o1, b1 ≠ O + 1 → wG.cell? ⟨b1, o1, none⟩ = wF.cell? ⟨b1, o1, none⟩ := fun b1 o1 ho => by rw [hwG]; exact World.cell?_setCell_other _ _ _ _ (by intro h; simp only [Addr.mk.injEq] at h; omega)
  have uG : Upd [O + 1] wF wG := by rw [hwG]; exact (Upd.refl _ _).setCell (Or.inr (by simp)) _
  have hs1 := u1.size
  have u1F : Upd [] w1 wF := uO.trans uF
  have uwG : Upd [] wA wG := (u1.trans u1F).fresh uG (fun b hb => Or.inl (by simp at hb; omega))
  have gf : wG.cell? ⟨O + 1, 0, none⟩ = some (fillV O D (O + 1)) := by rw [hwG]; exact World.cell?_setCell_same _ _ _ f0
  have g1 : wG.cell? ⟨D, 1, none⟩ = some (ei P) := uwG.keep d1
  have nD : D ≠ O + 1 := by omega
  have hFW : FillW O D (O + 1) B n (.slice a n cap) f2 body wG := by
    refine ⟨(hx O 0 (by omega)).trans o0, uwG.keep d2, gf, R_Pa1k.upd HBR.out uwG (by simp), by omega, by omega, by omega, fun h => ?_⟩
    have := HB2.out B h
    have := HDW.out
    omega
  have hOG : Own [B] wG := (hO.upd u1F (by simp)).upd uG (by intro b hb; simp at hb ⊢; omega)
  have hTG := R_plk.upd (R_plk.upd hT u1F (by simp)) uG (by intro b hb; simp at hb ⊢; omega)
  have S1 := Lib.hid (fillI O D (O + 1) B n (.slice a n cap) f2 body (by omega) HN.out 20 x 0 [] P false wG _ (by rw [HFL.out, HN.out]; omega) HOK.out (by simp [HFL.out]) hp0 (by omega) (by simp) hFW hOG hTG)
  have HRES := Lib.hid (show (List.replicate n ((0, false) : Int × Bool)).take 0 ++ (plT x P false ++ (List.replicate n ((0, false) : Int × Bool)).drop (0 + (flatT x).length)) = plT x P false by
    rw [List.drop_of_length_le (by simp [HFL.out, HN.out])]; simp)
  have UA := Lib.hid uA
  have UG := Lib.hid uwG
  have HFIN := Lib.hid (And.intro hFW.o (show B ≠ O by omega))
  have HBA := Lib.hid (show wA.heap.size ≤ B by omega)
  have hent := enter_fill
  clear hFW hOG hTG uwG uA hs1 u1F u1 uO uF uG hx hT hO hb0 hgrow hown
  clear hB
  go_upto_region 3 with (fail)
  rw [← hwO, ← hOO, ← hwF]
  clear hwO hwF hOO o0
  go_upto_region 4 with (fail)
  rw [← hwG]
  clear hwG f0 zf hhF sO
  go_wp2_with fail
  refine S1.out.mono ?_
  rintro e w2 ⟨rfl, hu, ho, hr⟩
  have c0 := hu.keepF (by simp; exact HFIN.out.2.symm) HFIN.out.1
  rw [HRES.out] at hr
  have HE := Lib.hid (And.intro hu (And.intro ho hr))
  clear hu ho hr S1 gf g1
  go_wp2_with fail
  go_ret
  obtain ⟨hu, ho, hr⟩ := HE.out
  have hBA := HBA.out
  have hua := UA.out.size
  exact ⟨⟨_, rfl, [B], hr, ho, by simp; omega⟩, (UA.out.trans UG.out).fresh hu (fun b hb => Or.inl (by simp at hb; omega))⟩

end Go.Proofs.YtjelcjiofcoifaaGreatDoor

/-
  Why a part of a body is not valid: what the program's call returns.
-/
namespace Go.Proofs.YtjelcjiofcoifaaGreatDoor
open Go.RowKit

theorem enter_reason1 (args : Array Value) (w : World) : Sem.run Tryz.prog (callFunc 131 args) w = .ok (.enter 131 args) w := by go_simp
set_option maxRecDepth 20000 in
set_option maxHeartbeats 2000000 in
theorem reason1I (u : Value) (x : List Tm) (sc : Int) (B : Nat) (W : World) (f : List Nat) (h0 : 0 ≤ sc) (h1 : sc ≤ 29) (hR : R_T1 f W [u] x) (c0 : W.cell? ⟨B, 0, none⟩ = some (ei sc)) :
    Calls Tryz.prog 131 #[u, .pointer (some ⟨B, 0, none⟩)] W fun e w' => e = .returned (.bool (!isE x sc 15)) ∧ Upd [] W w' := by
  have hv : validE x sc 15 = isE x sc 15 := by
    unfold validE; rw [inB_mk (by omega), inB_mk (by omega)]; rfl
  have S1 := Lib.hid (validTerms u x sc 15 W f hR)
  rw [hv] at S1
  clear hv hR
  generalize isE x sc 15 = q at *
  go_enter Tryz.func131, Tryz.ntmps131
  go_wp2_with fail
  refine S1.out.mono ?_
  rintro e w1 ⟨rfl, hu⟩
  have HU := Lib.hid hu
  clear hu S1
  go_wp2_with fail
  go_ret
  exact ⟨rfl, HU.out⟩

set_option maxRecDepth 20000 in
set_option maxHeartbeats 8000000 in
theorem reasonI (ds : List De) (dv : Value) (fd : List Nat) (cs : List Value) (p : Pa) (fp : List Nat) (sc : Int) (bh : Bool) (w : World) (hD : R_De1 fd w [dv] ds) (hR : R_Pa fp w cs p) (hdl : ds.length ≤ 1000000) (hnl : p.name.length ≤ 2000000) (hal : p.args.length ≤ 2000000) (hs0 : 0 ≤ sc) (hs1 : sc ≤ 29) :
    Calls Tryz.prog 95 #[.agg cs.toArray, dv, .agg #[ei sc, .bool bh]] w fun e w' => e = .returned (.int .i64 (reasonP ds p sc bh)) ∧ Upd [] w w' := by
  have hD' := hD
  obtain ⟨ad, dq, rfl, dg1, dg2, -⟩ := slQ_open hD
  unfold maxLen at dg2
  obtain ⟨v3, f3, rfl, h3, rfl⟩ := hR
  have h3' := h3
  obtain ⟨aa, aq, rfl, ag1, ag2, -⟩ := slP_open h3
  unfold maxLen at ag2
  have HM := Lib.hid (show reasonP ds p sc bh = (if (!kindP p) = true then 2 else if ((p.kind == 1) && (!(p.name == tauL) && !actF p.name)) = true then 3 else if ((p.kind == 4 && !inB p.num 1 7) || (p.kind == 5 && !inB p.num 0 ((ds.length : Int) - 1))) = true then 4 else if (!countP ds p) = true then 5 else if (p.kind == 5 && !bh) = true then 6 else if (p.kind == 4 && decide (6 ≤ sc)) = true then 7 else if (p.args.any (fun e => !isE e sc 15)) = true then 8 else 0) by
    have := name_act p.name
    simp only [bne] at this
    rw [this]; rfl)
  obtain ⟨wA, hwA⟩ : ∃ wA, wA = (w.alloc (.cells #[ei p.kind, ei p.num, es p.name, .slice aa p.args.length aq] 134)).alloc (.cells #[ei sc, .bool bh] 148) := ⟨_, rfl⟩
  obtain ⟨BA, hBA⟩ : ∃ BA, BA = w.heap.size := ⟨_, rfl⟩
  have uA : Upd [] w wA := by rw [hwA]; exact ((Upd.refl _ _).alloc _).alloc _
  have HC := Lib.hid (fun W (hu : Upd [] wA W) => show W.cell? ⟨BA, 0, none⟩ = some (ei p.kind) ∧ W.cell? ⟨BA, 1, none⟩ = some (ei p.num) ∧ W.cell? ⟨BA, 2, none⟩ = some (es p.name) ∧ W.cell? ⟨BA, 3, none⟩ = some (.slice aa p.args.length aq) ∧ W.cell? ⟨BA + 1, 0, none⟩ = some (ei sc) ∧ W.cell? ⟨BA + 1, 1, none⟩ = some (.bool bh) from by
    have s1 : (w.alloc (.cells #[ei p.kind, ei p.num, es p.name, .slice aa p.args.length aq] 134)).heap.size = BA + 1 := by rw [hBA]; simp
    have hk : ∀ (j : Nat) c, (#[ei p.kind, ei p.num, es p.name, .slice aa p.args.length aq] : Array Value)[j]? = some c → wA.cell? ⟨BA, j, none⟩ = some c := fun j c hc => by
      rw [hwA, hBA]; exact ((Upd.refl [] _).alloc _).keep (cell_new w _ _ _ rfl j _ hc)
    exact ⟨hu.keep (hk 0 _ rfl), hu.keep (hk 1 _ rfl), hu.keep (hk 2 _ rfl), hu.keep (hk 3 _ rfl), hu.keep (by rw [hwA]; exact cell_new _ _ _ _ s1 0 _ rfl), hu.keep (by rw [hwA]; exact cell_new _ _ _ _ s1 1 _ rfl)⟩)
  have SK := Lib.hid (kindOkI p aa aq wA)
  have SC := Lib.hid (fun (hn : p.kind = 5 → 0 ≤ p.num ∧ p.num < ds.length) W (hu : Upd [] w W) => countOkI ds (.slice ad ds.length dq) fd p aa aq W (R_De1k.upd hD' hu (by simp)) hn hal)
  have SA := Lib.hid (fun W => isActionI p.name W hnl)
  have SW := Lib.hid (fun W => within p.num 1 7 W)
  have SI := Lib.hid (fun W => idxI p.num ds.length W hdl)
  have SV := Lib.hid (fun W (hu : Upd [] wA W) (c3 : W.cell? ⟨BA + 1, 0, none⟩ = some (ei sc)) =>
    containsFuncE (fun e => !isE e sc 15) 131 #[.pointer (some ⟨BA + 1, 0, none⟩)] (.slice aa p.args.length aq) p.args W f3 (R_T2k.upd h3' (uA.trans hu) (by simp)) enter_reason1 (fun wr u f y hu2 hy => reason1I u y sc (BA + 1) wr f hs0 hs1 hy (hu2.keep c3)))
  have UA := Lib.hid uA
  have HI := Lib.hid (fun (h : inB p.num 0 ((ds.length : Int) - 1) = true) => show 0 ≤ p.num ∧ p.num < ds.length by have := inB_true h; omega)
  obtain ⟨c0, c1, c2, c3, d0, d1⟩ := HC.out wA (Upd.refl _ _)
  clear hD hD' h3 h3' uA
  obtain ⟨k, num, name, args⟩ := p
  simp only at *
  generalize reasonP ds ⟨k, num, name, args⟩ sc bh = Z at *
  generalize kindP ⟨k, num, name, args⟩ = qk at *
  generalize countP ds ⟨k, num, name, args⟩ = qc at *
  generalize actF name = qa at *
  generalize inB num 1 7 = r4 at *
  generalize inB num 0 ((ds.length : Int) - 1) = r5 at *
  generalize (args.any fun e => !isE e sc 15) = ga at *
  generalize args.length = n at *
  generalize ds.length = N at *
  obtain ⟨q1, h1⟩ : ∃ q, (k == 1) = q := ⟨_, rfl⟩
  obtain ⟨q4, h4⟩ : ∃ q, (k == 4) = q := ⟨_, rfl⟩
  obtain ⟨q5, h5⟩ : ∃ q, (k == 5) = q := ⟨_, rfl⟩
  obtain ⟨t0, ht⟩ : ∃ q, (name == tauL) = q := ⟨_, rfl⟩
  obtain ⟨s6, hs⟩ : ∃ q, decide (6 ≤ sc) = q := ⟨_, rfl⟩
  rw [h1, h4, h5, ht, hs] at HM
  have htb : (name == [116, 97, 117]) = t0 := ht
  obtain ⟨t1, htn⟩ : ∃ q, (name != [116, 97, 117]) = q := ⟨_, rfl⟩
  have ht1 : t1 = !t0 := by rw [← htn, ← ht]; rfl
  have hent := enter_reason1
  clear ht
  go_enter Tryz.func95, Tryz.ntmps95
  go_upto_region 1 with (fail)
  rw [← hwA, ← hBA]
  clear hwA hBA
  go_wp2_with fail
  refine SK.out.mono ?_
  rintro e w1 ⟨rfl, hu⟩
  have HU := Lib.hid hu
  clear hu SK c0 c1 c2 c3 d0 d1
  obtain ⟨c0, c1, c2, c3, d0, d1⟩ := HC.out w1 HU.out
  cases qk with
  | false =>
    have HZ := Lib.hid (UA.out.trans HU.out)
    clear HC HU UA
    go_wp2_with fail
    go_ret
    exact ⟨by rw [HM.out]; rfl, HZ.out⟩
  | true =>
    cases q1 with
    | false =>
      cases q4 with
      | false =>
        cases q5 with
        | false =>
          replace SC := Lib.hid (SC.out (fun h => absurd h (by simpa using h5)))
          have TT := Lib.hid (SC.out w1 (UA.out.trans HU.out))
          clear SC
          go_wp2_with fail
          refine TT.out.mono ?_
          rintro e w1 ⟨rfl, hu⟩
          replace HU := Lib.hid (HU.out.trans hu)
          clear hu TT c0 c1 c2 c3 d0 d1
          obtain ⟨c0, c1, c2, c3, d0, d1⟩ := HC.out w1 HU.out
          cases qc with
          | false =>
            have HZ := Lib.hid (UA.out.trans HU.out)
            clear HC HU UA
            go_wp2_with fail
            go_ret
            exact ⟨by rw [HM.out]; rfl, HZ.out⟩
          | true =>
            have TT := Lib.hid (SV.out w1 HU.out d0)
            go_wp2_with fail
            refine TT.out.mono ?_
            rintro e w2 ⟨rfl, hu⟩
            replace HU := Lib.hid (HU.out.trans hu)
            clear hu TT c0 c1 c2 c3 d0 d1
            obtain ⟨c0, c1, c2, c3, d0, d1⟩ := HC.out w2 HU.out
            cases ga with
            | false =>
              have HZ := Lib.hid (UA.out.trans HU.out)
              clear HC HU UA
              go_wp2_with fail
              go_ret
              exact ⟨by rw [HM.out]; rfl, HZ.out⟩
            | true =>
              have HZ := Lib.hid (UA.out.trans HU.out)
              clear HC HU UA
              go_wp2_with fail
              go_ret
              exact ⟨by rw [HM.out]; rfl, HZ.out⟩
        | true =>
          obtain rfl : k = 5 := by simpa using h5
          have TT := Lib.hid (SI.out w1)
          go_wp2_with fail
          refine TT.out.mono ?_
          rintro e wq ⟨rfl, rfl⟩
          clear TT
          cases r5 with
          | false =>
            have HZ := Lib.hid (UA.out.trans HU.out)
            clear HC HU UA
            go_wp2_with fail
            go_ret
            exact ⟨by rw [HM.out]; rfl, HZ.out⟩
          | true =>
            replace SC := Lib.hid (SC.out (fun _ => HI.out rfl))
            have TT := Lib.hid (SC.out w1 (UA.out.trans HU.out))
            clear SC
            go_wp2_with fail
            refine TT.out.mono ?_
            rintro e w9 ⟨rfl, hu⟩
            replace HU := Lib.hid (HU.out.trans hu)
            clear hu TT c0 c1 c2 c3 d0 d1
            obtain ⟨c0, c1, c2, c3, d0, d1⟩ := HC.out w9 HU.out
            cases qc with
            | false =>
              have HZ := Lib.hid (UA.out.trans HU.out)
              clear HC HU UA
              go_wp2_with fail
              go_ret
              exact ⟨by rw [HM.out]; rfl, HZ.out⟩
            | true =>
              cases bh with
              | false =>
                have HZ := Lib.hid (UA.out.trans HU.out)
                clear HC HU UA
                go_wp2_with fail
                go_ret
                exact ⟨by rw [HM.out]; rfl, HZ.out⟩
              | true =>
                have TT := Lib.hid (SV.out w9 HU.out d0)
                go_wp2_with fail
                refine TT.out.mono ?_
                rintro e w10 ⟨rfl, hu⟩
                replace HU := Lib.hid (HU.out.trans hu)
                clear hu TT c0 c1 c2 c3 d0 d1
                obtain ⟨c0, c1, c2, c3, d0, d1⟩ := HC.out w10 HU.out
                cases ga with
                | false =>
                  have HZ := Lib.hid (UA.out.trans HU.out)
                  clear HC HU UA
                  go_wp2_with fail
                  go_ret
                  exact ⟨by rw [HM.out]; rfl, HZ.out⟩
                | true =>
                  have HZ := Lib.hid (UA.out.trans HU.out)
                  clear HC HU UA
                  go_wp2_with fail
                  go_ret
                  exact ⟨by rw [HM.out]; rfl, HZ.out⟩
      | true =>
        obtain rfl : k = 4 := by simpa using h4
        obtain rfl : false = q5 := h5
        replace SC := Lib.hid (SC.out (fun h => absurd h (by decide)))
        have TT := Lib.hid (SW.out w1)
        go_wp2_with fail
        refine TT.out.mono ?_
        rintro e wq ⟨rfl, rfl⟩
        clear TT
        cases r4 with
        | false =>
          have HZ := Lib.hid (UA.out.trans HU.out)
          clear HC HU UA
          go_wp2_with fail
          go_ret
          exact ⟨by rw [HM.out]; rfl, HZ.out⟩
        | true =>
          have TT := Lib.hid (SC.out w1 (UA.out.trans HU.out))
          clear SC
          go_wp2_with fail
          refine TT.out.mono ?_
          rintro e w7 ⟨rfl, hu⟩
          replace HU := Lib.hid (HU.out.trans hu)
          clear hu TT c0 c1 c2 c3 d0 d1
          obtain ⟨c0, c1, c2, c3, d0, d1⟩ := HC.out w7 HU.out
          cases qc with
          | false =>
            have HZ := Lib.hid (UA.out.trans HU.out)
            clear HC HU UA
            go_wp2_with fail
            go_ret
            exact ⟨by rw [HM.out]; rfl, HZ.out⟩
          | true =>
            cases s6 with
            | false =>
              have hs2 : ¬ (6 ≤ sc) := of_decide_eq_false hs
              have TT := Lib.hid (SV.out w7 HU.out d0)
              go_wp2_with fail
              refine TT.out.mono ?_
              rintro e w8 ⟨rfl, hu⟩
              replace HU := Lib.hid (HU.out.trans hu)
              clear hu TT c0 c1 c2 c3 d0 d1
              obtain ⟨c0, c1, c2, c3, d0, d1⟩ := HC.out w8 HU.out
              cases ga with
              | false =>
                have HZ := Lib.hid (UA.out.trans HU.out)
                clear HC HU UA
                go_wp2_with fail
                go_ret
                exact ⟨by rw [HM.out]; rfl, HZ.out⟩
              | true =>
                have HZ := Lib.hid (UA.out.trans HU.out)
                clear HC HU UA
                go_wp2_with fail
                go_ret
                exact ⟨by rw [HM.out]; rfl, HZ.out⟩
            | true =>
              have hs2 : 6 ≤ sc := of_decide_eq_true hs
              have HZ := Lib.hid (UA.out.trans HU.out)
              clear HC HU UA
              go_wp2_with fail
              go_ret
              exact ⟨by rw [HM.out]; rfl, HZ.out⟩
    | true =>
      obtain rfl : k = 1 := by simpa using h1
      obtain rfl : false = q4 := h4
      obtain rfl : false = q5 := h5
      replace SC := Lib.hid (SC.out (fun h => absurd h (by decide)))
      cases t0 with
      | false =>
        obtain rfl := ht1
        simp only [Bool.not_false] at htn
        have TT := Lib.hid (SA.out w1)
        go_wp2_with fail
        refine TT.out.mono ?_
        rintro e wq ⟨rfl, rfl⟩
        clear TT
        cases qa with
        | false =>
          have HZ := Lib.hid (UA.out.trans HU.out)
          clear HC HU UA
          go_wp2_with fail
          go_ret
          exact ⟨by rw [HM.out]; rfl, HZ.out⟩
        | true =>
          have TT := Lib.hid (SC.out w1 (UA.out.trans HU.out))
          clear SC
          go_wp2_with fail
          refine TT.out.mono ?_
          rintro e w3 ⟨rfl, hu⟩
          replace HU := Lib.hid (HU.out.trans hu)
          clear hu TT c0 c1 c2 c3 d0 d1
          obtain ⟨c0, c1, c2, c3, d0, d1⟩ := HC.out w3 HU.out
          cases qc with
          | false =>
            have HZ := Lib.hid (UA.out.trans HU.out)
            clear HC HU UA
            go_wp2_with fail
            go_ret
            exact ⟨by rw [HM.out]; rfl, HZ.out⟩
          | true =>
            have TT := Lib.hid (SV.out w3 HU.out d0)
            go_wp2_with fail
            refine TT.out.mono ?_
            rintro e w4 ⟨rfl, hu⟩
            replace HU := Lib.hid (HU.out.trans hu)
            clear hu TT c0 c1 c2 c3 d0 d1
            obtain ⟨c0, c1, c2, c3, d0, d1⟩ := HC.out w4 HU.out
            cases ga with
            | false =>
              have HZ := Lib.hid (UA.out.trans HU.out)
              clear HC HU UA
              go_wp2_with fail
              go_ret
              exact ⟨by rw [HM.out]; rfl, HZ.out⟩
            | true =>
              have HZ := Lib.hid (UA.out.trans HU.out)
              clear HC HU UA
              go_wp2_with fail
              go_ret
              exact ⟨by rw [HM.out]; rfl, HZ.out⟩
      | true =>
        obtain rfl := ht1
        simp only [Bool.not_true] at htn
        have TT := Lib.hid (SC.out w1 (UA.out.trans HU.out))
        clear SC
        go_wp2_with fail
        refine TT.out.mono ?_
        rintro e w5 ⟨rfl, hu⟩
        replace HU := Lib.hid (HU.out.trans hu)
        clear hu TT c0 c1 c2 c3 d0 d1
        obtain ⟨c0, c1, c2, c3, d0, d1⟩ := HC.out w5 HU.out
        cases qc with
        | false =>
          have HZ := Lib.hid (UA.out.trans HU.out)
          clear HC HU UA
          go_wp2_with fail
          go_ret
          exact ⟨by rw [HM.out]; rfl, HZ.out⟩
        | true =>
          have TT := Lib.hid (SV.out w5 HU.out d0)
          go_wp2_with fail
          refine TT.out.mono ?_
          rintro e w6 ⟨rfl, hu⟩
          replace HU := Lib.hid (HU.out.trans hu)
          clear hu TT c0 c1 c2 c3 d0 d1
          obtain ⟨c0, c1, c2, c3, d0, d1⟩ := HC.out w6 HU.out
          cases ga with
          | false =>
            have HZ := Lib.hid (UA.out.trans HU.out)
            clear HC HU UA
            go_wp2_with fail
            go_ret
            exact ⟨by rw [HM.out]; rfl, HZ.out⟩
          | true =>
            have HZ := Lib.hid (UA.out.trans HU.out)
            clear HC HU UA
            go_wp2_with fail
            go_ret
            exact ⟨by rw [HM.out]; rfl, HZ.out⟩

end Go.Proofs.YtjelcjiofcoifaaGreatDoor
