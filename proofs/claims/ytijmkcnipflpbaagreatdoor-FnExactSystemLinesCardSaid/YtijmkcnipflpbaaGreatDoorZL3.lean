/-
  Texts joined in one file: HarnPa, HarnPa1, HarnDe, HarnDe1, DfI, DfE, DfF, DfR, DfG, IdxDe, DfH, HarnCo, HarnCo1, IdxCo, HarnMe, HarnMe1, IdxMe, SyI.
-/
import Derived.Test.YtijmkcnipflpbaaGreatDoorZL1
import Derived.Test.YtijmkcnipflpbaaGreatDoorZL2
import Derived.Deep.DeepCutAuto
import Derived.Laws.EntriesVeiled
import Derived.Deep.RegionHeld3
/-
  Parts of bodies: readings, and what the laws' helper functions return and make.
-/
namespace Go.Proofs.YtijmkcnipflpbaaGreatDoor
open Go.RowKit

/-- its 4 cells. -/
def R_Pa : Rp Pa := fun fp w cs x => ∃ (v3 : Value) (f3 : List Nat), cs = [ei x.kind, ei x.num, es x.name, v3] ∧ R_T2 f3 w [v3] x.args ∧ fp = f3 ++ []
theorem R_Pak : Kept R_Pa := by
  constructor
  · rintro fp w cs x ⟨v3, f3, rfl, h3, rfl⟩ b hb
    exact R_T2k.lt h3 b (by simpa using hb)
  · rintro fp w w' cs x ⟨v3, f3, rfl, h3, rfl⟩ hs hb
    exact ⟨v3, f3, rfl, R_T2k.frame h3 hs (fun b h => hb b (by simp [h])), rfl⟩
def szF_Pa (x : Pa) : Int := (x.name.length : Int) + szF_T2 x.args
def mkF_Pa (x : Pa) : Int := 1 + 1 + 1 + mkF_T2 x.args
theorem szF_Pa_nonneg (x : Pa) : 0 ≤ szF_Pa x := by have := szF_T2_nonneg x.args; unfold szF_Pa; omega
theorem mkF_Pa_nonneg (x : Pa) : 0 ≤ mkF_Pa x := by have := mkF_T2_nonneg x.args; unfold mkF_Pa; omega
theorem mkF_Pa_le (x : Pa) : mkF_Pa x ≤ 16 * szF_Pa x + 3 := by have := mkF_T2_le x.args; unfold mkF_Pa szF_Pa; omega
/-- what each text's length is below. -/
def PaOk (x : Pa) : Prop := x.name.length ≤ 9223372036854775807

set_option maxRecDepth 20000 in
set_option maxHeartbeats 1600000 in
theorem sz_Pa (cs : List Value) (x : Pa) (left : Int) (w : World) (fp : List Nat) (hl : 0 ≤ left) (hl2 : left ≤ 1048576) (hR : R_Pa fp w cs x) (hS : PaOk x) :
    Calls Tryz.prog 82 #[.agg cs.toArray, .int .i64 left] w fun e w' => (∃ r : Int, e = .returned (.int .i64 r) ∧ (r = -1 ∨ (0 ≤ r ∧ r + szF_Pa x = left))) ∧ Upd [] w w' := by
  obtain ⟨v3, f3, rfl, h3, rfl⟩ := hR
  obtain ⟨wA, hwA⟩ : ∃ wA, wA = w.alloc (.cells #[ei x.kind, ei x.num, es x.name, v3] 132) := ⟨_, rfl⟩
  obtain ⟨BA, hBA⟩ : ∃ BA, BA = w.heap.size := ⟨_, rfl⟩
  have uA : Upd [] w wA := by rw [hwA]; exact (Upd.refl _ _).alloc _
  have S3 := Lib.hid (fun (W : World) (hu : Upd [] w W) (l : Int) (q1 : 0 ≤ l) (q2 : l ≤ 1048576) => sz_T2 v3 x.args l W f3 q1 q2 (R_T2k.upd h3 hu (by simp)))
  have HC := Lib.hid (fun W (hu : Upd [] wA W) => show W.cell? ⟨BA, 2, none⟩ = some (es x.name) ∧ W.cell? ⟨BA, 3, none⟩ = some (v3) from
    ⟨hu.keep (by rw [hwA, hBA]; exact cell_new w _ _ _ rfl 2 _ rfl), hu.keep (by rw [hwA, hBA]; exact cell_new w _ _ _ rfl 3 _ rfl)⟩)
  have HZ := Lib.hid (show szF_Pa x = (x.name.length : Int) + szF_T2 x.args from rfl)
  have hs2 : x.name.length ≤ 9223372036854775807 := hS
  have hn3 := szF_T2_nonneg x.args
  generalize szF_T2 x.args = z3 at *
  generalize x.name = t2 at *
  generalize szF_Pa x = ZZ at *
  obtain ⟨c2, c3⟩ := HC.out wA (Upd.refl _ _)
  have HU := Lib.hid uA
  have HX := Lib.hid (Upd.refl [] wA)
  clear h3 hS uA
  go_enter Tryz.func82, Tryz.ntmps82
  go_upto_region 1 with (fail)
  rw [← hwA, ← hBA]
  clear hwA hBA
  by_cases hlt2 : left - (t2.length : Int) < 0
  · go_wp2_with fail
    go_ret
    exact ⟨⟨-1, rfl, Or.inl rfl⟩, HU.out⟩
  · obtain ⟨r2, hr2⟩ : ∃ r2 : Int, r2 = left - (t2.length : Int) := ⟨_, rfl⟩
    have hge2 : 0 ≤ r2 := by omega
    have hle2 : r2 ≤ 1048576 := by omega
    have HR2 := Lib.hid hr2
    rw [← hr2] at hlt2
    have hse2 : left - (t2.length : Int) = r2 := hr2.symm
    clear hr2
    have T3 := Lib.hid (S3.out wA HU.out r2 hge2 hle2)
    clear S3
    go_wp2_with fail
    refine T3.out.mono ?_
    rintro e w3 ⟨⟨r, rfl, hr⟩, rfl⟩
    clear T3
    rcases hr with rfl | ⟨hge3, hr⟩
    · go_wp2_with fail
      go_ret
      exact ⟨⟨-1, rfl, Or.inl rfl⟩, HU.out⟩
    · have HR3 := Lib.hid hr
      have hle3 : r ≤ 1048576 := by omega
      clear hr
      generalize r = r3 at *
      go_wp2_with fail
      go_ret
      exact ⟨⟨r3, rfl, Or.inr ⟨hge3, by rw [HZ.out]; have := HR2.out; have := HR3.out; omega⟩⟩, HU.out⟩

theorem Pa_size : (Tryz.prog.info? 127).map (·.size) = some 4 := by kernel_rfl
set_option maxRecDepth 20000 in
set_option maxHeartbeats 4000000 in
theorem to_Pa (cs : List Value) (x : Pa) (w : World) (fp : List Nat) (hl : szF_Pa x ≤ 1048576) (hR : R_Pa fp w cs x) :
    Calls Tryz.prog 89 #[.agg cs.toArray] w fun e w' => (∃ us, e = .returned (.agg us.toArray) ∧ us.length = 4 ∧ us.toArray.all (·.oneCell') = true ∧ NewQ R_Pa w w' us x) ∧ Upd [] w w' := by
  obtain ⟨v3, f3, rfl, h3, rfl⟩ := hR
  have hn3 := szF_T2_nonneg x.args
  unfold szF_Pa at hl
  have S3 := Lib.hid (fun (W : World) (hu : Upd [] w W) => to_T2 v3 x.args W f3 (by omega) (R_T2k.upd h3 hu (by simp)))
  obtain ⟨wA, hwA⟩ : ∃ wA, wA = ((w.alloc (.cells #[ei x.kind, ei x.num, es x.name, v3] 132)).alloc (.cells #[.int .i64 0, .int .i64 0, .string ⟨#[]⟩, .slice none 0 0] 127)).alloc (.cells #[.int .i64 0, .int .i64 0, .string ⟨#[]⟩, .slice none 0 0] 127) := ⟨_, rfl⟩
  obtain ⟨B, hB⟩ : ∃ B, B = w.heap.size := ⟨_, rfl⟩
  have H0 := Lib.hid (show Three w wA 132 127 B [ei x.kind, ei x.num, es x.name, v3] [.int .i64 0, .int .i64 0, .string ⟨#[]⟩, .slice none 0 0] [.int .i64 0, .int .i64 0, .string ⟨#[]⟩, .slice none 0 0] from by rw [hwA, hB]; exact Three.mk0 w _ _ _ _ _)
  clear h3 hl hn3
  go_enter Tryz.func89, Tryz.ntmps89
  go_upto_region 2 with (fail)
  rw [← hwA, ← hB]
  clear hwA hB
  have p0 := H0.out.pc 0 _ rfl
  have q0 := H0.out.oc 0 _ rfl
  have z0 := H0.out.fz 0
  go_upto_region 3 with (fail)
  obtain ⟨W0, hW0⟩ : ∃ W0, W0 = wA.setCell ⟨B + 2, 0, none⟩ (ei x.kind) := ⟨_, rfl⟩
  rw [← hW0]
  have H1 := Lib.hid (show Three w W0 132 127 B [ei x.kind, ei x.num, es x.name, v3] [.int .i64 0, .int .i64 0, .string ⟨#[]⟩, .slice none 0 0] _ from by rw [hW0]; exact H0.out.store 0 _)
  have D0 := Lib.hid (show Upd [B + 2] wA W0 from by rw [hW0]; exact (Upd.refl _ _).setCell (Or.inr (by simp)) _)
  have ds0 := D0.out.size
  clear p0 q0 z0 hW0
  have p1 := H1.out.pc 1 _ rfl
  have q1 := H1.out.oc 1 _ rfl
  have z1 := H1.out.fz 1
  go_upto_region 4 with (fail)
  obtain ⟨W1, hW1⟩ : ∃ W1, W1 = W0.setCell ⟨B + 2, 1, none⟩ (ei x.num) := ⟨_, rfl⟩
  rw [← hW1]
  have H2 := Lib.hid (show Three w W1 132 127 B [ei x.kind, ei x.num, es x.name, v3] [.int .i64 0, .int .i64 0, .string ⟨#[]⟩, .slice none 0 0] _ from by rw [hW1]; exact H1.out.store 1 _)
  have D1 := Lib.hid (show Upd [B + 2] W0 W1 from by rw [hW1]; exact (Upd.refl _ _).setCell (Or.inr (by simp)) _)
  have ds1 := D1.out.size
  clear p1 q1 z1 hW1
  have p2 := H2.out.pc 2 _ rfl
  have q2 := H2.out.oc 2 _ rfl
  have z2 := H2.out.fz 2
  go_upto_region 5 with (fail)
  obtain ⟨W2, hW2⟩ : ∃ W2, W2 = W1.setCell ⟨B + 2, 2, none⟩ (es x.name) := ⟨_, rfl⟩
  rw [← hW2]
  have H3 := Lib.hid (show Three w W2 132 127 B [ei x.kind, ei x.num, es x.name, v3] [.int .i64 0, .int .i64 0, .string ⟨#[]⟩, .slice none 0 0] _ from by rw [hW2]; exact H2.out.store 2 _)
  have D2 := Lib.hid (show Upd [B + 2] W1 W2 from by rw [hW2]; exact (Upd.refl _ _).setCell (Or.inr (by simp)) _)
  have ds2 := D2.out.size
  clear p2 q2 z2 hW2
  have T3 := Lib.hid (S3.out W2 H3.out.upd)
  clear S3
  have p3 := H3.out.pc 3 _ rfl
  go_wp2_with fail
  refine T3.out.mono ?_
  rintro e w3 ⟨⟨u, rfl, hn⟩, hu⟩
  have G3 := Lib.hid (H3.out.call hu)
  have HN3 := Lib.hid hn
  have E3 := Lib.hid hu
  have hlo3 := H3.out.size
  have hhi3 := hu.size
  obtain ⟨m3, n3, rfl⟩ := New.formP hn
  clear T3 p3 hn hu
  have q3 := G3.out.oc 3 _ rfl
  have z3 := G3.out.fz 3
  go_upto_region 6 with (fail)
  obtain ⟨W3, hW3⟩ : ∃ W3, W3 = w3.setCell ⟨B + 2, 3, none⟩ (.slice m3 x.args.length n3) := ⟨_, rfl⟩
  rw [← hW3]
  have H4 := Lib.hid (show Three w W3 132 127 B [ei x.kind, ei x.num, es x.name, v3] [.int .i64 0, .int .i64 0, .string ⟨#[]⟩, .slice none 0 0] _ from by rw [hW3]; exact G3.out.store 3 _)
  have D3 := Lib.hid (show Upd [B + 2] w3 W3 from by rw [hW3]; exact (Upd.refl _ _).setCell (Or.inr (by simp)) _)
  have ds3 := D3.out.size
  clear q3 z3 hW3
  have HF := Lib.hid (show Three w W3 132 127 B [ei x.kind, ei x.num, es x.name, v3] [.int .i64 0, .int .i64 0, .string ⟨#[]⟩, .slice none 0 0] [ei x.kind, ei x.num, es x.name, .slice m3 x.args.length n3] from H4.out)
  have hlast := HF.out.h2
  have hres := HF.out.h1
  clear G3
  go_wp2_with (first
    | (refine wpList_load_row rfl 127 _ rfl (B + 2) rfl 127 #[ei x.kind, ei x.num, es x.name, .slice m3 x.args.length n3] (0, 0) _ hlast Tryz.underlying127 rfl Pa_size ?_)
    | (refine wpList_store_row rfl 127 _ _ rfl (B + 1) #[ei x.kind, ei x.num, es x.name, .slice m3 x.args.length n3] rfl rfl 127 _ hres Pa_size rfl (by simp [Value.oneCell']) ?_)
    | fail)
  have hC := setRow_heap W3 (B + 1) _ #[ei x.kind, ei x.num, es x.name, .slice m3 x.args.length n3] _ _ hres
  refine bodyPost_ret (results_cell_row Tryz.results89 _ _ (B + 1) 127 _ (0, 0) _ rfl hC Tryz.underlying127 rfl Pa_size) rfl ?_
  have hb := HF.out.base
  have UE : Upd [] w (W3.setRow (B + 1) #[ei x.kind, ei x.num, es x.name, .slice m3 x.args.length n3]) := HF.out.upd.row (Or.inl (by omega)) _
  refine ⟨⟨[ei x.kind, ei x.num, es x.name, .slice m3 x.args.length n3], rfl, rfl, by simp [Value.oneCell'], ?_⟩, UE⟩
  obtain ⟨g3, P3⟩ := Part.of R_T2k HN3.out
  have P3 := P3.upd R_T2k D3.out (by intro b hb; simp at hb; omega)
  have P3 := P3.upd R_T2k (show Upd [B + 1] W3 (W3.setRow (B + 1) #[ei x.kind, ei x.num, es x.name, .slice m3 x.args.length n3]) from (Upd.refl _ _).row (Or.inr (by simp)) _) (by intro b hb; simp at hb; omega)
  refine ⟨g3 ++ [], ⟨_, g3, rfl, P3.r, rfl⟩, ?_, ?_⟩
  · simpa using P3.o
  · intro b hb
    simp only [List.append_nil] at hb
    rcases hb with hb
    · have := P3.b b hb; omega

set_option maxRecDepth 20000 in
set_option maxHeartbeats 2000000 in
theorem eq_Pa (cs ds : List Value) (x : Pa) (w : World) (fp fp2 : List Nat) (hA : R_Pa fp w cs x) (hB : R_Pa fp2 w ds x) :
    Calls Tryz.prog 108 #[.agg cs.toArray, .agg ds.toArray] w fun e w' => e = .returned (.bool true) ∧ Upd [] w w' := by
  obtain ⟨v3, f3, rfl, h3, rfl⟩ := hA
  obtain ⟨u3, g3, rfl, k3, rfl⟩ := hB
  obtain ⟨wA, hwA⟩ : ∃ wA, wA = w.alloc (.cells #[ei x.kind, ei x.num, es x.name, v3] 127) := ⟨_, rfl⟩
  obtain ⟨wB, hwB⟩ : ∃ wB, wB = wA.alloc (.cells #[ei x.kind, ei x.num, es x.name, u3] 127) := ⟨_, rfl⟩
  obtain ⟨BA, hBA⟩ : ∃ BA, BA = w.heap.size := ⟨_, rfl⟩
  have sA : wA.heap.size = BA + 1 := by rw [hwA, hBA]; simp
  have uA : Upd [] w wA := by rw [hwA]; exact (Upd.refl _ _).alloc _
  have uB : Upd [] wA wB := by rw [hwB]; exact (Upd.refl _ _).alloc _
  have HC := Lib.hid (fun W (hu : Upd [] wB W) => show W.cell? ⟨BA, 0, none⟩ = some (ei x.kind) ∧ W.cell? ⟨BA + 1, 0, none⟩ = some (ei x.kind) ∧ W.cell? ⟨BA, 1, none⟩ = some (ei x.num) ∧ W.cell? ⟨BA + 1, 1, none⟩ = some (ei x.num) ∧ W.cell? ⟨BA, 2, none⟩ = some (es x.name) ∧ W.cell? ⟨BA + 1, 2, none⟩ = some (es x.name) ∧ W.cell? ⟨BA, 3, none⟩ = some (v3) ∧ W.cell? ⟨BA + 1, 3, none⟩ = some (u3) from
    ⟨hu.keep (uB.keep (by rw [hwA, hBA]; exact cell_new w _ _ _ rfl 0 _ rfl)), hu.keep (by rw [hwB]; exact cell_new wA _ _ _ sA 0 _ rfl), hu.keep (uB.keep (by rw [hwA, hBA]; exact cell_new w _ _ _ rfl 1 _ rfl)), hu.keep (by rw [hwB]; exact cell_new wA _ _ _ sA 1 _ rfl), hu.keep (uB.keep (by rw [hwA, hBA]; exact cell_new w _ _ _ rfl 2 _ rfl)), hu.keep (by rw [hwB]; exact cell_new wA _ _ _ sA 2 _ rfl), hu.keep (uB.keep (by rw [hwA, hBA]; exact cell_new w _ _ _ rfl 3 _ rfl)), hu.keep (by rw [hwB]; exact cell_new wA _ _ _ sA 3 _ rfl)⟩)
  have S3 := Lib.hid (fun W (hu : Upd [] w W) => show Calls Tryz.prog 136 #[v3, u3] W (fun e w' => e = .returned (.bool true) ∧ Upd [] W w') from by
    have := eq_T2 v3 u3 x.args x.args W f3 g3 (R_T2k.upd h3 hu (by simp)) (R_T2k.upd k3 hu (by simp))
    rw [show (x.args == x.args) = true by simp] at this
    exact this)
  have HU := Lib.hid (uA.trans uB)
  have HX := Lib.hid (Upd.refl [] wB)
  obtain ⟨c0, d0, c1, d1, c2, d2, c3, d3⟩ := HC.out wB (Upd.refl _ _)
  generalize x.kind = t0 at *
  have b0 : (t0 != t0) = false := by simp
  generalize x.num = t1 at *
  have b1 : (t1 != t1) = false := by simp
  generalize x.name = t2 at *
  have b2 : (t2 != t2) = false := by simp
  clear h3 k3 uA uB sA
  go_enter Tryz.func108, Tryz.ntmps108
  go_upto_region 1 with (fail)
  rw [← hwA, ← hwB, ← hBA]
  clear hwA hwB hBA
  have T3 := Lib.hid (S3.out wB HU.out)
  clear S3
  go_wp2_with fail
  refine T3.out.mono ?_
  rintro e w3 ⟨rfl, hu⟩
  have HU := Lib.hid (HU.out.trans hu)
  have HX := Lib.hid (HX.out.trans hu)
  obtain ⟨c0, d0, c1, d1, c2, d2, c3, d3⟩ := HC.out w3 HX.out
  clear T3 hu
  go_wp2_with fail
  go_ret
  exact ⟨rfl, HU.out⟩

end Go.Proofs.YtijmkcnipflpbaaGreatDoor

/-
  Bodies: readings, and what the laws' helper functions return and make.
-/
namespace Go.Proofs.YtijmkcnipflpbaaGreatDoor
open Go.RowKit


abbrev R_Pa1 : Rp (List Pa) := slQ 4 R_Pa
theorem R_Pa1k : Kept R_Pa1 := slQ_kept R_Pak
def szF_Pa1 (xs : List Pa) : Int := xs.length + (xs.map szF_Pa).sum
def mkF_Pa1 (xs : List Pa) : Int := (xs.map mkF_Pa).sum
def Pa1Ok (xs : List Pa) : Prop := ∀ x ∈ xs, PaOk x
theorem szF_Pa1_sum (xs : List Pa) : 0 ≤ (xs.map szF_Pa).sum := by
  induction xs with
  | nil => simp
  | cons r rs ih => simp only [List.map_cons, List.sum_cons]; have := szF_Pa_nonneg r; omega
theorem szF_Pa1_nonneg (xs : List Pa) : 0 ≤ szF_Pa1 xs := by have := szF_Pa1_sum xs; unfold szF_Pa1; omega
theorem szF_Pa1_snoc (xs : List Pa) (k : Nat) (h : k < xs.length) : ((xs.take (k + 1)).map szF_Pa).sum = ((xs.take k).map szF_Pa).sum + szF_Pa xs[k] := by
  rw [List.take_succ_eq_append_getElem h, List.map_append, List.sum_append]; simp
theorem szF_Pa1_take (xs : List Pa) (k : Nat) : ((xs.take k).map szF_Pa).sum ≤ (xs.map szF_Pa).sum := by
  have h := szF_Pa1_sum (xs.drop k)
  conv => rhs; rw [← List.take_append_drop k xs]
  rw [List.map_append, List.sum_append]; omega
theorem mkF_Pa1_nonneg (xs : List Pa) : 0 ≤ mkF_Pa1 xs := by
  unfold mkF_Pa1; induction xs with
  | nil => simp
  | cons r rs ih => simp only [List.map_cons, List.sum_cons]; have := mkF_Pa_nonneg r; omega
theorem mkF_Pa1_le (xs : List Pa) : mkF_Pa1 xs ≤ 16 * szF_Pa1 xs := by
  unfold mkF_Pa1 szF_Pa1; induction xs with
  | nil => simp
  | cons r rs ih => simp only [List.map_cons, List.sum_cons, List.length_cons]; have := mkF_Pa_le r; omega
theorem mkF_Pa1_snoc (xs : List Pa) (k : Nat) (h : k < xs.length) : mkF_Pa1 (xs.take (k + 1)) = mkF_Pa1 (xs.take k) + mkF_Pa xs[k] := by
  unfold mkF_Pa1; rw [List.take_succ_eq_append_getElem h, List.map_append, List.sum_append]; simp
theorem mkF_Pa1_take (xs : List Pa) (k : Nat) : mkF_Pa1 (xs.take k) ≤ mkF_Pa1 xs := by
  have h := mkF_Pa1_nonneg (xs.drop k)
  conv => rhs; rw [← List.take_append_drop k xs]
  unfold mkF_Pa1 at *; rw [List.map_append, List.sum_append]; omega
def up_Pa (k : Int) (x : Pa) : Pa := ⟨(k), (k + 1), mtx (k + 1 + 1), mkd_T2 (k + 1 + 1 + 1) x.args⟩
def mkd_Pa1 : Int → List Pa → List Pa
  | _, [] => []
  | k, r :: rs => up_Pa k r :: mkd_Pa1 (k + mkF_Pa r) rs
@[simp] theorem mkd_Pa1_length (k : Int) (xss : List Pa) : (mkd_Pa1 k xss).length = xss.length := by
  induction xss generalizing k with
  | nil => rfl
  | cons r rs ih => simp [mkd_Pa1, ih]
theorem mkd_Pa1_append (k : Int) (xs ys : List Pa) : mkd_Pa1 k (xs ++ ys) = mkd_Pa1 k xs ++ mkd_Pa1 (k + mkF_Pa1 xs) ys := by
  induction xs generalizing k with
  | nil => simp [mkd_Pa1, mkF_Pa1]
  | cons r rs ih => simp only [List.cons_append, mkd_Pa1, ih, mkF_Pa1, List.map_cons, List.sum_cons, Int.add_assoc]
theorem mkd_Pa1_set (xss : List Pa) (k0 : Int) (k : Nat) (hk : k < xss.length) :
    (mkd_Pa1 k0 (xss.take k) ++ xss.drop k).set k (up_Pa (k0 + mkF_Pa1 (xss.take k)) xss[k]) = mkd_Pa1 k0 (xss.take (k + 1)) ++ xss.drop (k + 1) := by
  have hl : (mkd_Pa1 k0 (xss.take k)).length = k := by simp; omega
  rw [List.set_append_right _ _ (by omega), hl, Nat.sub_self, List.drop_eq_getElem_cons hk, List.set_cons_zero, List.take_succ_eq_append_getElem hk, mkd_Pa1_append]
  simp [mkd_Pa1]
set_option maxRecDepth 20000 in
set_option maxHeartbeats 1600000 in
theorem sz_Pa1 (v : Value) (xs : List Pa) (left : Int) (w : World) (fp : List Nat) (hl : 0 ≤ left) (hl2 : left ≤ 1048576) (hR : R_Pa1 fp w [v] xs) (hS : Pa1Ok xs) :
    Calls Tryz.prog 58 #[v, .int .i64 left] w fun e w' => (∃ r : Int, e = .returned (.int .i64 r) ∧ (r = -1 ∨ (0 ≤ r ∧ r + szF_Pa1 xs = left))) ∧ Upd [] w w' := by
  obtain ⟨a, cap, rfl, h1, h2, hc⟩ := slQ_open hR
  unfold maxLen at h2
  have HS := Lib.hid hS
  have HC := Lib.hid hc
  clear hR hS hc
  by_cases hlt : left - (xs.length : Int) < 0
  · go_enter Tryz.func58, Tryz.ntmps58
    go_wp2_with fail
    go_ret
    exact ⟨⟨-1, rfl, Or.inl rfl⟩, Upd.refl _ _⟩
  · have hge : 0 ≤ left - (xs.length : Int) := by omega
    clear hlt
    go_enter Tryz.func58, Tryz.ntmps58
    go_wp2_with fail
    go_loopw [1, 5] (fun kk i wr => ∃ (k : Nat) (l : Int), k ≤ xs.length ∧ i = .int .i64 k ∧ kk = .int .i64 l ∧ 0 ≤ l ∧ l ≤ 1048576 ∧ Hid (l + xs.length + ((xs.take k).map szF_Pa).sum = left) ∧ Hid (Upd [] w wr)) (fun _ i _ => xs.length - (intOf i).toNat)
    case atStart => exact ⟨0, _, Nat.zero_le _, rfl, rfl, hge, by omega, Lib.hid (by simp), Lib.hid (Upd.refl _ _)⟩
    case round =>
      obtain ⟨wo, rfl⟩ : ∃ wo : World, wo = wr := ⟨_, rfl⟩
      obtain ⟨k, l, hk, rfl, rfl, hl0, hl9, HL, HU⟩ := hrel
      by_cases hlt : k < xs.length
      · obtain ⟨b, off, u, f, rfl, -, -, -, hcell, -, hr⟩ := HC.out k hlt
        have HR := Lib.hid (R_Pak.upd hr HU.out (by simp))
        obtain ⟨v3, f3, rfl, -, -⟩ := hr
        have p0 := HU.out.keep (hcell 0 _ rfl)
        have p1 := HU.out.keep (hcell 1 _ rfl)
        have p2 := HU.out.keep (hcell 2 _ rfl)
        have p3 := HU.out.keep (hcell 3 _ rfl)
        simp only [Nat.add_zero] at p0
        have HT := Lib.hid (szF_Pa1_snoc xs k hlt)
        have HO := Lib.hid (HS.out xs[k] (List.getElem_mem hlt))
        clear hcell
        generalize hx : xs[k] = x at *
        clear hx
        have S1 := Lib.hid (sz_Pa _ x l wo f hl0 hl9 HR.out HO.out)
        have hzz := szF_Pa_nonneg x
        generalize szF_Pa x = zz at *
        go_wp2_with fail
        refine S1.out.mono ?_
        rintro e w1 ⟨⟨r, rfl, hr2⟩, hu⟩
        have HU1 := Lib.hid (HU.out.trans hu)
        clear S1 hu
        rcases hr2 with rfl | ⟨hr2, hr3⟩
        · go_wp2_with fail
          go_ret
          exact ⟨⟨-1, rfl, Or.inl rfl⟩, HU1.out⟩
        · have H3 := Lib.hid hr3
          have hr4 : r ≤ 1048576 := by omega
          clear hr3
          go_wp2_with fail
          go_roundw
          case rel => exact ⟨k + 1, r, by omega, by go_num, rfl, hr2, hr4, Lib.hid (by have := H3.out; have := HL.out; rw [HT.out]; omega), HU1⟩
          case measure => simp [intOf]; omega
      · obtain rfl : k = xs.length := by omega
        go_wp2_with fail
        go_ret
        exact ⟨⟨l, rfl, Or.inr ⟨hl0, by have := HL.out; rw [List.take_length] at this; unfold szF_Pa1; omega⟩⟩, HU.out⟩

theorem Tryz.infoPa : (Tryz.prog.info? 127).map (fun i => (i.zero, i.size, i.bytes)) = some (some (.agg #[.int .i64 0, .int .i64 0, .string ⟨#[]⟩, .slice none 0 0]), 4, 56) := by kernel_rfl
set_option maxRecDepth 20000 in
set_option maxHeartbeats 2000000 in
theorem to_Pa1 (v : Value) (xs : List Pa) (w : World) (fp : List Nat) (hl : szF_Pa1 xs ≤ 1048576) (hR : R_Pa1 fp w [v] xs) :
    Calls Tryz.prog 64 #[v] w fun e w' => (∃ v', e = .returned v' ∧ New R_Pa1 w w' v' xs) ∧ Upd [] w w' := by
  obtain ⟨i0, hi, hz0, hz1, hz2⟩ := info_parts Tryz.infoPa
  obtain ⟨a, cap, rfl, h1, h2, hc⟩ := slQ_open hR
  unfold maxLen at h2
  have htn := szF_Pa1_sum xs
  unfold szF_Pa1 at hl
  have HC := Lib.hid hc
  clear hR hc
  have hm1 : i0.bytes * xs.length ≤ 281474976710656 := by rw [hz2]; omega
  go_enter Tryz.func64, Tryz.ntmps64
  go_wp2_with (first
    | (at_make; refine wpList_make_full _ rfl _ _ 76 rfl w.heap.size 127 i0 (.agg #[.int .i64 0, .int .i64 0, .string ⟨#[]⟩, .slice none 0 0]) 4 Tryz.underlying76 hi hz0 hz1 .i64 .i64 _ _ xs.length rfl rfl rfl rfl hm1 (by unfold maxLen; omega) (Nat.le_refl _) ?_; intro w1 hown hgrow)
    | fail)
  have hmd := made_Q ([.int .i64 0, .int .i64 0, .string ⟨#[]⟩, .slice none 0 0] : List Value) (n := 4) rfl (by decide) xs.length
  rw [hmd] at hown
  have hsz : w.heap.size < w1.heap.size := hown.lt w.heap.size rfl |>.2
  have hU : Upd [] w w1 := (Upd.refl _ _).grown hgrow (by simp)
  clear hgrow hm1 hmd
  go_loopw [4] (fun i wr => ∃ (k : Nat) (us : List (List Value)), k ≤ xs.length ∧ i = .int .i64 k ∧ Hid (Upd [] w wr) ∧ w.heap.size < wr.heap.size ∧
      Hid (wr.ownsRow w.heap.size 127 4 (.slice (some ⟨w.heap.size, 0, none⟩) xs.length xs.length) xs.length (us.flatten ++ (List.replicate (xs.length - k) ([.int .i64 0, .int .i64 0, .string ⟨#[]⟩, .slice none 0 0] : List Value)).flatten)) ∧
      Hid (RowsQ 4 R_Pa w.heap.size [w.heap.size] wr us (xs.take k)))
    (fun i _ => xs.length - (intOf i).toNat)
  case atStart => exact ⟨0, [], Nat.zero_le _, rfl, Lib.hid hU, hsz, Lib.hid (by simpa using hown), Lib.hid (RowsQ.nil _ _ _ _ _)⟩
  case round =>
    clear hown hU hsz
    obtain ⟨wo, rfl⟩ : ∃ wo : World, wo = wr := ⟨_, rfl⟩
    obtain ⟨k, us, hk, rfl, HU, hsz, HO, HW⟩ := hrel
    have hlu : us.length = k := by have := HW.out.length; simp at this; omega
    by_cases hlt : k < xs.length
    · obtain ⟨b, off, u, f, rfl, -, -, -, hcell, -, hr⟩ := HC.out k hlt
      have HR := Lib.hid (R_Pak.upd hr HU.out (by simp))
      obtain ⟨v3, f3, rfl, -, -⟩ := hr
      have p0 := HU.out.keep (hcell 0 _ rfl)
      have p1 := HU.out.keep (hcell 1 _ rfl)
      have p2 := HU.out.keep (hcell 2 _ rfl)
      have p3 := HU.out.keep (hcell 3 _ rfl)
      simp only [Nat.add_zero] at p0
      have hxl : szF_Pa xs[k] ≤ 1048576 := by
        have h1 := szF_Pa1_snoc xs k hlt
        have h2 := szF_Pa1_take xs (k + 1)
        have h3 := szF_Pa1_sum (xs.take k)
        omega
      have HTK := Lib.hid (List.take_succ_eq_append_getElem hlt)
      have HLU := Lib.hid hlu
      clear hcell hlu
      generalize hx : xs[k] = x at *
      clear hx
      have S1 := Lib.hid (to_Pa _ x wo f hxl HR.out)
      clear hxl
      go_wp2_with fail
      refine S1.out.mono ?_
      rintro e w2 ⟨⟨u2, rfl, hlen, hone, hnew⟩, hu2⟩
      have hown2 := ownsRow_upd HO.out hu2
      have hrep : (List.replicate (xs.length - k) ([.int .i64 0, .int .i64 0, .string ⟨#[]⟩, .slice none 0 0] : List Value)).flatten.length = (xs.length - k) * 4 := by
        rw [flat_len (n := 4) (by intro y hy; rw [(List.mem_replicate.1 hy).2]; rfl)]; simp
      have hfl : us.flatten.length = k * 4 := by rw [flat_len HW.out.each, HLU.out]
      have hth : w2.there w.heap.size (k * 4) u2.toArray.size := fun j hj => by
        have hj' : j < 4 := by simpa [hlen] using hj
        refine ⟨?_, hown2.frozenAt _⟩
        rw [hown2.cellAt (k * 4 + j) (by omega), List.getElem?_eq_getElem (by rw [List.length_append, hfl, hrep]; omega)]; rfl
      have hszz : (Tryz.prog.info? 127).map (·.size) = some u2.toArray.size := by rw [Pa_size]; simp [hlen]
      have hrun := run_storeCells_cells (P := Tryz.prog) w.heap.size (k * 4) u2 0 w2 (fun j hj => by simpa using (hth j (by simpa using hj)).1) (fun j hj => by simpa using (hth j (by simpa using hj)).2) (fun v hv => (Array.all_eq_true_iff_forall_mem.1 hone) v (by simpa using hv))
      simp only [Nat.add_zero] at hrun
      have hst := ownsRow_setCells u2 (k * 4) hown2 (by rw [hlen]; omega)
      rw [show xs.length - k = (xs.length - (k + 1)) + 1 by omega, ← HLU.out, filled_set us ([.int .i64 0, .int .i64 0, .string ⟨#[]⟩, .slice none 0 0] : List Value) _ 4 rfl HW.out.each u2 hlen, HLU.out] at hst
      have hw3 : Upd [w.heap.size] w2 (w2.setCells w.heap.size (k * 4) u2) := upd_setCells _ (Or.inr (by simp)) _ _ (Upd.refl _ _)
      have hrows2 := (HW.out.push R_Pak hu2 hnew hlen (by omega) (by simpa using hsz)).upd R_Pak hw3 (by simp)
      rw [← HTK.out] at hrows2
      have hU2 : Upd [] w (w2.setCells w.heap.size (k * 4) u2) := upd_setCells _ (Or.inl (Nat.le_refl _)) _ _ (HU.out.trans hu2)
      have hsz2 : w.heap.size < (w2.setCells w.heap.size (k * 4) u2).heap.size := by have := hu2.size; have := hw3.size; omega
      have HS := Lib.hid (And.intro hst (And.intro hrows2 hU2))
      clear hown2 hrep hfl hst hw3 hrows2 hU2 hnew hu2 S1 HO HW HU
      clear hth hszz hone
      go_wp2_with fail
      go_roundw
      case rel => exact ⟨k + 1, us ++ [u2], by omega, by go_num, Lib.hid HS.out.2.2, hsz2, Lib.hid HS.out.1, Lib.hid HS.out.2.1⟩
      case measure => simp [intOf]; omega
    · obtain rfl : k = xs.length := by omega
      go_wp2_with fail
      go_ret
      have hrows := HW.out
      have hown := HO.out
      rw [List.take_length] at hrows
      refine ⟨⟨_, rfl, hrows.new (e := 127) (by simpa using hown) (by simp [Value.ownBlock]) (Nat.le_refl _)⟩, HU.out⟩

set_option maxRecDepth 20000 in
set_option maxHeartbeats 2000000 in
theorem eq_Pa1 (v1 v2 : Value) (xs : List Pa) (w : World) (fp fp2 : List Nat) (h1 : R_Pa1 fp w [v1] xs) (h2 : R_Pa1 fp2 w [v2] xs) :
    Calls Tryz.prog 77 #[v1, v2] w fun e w' => e = .returned (.bool true) ∧ Upd [] w w' := by
  obtain ⟨a1, c1, rfl, hl1, hm1, hc1⟩ := slQ_open h1
  obtain ⟨a2, c2, rfl, hl2, hm2, hc2⟩ := slQ_open h2
  unfold maxLen at hm1 hm2
  have HC1 := Lib.hid hc1
  have HC2 := Lib.hid hc2
  have hbe : ((xs.length : Int) != (xs.length : Int)) = false := by simp
  clear h1 h2 hc1 hc2
  go_enter Tryz.func77, Tryz.ntmps77
  go_wp2_with fail
  go_loopw [5] (fun i wr => ∃ k : Nat, k ≤ xs.length ∧ i = .int .i64 k ∧ Hid (Upd [] w wr)) (fun i _ => xs.length - (intOf i).toNat)
  case atStart => exact ⟨0, Nat.zero_le _, rfl, Lib.hid (Upd.refl _ _)⟩
  case round =>
    obtain ⟨wo, rfl⟩ : ∃ wo : World, wo = wr := ⟨_, rfl⟩
    obtain ⟨k, hk, rfl, HU⟩ := hrel
    by_cases hlt : k < xs.length
    · obtain ⟨b1, o1, u, f, rfl, -, -, -, hcell, -, hr⟩ := HC1.out k hlt
      obtain ⟨b2, o2, u', f', rfl, -, -, -, hcell2, -, hr2⟩ := HC2.out k hlt
      have HR := Lib.hid (R_Pak.drewN (R_Pak.upd hr HU.out (by simp)))
      have HR2 := Lib.hid (R_Pak.drewN (R_Pak.upd hr2 HU.out (by simp)))
      obtain ⟨v3, f3, rfl, -, -⟩ := hr
      obtain ⟨u3, _, rfl, -, -⟩ := hr2
      have p0 := HU.out.keep (hcell 0 _ rfl)
      have p1 := HU.out.keep (hcell 1 _ rfl)
      have p2 := HU.out.keep (hcell 2 _ rfl)
      have p3 := HU.out.keep (hcell 3 _ rfl)
      have q0 := HU.out.keep (hcell2 0 _ rfl)
      have q1 := HU.out.keep (hcell2 1 _ rfl)
      have q2 := HU.out.keep (hcell2 2 _ rfl)
      have q3 := HU.out.keep (hcell2 3 _ rfl)
      simp only [Nat.add_zero] at p0 q0
      clear hcell hcell2
      generalize hx : xs[k] = x at *
      clear hx
      have S1 := Lib.hid (fun W (hu : Upd [] wo W) => eq_Pa _ _ x W f f' (R_Pak.upd (HR.out 0) hu (by simp)) (R_Pak.upd (HR2.out 0) hu (by simp)))
      clear HR HR2
      obtain ⟨t0, ht0⟩ : ∃ t, t = ei x.kind := ⟨_, rfl⟩
      rw [← ht0] at p0 q0 S1
      clear ht0
      obtain ⟨t1, ht1⟩ : ∃ t, t = ei x.num := ⟨_, rfl⟩
      rw [← ht1] at p1 q1 S1
      clear ht1
      obtain ⟨t2, ht2⟩ : ∃ t, t = es x.name := ⟨_, rfl⟩
      rw [← ht2] at p2 q2 S1
      clear ht2
      go_wp2_with fail
      go_region_held3 (fun w' => w'.cell? ⟨b1, o1 + k * 4, none⟩ = some (t0) ∧ w'.cell? ⟨b1, o1 + k * 4 + 1, none⟩ = some (t1) ∧ w'.cell? ⟨b1, o1 + k * 4 + 2, none⟩ = some (t2) ∧ w'.cell? ⟨b1, o1 + k * 4 + 3, none⟩ = some (v3) ∧ w'.cell? ⟨b2, o2 + k * 4, none⟩ = some (t0) ∧ w'.cell? ⟨b2, o2 + k * 4 + 1, none⟩ = some (t1) ∧ w'.cell? ⟨b2, o2 + k * 4 + 2, none⟩ = some (t2) ∧ w'.cell? ⟨b2, o2 + k * 4 + 3, none⟩ = some (u3)) (go_keep) (((with_reducible refine (S1.out _ (by repeat (first | exact Upd.refl _ _ | refine Upd.drew ?_ | refine Upd.drewN ?_ _))).mono ?_); rintro e w1 ⟨rfl, hu1⟩; have a0 := hu1.keep p0; have b0 := hu1.keep q0; have a1 := hu1.keep p1; have b1 := hu1.keep q1; have a2 := hu1.keep p2; have b2 := hu1.keep q2; have a3 := hu1.keep p3; have b3 := hu1.keep q3; skip))
      all_goals
        have HU1 := Lib.hid (HU.out.drew.trans hu1)
        clear hu1 HU
        go_wp2_with fail
        go_roundw
        case rel => exact ⟨k + 1, by omega, by go_num, HU1⟩
        case measure => simp [intOf]; omega
    · have hge : xs.length ≤ k := by omega
      go_wp2_with fail
      go_ret
      exact ⟨rfl, HU.out⟩

end Go.Proofs.YtijmkcnipflpbaaGreatDoor

/-
  Definitions: readings, and what the laws' helper functions return and make.
-/
namespace Go.Proofs.YtijmkcnipflpbaaGreatDoor
open Go.RowKit

/-- its 3 cells. -/
def R_De : Rp De := fun fp w cs x => ∃ (v2 : Value) (f2 : List Nat), cs = [es x.name, ei x.pars, v2] ∧ R_Pa1 f2 w [v2] x.body ∧ fp = f2 ++ []
theorem R_Dek : Kept R_De := by
  constructor
  · rintro fp w cs x ⟨v2, f2, rfl, h2, rfl⟩ b hb
    exact R_Pa1k.lt h2 b (by simpa using hb)
  · rintro fp w w' cs x ⟨v2, f2, rfl, h2, rfl⟩ hs hb
    exact ⟨v2, f2, rfl, R_Pa1k.frame h2 hs (fun b h => hb b (by simp [h])), rfl⟩
def szF_De (x : De) : Int := (x.name.length : Int) + szF_Pa1 x.body
def mkF_De (x : De) : Int := 1 + 1 + mkF_Pa1 x.body
theorem szF_De_nonneg (x : De) : 0 ≤ szF_De x := by have := szF_Pa1_nonneg x.body; unfold szF_De; omega
theorem mkF_De_nonneg (x : De) : 0 ≤ mkF_De x := by have := mkF_Pa1_nonneg x.body; unfold mkF_De; omega
theorem mkF_De_le (x : De) : mkF_De x ≤ 16 * szF_De x + 2 := by have := mkF_Pa1_le x.body; unfold mkF_De szF_De; omega
/-- what each text's length is below. -/
def DeOk (x : De) : Prop := x.name.length ≤ 9223372036854775807 ∧ Pa1Ok x.body

set_option maxRecDepth 20000 in
set_option maxHeartbeats 1600000 in
theorem sz_De (cs : List Value) (x : De) (left : Int) (w : World) (fp : List Nat) (hl : 0 ≤ left) (hl2 : left ≤ 1048576) (hR : R_De fp w cs x) (hS : DeOk x) :
    Calls Tryz.prog 37 #[.agg cs.toArray, .int .i64 left] w fun e w' => (∃ r : Int, e = .returned (.int .i64 r) ∧ (r = -1 ∨ (0 ≤ r ∧ r + szF_De x = left))) ∧ Upd [] w w' := by
  obtain ⟨v2, f2, rfl, h2, rfl⟩ := hR
  obtain ⟨wA, hwA⟩ : ∃ wA, wA = w.alloc (.cells #[es x.name, ei x.pars, v2] 67) := ⟨_, rfl⟩
  obtain ⟨BA, hBA⟩ : ∃ BA, BA = w.heap.size := ⟨_, rfl⟩
  have uA : Upd [] w wA := by rw [hwA]; exact (Upd.refl _ _).alloc _
  have S2 := Lib.hid (fun (W : World) (hu : Upd [] w W) (l : Int) (q1 : 0 ≤ l) (q2 : l ≤ 1048576) => sz_Pa1 v2 x.body l W f2 q1 q2 (R_Pa1k.upd h2 hu (by simp)) hS.2)
  have HC := Lib.hid (fun W (hu : Upd [] wA W) => show W.cell? ⟨BA, 0, none⟩ = some (es x.name) ∧ W.cell? ⟨BA, 2, none⟩ = some (v2) from
    ⟨hu.keep (by rw [hwA, hBA]; exact cell_new w _ _ _ rfl 0 _ rfl), hu.keep (by rw [hwA, hBA]; exact cell_new w _ _ _ rfl 2 _ rfl)⟩)
  have HZ := Lib.hid (show szF_De x = (x.name.length : Int) + szF_Pa1 x.body from rfl)
  have hs0 : x.name.length ≤ 9223372036854775807 := hS.1
  have hn2 := szF_Pa1_nonneg x.body
  generalize szF_Pa1 x.body = z2 at *
  generalize x.name = t0 at *
  generalize szF_De x = ZZ at *
  obtain ⟨c0, c2⟩ := HC.out wA (Upd.refl _ _)
  have HU := Lib.hid uA
  have HX := Lib.hid (Upd.refl [] wA)
  clear h2 hS uA
  go_enter Tryz.func37, Tryz.ntmps37
  go_upto_region 1 with (fail)
  rw [← hwA, ← hBA]
  clear hwA hBA
  by_cases hlt0 : left - (t0.length : Int) < 0
  · go_wp2_with fail
    go_ret
    exact ⟨⟨-1, rfl, Or.inl rfl⟩, HU.out⟩
  · obtain ⟨r0, hr0⟩ : ∃ r0 : Int, r0 = left - (t0.length : Int) := ⟨_, rfl⟩
    have hge0 : 0 ≤ r0 := by omega
    have hle0 : r0 ≤ 1048576 := by omega
    have HR0 := Lib.hid hr0
    rw [← hr0] at hlt0
    have hse0 : left - (t0.length : Int) = r0 := hr0.symm
    clear hr0
    have T2 := Lib.hid (S2.out wA HU.out r0 hge0 hle0)
    clear S2
    go_wp2_with fail
    refine T2.out.mono ?_
    rintro e w2 ⟨⟨r, rfl, hr⟩, hu⟩
    clear T2
    have HU := Lib.hid (HU.out.trans hu)
    have HX := Lib.hid (HX.out.trans hu)
    obtain ⟨c0, c2⟩ := HC.out w2 HX.out
    clear hu
    rcases hr with rfl | ⟨hge2, hr⟩
    · go_wp2_with fail
      go_ret
      exact ⟨⟨-1, rfl, Or.inl rfl⟩, HU.out⟩
    · have HR2 := Lib.hid hr
      have hle2 : r ≤ 1048576 := by omega
      clear hr
      generalize r = r2 at *
      go_wp2_with fail
      go_ret
      exact ⟨⟨r2, rfl, Or.inr ⟨hge2, by rw [HZ.out]; have := HR0.out; have := HR2.out; omega⟩⟩, HU.out⟩

theorem De_size : (Tryz.prog.info? 78).map (·.size) = some 3 := by kernel_rfl
set_option maxRecDepth 20000 in
set_option maxHeartbeats 4000000 in
theorem to_De (cs : List Value) (x : De) (w : World) (fp : List Nat) (hl : szF_De x ≤ 1048576) (hR : R_De fp w cs x) :
    Calls Tryz.prog 41 #[.agg cs.toArray] w fun e w' => (∃ us, e = .returned (.agg us.toArray) ∧ us.length = 3 ∧ us.toArray.all (·.oneCell') = true ∧ NewQ R_De w w' us x) ∧ Upd [] w w' := by
  obtain ⟨v2, f2, rfl, h2, rfl⟩ := hR
  have hn2 := szF_Pa1_nonneg x.body
  unfold szF_De at hl
  have S2 := Lib.hid (fun (W : World) (hu : Upd [] w W) => to_Pa1 v2 x.body W f2 (by omega) (R_Pa1k.upd h2 hu (by simp)))
  obtain ⟨wA, hwA⟩ : ∃ wA, wA = ((w.alloc (.cells #[es x.name, ei x.pars, v2] 67)).alloc (.cells #[.string ⟨#[]⟩, .int .i64 0, .slice none 0 0] 78)).alloc (.cells #[.string ⟨#[]⟩, .int .i64 0, .slice none 0 0] 78) := ⟨_, rfl⟩
  obtain ⟨B, hB⟩ : ∃ B, B = w.heap.size := ⟨_, rfl⟩
  have H0 := Lib.hid (show Three w wA 67 78 B [es x.name, ei x.pars, v2] [.string ⟨#[]⟩, .int .i64 0, .slice none 0 0] [.string ⟨#[]⟩, .int .i64 0, .slice none 0 0] from by rw [hwA, hB]; exact Three.mk0 w _ _ _ _ _)
  clear h2 hl hn2
  go_enter Tryz.func41, Tryz.ntmps41
  go_upto_region 2 with (fail)
  rw [← hwA, ← hB]
  clear hwA hB
  have p0 := H0.out.pc 0 _ rfl
  have q0 := H0.out.oc 0 _ rfl
  have z0 := H0.out.fz 0
  go_upto_region 3 with (fail)
  obtain ⟨W0, hW0⟩ : ∃ W0, W0 = wA.setCell ⟨B + 2, 0, none⟩ (es x.name) := ⟨_, rfl⟩
  rw [← hW0]
  have H1 := Lib.hid (show Three w W0 67 78 B [es x.name, ei x.pars, v2] [.string ⟨#[]⟩, .int .i64 0, .slice none 0 0] _ from by rw [hW0]; exact H0.out.store 0 _)
  have D0 := Lib.hid (show Upd [B + 2] wA W0 from by rw [hW0]; exact (Upd.refl _ _).setCell (Or.inr (by simp)) _)
  have ds0 := D0.out.size
  clear p0 q0 z0 hW0
  have p1 := H1.out.pc 1 _ rfl
  have q1 := H1.out.oc 1 _ rfl
  have z1 := H1.out.fz 1
  go_upto_region 4 with (fail)
  obtain ⟨W1, hW1⟩ : ∃ W1, W1 = W0.setCell ⟨B + 2, 1, none⟩ (ei x.pars) := ⟨_, rfl⟩
  rw [← hW1]
  have H2 := Lib.hid (show Three w W1 67 78 B [es x.name, ei x.pars, v2] [.string ⟨#[]⟩, .int .i64 0, .slice none 0 0] _ from by rw [hW1]; exact H1.out.store 1 _)
  have D1 := Lib.hid (show Upd [B + 2] W0 W1 from by rw [hW1]; exact (Upd.refl _ _).setCell (Or.inr (by simp)) _)
  have ds1 := D1.out.size
  clear p1 q1 z1 hW1
  have T2 := Lib.hid (S2.out W1 H2.out.upd)
  clear S2
  have p2 := H2.out.pc 2 _ rfl
  go_wp2_with fail
  refine T2.out.mono ?_
  rintro e w2 ⟨⟨u, rfl, hn⟩, hu⟩
  have G2 := Lib.hid (H2.out.call hu)
  have HN2 := Lib.hid hn
  have E2 := Lib.hid hu
  have hlo2 := H2.out.size
  have hhi2 := hu.size
  obtain ⟨m2, n2, rfl⟩ := New.formQ hn
  clear T2 p2 hn hu
  have q2 := G2.out.oc 2 _ rfl
  have z2 := G2.out.fz 2
  go_upto_region 5 with (fail)
  obtain ⟨W2, hW2⟩ : ∃ W2, W2 = w2.setCell ⟨B + 2, 2, none⟩ (.slice m2 x.body.length n2) := ⟨_, rfl⟩
  rw [← hW2]
  have H3 := Lib.hid (show Three w W2 67 78 B [es x.name, ei x.pars, v2] [.string ⟨#[]⟩, .int .i64 0, .slice none 0 0] _ from by rw [hW2]; exact G2.out.store 2 _)
  have D2 := Lib.hid (show Upd [B + 2] w2 W2 from by rw [hW2]; exact (Upd.refl _ _).setCell (Or.inr (by simp)) _)
  have ds2 := D2.out.size
  clear q2 z2 hW2
  have HF := Lib.hid (show Three w W2 67 78 B [es x.name, ei x.pars, v2] [.string ⟨#[]⟩, .int .i64 0, .slice none 0 0] [es x.name, ei x.pars, .slice m2 x.body.length n2] from H3.out)
  have hlast := HF.out.h2
  have hres := HF.out.h1
  clear G2
  go_wp2_with (first
    | (refine wpList_load_row rfl 78 _ rfl (B + 2) rfl 78 #[es x.name, ei x.pars, .slice m2 x.body.length n2] (0, 0) _ hlast Tryz.underlying78 rfl De_size ?_)
    | (refine wpList_store_row rfl 78 _ _ rfl (B + 1) #[es x.name, ei x.pars, .slice m2 x.body.length n2] rfl rfl 78 _ hres De_size rfl (by simp [Value.oneCell']) ?_)
    | fail)
  have hC := setRow_heap W2 (B + 1) _ #[es x.name, ei x.pars, .slice m2 x.body.length n2] _ _ hres
  refine bodyPost_ret (results_cell_row Tryz.results41 _ _ (B + 1) 78 _ (0, 0) _ rfl hC Tryz.underlying78 rfl De_size) rfl ?_
  have hb := HF.out.base
  have UE : Upd [] w (W2.setRow (B + 1) #[es x.name, ei x.pars, .slice m2 x.body.length n2]) := HF.out.upd.row (Or.inl (by omega)) _
  refine ⟨⟨[es x.name, ei x.pars, .slice m2 x.body.length n2], rfl, rfl, by simp [Value.oneCell'], ?_⟩, UE⟩
  obtain ⟨g2, P2⟩ := Part.of R_Pa1k HN2.out
  have P2 := P2.upd R_Pa1k D2.out (by intro b hb; simp at hb; omega)
  have P2 := P2.upd R_Pa1k (show Upd [B + 1] W2 (W2.setRow (B + 1) #[es x.name, ei x.pars, .slice m2 x.body.length n2]) from (Upd.refl _ _).row (Or.inr (by simp)) _) (by intro b hb; simp at hb; omega)
  refine ⟨g2 ++ [], ⟨_, g2, rfl, P2.r, rfl⟩, ?_, ?_⟩
  · simpa using P2.o
  · intro b hb
    simp only [List.append_nil] at hb
    rcases hb with hb
    · have := P2.b b hb; omega

set_option maxRecDepth 20000 in
set_option maxHeartbeats 2000000 in
theorem eq_De (cs ds : List Value) (x : De) (w : World) (fp fp2 : List Nat) (hA : R_De fp w cs x) (hB : R_De fp2 w ds x) :
    Calls Tryz.prog 50 #[.agg cs.toArray, .agg ds.toArray] w fun e w' => e = .returned (.bool true) ∧ Upd [] w w' := by
  obtain ⟨v2, f2, rfl, h2, rfl⟩ := hA
  obtain ⟨u2, g2, rfl, k2, rfl⟩ := hB
  obtain ⟨wA, hwA⟩ : ∃ wA, wA = w.alloc (.cells #[es x.name, ei x.pars, v2] 78) := ⟨_, rfl⟩
  obtain ⟨wB, hwB⟩ : ∃ wB, wB = wA.alloc (.cells #[es x.name, ei x.pars, u2] 78) := ⟨_, rfl⟩
  obtain ⟨BA, hBA⟩ : ∃ BA, BA = w.heap.size := ⟨_, rfl⟩
  have sA : wA.heap.size = BA + 1 := by rw [hwA, hBA]; simp
  have uA : Upd [] w wA := by rw [hwA]; exact (Upd.refl _ _).alloc _
  have uB : Upd [] wA wB := by rw [hwB]; exact (Upd.refl _ _).alloc _
  have HC := Lib.hid (fun W (hu : Upd [] wB W) => show W.cell? ⟨BA, 0, none⟩ = some (es x.name) ∧ W.cell? ⟨BA + 1, 0, none⟩ = some (es x.name) ∧ W.cell? ⟨BA, 1, none⟩ = some (ei x.pars) ∧ W.cell? ⟨BA + 1, 1, none⟩ = some (ei x.pars) ∧ W.cell? ⟨BA, 2, none⟩ = some (v2) ∧ W.cell? ⟨BA + 1, 2, none⟩ = some (u2) from
    ⟨hu.keep (uB.keep (by rw [hwA, hBA]; exact cell_new w _ _ _ rfl 0 _ rfl)), hu.keep (by rw [hwB]; exact cell_new wA _ _ _ sA 0 _ rfl), hu.keep (uB.keep (by rw [hwA, hBA]; exact cell_new w _ _ _ rfl 1 _ rfl)), hu.keep (by rw [hwB]; exact cell_new wA _ _ _ sA 1 _ rfl), hu.keep (uB.keep (by rw [hwA, hBA]; exact cell_new w _ _ _ rfl 2 _ rfl)), hu.keep (by rw [hwB]; exact cell_new wA _ _ _ sA 2 _ rfl)⟩)
  have S2 := Lib.hid (fun W (hu : Upd [] w W) => eq_Pa1 v2 u2 x.body W f2 g2 (R_Pa1k.upd h2 hu (by simp)) (R_Pa1k.upd k2 hu (by simp)))
  have HU := Lib.hid (uA.trans uB)
  have HX := Lib.hid (Upd.refl [] wB)
  obtain ⟨c0, d0, c1, d1, c2, d2⟩ := HC.out wB (Upd.refl _ _)
  generalize x.name = t0 at *
  have b0 : (t0 != t0) = false := by simp
  generalize x.pars = t1 at *
  have b1 : (t1 != t1) = false := by simp
  clear h2 k2 uA uB sA
  go_enter Tryz.func50, Tryz.ntmps50
  go_upto_region 1 with (fail)
  rw [← hwA, ← hwB, ← hBA]
  clear hwA hwB hBA
  have T2 := Lib.hid (S2.out wB HU.out)
  clear S2
  go_wp2_with fail
  refine T2.out.mono ?_
  rintro e w2 ⟨rfl, hu⟩
  have HU := Lib.hid (HU.out.trans hu)
  have HX := Lib.hid (HX.out.trans hu)
  obtain ⟨c0, d0, c1, d1, c2, d2⟩ := HC.out w2 HX.out
  clear T2 hu
  go_wp2_with fail
  go_ret
  exact ⟨rfl, HU.out⟩

end Go.Proofs.YtijmkcnipflpbaaGreatDoor

/-
  Lists of definitions: readings, and what the laws' helper functions return and make.
-/
namespace Go.Proofs.YtijmkcnipflpbaaGreatDoor
open Go.RowKit


abbrev R_De1 : Rp (List De) := slQ 3 R_De
theorem R_De1k : Kept R_De1 := slQ_kept R_Dek
def szF_De1 (xs : List De) : Int := xs.length + (xs.map szF_De).sum
def mkF_De1 (xs : List De) : Int := (xs.map mkF_De).sum
def De1Ok (xs : List De) : Prop := ∀ x ∈ xs, DeOk x
theorem szF_De1_sum (xs : List De) : 0 ≤ (xs.map szF_De).sum := by
  induction xs with
  | nil => simp
  | cons r rs ih => simp only [List.map_cons, List.sum_cons]; have := szF_De_nonneg r; omega
theorem szF_De1_nonneg (xs : List De) : 0 ≤ szF_De1 xs := by have := szF_De1_sum xs; unfold szF_De1; omega
theorem szF_De1_snoc (xs : List De) (k : Nat) (h : k < xs.length) : ((xs.take (k + 1)).map szF_De).sum = ((xs.take k).map szF_De).sum + szF_De xs[k] := by
  rw [List.take_succ_eq_append_getElem h, List.map_append, List.sum_append]; simp
theorem szF_De1_take (xs : List De) (k : Nat) : ((xs.take k).map szF_De).sum ≤ (xs.map szF_De).sum := by
  have h := szF_De1_sum (xs.drop k)
  conv => rhs; rw [← List.take_append_drop k xs]
  rw [List.map_append, List.sum_append]; omega
theorem mkF_De1_nonneg (xs : List De) : 0 ≤ mkF_De1 xs := by
  unfold mkF_De1; induction xs with
  | nil => simp
  | cons r rs ih => simp only [List.map_cons, List.sum_cons]; have := mkF_De_nonneg r; omega
theorem mkF_De1_le (xs : List De) : mkF_De1 xs ≤ 16 * szF_De1 xs := by
  unfold mkF_De1 szF_De1; induction xs with
  | nil => simp
  | cons r rs ih => simp only [List.map_cons, List.sum_cons, List.length_cons]; have := mkF_De_le r; omega
theorem mkF_De1_snoc (xs : List De) (k : Nat) (h : k < xs.length) : mkF_De1 (xs.take (k + 1)) = mkF_De1 (xs.take k) + mkF_De xs[k] := by
  unfold mkF_De1; rw [List.take_succ_eq_append_getElem h, List.map_append, List.sum_append]; simp
theorem mkF_De1_take (xs : List De) (k : Nat) : mkF_De1 (xs.take k) ≤ mkF_De1 xs := by
  have h := mkF_De1_nonneg (xs.drop k)
  conv => rhs; rw [← List.take_append_drop k xs]
  unfold mkF_De1 at *; rw [List.map_append, List.sum_append]; omega
def up_De (k : Int) (x : De) : De := ⟨mtx (k), (k + 1), mkd_Pa1 (k + 1 + 1) x.body⟩
def mkd_De1 : Int → List De → List De
  | _, [] => []
  | k, r :: rs => up_De k r :: mkd_De1 (k + mkF_De r) rs
@[simp] theorem mkd_De1_length (k : Int) (xss : List De) : (mkd_De1 k xss).length = xss.length := by
  induction xss generalizing k with
  | nil => rfl
  | cons r rs ih => simp [mkd_De1, ih]
theorem mkd_De1_append (k : Int) (xs ys : List De) : mkd_De1 k (xs ++ ys) = mkd_De1 k xs ++ mkd_De1 (k + mkF_De1 xs) ys := by
  induction xs generalizing k with
  | nil => simp [mkd_De1, mkF_De1]
  | cons r rs ih => simp only [List.cons_append, mkd_De1, ih, mkF_De1, List.map_cons, List.sum_cons, Int.add_assoc]
theorem mkd_De1_set (xss : List De) (k0 : Int) (k : Nat) (hk : k < xss.length) :
    (mkd_De1 k0 (xss.take k) ++ xss.drop k).set k (up_De (k0 + mkF_De1 (xss.take k)) xss[k]) = mkd_De1 k0 (xss.take (k + 1)) ++ xss.drop (k + 1) := by
  have hl : (mkd_De1 k0 (xss.take k)).length = k := by simp; omega
  rw [List.set_append_right _ _ (by omega), hl, Nat.sub_self, List.drop_eq_getElem_cons hk, List.set_cons_zero, List.take_succ_eq_append_getElem hk, mkd_De1_append]
  simp [mkd_De1]
set_option maxRecDepth 20000 in
set_option maxHeartbeats 1600000 in
theorem sz_De1 (v : Value) (xs : List De) (left : Int) (w : World) (fp : List Nat) (hl : 0 ≤ left) (hl2 : left ≤ 1048576) (hR : R_De1 fp w [v] xs) (hS : De1Ok xs) :
    Calls Tryz.prog 16 #[v, .int .i64 left] w fun e w' => (∃ r : Int, e = .returned (.int .i64 r) ∧ (r = -1 ∨ (0 ≤ r ∧ r + szF_De1 xs = left))) ∧ Upd [] w w' := by
  obtain ⟨a, cap, rfl, h1, h2, hc⟩ := slQ_open hR
  unfold maxLen at h2
  have HS := Lib.hid hS
  have HC := Lib.hid hc
  clear hR hS hc
  by_cases hlt : left - (xs.length : Int) < 0
  · go_enter Tryz.func16, Tryz.ntmps16
    go_wp2_with fail
    go_ret
    exact ⟨⟨-1, rfl, Or.inl rfl⟩, Upd.refl _ _⟩
  · have hge : 0 ≤ left - (xs.length : Int) := by omega
    clear hlt
    go_enter Tryz.func16, Tryz.ntmps16
    go_wp2_with fail
    go_loopw [1, 5] (fun kk i wr => ∃ (k : Nat) (l : Int), k ≤ xs.length ∧ i = .int .i64 k ∧ kk = .int .i64 l ∧ 0 ≤ l ∧ l ≤ 1048576 ∧ Hid (l + xs.length + ((xs.take k).map szF_De).sum = left) ∧ Hid (Upd [] w wr)) (fun _ i _ => xs.length - (intOf i).toNat)
    case atStart => exact ⟨0, _, Nat.zero_le _, rfl, rfl, hge, by omega, Lib.hid (by simp), Lib.hid (Upd.refl _ _)⟩
    case round =>
      obtain ⟨wo, rfl⟩ : ∃ wo : World, wo = wr := ⟨_, rfl⟩
      obtain ⟨k, l, hk, rfl, rfl, hl0, hl9, HL, HU⟩ := hrel
      by_cases hlt : k < xs.length
      · obtain ⟨b, off, u, f, rfl, -, -, -, hcell, -, hr⟩ := HC.out k hlt
        have HR := Lib.hid (R_Dek.upd hr HU.out (by simp))
        obtain ⟨v2, f2, rfl, -, -⟩ := hr
        have p0 := HU.out.keep (hcell 0 _ rfl)
        have p1 := HU.out.keep (hcell 1 _ rfl)
        have p2 := HU.out.keep (hcell 2 _ rfl)
        simp only [Nat.add_zero] at p0
        have HT := Lib.hid (szF_De1_snoc xs k hlt)
        have HO := Lib.hid (HS.out xs[k] (List.getElem_mem hlt))
        clear hcell
        generalize hx : xs[k] = x at *
        clear hx
        have S1 := Lib.hid (sz_De _ x l wo f hl0 hl9 HR.out HO.out)
        have hzz := szF_De_nonneg x
        generalize szF_De x = zz at *
        go_wp2_with fail
        refine S1.out.mono ?_
        rintro e w1 ⟨⟨r, rfl, hr2⟩, hu⟩
        have HU1 := Lib.hid (HU.out.trans hu)
        clear S1 hu
        rcases hr2 with rfl | ⟨hr2, hr3⟩
        · go_wp2_with fail
          go_ret
          exact ⟨⟨-1, rfl, Or.inl rfl⟩, HU1.out⟩
        · have H3 := Lib.hid hr3
          have hr4 : r ≤ 1048576 := by omega
          clear hr3
          go_wp2_with fail
          go_roundw
          case rel => exact ⟨k + 1, r, by omega, by go_num, rfl, hr2, hr4, Lib.hid (by have := H3.out; have := HL.out; rw [HT.out]; omega), HU1⟩
          case measure => simp [intOf]; omega
      · obtain rfl : k = xs.length := by omega
        go_wp2_with fail
        go_ret
        exact ⟨⟨l, rfl, Or.inr ⟨hl0, by have := HL.out; rw [List.take_length] at this; unfold szF_De1; omega⟩⟩, HU.out⟩

theorem Tryz.infoDe : (Tryz.prog.info? 78).map (fun i => (i.zero, i.size, i.bytes)) = some (some (.agg #[.string ⟨#[]⟩, .int .i64 0, .slice none 0 0]), 3, 48) := by kernel_rfl
set_option maxRecDepth 20000 in
set_option maxHeartbeats 2000000 in
theorem to_De1 (v : Value) (xs : List De) (w : World) (fp : List Nat) (hl : szF_De1 xs ≤ 1048576) (hR : R_De1 fp w [v] xs) :
    Calls Tryz.prog 22 #[v] w fun e w' => (∃ v', e = .returned v' ∧ New R_De1 w w' v' xs) ∧ Upd [] w w' := by
  obtain ⟨i0, hi, hz0, hz1, hz2⟩ := info_parts Tryz.infoDe
  obtain ⟨a, cap, rfl, h1, h2, hc⟩ := slQ_open hR
  unfold maxLen at h2
  have htn := szF_De1_sum xs
  unfold szF_De1 at hl
  have HC := Lib.hid hc
  clear hR hc
  have hm1 : i0.bytes * xs.length ≤ 281474976710656 := by rw [hz2]; omega
  go_enter Tryz.func22, Tryz.ntmps22
  go_wp2_with (first
    | (at_make; refine wpList_make_full _ rfl _ _ 30 rfl w.heap.size 78 i0 (.agg #[.string ⟨#[]⟩, .int .i64 0, .slice none 0 0]) 3 Tryz.underlying30 hi hz0 hz1 .i64 .i64 _ _ xs.length rfl rfl rfl rfl hm1 (by unfold maxLen; omega) (Nat.le_refl _) ?_; intro w1 hown hgrow)
    | fail)
  have hmd := made_Q ([.string ⟨#[]⟩, .int .i64 0, .slice none 0 0] : List Value) (n := 3) rfl (by decide) xs.length
  rw [hmd] at hown
  have hsz : w.heap.size < w1.heap.size := hown.lt w.heap.size rfl |>.2
  have hU : Upd [] w w1 := (Upd.refl _ _).grown hgrow (by simp)
  clear hgrow hm1 hmd
  go_loopw [4] (fun i wr => ∃ (k : Nat) (us : List (List Value)), k ≤ xs.length ∧ i = .int .i64 k ∧ Hid (Upd [] w wr) ∧ w.heap.size < wr.heap.size ∧
      Hid (wr.ownsRow w.heap.size 78 3 (.slice (some ⟨w.heap.size, 0, none⟩) xs.length xs.length) xs.length (us.flatten ++ (List.replicate (xs.length - k) ([.string ⟨#[]⟩, .int .i64 0, .slice none 0 0] : List Value)).flatten)) ∧
      Hid (RowsQ 3 R_De w.heap.size [w.heap.size] wr us (xs.take k)))
    (fun i _ => xs.length - (intOf i).toNat)
  case atStart => exact ⟨0, [], Nat.zero_le _, rfl, Lib.hid hU, hsz, Lib.hid (by simpa using hown), Lib.hid (RowsQ.nil _ _ _ _ _)⟩
  case round =>
    clear hown hU hsz
    obtain ⟨wo, rfl⟩ : ∃ wo : World, wo = wr := ⟨_, rfl⟩
    obtain ⟨k, us, hk, rfl, HU, hsz, HO, HW⟩ := hrel
    have hlu : us.length = k := by have := HW.out.length; simp at this; omega
    by_cases hlt : k < xs.length
    · obtain ⟨b, off, u, f, rfl, -, -, -, hcell, -, hr⟩ := HC.out k hlt
      have HR := Lib.hid (R_Dek.upd hr HU.out (by simp))
      obtain ⟨v2, f2, rfl, -, -⟩ := hr
      have p0 := HU.out.keep (hcell 0 _ rfl)
      have p1 := HU.out.keep (hcell 1 _ rfl)
      have p2 := HU.out.keep (hcell 2 _ rfl)
      simp only [Nat.add_zero] at p0
      have hxl : szF_De xs[k] ≤ 1048576 := by
        have h1 := szF_De1_snoc xs k hlt
        have h2 := szF_De1_take xs (k + 1)
        have h3 := szF_De1_sum (xs.take k)
        omega
      have HTK := Lib.hid (List.take_succ_eq_append_getElem hlt)
      have HLU := Lib.hid hlu
      clear hcell hlu
      generalize hx : xs[k] = x at *
      clear hx
      have S1 := Lib.hid (to_De _ x wo f hxl HR.out)
      clear hxl
      go_wp2_with fail
      refine S1.out.mono ?_
      rintro e w2 ⟨⟨u2, rfl, hlen, hone, hnew⟩, hu2⟩
      have hown2 := ownsRow_upd HO.out hu2
      have hrep : (List.replicate (xs.length - k) ([.string ⟨#[]⟩, .int .i64 0, .slice none 0 0] : List Value)).flatten.length = (xs.length - k) * 3 := by
        rw [flat_len (n := 3) (by intro y hy; rw [(List.mem_replicate.1 hy).2]; rfl)]; simp
      have hfl : us.flatten.length = k * 3 := by rw [flat_len HW.out.each, HLU.out]
      have hth : w2.there w.heap.size (k * 3) u2.toArray.size := fun j hj => by
        have hj' : j < 3 := by simpa [hlen] using hj
        refine ⟨?_, hown2.frozenAt _⟩
        rw [hown2.cellAt (k * 3 + j) (by omega), List.getElem?_eq_getElem (by rw [List.length_append, hfl, hrep]; omega)]; rfl
      have hszz : (Tryz.prog.info? 78).map (·.size) = some u2.toArray.size := by rw [De_size]; simp [hlen]
      have hrun := run_storeCells_cells (P := Tryz.prog) w.heap.size (k * 3) u2 0 w2 (fun j hj => by simpa using (hth j (by simpa using hj)).1) (fun j hj => by simpa using (hth j (by simpa using hj)).2) (fun v hv => (Array.all_eq_true_iff_forall_mem.1 hone) v (by simpa using hv))
      simp only [Nat.add_zero] at hrun
      have hst := ownsRow_setCells u2 (k * 3) hown2 (by rw [hlen]; omega)
      rw [show xs.length - k = (xs.length - (k + 1)) + 1 by omega, ← HLU.out, filled_set us ([.string ⟨#[]⟩, .int .i64 0, .slice none 0 0] : List Value) _ 3 rfl HW.out.each u2 hlen, HLU.out] at hst
      have hw3 : Upd [w.heap.size] w2 (w2.setCells w.heap.size (k * 3) u2) := upd_setCells _ (Or.inr (by simp)) _ _ (Upd.refl _ _)
      have hrows2 := (HW.out.push R_Dek hu2 hnew hlen (by omega) (by simpa using hsz)).upd R_Dek hw3 (by simp)
      rw [← HTK.out] at hrows2
      have hU2 : Upd [] w (w2.setCells w.heap.size (k * 3) u2) := upd_setCells _ (Or.inl (Nat.le_refl _)) _ _ (HU.out.trans hu2)
      have hsz2 : w.heap.size < (w2.setCells w.heap.size (k * 3) u2).heap.size := by have := hu2.size; have := hw3.size; omega
      have HS := Lib.hid (And.intro hst (And.intro hrows2 hU2))
      clear hown2 hrep hfl hst hw3 hrows2 hU2 hnew hu2 S1 HO HW HU
      clear hth hszz hone
      go_wp2_with fail
      go_roundw
      case rel => exact ⟨k + 1, us ++ [u2], by omega, by go_num, Lib.hid HS.out.2.2, hsz2, Lib.hid HS.out.1, Lib.hid HS.out.2.1⟩
      case measure => simp [intOf]; omega
    · obtain rfl : k = xs.length := by omega
      go_wp2_with fail
      go_ret
      have hrows := HW.out
      have hown := HO.out
      rw [List.take_length] at hrows
      refine ⟨⟨_, rfl, hrows.new (e := 78) (by simpa using hown) (by simp [Value.ownBlock]) (Nat.le_refl _)⟩, HU.out⟩

set_option maxRecDepth 20000 in
set_option maxHeartbeats 2000000 in
theorem eq_De1 (v1 v2 : Value) (xs : List De) (w : World) (fp fp2 : List Nat) (h1 : R_De1 fp w [v1] xs) (h2 : R_De1 fp2 w [v2] xs) :
    Calls Tryz.prog 29 #[v1, v2] w fun e w' => e = .returned (.bool true) ∧ Upd [] w w' := by
  obtain ⟨a1, c1, rfl, hl1, hm1, hc1⟩ := slQ_open h1
  obtain ⟨a2, c2, rfl, hl2, hm2, hc2⟩ := slQ_open h2
  unfold maxLen at hm1 hm2
  have HC1 := Lib.hid hc1
  have HC2 := Lib.hid hc2
  have hbe : ((xs.length : Int) != (xs.length : Int)) = false := by simp
  clear h1 h2 hc1 hc2
  go_enter Tryz.func29, Tryz.ntmps29
  go_wp2_with fail
  go_loopw [5] (fun i wr => ∃ k : Nat, k ≤ xs.length ∧ i = .int .i64 k ∧ Hid (Upd [] w wr)) (fun i _ => xs.length - (intOf i).toNat)
  case atStart => exact ⟨0, Nat.zero_le _, rfl, Lib.hid (Upd.refl _ _)⟩
  case round =>
    obtain ⟨wo, rfl⟩ : ∃ wo : World, wo = wr := ⟨_, rfl⟩
    obtain ⟨k, hk, rfl, HU⟩ := hrel
    by_cases hlt : k < xs.length
    · obtain ⟨b1, o1, u, f, rfl, -, -, -, hcell, -, hr⟩ := HC1.out k hlt
      obtain ⟨b2, o2, u', f', rfl, -, -, -, hcell2, -, hr2⟩ := HC2.out k hlt
      have HR := Lib.hid (R_Dek.drewN (R_Dek.upd hr HU.out (by simp)))
      have HR2 := Lib.hid (R_Dek.drewN (R_Dek.upd hr2 HU.out (by simp)))
      obtain ⟨v2, f2, rfl, -, -⟩ := hr
      obtain ⟨u2, _, rfl, -, -⟩ := hr2
      have p0 := HU.out.keep (hcell 0 _ rfl)
      have p1 := HU.out.keep (hcell 1 _ rfl)
      have p2 := HU.out.keep (hcell 2 _ rfl)
      have q0 := HU.out.keep (hcell2 0 _ rfl)
      have q1 := HU.out.keep (hcell2 1 _ rfl)
      have q2 := HU.out.keep (hcell2 2 _ rfl)
      simp only [Nat.add_zero] at p0 q0
      clear hcell hcell2
      generalize hx : xs[k] = x at *
      clear hx
      have S1 := Lib.hid (fun W (hu : Upd [] wo W) => eq_De _ _ x W f f' (R_Dek.upd (HR.out 0) hu (by simp)) (R_Dek.upd (HR2.out 0) hu (by simp)))
      clear HR HR2
      obtain ⟨t0, ht0⟩ : ∃ t, t = es x.name := ⟨_, rfl⟩
      rw [← ht0] at p0 q0 S1
      clear ht0
      obtain ⟨t1, ht1⟩ : ∃ t, t = ei x.pars := ⟨_, rfl⟩
      rw [← ht1] at p1 q1 S1
      clear ht1
      go_wp2_with fail
      go_region_held3 (fun w' => w'.cell? ⟨b1, o1 + k * 3, none⟩ = some (t0) ∧ w'.cell? ⟨b1, o1 + k * 3 + 1, none⟩ = some (t1) ∧ w'.cell? ⟨b1, o1 + k * 3 + 2, none⟩ = some (v2) ∧ w'.cell? ⟨b2, o2 + k * 3, none⟩ = some (t0) ∧ w'.cell? ⟨b2, o2 + k * 3 + 1, none⟩ = some (t1) ∧ w'.cell? ⟨b2, o2 + k * 3 + 2, none⟩ = some (u2)) (go_keep) (((with_reducible refine (S1.out _ (by repeat (first | exact Upd.refl _ _ | refine Upd.drew ?_ | refine Upd.drewN ?_ _))).mono ?_); rintro e w1 ⟨rfl, hu1⟩; have a0 := hu1.keep p0; have b0 := hu1.keep q0; have a1 := hu1.keep p1; have b1 := hu1.keep q1; have a2 := hu1.keep p2; have b2 := hu1.keep q2; skip))
      all_goals
        have HU1 := Lib.hid (HU.out.drew.trans hu1)
        clear hu1 HU
        go_wp2_with fail
        go_roundw
        case rel => exact ⟨k + 1, by omega, by go_num, HU1⟩
        case measure => simp [intOf]; omega
    · have hge : xs.length ≤ k := by omega
      go_wp2_with fail
      go_ret
      exact ⟨rfl, HU.out⟩

end Go.Proofs.YtijmkcnipflpbaaGreatDoor

/-
  Parts of bodies: what the program's calls return.
-/
namespace Go.Proofs.YtijmkcnipflpbaaGreatDoor
open Go.RowKit

set_option maxRecDepth 20000 in
set_option maxHeartbeats 800000 in
theorem folPI (p : Pa) (v : Value) (w : World) : Calls Tryz.prog 146 #[.agg #[ei p.kind, ei p.num, es p.name, v]] w fun e w' => e = .returned (.int .i64 (folP p)) ∧ Upd [] w w' := by
  have HM := Lib.hid (show folP p = (if (p.kind == 1) = true then 1 else if (p.kind == 3) = true then 1 else if (p.kind == 4) = true then 1 else if (p.kind == 2) = true then 2 else 0) by
    unfold folP; simp only [beq_iff_eq]; by_cases h1 : p.kind = 1 <;> by_cases h3 : p.kind = 3 <;> by_cases h4 : p.kind = 4 <;> simp [h1, h3, h4])
  generalize folP p = Z at *
  generalize p.kind = k at *
  obtain ⟨q1, h1⟩ : ∃ q, (k == 1) = q := ⟨_, rfl⟩
  obtain ⟨q3, h3⟩ : ∃ q, (k == 3) = q := ⟨_, rfl⟩
  obtain ⟨q4, h4⟩ : ∃ q, (k == 4) = q := ⟨_, rfl⟩
  obtain ⟨q2, h2⟩ : ∃ q, (k == 2) = q := ⟨_, rfl⟩
  rw [h1, h3, h4, h2] at HM
  cases q1 with
  | false =>
    cases q3 with
    | false =>
      cases q4 with
      | false =>
        cases q2 with
        | false =>
          go_enter Tryz.func146, Tryz.ntmps146
          go_wp2_with fail
          go_ret
          exact ⟨by rw [HM.out]; rfl, (Upd.refl _ _).alloc _⟩
        | true =>
          go_enter Tryz.func146, Tryz.ntmps146
          go_wp2_with fail
          go_ret
          exact ⟨by rw [HM.out]; rfl, (Upd.refl _ _).alloc _⟩
      | true =>
        go_enter Tryz.func146, Tryz.ntmps146
        go_wp2_with fail
        go_ret
        exact ⟨by rw [HM.out]; rfl, (Upd.refl _ _).alloc _⟩
    | true =>
      go_enter Tryz.func146, Tryz.ntmps146
      go_wp2_with fail
      go_ret
      exact ⟨by rw [HM.out]; rfl, (Upd.refl _ _).alloc _⟩
  | true =>
    go_enter Tryz.func146, Tryz.ntmps146
    go_wp2_with fail
    go_ret
    exact ⟨by rw [HM.out]; rfl, (Upd.refl _ _).alloc _⟩

set_option maxRecDepth 20000 in
set_option maxHeartbeats 4000000 in
theorem kindOkI (p : Pa) (a : Option Addr) (c : Nat) (w : World) : Calls Tryz.prog 148 #[.agg #[ei p.kind, ei p.num, es p.name, .slice a p.args.length c]] w fun e w' => e = .returned (.bool (kindP p)) ∧ Upd [] w w' := by
  have HM := Lib.hid (show kindP p = (inB p.kind 0 5 && ((p.kind == 4 || p.kind == 5) || p.num == 0) && (p.kind == 1 || p.name == []) && ((p.kind == 1 || p.kind == 3 || p.kind == 5) || p.args.length == 0)) from rfl)
  obtain ⟨k, num, name, args⟩ := p
  simp only at *
  generalize kindP ⟨k, num, name, args⟩ = Z at *
  generalize args.length = n at *
  have S1 := Lib.hid (within k 0 5 (w.alloc (.cells #[ei k, ei num, es name, .slice a n c] 127)))
  obtain ⟨q1, h1⟩ : ∃ q, (k == 1) = q := ⟨_, rfl⟩
  obtain ⟨q3, h3⟩ : ∃ q, (k == 3) = q := ⟨_, rfl⟩
  obtain ⟨q4, h4⟩ : ∃ q, (k == 4) = q := ⟨_, rfl⟩
  obtain ⟨q5, h5⟩ : ∃ q, (k == 5) = q := ⟨_, rfl⟩
  obtain ⟨n0, hn⟩ : ∃ q, (num == 0) = q := ⟨_, rfl⟩
  obtain ⟨e0, he⟩ : ∃ q, (name == []) = q := ⟨_, rfl⟩
  obtain ⟨a0, ha⟩ : ∃ q, (n == 0) = q := ⟨_, rfl⟩
  have ha2 : ((n : Int) == 0) = a0 := by rw [← ha]; cases n <;> rfl
  rw [h1, h3, h4, h5, hn, he, ha] at HM
  clear ha
  obtain ⟨qi, hi⟩ : ∃ q, inB k 0 5 = q := ⟨_, rfl⟩
  rw [hi] at S1 HM
  cases q4 with
  | false =>
    cases q5 with
    | false =>
      cases q1 with
      | false =>
        cases q3 with
        | false =>
          cases qi with
          | false =>
            go_enter Tryz.func148, Tryz.ntmps148
            go_wp2_with fail
            refine S1.out.mono ?_
            rintro e w1 ⟨rfl, rfl⟩
            go_wp2_with fail
            go_ret
            exact ⟨by rw [HM.out]; rfl, (Upd.refl _ _).alloc _⟩
          | true =>
            cases n0 with
            | false =>
              go_enter Tryz.func148, Tryz.ntmps148
              go_wp2_with fail
              refine S1.out.mono ?_
              rintro e w1 ⟨rfl, rfl⟩
              go_wp2_with fail
              go_ret
              exact ⟨by rw [HM.out]; rfl, (Upd.refl _ _).alloc _⟩
            | true =>
              cases e0 with
              | false =>
                go_enter Tryz.func148, Tryz.ntmps148
                go_wp2_with fail
                refine S1.out.mono ?_
                rintro e w1 ⟨rfl, rfl⟩
                go_wp2_with fail
                go_ret
                exact ⟨by rw [HM.out]; rfl, (Upd.refl _ _).alloc _⟩
              | true =>
                cases a0 with
                | false =>
                  go_enter Tryz.func148, Tryz.ntmps148
                  go_wp2_with fail
                  refine S1.out.mono ?_
                  rintro e w1 ⟨rfl, rfl⟩
                  go_wp2_with fail
                  go_ret
                  exact ⟨by rw [HM.out]; rfl, (Upd.refl _ _).alloc _⟩
                | true =>
                  go_enter Tryz.func148, Tryz.ntmps148
                  go_wp2_with fail
                  refine S1.out.mono ?_
                  rintro e w1 ⟨rfl, rfl⟩
                  go_wp2_with fail
                  go_ret
                  exact ⟨by rw [HM.out]; rfl, (Upd.refl _ _).alloc _⟩
        | true =>
          obtain rfl : k = 3 := by simpa using h3

          obtain rfl : true = qi := hi
          cases n0 with
          | false =>
            go_enter Tryz.func148, Tryz.ntmps148
            go_wp2_with fail
            refine S1.out.mono ?_
            rintro e w1 ⟨rfl, rfl⟩
            go_wp2_with fail
            go_ret
            exact ⟨by rw [HM.out]; rfl, (Upd.refl _ _).alloc _⟩
          | true =>
            cases e0 with
            | false =>
              go_enter Tryz.func148, Tryz.ntmps148
              go_wp2_with fail
              refine S1.out.mono ?_
              rintro e w1 ⟨rfl, rfl⟩
              go_wp2_with fail
              go_ret
              exact ⟨by rw [HM.out]; rfl, (Upd.refl _ _).alloc _⟩
            | true =>
              go_enter Tryz.func148, Tryz.ntmps148
              go_wp2_with fail
              refine S1.out.mono ?_
              rintro e w1 ⟨rfl, rfl⟩
              go_wp2_with fail
              go_ret
              exact ⟨by rw [HM.out]; rfl, (Upd.refl _ _).alloc _⟩
      | true =>
        obtain rfl : k = 1 := by simpa using h1
        obtain rfl : false = q3 := h3
        obtain rfl : true = qi := hi
        cases n0 with
        | false =>
          go_enter Tryz.func148, Tryz.ntmps148
          go_wp2_with fail
          refine S1.out.mono ?_
          rintro e w1 ⟨rfl, rfl⟩
          go_wp2_with fail
          go_ret
          exact ⟨by rw [HM.out]; rfl, (Upd.refl _ _).alloc _⟩
        | true =>
          go_enter Tryz.func148, Tryz.ntmps148
          go_wp2_with fail
          refine S1.out.mono ?_
          rintro e w1 ⟨rfl, rfl⟩
          go_wp2_with fail
          go_ret
          exact ⟨by rw [HM.out]; rfl, (Upd.refl _ _).alloc _⟩
    | true =>
      obtain rfl : k = 5 := by simpa using h5
      obtain rfl : false = q1 := h1
      obtain rfl : false = q3 := h3
      obtain rfl : true = qi := hi
      cases e0 with
      | false =>
        go_enter Tryz.func148, Tryz.ntmps148
        go_wp2_with fail
        refine S1.out.mono ?_
        rintro e w1 ⟨rfl, rfl⟩
        go_wp2_with fail
        go_ret
        exact ⟨by rw [HM.out]; rfl, (Upd.refl _ _).alloc _⟩
      | true =>
        go_enter Tryz.func148, Tryz.ntmps148
        go_wp2_with fail
        refine S1.out.mono ?_
        rintro e w1 ⟨rfl, rfl⟩
        go_wp2_with fail
        go_ret
        exact ⟨by rw [HM.out]; rfl, (Upd.refl _ _).alloc _⟩
  | true =>
    obtain rfl : k = 4 := by simpa using h4
    obtain rfl : false = q1 := h1
    obtain rfl : false = q3 := h3
    obtain rfl : false = q5 := h5
    obtain rfl : true = qi := hi
    cases e0 with
    | false =>
      go_enter Tryz.func148, Tryz.ntmps148
      go_wp2_with fail
      refine S1.out.mono ?_
      rintro e w1 ⟨rfl, rfl⟩
      go_wp2_with fail
      go_ret
      exact ⟨by rw [HM.out]; rfl, (Upd.refl _ _).alloc _⟩
    | true =>
      cases a0 with
      | false =>
        go_enter Tryz.func148, Tryz.ntmps148
        go_wp2_with fail
        refine S1.out.mono ?_
        rintro e w1 ⟨rfl, rfl⟩
        go_wp2_with fail
        go_ret
        exact ⟨by rw [HM.out]; rfl, (Upd.refl _ _).alloc _⟩
      | true =>
        go_enter Tryz.func148, Tryz.ntmps148
        go_wp2_with fail
        refine S1.out.mono ?_
        rintro e w1 ⟨rfl, rfl⟩
        go_wp2_with fail
        go_ret
        exact ⟨by rw [HM.out]; rfl, (Upd.refl _ _).alloc _⟩

set_option maxRecDepth 20000 in
set_option maxHeartbeats 4000000 in
theorem countOkI (ds : List De) (dv : Value) (fd : List Nat) (p : Pa) (a : Option Addr) (c : Nat) (w : World) (hR : R_De1 fd w [dv] ds) (hn : p.kind = 5 → 0 ≤ p.num ∧ p.num < ds.length) (hl : p.args.length ≤ 2000000) :
    Calls Tryz.prog 149 #[.agg #[ei p.kind, ei p.num, es p.name, .slice a p.args.length c], dv] w fun e w' => e = .returned (.bool (countP ds p)) ∧ Upd [] w w' := by
  have HM := Lib.hid (show countP ds p = (if (p.kind == 1) = true then p.args.length == 0 || (!(p.name == tauL) && decide (p.args.length ≤ 2)) else if (p.kind == 3) = true then (p.args.length : Int) == 1 else if (p.kind == 5) = true then (p.args.length : Int) == ((ds.map De.pars).getD p.num.toNat 0) else true) by
    unfold countP; simp only [beq_iff_eq, bne]
    split <;> try rfl
    split <;> try rfl
    cases p.args.length with
    | zero => rfl
    | succ n => cases n <;> rfl)
  have HRG := Lib.hid hn
  obtain ⟨k, num, name, args⟩ := p
  simp only at *
  generalize countP ds ⟨k, num, name, args⟩ = Z at *
  generalize args.length = n at *
  obtain ⟨q1, h1⟩ : ∃ q, (k == 1) = q := ⟨_, rfl⟩
  obtain ⟨q3, h3⟩ : ∃ q, (k == 3) = q := ⟨_, rfl⟩
  obtain ⟨q5, h5⟩ : ∃ q, (k == 5) = q := ⟨_, rfl⟩
  obtain ⟨t0, ht⟩ : ∃ q, (name == tauL) = q := ⟨_, rfl⟩
  obtain ⟨a0, ha⟩ : ∃ q, (n == 0) = q := ⟨_, rfl⟩
  obtain ⟨l2, hl2⟩ : ∃ q, decide (n ≤ 2) = q := ⟨_, rfl⟩
  have ha2 : ((n : Int) == 0) = a0 := by rw [← ha]; cases n <;> rfl
  have hl3 : decide ((n : Int) ≤ 2) = l2 := by rw [← hl2]; congr 1; rw [eq_iff_iff]; omega
  rw [h1, h3, h5, ht, ha, hl2] at HM
  have htb : (name == [116, 97, 117]) = t0 := ht
  obtain ⟨t1, htn⟩ : ∃ q, (name != [116, 97, 117]) = q := ⟨_, rfl⟩
  have ht1 : t1 = !t0 := by rw [← htn, ← ht]; rfl
  clear ha hl2 hn ht
  cases q1 with
  | false =>
    cases q3 with
    | false =>
      cases q5 with
      | false =>
        go_enter Tryz.func149, Tryz.ntmps149
        go_wp2_with fail
        go_ret
        exact ⟨by rw [HM.out]; rfl, (Upd.refl _ _).alloc _⟩
      | true =>
        obtain rfl : k = 5 := by simpa using h5
        obtain ⟨ad, q, rfl, g1, g2, hc⟩ := slQ_open hR
        unfold maxLen at g2
        obtain ⟨hr0, hr1⟩ := HRG.out rfl
        obtain ⟨j, rfl⟩ : ∃ j : Nat, num = j := ⟨num.toNat, by omega⟩
        have hj : j < ds.length := by omega
        obtain ⟨b, off, u, f, rfl, -, -, -, hcell, -, hr⟩ := hc j hj
        obtain ⟨v2, f2, rfl, -, -⟩ := hr
        have p1 := ((Upd.refl [] w).alloc (.cells #[ei 5, ei j, es name, .slice a n c] 127)).keep (hcell 1 _ rfl)
        have hz : (ds.map De.pars).getD (Int.toNat (j : Int)) 0 = ds[j].pars := by
          rw [Int.toNat_natCast, List.getD_eq_getElem?_getD, List.getElem?_map, List.getElem?_eq_getElem hj]; rfl
        rw [hz] at HM
        have hjl : (j : Int) < (ds.length : Int) := by omega
        clear hcell hc hR hz HRG hr0 hr1
        generalize ds[j].pars = P at *
        generalize ds.length = N at *
        go_enter Tryz.func149, Tryz.ntmps149
        go_wp2_with fail
        go_ret
        exact ⟨by rw [HM.out]; rfl, (Upd.refl _ _).alloc _⟩
    | true =>
      go_enter Tryz.func149, Tryz.ntmps149
      go_wp2_with fail
      go_ret
      exact ⟨by rw [HM.out]; rfl, (Upd.refl _ _).alloc _⟩
  | true =>
    cases a0 with
    | false =>
      cases t0 with
      | false =>
        obtain rfl := ht1
        simp only [Bool.not_false] at htn
        cases l2 with
        | false =>
          go_enter Tryz.func149, Tryz.ntmps149
          go_wp2_with fail
          go_ret
          exact ⟨by rw [HM.out]; rfl, (Upd.refl _ _).alloc _⟩
        | true =>
          go_enter Tryz.func149, Tryz.ntmps149
          go_wp2_with fail
          go_ret
          exact ⟨by rw [HM.out]; rfl, (Upd.refl _ _).alloc _⟩
      | true =>
        obtain rfl := ht1
        simp only [Bool.not_true] at htn
        go_enter Tryz.func149, Tryz.ntmps149
        go_wp2_with fail
        go_ret
        exact ⟨by rw [HM.out]; rfl, (Upd.refl _ _).alloc _⟩
    | true =>
      go_enter Tryz.func149, Tryz.ntmps149
      go_wp2_with fail
      go_ret
      exact ⟨by rw [HM.out]; rfl, (Upd.refl _ _).alloc _⟩

end Go.Proofs.YtijmkcnipflpbaaGreatDoor

/-
  The shape of a body: what the program's call returns.
-/
namespace Go.Proofs.YtijmkcnipflpbaaGreatDoor
open Go.RowKit

set_option maxRecDepth 20000 in
set_option maxHeartbeats 4000000 in
theorem endDI (cs : List Value) (d : De) (w : World) (fp : List Nat) (hR : R_De fp w cs d) (hl : d.body.length ≤ 1000) :
    Calls Tryz.prog 124 #[.agg cs.toArray, .int .i64 0] w fun e w' => (∃ r : Int, e = .returned (.int .i64 r) ∧ -1 ≤ r ∧ r ≤ 1000 ∧ (r == (d.body.length : Int)) = shapeG folP 1 d.body) ∧ Upd [] w w' := by
  obtain ⟨v2, f2, rfl, h2, rfl⟩ := hR
  obtain ⟨a, cap, rfl, g1, g2, hc⟩ := slQ_open h2
  unfold maxLen at g2
  have HC := Lib.hid hc
  clear h2 hc
  obtain ⟨wA, hwA⟩ : ∃ wA, wA = w.alloc (.cells #[es d.name, ei d.pars, .slice a d.body.length cap] 78) := ⟨_, rfl⟩
  obtain ⟨BA, hBA⟩ : ∃ BA, BA = w.heap.size := ⟨_, rfl⟩
  have uA : Upd [] w wA := by rw [hwA]; exact (Upd.refl _ _).alloc _
  have c2 : wA.cell? ⟨BA, 2, none⟩ = some (.slice a d.body.length cap) := by rw [hwA, hBA]; exact cell_new w _ _ _ rfl 2 _ rfl
  have HB := Lib.hid c2
  have UA := Lib.hid uA
  clear uA c2
  generalize d.body = l at *
  go_enter Tryz.func124, Tryz.ntmps124
  go_upto_region 1 with (fail)
  rw [← hwA, ← hBA]
  clear hwA hBA
  go_wp2_with fail
  go_loopw [1, 5] (fun pv nv wr => ∃ (k : Nat) (m : Int), k ≤ l.length ∧ pv = .int .i64 k ∧ nv = .int .i64 m ∧ 0 ≤ m ∧ m ≤ 1 + k ∧ Hid (shapeG folP m (l.drop k) = shapeG folP 1 l) ∧ Hid (Upd [] wA wr)) (fun pv _ _ => l.length - (intOf pv).toNat)
  case atStart => exact ⟨0, 1, Nat.zero_le _, rfl, rfl, by omega, by omega, Lib.hid rfl, Lib.hid (Upd.refl _ _)⟩
  case round =>
    obtain ⟨wo, rfl⟩ : ∃ wo : World, wo = wr := ⟨_, rfl⟩
    obtain ⟨k, m, hk, rfl, rfl, hm0, hm1, HS, HU⟩ := hrel
    have c2 := HU.out.keep HB.out
    by_cases hm : 0 < m
    · by_cases hlt : k < l.length
      · obtain ⟨b1, o1, u, f, rfl, -, -, -, hcell, -, hr⟩ := HC.out k hlt
        obtain ⟨v3, f3, rfl, -, -⟩ := hr
        have UU := Lib.hid (UA.out.trans HU.out)
        have p0 := UU.out.keep (hcell 0 _ rfl)
        have p1 := UU.out.keep (hcell 1 _ rfl)
        have p2 := UU.out.keep (hcell 2 _ rfl)
        have p3 := UU.out.keep (hcell 3 _ rfl)
        simp only [Nat.add_zero] at p0
        have hS := HS.out
        rw [List.drop_eq_getElem_cons hlt, shapeG, if_neg (by omega)] at hS
        have HN := Lib.hid hS
        have hkl : (k : Int) < (l.length : Int) := by omega
        have S1 := Lib.hid (folPI l[k] v3 wo)
        have hf0 := folP_nn l[k]
        have hf1 := folP_le l[k]
        clear hS HS hcell
        generalize folP l[k] = q at *
        generalize l[k] = p at *
        have hkk : ¬ (l.length : Int) ≤ (k : Int) := by omega
        go_wp2_with fail
        refine S1.out.mono ?_
        rintro e w1 ⟨rfl, hu⟩
        have HU1 := Lib.hid (HU.out.trans hu)
        clear S1 hu p0 p1 p2 p3 c2
        go_wp2_with fail
        go_roundw
        case rel => exact ⟨k + 1, m + (q - 1), by omega, by go_num, rfl, by omega, by omega, Lib.hid (by rw [← HN.out]; congr 1; omega), HU1⟩
        case measure => simp [intOf]; omega
      · have hS := HS.out
        rw [List.drop_of_length_le (by omega), shapeG] at hS
        have hz : ((-1 : Int) == (l.length : Int)) = shapeG folP 1 l := by
          rw [← hS]
          have h1 : ((-1 : Int) == (l.length : Int)) = false := by simp <;> omega
          have h2 : (m == 0) = false := by simp <;> omega
          rw [h1, h2]
        have HZ := Lib.hid hz
        have hkk : (l.length : Int) ≤ (k : Int) := by omega
        clear hS hz
        go_wp2_with fail
        go_ret
        exact ⟨⟨-1, rfl, by omega, by omega, HZ.out⟩, UA.out.trans HU.out⟩
    · obtain rfl : m = 0 := by omega
      have hS := HS.out
      have hz : ((k : Int) == (l.length : Int)) = shapeG folP 1 l := by
        rw [← hS]
        by_cases hlt : k < l.length
        · rw [List.drop_eq_getElem_cons hlt, shapeG, if_pos rfl]
          simp <;> omega
        · rw [List.drop_of_length_le (by omega), shapeG]
          simp <;> omega
      have HZ := Lib.hid hz
      clear hS hz
      go_wp2_with fail
      go_ret
      exact ⟨⟨k, rfl, by omega, by omega, HZ.out⟩, UA.out.trans HU.out⟩

end Go.Proofs.YtijmkcnipflpbaaGreatDoor

/-
  The places of a body's parts: what the program's call returns (a closure that calls itself).
-/
namespace Go.Proofs.YtijmkcnipflpbaaGreatDoor
open Go.RowKit

abbrev R_pl : Rp (List (Int × Bool)) := slF 2 (fun t => [ei t.1, .bool t.2])
theorem R_plk : Kept R_pl := slF_kept _ _
theorem enter_fill (args : Array Value) (w : World) : Sem.run Tryz.prog (callFunc 147 args) w = .ok (.enter 147 args) w := by go_simp
/-- the closure's value. -/
abbrev fillV (O D F : Nat) : Value := .func (.func 147) #[] #[.pointer (some ⟨O, 0, none⟩), .pointer (some ⟨D, 0, none⟩), .pointer (some ⟨F, 0, none⟩)]
/-- what the closure finds: the row that it fills, the body, and itself. -/
structure FillW (O D F B n : Nat) (v : Value) (fb : List Nat) (body : List Pa) (w : World) : Prop where
  o : w.cell? ⟨O, 0, none⟩ = some (.slice (some ⟨B, 0, none⟩) n n)
  d : w.cell? ⟨D, 2, none⟩ = some v
  f : w.cell? ⟨F, 0, none⟩ = some (fillV O D F)
  r : R_Pa1 fb w [v] body
  nb : B ≠ O ∧ B ≠ D ∧ B ≠ F ∧ B ∉ fb
theorem FillW.upd {O D F B n : Nat} {v : Value} {fb : List Nat} {body : List Pa} {w w' : World} (h : FillW O D F B n v fb body w) (hu : Upd [B] w w') : FillW O D F B n v fb body w' :=
  ⟨hu.keepF (by simpa using h.nb.1.symm) h.o, hu.keepF (by simpa using h.nb.2.1.symm) h.d, hu.keepF (by simpa using h.nb.2.2.1.symm) h.f, R_Pa1k.upd h.r hu (by intro b hb hm; simp at hm; subst hm; exact h.nb.2.2.2 hb), h.nb⟩
/-- what the closure leaves. -/
def Filled (B n : Nat) (row : List (Int × Bool)) (at' : Nat) (w : World) (e : Ending) (w' : World) : Prop :=
  e = .returned (.int .i64 at') ∧ Upd [B] w w' ∧ Own [B] w' ∧ R_pl [B] w' [.slice (some ⟨B, 0, none⟩) n n] row

set_option maxRecDepth 20000 in
set_option maxHeartbeats 8000000 in
theorem fillI (O D F B n : Nat) (v : Value) (fb : List Nat) (body : List Pa) (hn : n ≤ 1000) (hbn : body.length = n) (N : Nat) : ∀ (x : Tr Pa) (k : Nat) (post : List Pa) (s : Int) (b : Bool) (w : World) (row : List (Int × Bool)), (flatT x).length ≤ N → okT folP x = true → body.drop k = flatT x ++ post → 0 ≤ s → s + N ≤ 1000 → row.length = n →
    FillW O D F B n v fb body w → Own [B] w → R_pl [B] w [.slice (some ⟨B, 0, none⟩) n n] row →
    Calls Tryz.prog 147 #[.int .i64 k, .agg #[ei s, .bool b], .pointer (some ⟨O, 0, none⟩), .pointer (some ⟨D, 0, none⟩), .pointer (some ⟨F, 0, none⟩)] w
      (Filled B n (row.take k ++ (plT x s b ++ row.drop (k + (flatT x).length))) (k + (flatT x).length) w) := by
  induction N with
  | zero => intro x k post s b w row hN; have := flatT_pos x; omega
  | succ N ih =>
    intro x k post s b w row hN hok hdr hs0 hs1 hrl hW hO hR
    obtain ⟨p, args⟩ := x
    have hkl : k < body.length := by
      have h1 := congrArg List.length hdr
      simp only [List.length_drop, flatT, List.cons_append, List.length_cons] at h1
      omega
    have hbl : k + (flatT (Tr.mk p args)).length ≤ n := by
      have h1 := congrArg List.length hdr
      simp only [List.length_drop, List.length_append] at h1
      omega
    have hpk : body[k] = p := by
      rw [List.drop_eq_getElem_cons hkl] at hdr
      simp only [flatT, List.cons_append, List.cons.injEq] at hdr
      exact hdr.1
    have hdr2 : body.drop (k + 1) = flatTs args ++ post := by
      rw [List.drop_eq_getElem_cons hkl] at hdr
      simp only [flatT, List.cons_append, List.cons.injEq] at hdr
      exact hdr.2
    simp only [okT, Bool.and_eq_true, decide_eq_true_eq] at hok
    simp only [flatT, List.length_cons] at hN hbl
    obtain ⟨W, hWk, hrow⟩ : ∃ q, q = n ∧ k < q := ⟨n, rfl, by omega⟩
    clear W hWk hrow
    -- the row's element
    obtain ⟨a0, q0, hv0, l0, m0, hrc⟩ := slF2_open hR
    obtain ⟨b0, o0, he0, -, hbz, r1, r2⟩ := hrc k (by omega)
    simp only [Value.slice.injEq] at hv0
    obtain ⟨hv0, -, -⟩ := hv0
    rw [← hv0] at he0
    simp only [Option.some.injEq, Addr.mk.injEq, and_true] at he0
    obtain ⟨rfl, rfl⟩ := he0
    rw [Nat.zero_add] at r1 r2
    clear hrc l0 m0 hv0
    -- the body's part
    obtain ⟨ab, cb, rfl, l1, m1, hbc⟩ := slQ_open hW.r
    obtain ⟨bb, ob, ub, fb', rfl, hbm, -, -, hcell, -, hrb⟩ := hbc k hkl
    obtain ⟨v3, f3, rfl, h3, -⟩ := hrb
    rw [hpk] at h3
    obtain ⟨a3, c3, rfl, -, -, -⟩ := slP_open h3
    clear h3
    rw [hpk] at hcell
    have p0 := hcell 0 _ rfl
    have p1 := hcell 1 _ rfl
    have p2 := hcell 2 _ rfl
    have p3 := hcell 3 _ rfl
    simp only [Nat.add_zero] at p0
    unfold maxLen at m1
    clear hcell hbc
    obtain ⟨wA, hwA⟩ : ∃ wA, wA = w.alloc (.cells #[ei s, .bool b] 171) := ⟨_, rfl⟩
    obtain ⟨BA, hBA⟩ : ∃ BA, BA = w.heap.size := ⟨_, rfl⟩
    have uA : Upd [] w wA := by rw [hwA]; exact (Upd.refl _ _).alloc _
    have e0 : wA.cell? ⟨BA, 0, none⟩ = some (ei s) := by rw [hwA, hBA]; exact cell_new w _ _ _ rfl 0 _ rfl
    have e1 : wA.cell? ⟨BA, 1, none⟩ = some (.bool b) := by rw [hwA, hBA]; exact cell_new w _ _ _ rfl 1 _ rfl
    have nBA : BA ≠ B := by omega
    have hWA := hW.upd (uA.mono (by simp))
    have co := hWA.o
    have cd := hWA.d
    have r1 := uA.keep r1
    have r2 := uA.keep r2
    have hOA := hO.upd uA (by simp)
    have z1 := hOA.frozen (b := B) (by simp) (k * 2)
    have z2 := hOA.frozen (b := B) (by simp) (k * 2 + 1)
    have hRA := R_plk.upd hR uA (by simp)
    -- the world behind the store
    obtain ⟨wB, hwB⟩ : ∃ wB, wB = (wA.setCell ⟨B, k * 2, none⟩ (ei s)).setCell ⟨B, k * 2 + 1, none⟩ (.bool b) := ⟨_, rfl⟩
    have uB : Upd [B] wA wB := by rw [hwB]; exact ((Upd.refl _ _).setCell (Or.inr (by simp)) _).setCell (Or.inr (by simp)) _
    have hOB : Own [B] wB := by rw [hwB]; exact (hOA.setCell _ _).setCell _ _
    have hRB : R_pl [B] wB [.slice (some ⟨B, 0, none⟩) n n] (row.set k (s, b)) := by
      have := slF2_set (b := B) (off := 0) (cap := n) (xs := row) (by rw [hrl]; exact hRA) k (by omega) (s, b)
      rw [hrl, Nat.zero_add] at this
      rw [hwB]; exact this
    have HOB := Lib.hid hOB
    have HRB := Lib.hid hRB
    have HUB := Lib.hid (show Upd [B] w wB from (uA.mono (by simp)).trans uB)
    have hWB := hWA.upd uB
    have HWB := Lib.hid hWB
    have cd' := hWB.d
    have UAB := Lib.hid uB
    have q0 := hWB.r
    have e0' : wB.cell? ⟨BA, 0, none⟩ = some (ei s) := uB.keepF (by simpa using nBA) e0
    have e1' : wB.cell? ⟨BA, 1, none⟩ = some (.bool b) := uB.keepF (by simpa using nBA) e1
    have nbb : bb ≠ B := fun h => hW.nb.2.2.2 (h ▸ hbm)
    have p0 := uB.keepF (by simpa using nbb) (uA.keep p0)
    have p1 := uB.keepF (by simpa using nbb) (uA.keep p1)
    have p2 := uB.keepF (by simpa using nbb) (uA.keep p2)
    have p3 := uB.keepF (by simpa using nbb) (uA.keep p3)
    have hkb : (k : Int) < (body.length : Int) := by omega
    have hkn : (k : Int) < (n : Int) := by omega
    clear q0 hWB hRB hOB uB hRA hOA hWA uA hW hO hR
    generalize row[k] = el at r1 r2
    generalize p.args.length = L3 at *
    go_enter Tryz.func147, Tryz.ntmps147
    go_upto_region 1 with (fail)
    rw [← hwA, ← hBA]
    clear hwA hBA
    go_upto_region 2 with (fail)
    rw [← hwB]
    clear hwB r1 r2 z1 z2 co e0 e1
    obtain ⟨wC, hwC⟩ : ∃ q, q = wB.alloc (.cells #[ei p.kind, ei p.num, es p.name, .slice a3 L3 c3] 127) := ⟨_, rfl⟩
    obtain ⟨BC, hBC⟩ : ∃ q, q = wB.heap.size := ⟨_, rfl⟩
    have uC : Upd [] wB wC := by rw [hwC]; exact (Upd.refl _ _).alloc _
    have g0 : wC.cell? ⟨BC, 0, none⟩ = some (ei p.kind) := by rw [hwC, hBC]; exact cell_new wB _ _ _ rfl 0 _ rfl
    have g1 : wC.cell? ⟨BC, 1, none⟩ = some (ei p.num) := by rw [hwC, hBC]; exact cell_new wB _ _ _ rfl 1 _ rfl
    have g2 : wC.cell? ⟨BC, 2, none⟩ = some (es p.name) := by rw [hwC, hBC]; exact cell_new wB _ _ _ rfl 2 _ rfl
    have g3 : wC.cell? ⟨BC, 3, none⟩ = some (.slice a3 L3 c3) := by rw [hwC, hBC]; exact cell_new wB _ _ _ rfl 3 _ rfl
    have hBw : B < wB.heap.size := by have := HUB.out.size; omega
    have hBB : B < BC := by omega
    have i0 := uC.keep e0'
    have i1 := uC.keep e1'
    go_upto_region 3 with (fail)
    rw [← hwC, ← hBC]
    have hBCs : wB.heap.size ≤ BC := by omega
    clear hwC hBC p0 p1 p2 p3 cd' e0' e1'
    obtain ⟨b', hb'⟩ : ∃ q, (p.kind == 1) = q := ⟨_, rfl⟩
    obtain ⟨wD, hwD⟩ : ∃ q, q = wC.alloc (.cells #[ei s, .bool b'] 171) := ⟨_, rfl⟩
    obtain ⟨BD, hBD⟩ : ∃ q, q = wC.heap.size := ⟨_, rfl⟩
    have uD : Upd [] wC wD := by rw [hwD]; exact (Upd.refl _ _).alloc _
    have j0 : wD.cell? ⟨BD, 0, none⟩ = some (ei s) := by rw [hwD, hBD]; exact cell_new wC _ _ _ rfl 0 _ rfl
    have j1 : wD.cell? ⟨BD, 1, none⟩ = some (.bool b') := by rw [hwD, hBD]; exact cell_new wC _ _ _ rfl 1 _ rfl
    have hhD : wD.heap[BD]? = some (.cells #[ei s, .bool b'] 171 (0, 0)) := by rw [hwD, hBD]; exact heap_alloc_new wC _
    have zD : wD.frozen? ⟨BD, 0, none⟩ = false := by simp [World.frozen?, hhD]
    have hBBD : B < BD := by have := uC.size; omega
    have hBCD : BC ≠ BD := by have := (World.block_lt_of_cell? wC _ g0); simp at this; omega
    have hBnew : wB.heap.size ≤ BD := by rw [hBD]; exact uC.size
    go_upto_region 4 with (fail)
    rw [← hwD, ← hBD]
    clear hwD hBD i0 i1
    have g0 := uD.keep g0
    have g1 := uD.keep g1
    have g2 := uD.keep g2
    have g3 := uD.keep g3
    have uBD := uC.trans uD
    clear uC uD hhD
    have HSUM := Lib.hid (show sumP p = (p.kind == 4) from rfl)
    have HFOL := Lib.hid (fun W => folPI p (.slice a3 L3 c3) W)
    have HOK := Lib.hid hok
    have HIH := Lib.hid ih
    have HDR := Lib.hid hdr2
    have HB1 := Lib.hid (show (p.kind == 1) = b' from hb')
    have HPL := Lib.hid (show plT (Tr.mk p args) s b = (s, b) :: plTs args (s + if sumP p then 1 else 0) (p.kind == 1) from rfl)
    clear ih hok hdr hdr2 hpk
    obtain ⟨q4, h4⟩ : ∃ q, (p.kind == 4) = q := ⟨_, rfl⟩
    have g0' := g0
    cases q4 with
    | false =>
      obtain ⟨wE, rfl⟩ : ∃ q, q = wD := ⟨_, rfl⟩
      obtain ⟨s', hs'⟩ : ∃ q, q = s := ⟨_, rfl⟩
      have UE := Lib.hid uBD
      have HS' := Lib.hid (show s' = s + (if sumP p then 1 else 0) by rw [HSUM.out, h4, hs']; simp)
      have k0 : wE.cell? ⟨BD, 0, none⟩ = some (ei s') := by rw [hs']; exact j0
      have k1 := j1
      have hs'0 : 0 ≤ s' ∧ s' + N ≤ 1000 := by omega
      have e4 := h4
      clear j0 j1 zD uBD HSUM hs'
      go_upto_region 6 with (fail)
      go_upto_region 7 with (fail)
      clear g0' e4
      have S1 := Lib.hid (HFOL.out wE)
      clear HFOL
      go_wp2_with fail
      refine S1.out.mono ?_
      rintro e w1 ⟨rfl, hu1⟩
      have UF := Lib.hid (UE.out.trans hu1)
      have x0 := hu1.keep k0
      have x1 := hu1.keep k1
      have UB1 := Lib.hid (HUB.out.trans (UF.out.mono (by simp)))
      have HW1 := Lib.hid (HWB.out.upd (UF.out.mono (by simp)))
      have HO1 := Lib.hid (HOB.out.upd UF.out (by simp))
      have HR1 := Lib.hid (R_plk.upd HRB.out UF.out (by simp))
      clear S1 hu1 k0 k1 g0 g1 g2 g3 HUB HWB HOB HRB UF UE
      have hal : (folP p) = (args.length : Int) := HOK.out.1.symm
      rw [hal]
      clear hal
      have hal2 : args.length ≤ 2 := by have := HOK.out.1; have := folP_le p; omega
      have hent := enter_fill
      have hL1 : (flatTs args).length + 1 + k ≤ n := by omega
      have HX0 := Lib.hid (And.intro x0 x1)
      clear x0 x1
      go_wp2_with fail
      go_loopw [10, 37] (fun nv iv wr => ∃ (j : Nat) (c : Nat), j ≤ args.length ∧ iv = .int .i64 j ∧ nv = .int .i64 c ∧ Hid (c = k + 1 + (flatTs (args.take j)).length) ∧ c ≤ n ∧ Hid (Upd [B] w1 wr) ∧ Hid (Own [B] wr) ∧
          Hid (R_pl [B] wr [.slice (some ⟨B, 0, none⟩) n n] (row.take k ++ (((s, b) :: plTs (args.take j) s' b') ++ row.drop c)))) (fun _ iv _ => args.length - (intOf iv).toNat)
      case atStart =>
        refine ⟨0, k + 1, Nat.zero_le _, rfl, by go_num, Lib.hid (by simp [flatTs]), by omega, Lib.hid (Upd.refl _ _), HO1, Lib.hid ?_⟩
        have := HR1.out
        rw [List.set_eq_take_append_cons_drop, if_pos (by omega)] at this
        simpa [plTs] using this
      case round =>
        obtain ⟨wo, rfl⟩ : ∃ wo : World, wo = wr := ⟨_, rfl⟩
        obtain ⟨j, c, hj, rfl, rfl, HC, hcn, HU, HO, HR⟩ := hrel
        by_cases hlt : j < args.length
        · have hW := HW1.out.upd HU.out
          have cf := hW.f
          have y0 := HU.out.keepF (by simp; omega) HX0.out.1
          have y1 := HU.out.keepF (by simp; omega) HX0.out.2
          have hsp : flatTs args = flatTs (args.take j) ++ (flatT args[j] ++ flatTs (args.drop (j + 1))) := by
            conv => lhs; rw [← List.take_append_drop j args, flatTs_append, List.drop_eq_getElem_cons hlt]
            rfl
          have hlen := congrArg List.length hsp
          simp only [List.length_append] at hlen
          have hc := HC.out
          have hpt := plTs_len (args.take j) s' b'
          have hdj : body.drop c = flatT args[j] ++ (flatTs (args.drop (j + 1)) ++ post) := by
            have := congrArg (List.drop (flatTs (args.take j)).length) HDR.out
            rw [List.drop_drop, hsp, List.append_assoc, List.drop_append_of_le_length (Nat.le_refl _), List.drop_of_length_le (Nat.le_refl _), List.nil_append, List.append_assoc] at this
            rw [hc]; exact this
          have hokj : okT folP args[j] = true := by
            have := HOK.out.2
            rw [okTs_all, List.all_eq_true] at this
            exact this _ (List.getElem_mem hlt)
          have hrow : (row.take k ++ (((s, b) :: plTs (args.take j) s' b') ++ row.drop c)).length = n := by
            simp only [List.length_append, List.length_take, List.length_cons, List.length_drop, hpt, hrl]; omega
          have S2 := Lib.hid (HIH.out args[j] c (flatTs (args.drop (j + 1)) ++ post) s' b' wo _ (by omega) hokj hdj (by omega) (by omega) hrow hW HO.out HR.out)
          have HNX := Lib.hid (show (row.take k ++ (((s, b) :: plTs (args.take j) s' b') ++ row.drop c)).take c ++ (plT args[j] s' b' ++ (row.take k ++ (((s, b) :: plTs (args.take j) s' b') ++ row.drop c)).drop (c + (flatT args[j]).length)) = row.take k ++ (((s, b) :: plTs (args.take (j + 1)) s' b') ++ row.drop (c + (flatT args[j]).length)) from by
            have hA : ((s, b) :: plTs (args.take j) s' b').length = (flatTs (args.take j)).length + 1 := by rw [List.length_cons, hpt]
            have hB := plT_len args[j] s' b'
            have := fill_in row ((s, b) :: plTs (args.take j) s' b') (plT args[j] s' b') k (by omega)
            rw [hA, hB, show k + ((flatTs (args.take j)).length + 1) = c by omega] at this
            rw [this, plTs_take _ _ _ _ hlt]; simp)
          have HNC := Lib.hid (show c + (flatT args[j]).length = k + 1 + (flatTs (args.take (j + 1))).length by rw [flatTs_take _ _ hlt, List.length_append]; omega)
          have hle : c + (flatT args[j]).length ≤ n := by omega
          have hjl : (j : Int) < (args.length : Int) := by omega
          clear hsp hlen hc hpt hdj hokj hrow hW HR HO HC
          generalize (flatT args[j]).length = z at *
          go_wp2_with fail
          refine S2.out.mono ?_
          rintro e w2 ⟨rfl, hu2, ho2, hr2⟩
          have HU2 := Lib.hid (HU.out.trans hu2)
          rw [HNX.out] at hr2
          have HR2 := Lib.hid (And.intro ho2 hr2)
          clear hu2 ho2 hr2 S2 cf y0 y1 HU HNX
          go_wp2_with fail
          go_roundw
          case rel => exact ⟨j + 1, c + z, by omega, by go_num, by go_num, HNC, hle, HU2, Lib.hid HR2.out.1, Lib.hid HR2.out.2⟩
          case measure => simp [intOf]; omega
        · obtain rfl : j = args.length := by omega
          have HE := Lib.hid (And.intro HC.out HR.out)
          have hjl : ¬ (args.length : Int) < (args.length : Int) := by omega
          clear HR
          go_wp2_with fail
          go_ret
          obtain ⟨hc, hr⟩ := HE.out
          rw [List.take_length] at hc hr
          refine ⟨?_, UB1.out.trans HU.out, HO.out, ?_⟩
          · rw [show k + (flatT (Tr.mk p args)).length = c by rw [flatT, List.length_cons]; omega]; rfl
          · rw [HPL.out, HB1.out, ← HS'.out, show k + (flatT (Tr.mk p args)).length = c by rw [flatT, List.length_cons]; omega]; exact hr
    | true =>
      obtain ⟨wE, hwE⟩ : ∃ q, q = wD.setCell ⟨BD, 0, none⟩ (ei (s + 1)) := ⟨_, rfl⟩
      obtain ⟨s', hs'⟩ : ∃ q, q = s + 1 := ⟨_, rfl⟩
      have UE := Lib.hid (show Upd [] wB wE by rw [hwE]; exact uBD.setCell (Or.inl hBnew) _)
      have HS' := Lib.hid (show s' = s + (if sumP p then 1 else 0) by rw [HSUM.out, h4, hs']; simp)
      have k0 : wE.cell? ⟨BD, 0, none⟩ = some (ei s') := by rw [hwE, hs']; exact World.cell?_setCell_same _ _ _ j0
      have hx : ∀ b1 o1, (b1 ≠ BD ∨ o1 ≠ 0) → wE.cell? ⟨b1, o1, none⟩ = wD.cell? ⟨b1, o1, none⟩ := fun b1 o1 ho => by rw [hwE]; exact World.cell?_setCell_other _ _ _ _ (by intro h; simp only [Addr.mk.injEq] at h; omega)
      have k1 := (hx BD 1 (by omega)).trans j1
      have G0 := (hx BC 0 (Or.inl hBCD)).trans g0
      have G1 := (hx BC 1 (Or.inl hBCD)).trans g1
      have G2 := (hx BC 2 (Or.inl hBCD)).trans g2
      have G3 := (hx BC 3 (Or.inl hBCD)).trans g3
      have hs'0 : 0 ≤ s' ∧ s' + N ≤ 1000 := by omega
      have e4 := h4
      clear hx uBD HSUM hs'
      go_upto_region 6 with (fail)
      rw [← hwE]
      clear hwE j0 j1 zD g0 g1 g2 g3
      have g0 := G0
      have g1 := G1
      have g2 := G2
      have g3 := G3
      clear G0 G1 G2 G3
      go_upto_region 7 with (fail)
      clear g0' e4
      have S1 := Lib.hid (HFOL.out wE)
      clear HFOL
      go_wp2_with fail
      refine S1.out.mono ?_
      rintro e w1 ⟨rfl, hu1⟩
      have UF := Lib.hid (UE.out.trans hu1)
      have x0 := hu1.keep k0
      have x1 := hu1.keep k1
      have UB1 := Lib.hid (HUB.out.trans (UF.out.mono (by simp)))
      have HW1 := Lib.hid (HWB.out.upd (UF.out.mono (by simp)))
      have HO1 := Lib.hid (HOB.out.upd UF.out (by simp))
      have HR1 := Lib.hid (R_plk.upd HRB.out UF.out (by simp))
      clear S1 hu1 k0 k1 g0 g1 g2 g3 HUB HWB HOB HRB UF UE
      have hal : (folP p) = (args.length : Int) := HOK.out.1.symm
      rw [hal]
      clear hal
      have hal2 : args.length ≤ 2 := by have := HOK.out.1; have := folP_le p; omega
      have hent := enter_fill
      have hL1 : (flatTs args).length + 1 + k ≤ n := by omega
      have HX0 := Lib.hid (And.intro x0 x1)
      clear x0 x1
      go_wp2_with fail
      go_loopw [10, 37] (fun nv iv wr => ∃ (j : Nat) (c : Nat), j ≤ args.length ∧ iv = .int .i64 j ∧ nv = .int .i64 c ∧ Hid (c = k + 1 + (flatTs (args.take j)).length) ∧ c ≤ n ∧ Hid (Upd [B] w1 wr) ∧ Hid (Own [B] wr) ∧
          Hid (R_pl [B] wr [.slice (some ⟨B, 0, none⟩) n n] (row.take k ++ (((s, b) :: plTs (args.take j) s' b') ++ row.drop c)))) (fun _ iv _ => args.length - (intOf iv).toNat)
      case atStart =>
        refine ⟨0, k + 1, Nat.zero_le _, rfl, by go_num, Lib.hid (by simp [flatTs]), by omega, Lib.hid (Upd.refl _ _), HO1, Lib.hid ?_⟩
        have := HR1.out
        rw [List.set_eq_take_append_cons_drop, if_pos (by omega)] at this
        simpa [plTs] using this
      case round =>
        obtain ⟨wo, rfl⟩ : ∃ wo : World, wo = wr := ⟨_, rfl⟩
        obtain ⟨j, c, hj, rfl, rfl, HC, hcn, HU, HO, HR⟩ := hrel
        by_cases hlt : j < args.length
        · have hW := HW1.out.upd HU.out
          have cf := hW.f
          have y0 := HU.out.keepF (by simp; omega) HX0.out.1
          have y1 := HU.out.keepF (by simp; omega) HX0.out.2
          have hsp : flatTs args = flatTs (args.take j) ++ (flatT args[j] ++ flatTs (args.drop (j + 1))) := by
            conv => lhs; rw [← List.take_append_drop j args, flatTs_append, List.drop_eq_getElem_cons hlt]
            rfl
          have hlen := congrArg List.length hsp
          simp only [List.length_append] at hlen
          have hc := HC.out
          have hpt := plTs_len (args.take j) s' b'
          have hdj : body.drop c = flatT args[j] ++ (flatTs (args.drop (j + 1)) ++ post) := by
            have := congrArg (List.drop (flatTs (args.take j)).length) HDR.out
            rw [List.drop_drop, hsp, List.append_assoc, List.drop_append_of_le_length (Nat.le_refl _), List.drop_of_length_le (Nat.le_refl _), List.nil_append, List.append_assoc] at this
            rw [hc]; exact this
          have hokj : okT folP args[j] = true := by
            have := HOK.out.2
            rw [okTs_all, List.all_eq_true] at this
            exact this _ (List.getElem_mem hlt)
          have hrow : (row.take k ++ (((s, b) :: plTs (args.take j) s' b') ++ row.drop c)).length = n := by
            simp only [List.length_append, List.length_take, List.length_cons, List.length_drop, hpt, hrl]; omega
          have S2 := Lib.hid (HIH.out args[j] c (flatTs (args.drop (j + 1)) ++ post) s' b' wo _ (by omega) hokj hdj (by omega) (by omega) hrow hW HO.out HR.out)
          have HNX := Lib.hid (show (row.take k ++ (((s, b) :: plTs (args.take j) s' b') ++ row.drop c)).take c ++ (plT args[j] s' b' ++ (row.take k ++ (((s, b) :: plTs (args.take j) s' b') ++ row.drop c)).drop (c + (flatT args[j]).length)) = row.take k ++ (((s, b) :: plTs (args.take (j + 1)) s' b') ++ row.drop (c + (flatT args[j]).length)) from by
            have hA : ((s, b) :: plTs (args.take j) s' b').length = (flatTs (args.take j)).length + 1 := by rw [List.length_cons, hpt]
            have hB := plT_len args[j] s' b'
            have := fill_in row ((s, b) :: plTs (args.take j) s' b') (plT args[j] s' b') k (by omega)
            rw [hA, hB, show k + ((flatTs (args.take j)).length + 1) = c by omega] at this
            rw [this, plTs_take _ _ _ _ hlt]; simp)
          have HNC := Lib.hid (show c + (flatT args[j]).length = k + 1 + (flatTs (args.take (j + 1))).length by rw [flatTs_take _ _ hlt, List.length_append]; omega)
          have hle : c + (flatT args[j]).length ≤ n := by omega
          have hjl : (j : Int) < (args.length : Int) := by omega
          clear hsp hlen hc hpt hdj hokj hrow hW HR HO HC
          generalize (flatT args[j]).length = z at *
          go_wp2_with fail
          refine S2.out.mono ?_
          rintro e w2 ⟨rfl, hu2, ho2, hr2⟩
          have HU2 := Lib.hid (HU.out.trans hu2)
          rw [HNX.out] at hr2
          have HR2 := Lib.hid (And.intro ho2 hr2)
          clear hu2 ho2 hr2 S2 cf y0 y1 HU HNX
          go_wp2_with fail
          go_roundw
          case rel => exact ⟨j + 1, c + z, by omega, by go_num, by go_num, HNC, hle, HU2, Lib.hid HR2.out.1, Lib.hid HR2.out.2⟩
          case measure => simp [intOf]; omega
        · obtain rfl : j = args.length := by omega
          have HE := Lib.hid (And.intro HC.out HR.out)
          have hjl : ¬ (args.length : Int) < (args.length : Int) := by omega
          clear HR
          go_wp2_with fail
          go_ret
          obtain ⟨hc, hr⟩ := HE.out
          rw [List.take_length] at hc hr
          refine ⟨?_, UB1.out.trans HU.out, HO.out, ?_⟩
          · rw [show k + (flatT (Tr.mk p args)).length = c by rw [flatT, List.length_cons]; omega]; rfl
          · rw [HPL.out, HB1.out, ← HS'.out, show k + (flatT (Tr.mk p args)).length = c by rw [flatT, List.length_cons]; omega]; exact hr

theorem Tryz.infoPl : (Tryz.prog.info? 171).map (fun i => (i.zero, i.size, i.bytes)) = some (some (.agg #[.int .i64 0, .bool false]), 2, 16) := by kernel_rfl
set_option maxRecDepth 20000 in
set_option maxHeartbeats 4000000 in
theorem placesI (cs : List Value) (d : De) (x : Tr Pa) (w : World) (fp : List Nat) (hR : R_De fp w cs d) (hok : okT folP x = true) (hfl : flatT x = d.body) (hl : d.body.length ≤ 20) (hp0 : 0 ≤ d.pars) (hp1 : d.pars ≤ 3) :
    Calls Tryz.prog 125 #[.agg cs.toArray] w fun e w' => (∃ v', e = .returned v' ∧ New R_pl w w' v' (plT x d.pars false)) ∧ Upd [] w w' := by
  obtain ⟨i0, hi, hz0, hz1, hz2⟩ := info_parts Tryz.infoPl
  obtain ⟨v2, f2, rfl, h2, rfl⟩ := hR
  have h2' := h2
  obtain ⟨a, cap, rfl, g1, g2, -⟩ := slQ_open h2
  have hpos := flatT_pos x
  rw [hfl] at hpos
  have hxl := plT_len x d.pars false
  rw [hfl] at hxl
  have HFL := Lib.hid hfl
  have HOK := Lib.hid hok
  obtain ⟨wA, hwA⟩ : ∃ wA, wA = w.alloc (.cells #[es d.name, ei d.pars, .slice a d.body.length cap] 78) := ⟨_, rfl⟩
  obtain ⟨D, hD⟩ : ∃ D, D = w.heap.size := ⟨_, rfl⟩
  have uA : Upd [] w wA := by rw [hwA]; exact (Upd.refl _ _).alloc _
  have d1 : wA.cell? ⟨D, 1, none⟩ = some (ei d.pars) := by rw [hwA, hD]; exact cell_new w _ _ _ rfl 1 _ rfl
  have d2 : wA.cell? ⟨D, 2, none⟩ = some (.slice a d.body.length cap) := by rw [hwA, hD]; exact cell_new w _ _ _ rfl 2 _ rfl
  have hDA : D < wA.heap.size := by rw [hwA, hD]; simp
  have hDw : w.heap.size = D := hD.symm
  have HB2 := Lib.hid (R_Pa1k.lt h2)
  have HBR := Lib.hid (R_Pa1k.upd h2' uA (by simp))
  clear h2 h2' hfl hok
  unfold maxLen at g2
  generalize d.body = body at *
  generalize d.pars = P at *
  generalize hn : body.length = n at *
  have HN := Lib.hid hn
  have HXL := Lib.hid hxl
  have HDW := Lib.hid hDw
  have HPOS := Lib.hid hpos
  clear hn hxl hDw hpos
  have hm1 : i0.bytes * n ≤ 281474976710656 := by rw [hz2]; omega
  go_enter Tryz.func125, Tryz.ntmps125
  go_upto_region 1 with (fail)
  rw [← hwA, ← hD]
  clear hwA hD
  go_upto_region 2 with (first
    | (at_make; refine wpList_make_full _ rfl _ _ 167 rfl wA.heap.size 171 i0 (.agg #[.int .i64 0, .bool false]) 2 Tryz.underlying167 hi hz0 hz1 .i64 .i64 _ _ n rfl rfl rfl rfl hm1 (by unfold maxLen; omega) (Nat.le_refl _) ?_; intro w1 hown hgrow)
    | fail)
  obtain ⟨B, hB⟩ : ∃ B, B = wA.heap.size := ⟨_, rfl⟩
  rw [← hB] at hown ⊢
  rw [made_two] at hown
  obtain ⟨fo, hT, hO, hb0⟩ := New.ofOwns2 (w := wA) (w' := w1) (e := 171) (xs := List.replicate n ((0, false) : Int × Bool)) (e1 := fun t => ei t.1) (e2 := fun t => .bool t.2) (by
    have e : ((List.replicate n ()).flatMap fun _ => [Value.int .i64 0, Value.bool false]) = (List.replicate n ((0, false) : Int × Bool)).flatMap fun t => [ei t.1, .bool t.2] := by
      generalize n = m
      induction m with
      | zero => rfl
      | succ m ih => simp only [List.replicate_succ, List.flatMap_cons, ih]
    rw [← e, ← hB]; simpa using hown)
  have hT : R_pl fo w1 [.slice (some ⟨B, 0, none⟩) n n] (List.replicate n (0, false)) := hT
  have hfo : fo = [B] := by
    obtain ⟨a', q', hv, -, -, hcell⟩ := slF2_open hT
    obtain ⟨b', o', he, hfo, -⟩ := hcell 0 (by simp; have := HPOS.out; omega)
    simp only [Value.slice.injEq] at hv
    rw [← hv.1] at he
    simp only [Option.some.injEq, Addr.mk.injEq, and_true] at he
    rw [hfo, ← he.1]
  subst hfo
  have u1 : Upd [] wA w1 := (Upd.refl _ _).grown hgrow (by simp)
  have hB1 : B < w1.heap.size := hO.lt B (by simp)
  obtain ⟨O, hOO⟩ : ∃ O, O = w1.heap.size := ⟨_, rfl⟩
  obtain ⟨wO, hwO⟩ : ∃ q, q = w1.alloc (.cells #[.slice (some ⟨B, 0, none⟩) n n] 167) := ⟨_, rfl⟩
  obtain ⟨wF, hwF⟩ : ∃ q, q = wO.alloc (.cells #[.nilFunc] 198) := ⟨_, rfl⟩
  have uO : Upd [] w1 wO := by rw [hwO]; exact (Upd.refl _ _).alloc _
  have uF : Upd [] wO wF := by rw [hwF]; exact (Upd.refl _ _).alloc _
  have o0 : wF.cell? ⟨O, 0, none⟩ = some (.slice (some ⟨B, 0, none⟩) n n) := uF.keep (by rw [hwO, hOO]; exact cell_new w1 _ _ _ rfl 0 _ rfl)
  have sO : wO.heap.size = O + 1 := by rw [hwO, hOO]; simp
  have hhF : wF.heap[O + 1]? = some (.cells #[.nilFunc] 198 (0, 0)) := by rw [hwF, ← sO]; exact heap_alloc_new wO _
  have f0 : wF.cell? ⟨O + 1, 0, none⟩ = some .nilFunc := by simp [World.cell?, hhF]
  have zf : wF.frozen? ⟨O + 1, 0, none⟩ = false := by simp [World.frozen?, hhF]
  obtain ⟨wG, hwG⟩ : ∃ q, q = wF.setCell ⟨O + 1, 0, none⟩ (fillV O D (O + 1)) := ⟨_, rfl⟩
  have hx : ∀ b1 o1, b1 ≠ O + 1 → wG.cell? ⟨b1, o1, none⟩ = wF.cell? ⟨b1, o1, none⟩ := fun b1 o1 ho => by rw [hwG]; exact World.cell?_setCell_other _ _ _ _ (by intro h; simp only [Addr.mk.injEq] at h; omega)
  have uG : Upd [O + 1] wF wG := by rw [hwG]; exact (Upd.refl _ _).setCell (Or.inr (by simp)) _
  have hs1 := u1.size
  have u1F : Upd [] w1 wF := uO.trans uF
  have uwG : Upd [] wA wG := (u1.trans u1F).fresh uG (fun b hb => Or.inl (by simp at hb; omega))
  have gf : wG.cell? ⟨O + 1, 0, none⟩ = some (fillV O D (O + 1)) := by rw [hwG]; exact World.cell?_setCell_same _ _ _ f0
  have g1 : wG.cell? ⟨D, 1, none⟩ = some (ei P) := uwG.keep d1
  have nD : D ≠ O + 1 := by omega
  have hFW : FillW O D (O + 1) B n (.slice a n cap) f2 body wG := by
    refine ⟨(hx O 0 (by omega)).trans o0, uwG.keep d2, gf, R_Pa1k.upd HBR.out uwG (by simp), by omega, by omega, by omega, fun h => ?_⟩
    have := HB2.out B h
    have := HDW.out
    omega
  have hOG : Own [B] wG := (hO.upd u1F (by simp)).upd uG (by intro b hb; simp at hb ⊢; omega)
  have hTG := R_plk.upd (R_plk.upd hT u1F (by simp)) uG (by intro b hb; simp at hb ⊢; omega)
  have S1 := Lib.hid (fillI O D (O + 1) B n (.slice a n cap) f2 body (by omega) HN.out 20 x 0 [] P false wG _ (by rw [HFL.out, HN.out]; omega) HOK.out (by simp [HFL.out]) hp0 (by omega) (by simp) hFW hOG hTG)
  have HRES := Lib.hid (show (List.replicate n ((0, false) : Int × Bool)).take 0 ++ (plT x P false ++ (List.replicate n ((0, false) : Int × Bool)).drop (0 + (flatT x).length)) = plT x P false by
    rw [List.drop_of_length_le (by simp [HFL.out, HN.out])]; simp)
  have UA := Lib.hid uA
  have UG := Lib.hid uwG
  have HFIN := Lib.hid (And.intro hFW.o (show B ≠ O by omega))
  have HBA := Lib.hid (show wA.heap.size ≤ B by omega)
  have hent := enter_fill
  clear hFW hOG hTG uwG uA hs1 u1F u1 uO uF uG hx hT hO hb0 hgrow hown
  clear hB
  go_upto_region 3 with (fail)
  rw [← hwO, ← hOO, ← hwF]
  clear hwO hwF hOO o0
  go_upto_region 4 with (fail)
  rw [← hwG]
  clear hwG f0 zf hhF sO
  go_wp2_with fail
  refine S1.out.mono ?_
  rintro e w2 ⟨rfl, hu, ho, hr⟩
  have c0 := hu.keepF (by simp; exact HFIN.out.2.symm) HFIN.out.1
  rw [HRES.out] at hr
  have HE := Lib.hid (And.intro hu (And.intro ho hr))
  clear hu ho hr S1 gf g1
  go_wp2_with fail
  go_ret
  obtain ⟨hu, ho, hr⟩ := HE.out
  have hBA := HBA.out
  have hua := UA.out.size
  exact ⟨⟨_, rfl, [B], hr, ho, by simp; omega⟩, (UA.out.trans UG.out).fresh hu (fun b hb => Or.inl (by simp at hb; omega))⟩

end Go.Proofs.YtijmkcnipflpbaaGreatDoor

/-
  Why a part of a body is not valid: what the program's call returns.
-/
namespace Go.Proofs.YtijmkcnipflpbaaGreatDoor
open Go.RowKit

theorem enter_reason1 (args : Array Value) (w : World) : Sem.run Tryz.prog (callFunc 151 args) w = .ok (.enter 151 args) w := by go_simp
set_option maxRecDepth 20000 in
set_option maxHeartbeats 2000000 in
theorem reason1I (u : Value) (x : List Tm) (sc : Int) (B : Nat) (W : World) (f : List Nat) (h0 : 0 ≤ sc) (h1 : sc ≤ 29) (hR : R_T1 f W [u] x) (c0 : W.cell? ⟨B, 0, none⟩ = some (ei sc)) :
    Calls Tryz.prog 151 #[u, .pointer (some ⟨B, 0, none⟩)] W fun e w' => e = .returned (.bool (!isE x sc 15)) ∧ Upd [] W w' := by
  have hv : validE x sc 15 = isE x sc 15 := by
    unfold validE; rw [inB_mk (by omega), inB_mk (by omega)]; rfl
  have S1 := Lib.hid (validTerms u x sc 15 W f hR)
  rw [hv] at S1
  clear hv hR
  generalize isE x sc 15 = q at *
  go_enter Tryz.func151, Tryz.ntmps151
  go_wp2_with fail
  refine S1.out.mono ?_
  rintro e w1 ⟨rfl, hu⟩
  have HU := Lib.hid hu
  clear hu S1
  go_wp2_with fail
  go_ret
  exact ⟨rfl, HU.out⟩

set_option maxRecDepth 20000 in
set_option maxHeartbeats 8000000 in
theorem reasonI (ds : List De) (dv : Value) (fd : List Nat) (cs : List Value) (p : Pa) (fp : List Nat) (sc : Int) (bh : Bool) (w : World) (hD : R_De1 fd w [dv] ds) (hR : R_Pa fp w cs p) (hdl : ds.length ≤ 1000000) (hnl : p.name.length ≤ 2000000) (hal : p.args.length ≤ 2000000) (hs0 : 0 ≤ sc) (hs1 : sc ≤ 29) :
    Calls Tryz.prog 126 #[.agg cs.toArray, dv, .agg #[ei sc, .bool bh]] w fun e w' => e = .returned (.int .i64 (reasonP ds p sc bh)) ∧ Upd [] w w' := by
  have hD' := hD
  obtain ⟨ad, dq, rfl, dg1, dg2, -⟩ := slQ_open hD
  unfold maxLen at dg2
  obtain ⟨v3, f3, rfl, h3, rfl⟩ := hR
  have h3' := h3
  obtain ⟨aa, aq, rfl, ag1, ag2, -⟩ := slP_open h3
  unfold maxLen at ag2
  have HM := Lib.hid (show reasonP ds p sc bh = (if (!kindP p) = true then 2 else if ((p.kind == 1) && (!(p.name == tauL) && !actF p.name)) = true then 3 else if ((p.kind == 4 && !inB p.num 1 7) || (p.kind == 5 && !inB p.num 0 ((ds.length : Int) - 1))) = true then 4 else if (!countP ds p) = true then 5 else if (p.kind == 5 && !bh) = true then 6 else if (p.kind == 4 && decide (6 ≤ sc)) = true then 7 else if (p.args.any (fun e => !isE e sc 15)) = true then 8 else 0) by
    have := name_act p.name
    simp only [bne] at this
    rw [this]; rfl)
  obtain ⟨wA, hwA⟩ : ∃ wA, wA = (w.alloc (.cells #[ei p.kind, ei p.num, es p.name, .slice aa p.args.length aq] 127)).alloc (.cells #[ei sc, .bool bh] 171) := ⟨_, rfl⟩
  obtain ⟨BA, hBA⟩ : ∃ BA, BA = w.heap.size := ⟨_, rfl⟩
  have uA : Upd [] w wA := by rw [hwA]; exact ((Upd.refl _ _).alloc _).alloc _
  have HC := Lib.hid (fun W (hu : Upd [] wA W) => show W.cell? ⟨BA, 0, none⟩ = some (ei p.kind) ∧ W.cell? ⟨BA, 1, none⟩ = some (ei p.num) ∧ W.cell? ⟨BA, 2, none⟩ = some (es p.name) ∧ W.cell? ⟨BA, 3, none⟩ = some (.slice aa p.args.length aq) ∧ W.cell? ⟨BA + 1, 0, none⟩ = some (ei sc) ∧ W.cell? ⟨BA + 1, 1, none⟩ = some (.bool bh) from by
    have s1 : (w.alloc (.cells #[ei p.kind, ei p.num, es p.name, .slice aa p.args.length aq] 127)).heap.size = BA + 1 := by rw [hBA]; simp
    have hk : ∀ (j : Nat) c, (#[ei p.kind, ei p.num, es p.name, .slice aa p.args.length aq] : Array Value)[j]? = some c → wA.cell? ⟨BA, j, none⟩ = some c := fun j c hc => by
      rw [hwA, hBA]; exact ((Upd.refl [] _).alloc _).keep (cell_new w _ _ _ rfl j _ hc)
    exact ⟨hu.keep (hk 0 _ rfl), hu.keep (hk 1 _ rfl), hu.keep (hk 2 _ rfl), hu.keep (hk 3 _ rfl), hu.keep (by rw [hwA]; exact cell_new _ _ _ _ s1 0 _ rfl), hu.keep (by rw [hwA]; exact cell_new _ _ _ _ s1 1 _ rfl)⟩)
  have SK := Lib.hid (kindOkI p aa aq wA)
  have SC := Lib.hid (fun (hn : p.kind = 5 → 0 ≤ p.num ∧ p.num < ds.length) W (hu : Upd [] w W) => countOkI ds (.slice ad ds.length dq) fd p aa aq W (R_De1k.upd hD' hu (by simp)) hn hal)
  have SA := Lib.hid (fun W => isActionI p.name W hnl)
  have SW := Lib.hid (fun W => within p.num 1 7 W)
  have SI := Lib.hid (fun W => idxI p.num ds.length W hdl)
  have SV := Lib.hid (fun W (hu : Upd [] wA W) (c3 : W.cell? ⟨BA + 1, 0, none⟩ = some (ei sc)) =>
    containsFuncE (fun e => !isE e sc 15) 151 #[.pointer (some ⟨BA + 1, 0, none⟩)] (.slice aa p.args.length aq) p.args W f3 (R_T2k.upd h3' (uA.trans hu) (by simp)) enter_reason1 (fun wr u f y hu2 hy => reason1I u y sc (BA + 1) wr f hs0 hs1 hy (hu2.keep c3)))
  have UA := Lib.hid uA
  have HI := Lib.hid (fun (h : inB p.num 0 ((ds.length : Int) - 1) = true) => show 0 ≤ p.num ∧ p.num < ds.length by have := inB_true h; omega)
  obtain ⟨c0, c1, c2, c3, d0, d1⟩ := HC.out wA (Upd.refl _ _)
  clear hD hD' h3 h3' uA
  obtain ⟨k, num, name, args⟩ := p
  simp only at *
  generalize reasonP ds ⟨k, num, name, args⟩ sc bh = Z at *
  generalize kindP ⟨k, num, name, args⟩ = qk at *
  generalize countP ds ⟨k, num, name, args⟩ = qc at *
  generalize actF name = qa at *
  generalize inB num 1 7 = r4 at *
  generalize inB num 0 ((ds.length : Int) - 1) = r5 at *
  generalize (args.any fun e => !isE e sc 15) = ga at *
  generalize args.length = n at *
  generalize ds.length = N at *
  obtain ⟨q1, h1⟩ : ∃ q, (k == 1) = q := ⟨_, rfl⟩
  obtain ⟨q4, h4⟩ : ∃ q, (k == 4) = q := ⟨_, rfl⟩
  obtain ⟨q5, h5⟩ : ∃ q, (k == 5) = q := ⟨_, rfl⟩
  obtain ⟨t0, ht⟩ : ∃ q, (name == tauL) = q := ⟨_, rfl⟩
  obtain ⟨s6, hs⟩ : ∃ q, decide (6 ≤ sc) = q := ⟨_, rfl⟩
  rw [h1, h4, h5, ht, hs] at HM
  have htb : (name == [116, 97, 117]) = t0 := ht
  obtain ⟨t1, htn⟩ : ∃ q, (name != [116, 97, 117]) = q := ⟨_, rfl⟩
  have ht1 : t1 = !t0 := by rw [← htn, ← ht]; rfl
  have hent := enter_reason1
  clear ht
  go_enter Tryz.func126, Tryz.ntmps126
  go_upto_region 1 with (fail)
  rw [← hwA, ← hBA]
  clear hwA hBA
  go_wp2_with fail
  refine SK.out.mono ?_
  rintro e w1 ⟨rfl, hu⟩
  have HU := Lib.hid hu
  clear hu SK c0 c1 c2 c3 d0 d1
  obtain ⟨c0, c1, c2, c3, d0, d1⟩ := HC.out w1 HU.out
  cases qk with
  | false =>
    have HZ := Lib.hid (UA.out.trans HU.out)
    clear HC HU UA
    go_wp2_with fail
    go_ret
    exact ⟨by rw [HM.out]; rfl, HZ.out⟩
  | true =>
    cases q1 with
    | false =>
      cases q4 with
      | false =>
        cases q5 with
        | false =>
          replace SC := Lib.hid (SC.out (fun h => absurd h (by simpa using h5)))
          have TT := Lib.hid (SC.out w1 (UA.out.trans HU.out))
          clear SC
          go_wp2_with fail
          refine TT.out.mono ?_
          rintro e w1 ⟨rfl, hu⟩
          replace HU := Lib.hid (HU.out.trans hu)
          clear hu TT c0 c1 c2 c3 d0 d1
          obtain ⟨c0, c1, c2, c3, d0, d1⟩ := HC.out w1 HU.out
          cases qc with
          | false =>
            have HZ := Lib.hid (UA.out.trans HU.out)
            clear HC HU UA
            go_wp2_with fail
            go_ret
            exact ⟨by rw [HM.out]; rfl, HZ.out⟩
          | true =>
            have TT := Lib.hid (SV.out w1 HU.out d0)
            go_wp2_with fail
            refine TT.out.mono ?_
            rintro e w2 ⟨rfl, hu⟩
            replace HU := Lib.hid (HU.out.trans hu)
            clear hu TT c0 c1 c2 c3 d0 d1
            obtain ⟨c0, c1, c2, c3, d0, d1⟩ := HC.out w2 HU.out
            cases ga with
            | false =>
              have HZ := Lib.hid (UA.out.trans HU.out)
              clear HC HU UA
              go_wp2_with fail
              go_ret
              exact ⟨by rw [HM.out]; rfl, HZ.out⟩
            | true =>
              have HZ := Lib.hid (UA.out.trans HU.out)
              clear HC HU UA
              go_wp2_with fail
              go_ret
              exact ⟨by rw [HM.out]; rfl, HZ.out⟩
        | true =>
          obtain rfl : k = 5 := by simpa using h5
          have TT := Lib.hid (SI.out w1)
          go_wp2_with fail
          refine TT.out.mono ?_
          rintro e wq ⟨rfl, rfl⟩
          clear TT
          cases r5 with
          | false =>
            have HZ := Lib.hid (UA.out.trans HU.out)
            clear HC HU UA
            go_wp2_with fail
            go_ret
            exact ⟨by rw [HM.out]; rfl, HZ.out⟩
          | true =>
            replace SC := Lib.hid (SC.out (fun _ => HI.out rfl))
            have TT := Lib.hid (SC.out w1 (UA.out.trans HU.out))
            clear SC
            go_wp2_with fail
            refine TT.out.mono ?_
            rintro e w9 ⟨rfl, hu⟩
            replace HU := Lib.hid (HU.out.trans hu)
            clear hu TT c0 c1 c2 c3 d0 d1
            obtain ⟨c0, c1, c2, c3, d0, d1⟩ := HC.out w9 HU.out
            cases qc with
            | false =>
              have HZ := Lib.hid (UA.out.trans HU.out)
              clear HC HU UA
              go_wp2_with fail
              go_ret
              exact ⟨by rw [HM.out]; rfl, HZ.out⟩
            | true =>
              cases bh with
              | false =>
                have HZ := Lib.hid (UA.out.trans HU.out)
                clear HC HU UA
                go_wp2_with fail
                go_ret
                exact ⟨by rw [HM.out]; rfl, HZ.out⟩
              | true =>
                have TT := Lib.hid (SV.out w9 HU.out d0)
                go_wp2_with fail
                refine TT.out.mono ?_
                rintro e w10 ⟨rfl, hu⟩
                replace HU := Lib.hid (HU.out.trans hu)
                clear hu TT c0 c1 c2 c3 d0 d1
                obtain ⟨c0, c1, c2, c3, d0, d1⟩ := HC.out w10 HU.out
                cases ga with
                | false =>
                  have HZ := Lib.hid (UA.out.trans HU.out)
                  clear HC HU UA
                  go_wp2_with fail
                  go_ret
                  exact ⟨by rw [HM.out]; rfl, HZ.out⟩
                | true =>
                  have HZ := Lib.hid (UA.out.trans HU.out)
                  clear HC HU UA
                  go_wp2_with fail
                  go_ret
                  exact ⟨by rw [HM.out]; rfl, HZ.out⟩
      | true =>
        obtain rfl : k = 4 := by simpa using h4
        obtain rfl : false = q5 := h5
        replace SC := Lib.hid (SC.out (fun h => absurd h (by decide)))
        have TT := Lib.hid (SW.out w1)
        go_wp2_with fail
        refine TT.out.mono ?_
        rintro e wq ⟨rfl, rfl⟩
        clear TT
        cases r4 with
        | false =>
          have HZ := Lib.hid (UA.out.trans HU.out)
          clear HC HU UA
          go_wp2_with fail
          go_ret
          exact ⟨by rw [HM.out]; rfl, HZ.out⟩
        | true =>
          have TT := Lib.hid (SC.out w1 (UA.out.trans HU.out))
          clear SC
          go_wp2_with fail
          refine TT.out.mono ?_
          rintro e w7 ⟨rfl, hu⟩
          replace HU := Lib.hid (HU.out.trans hu)
          clear hu TT c0 c1 c2 c3 d0 d1
          obtain ⟨c0, c1, c2, c3, d0, d1⟩ := HC.out w7 HU.out
          cases qc with
          | false =>
            have HZ := Lib.hid (UA.out.trans HU.out)
            clear HC HU UA
            go_wp2_with fail
            go_ret
            exact ⟨by rw [HM.out]; rfl, HZ.out⟩
          | true =>
            cases s6 with
            | false =>
              have hs2 : ¬ (6 ≤ sc) := of_decide_eq_false hs
              have TT := Lib.hid (SV.out w7 HU.out d0)
              go_wp2_with fail
              refine TT.out.mono ?_
              rintro e w8 ⟨rfl, hu⟩
              replace HU := Lib.hid (HU.out.trans hu)
              clear hu TT c0 c1 c2 c3 d0 d1
              obtain ⟨c0, c1, c2, c3, d0, d1⟩ := HC.out w8 HU.out
              cases ga with
              | false =>
                have HZ := Lib.hid (UA.out.trans HU.out)
                clear HC HU UA
                go_wp2_with fail
                go_ret
                exact ⟨by rw [HM.out]; rfl, HZ.out⟩
              | true =>
                have HZ := Lib.hid (UA.out.trans HU.out)
                clear HC HU UA
                go_wp2_with fail
                go_ret
                exact ⟨by rw [HM.out]; rfl, HZ.out⟩
            | true =>
              have hs2 : 6 ≤ sc := of_decide_eq_true hs
              have HZ := Lib.hid (UA.out.trans HU.out)
              clear HC HU UA
              go_wp2_with fail
              go_ret
              exact ⟨by rw [HM.out]; rfl, HZ.out⟩
    | true =>
      obtain rfl : k = 1 := by simpa using h1
      obtain rfl : false = q4 := h4
      obtain rfl : false = q5 := h5
      replace SC := Lib.hid (SC.out (fun h => absurd h (by decide)))
      cases t0 with
      | false =>
        obtain rfl := ht1
        simp only [Bool.not_false] at htn
        have TT := Lib.hid (SA.out w1)
        go_wp2_with fail
        refine TT.out.mono ?_
        rintro e wq ⟨rfl, rfl⟩
        clear TT
        cases qa with
        | false =>
          have HZ := Lib.hid (UA.out.trans HU.out)
          clear HC HU UA
          go_wp2_with fail
          go_ret
          exact ⟨by rw [HM.out]; rfl, HZ.out⟩
        | true =>
          have TT := Lib.hid (SC.out w1 (UA.out.trans HU.out))
          clear SC
          go_wp2_with fail
          refine TT.out.mono ?_
          rintro e w3 ⟨rfl, hu⟩
          replace HU := Lib.hid (HU.out.trans hu)
          clear hu TT c0 c1 c2 c3 d0 d1
          obtain ⟨c0, c1, c2, c3, d0, d1⟩ := HC.out w3 HU.out
          cases qc with
          | false =>
            have HZ := Lib.hid (UA.out.trans HU.out)
            clear HC HU UA
            go_wp2_with fail
            go_ret
            exact ⟨by rw [HM.out]; rfl, HZ.out⟩
          | true =>
            have TT := Lib.hid (SV.out w3 HU.out d0)
            go_wp2_with fail
            refine TT.out.mono ?_
            rintro e w4 ⟨rfl, hu⟩
            replace HU := Lib.hid (HU.out.trans hu)
            clear hu TT c0 c1 c2 c3 d0 d1
            obtain ⟨c0, c1, c2, c3, d0, d1⟩ := HC.out w4 HU.out
            cases ga with
            | false =>
              have HZ := Lib.hid (UA.out.trans HU.out)
              clear HC HU UA
              go_wp2_with fail
              go_ret
              exact ⟨by rw [HM.out]; rfl, HZ.out⟩
            | true =>
              have HZ := Lib.hid (UA.out.trans HU.out)
              clear HC HU UA
              go_wp2_with fail
              go_ret
              exact ⟨by rw [HM.out]; rfl, HZ.out⟩
      | true =>
        obtain rfl := ht1
        simp only [Bool.not_true] at htn
        have TT := Lib.hid (SC.out w1 (UA.out.trans HU.out))
        clear SC
        go_wp2_with fail
        refine TT.out.mono ?_
        rintro e w5 ⟨rfl, hu⟩
        replace HU := Lib.hid (HU.out.trans hu)
        clear hu TT c0 c1 c2 c3 d0 d1
        obtain ⟨c0, c1, c2, c3, d0, d1⟩ := HC.out w5 HU.out
        cases qc with
        | false =>
          have HZ := Lib.hid (UA.out.trans HU.out)
          clear HC HU UA
          go_wp2_with fail
          go_ret
          exact ⟨by rw [HM.out]; rfl, HZ.out⟩
        | true =>
          have TT := Lib.hid (SV.out w5 HU.out d0)
          go_wp2_with fail
          refine TT.out.mono ?_
          rintro e w6 ⟨rfl, hu⟩
          replace HU := Lib.hid (HU.out.trans hu)
          clear hu TT c0 c1 c2 c3 d0 d1
          obtain ⟨c0, c1, c2, c3, d0, d1⟩ := HC.out w6 HU.out
          cases ga with
          | false =>
            have HZ := Lib.hid (UA.out.trans HU.out)
            clear HC HU UA
            go_wp2_with fail
            go_ret
            exact ⟨by rw [HM.out]; rfl, HZ.out⟩
          | true =>
            have HZ := Lib.hid (UA.out.trans HU.out)
            clear HC HU UA
            go_wp2_with fail
            go_ret
            exact ⟨by rw [HM.out]; rfl, HZ.out⟩

end Go.Proofs.YtijmkcnipflpbaaGreatDoor

/-
  The first part of a body that is not valid: what the program's call returns.
-/
namespace Go.Proofs.YtijmkcnipflpbaaGreatDoor
open Go.RowKit

/-- what bounds a definition that is looked at. -/
def DeFit (d : De) : Prop := d.body.length ≤ 2000000 ∧ ∀ p ∈ d.body, p.name.length ≤ 2000000 ∧ p.args.length ≤ 2000000

set_option maxRecDepth 20000 in
set_option maxHeartbeats 8000000 in
theorem bodyFaultI (ds : List De) (dv : Value) (fd : List Nat) (cs : List Value) (d : De) (fp : List Nat) (w : World) (hD : R_De1 fd w [dv] ds) (hdl : ds.length ≤ 1000000) (hR : R_De fp w cs d) (hF : DeFit d) (hp0 : 0 ≤ d.pars) (hp1 : d.pars ≤ 3) :
    Calls Tryz.prog 93 #[dv, .agg cs.toArray] w fun e w' => e = .returned (.tuple #[.int .i64 (faultP ds d).1, .int .i64 (faultP ds d).2]) ∧ Upd [] w w' := by
  have hR' := hR
  obtain ⟨v2, f2, rfl, h2, rfl⟩ := hR
  have h2' := h2
  obtain ⟨a, cap, rfl, g1, g2, hc⟩ := slQ_open h2
  obtain ⟨ad, qd, rfl, -, -, -⟩ := slQ_open hD
  unfold maxLen at g2
  obtain ⟨wA, hwA⟩ : ∃ wA, wA = w.alloc (.cells #[es d.name, ei d.pars, .slice a d.body.length cap] 78) := ⟨_, rfl⟩
  obtain ⟨BA, hBA⟩ : ∃ BA, BA = w.heap.size := ⟨_, rfl⟩
  have uA : Upd [] w wA := by rw [hwA]; exact (Upd.refl _ _).alloc _
  have HC := Lib.hid (fun W (hu : Upd [] wA W) => show W.cell? ⟨BA, 0, none⟩ = some (es d.name) ∧ W.cell? ⟨BA, 1, none⟩ = some (ei d.pars) ∧ W.cell? ⟨BA, 2, none⟩ = some (.slice a d.body.length cap) from
    ⟨hu.keep (by rw [hwA, hBA]; exact cell_new w _ _ _ rfl 0 _ rfl), hu.keep (by rw [hwA, hBA]; exact cell_new w _ _ _ rfl 1 _ rfl), hu.keep (by rw [hwA, hBA]; exact cell_new w _ _ _ rfl 2 _ rfl)⟩)
  have HM := Lib.hid (show faultP ds d = if (inB (d.body.length : Int) 1 20 && shapeG folP 1 d.body) = true then faultFrom ds d d.body 0 d.body else (0, 1) by
    unfold faultP bodyOk inB
    rw [show decide ((1 : Int) ≤ (d.body.length : Int)) = decide (1 ≤ d.body.length) by congr 1; rw [eq_iff_iff]; omega, show decide ((d.body.length : Int) ≤ 20) = decide (d.body.length ≤ 20) by congr 1; rw [eq_iff_iff]; omega])
  have SW := Lib.hid (fun W => within (d.body.length : Int) 1 20 W)
  have SQ := Lib.hid (fun n => (show Calls Tryz.prog 67 #[.int .i64 (d.body.length : Int), .int .i64 1, .int .i64 20] (wA.drewN n) fun e w' => e = .returned (.bool (inB (d.body.length : Int) 1 20)) ∧ ∃ m, w' = wA.drewN m from (within (d.body.length : Int) 1 20 (wA.drewN n)).mono fun e w' ⟨h, hw⟩ => ⟨h, n, hw.symm⟩))
  have HRD := Lib.hid (fun W (hu : Upd [] w W) => R_Dek.upd hR' hu (by simp))
  have UA := Lib.hid uA
  have HFIT := Lib.hid hF
  obtain ⟨c0, c1, c2⟩ := HC.out wA (Upd.refl _ _)
  cases hin : inB (d.body.length : Int) 1 20 with
  | false =>
    rw [hin] at SQ
    have HZ := Lib.hid (show faultP ds d = (0, 1) by rw [HM.out, hin]; rfl)
    generalize faultP ds d = Z at *
    clear HM hin HRD HFIT hR' h2 h2' hc hF hD uA HC
    go_enter Tryz.func93, Tryz.ntmps93
    go_upto_region 1 with (fail)
    rw [← hwA, ← hBA]
    clear hwA hBA
    go_wp2_with fail
    go_quiet ((go_at_call 67; with_reducible exact SQ.out _))
    have HU := Lib.hid (UA.out.drewN nq)
    go_wp2_with fail
    go_ret2
    exact ⟨by rw [HZ.out]; rfl, HU.out⟩
  | true =>
    have h20 := inB_true hin
    rw [hin] at SW
    rw [hin, Bool.true_and] at HM
    have SE := Lib.hid (fun W (hu : Upd [] wA W) => endDI _ d W _ (HRD.out W (UA.out.trans hu)) (by omega))
    have hl20 : d.body.length ≤ 20 := by omega
    clear hin h20 SQ hR' h2 uA
    go_enter Tryz.func93, Tryz.ntmps93
    go_upto_region 1 with (fail)
    rw [← hwA, ← hBA]
    clear hwA hBA
    go_wp2_with fail
    go_region_held3 (fun w' => w'.cell? ⟨BA, 0, none⟩ = some (es d.name) ∧ w'.cell? ⟨BA, 1, none⟩ = some (ei d.pars) ∧ w'.cell? ⟨BA, 2, none⟩ = some (.slice a d.body.length cap)) (go_keep)
      (first
        | (go_at_call 67; (with_reducible refine (SW.out _).mono ?_); rintro e wq ⟨rfl, rfl⟩)
        | (go_at_call 124; (with_reducible refine (SE.out _ (by repeat (first | exact Upd.refl _ _ | refine Upd.drew ?_ | refine Upd.drewN ?_ _))).mono ?_); rintro e w1 ⟨⟨r, rfl, hr0, hr1, hr2⟩, hu1⟩; have d0 := hu1.keep c0; have d1 := hu1.keep c1; have d2 := hu1.keep c2))
    all_goals
      have hne : (r != (d.body.length : Int)) = !shapeG folP 1 d.body := by rw [← hr2]; rfl
      have HU := Lib.hid ((Upd.refl [] wA).drew.trans hu1)
      rw [hne]
      clear hne hr0 hr1 hr2 hu1 SW SE c0 c1 c2
      obtain ⟨sh, hsh⟩ : ∃ q, shapeG folP 1 d.body = q := ⟨_, rfl⟩
      rw [hsh] at HM ⊢
      cases sh with
      | false =>
        have HZ := Lib.hid (show faultP ds d = (0, 1) by rw [HM.out]; rfl)
        clear HM hsh HRD HFIT h2' hc hF hD HC
        go_wp2_with fail
        go_ret2
        exact ⟨by rw [HZ.out]; rfl, UA.out.trans HU.out⟩
      | true =>
        obtain ⟨x, -, hok, hfl⟩ := forestT_one folP_nn hsh
        have HZ := Lib.hid (show faultP ds d = faultFrom ds d d.body 0 d.body by rw [HM.out]; rfl)
        have SP := Lib.hid (placesI _ d x w1 _ (HRD.out w1 (UA.out.trans HU.out)) hok hfl hl20 hp0 hp1)
        have HPL := Lib.hid (fun i (hi : i < d.body.length) => place_at hok hfl i hi)
        have HPN := Lib.hid (show (plT x d.pars false).length = d.body.length by rw [plT_len, hfl])
        clear HM hsh hok hfl
        generalize plT x d.pars false = pl at *
        go_wp2_with fail
        refine SP.out.mono ?_
        rintro e w2 ⟨⟨v', rfl, hnew⟩, hu2⟩
        obtain ⟨apl, cpl, rfl⟩ := New.form hnew
        obtain ⟨fpl, hpr, -, -⟩ := hnew
        have HPR := Lib.hid hpr
        have e2 := hu2.keep d2
        have HU2 := Lib.hid ((UA.out.trans HU.out).trans hu2)
        clear SP hu2 hpr d0 d1 d2
        have hpl' := HPN.out
        rw [hpl']
        clear hpl'
        go_wp2_with fail
        go_loopw [28] (fun iv wr => ∃ k : Nat, k ≤ d.body.length ∧ iv = .int .i64 k ∧ Hid (Upd [] w2 wr) ∧ Hid (faultFrom ds d d.body k (d.body.drop k) = faultFrom ds d d.body 0 d.body)) (fun iv _ => d.body.length - (intOf iv).toNat)
        case atStart => exact ⟨0, Nat.zero_le _, rfl, Lib.hid (Upd.refl _ _), Lib.hid rfl⟩
        case round =>
          obtain ⟨wo, rfl⟩ : ∃ wo : World, wo = wr := ⟨_, rfl⟩
          obtain ⟨k, hk, rfl, HUk, HF⟩ := hrel
          by_cases hlt : k < d.body.length
          · obtain ⟨bb, off, u, f', rfl, -, -, -, hcell, -, hr⟩ := hc k hlt
            have hr' := hr
            obtain ⟨v3, f3, rfl, h3, rfl⟩ := hr
            obtain ⟨a3, c3, rfl, -, -, -⟩ := slP_open h3
            have UW := Lib.hid (HU2.out.trans HUk.out)
            have s0 := UW.out.keep (hcell 0 _ rfl)
            have s1 := UW.out.keep (hcell 1 _ rfl)
            have s2 := UW.out.keep (hcell 2 _ rfl)
            have s3 := UW.out.keep (hcell 3 _ rfl)
            simp only [Nat.add_zero] at s0
            obtain ⟨ap, qp, hvp, -, hqp, hrc⟩ := slF2_open HPR.out
            obtain ⟨bp, op, rfl, -, -, r1, r2⟩ := hrc k (by rw [HPN.out]; exact hlt)
            simp only [Value.slice.injEq] at hvp
            obtain ⟨rfl, -, -⟩ := hvp
            have hplk : pl[k]'(by rw [HPN.out]; exact hlt) = (d.pars + cntB folP sumP d.body k, behindP d.body k) := by
              have := HPL.out k hlt
              rw [List.getElem?_eq_getElem (by rw [HPN.out]; exact hlt)] at this
              exact Option.some.inj this
            rw [hplk] at r1 r2
            have r1 := HUk.out.keep r1
            have r2 := HUk.out.keep r2
            have hcb := cntB_bd folP sumP d.body k
            have hfk := HFIT.out.2 d.body[k] (List.getElem_mem hlt)
            have hf := HF.out
            rw [List.drop_eq_getElem_cons hlt, faultFrom] at hf
            have HFN := Lib.hid hf
            have hsc0 : 0 ≤ d.pars + cntB folP sumP d.body k := by omega
            have hsc1 : d.pars + cntB folP sumP d.body k ≤ 29 := by omega
            have HR := Lib.hid (fun W (hu : Upd [] wo W) => reasonI ds (.slice ad ds.length qd) fd _ d.body[k] _ (d.pars + cntB folP sumP d.body k) (behindP d.body k) W (R_De1k.upd hD (UW.out.trans hu) (by simp)) (R_Pak.upd hr' (UW.out.trans hu) (by simp)) hdl hfk.1 hfk.2 hsc0 hsc1)
            have hkl : (k : Int) < (d.body.length : Int) := by omega
            have hrn := reasonP_nn ds d.body[k] (d.pars + cntB folP sumP d.body k) (behindP d.body k)
            clear hf hrc hplk hcb hfk hr' hcell h3 hsc0 hsc1
            generalize reasonP ds d.body[k] (d.pars + cntB folP sumP d.body k) (behindP d.body k) = rz at *
            generalize d.pars + cntB folP sumP d.body k = sc at *
            generalize behindP d.body k = bh at *
            generalize d.body[k] = p at *
            obtain ⟨wP, hwP⟩ : ∃ q, q = wo.alloc (.cells #[ei p.kind, ei p.num, es p.name, .slice a3 p.args.length c3] 127) := ⟨_, rfl⟩
            obtain ⟨BP, hBP⟩ : ∃ q, q = wo.heap.size := ⟨_, rfl⟩
            have uP : Upd [] wo wP := by rw [hwP]; exact (Upd.refl _ _).alloc _
            have x0 : wP.cell? ⟨BP, 0, none⟩ = some (ei p.kind) := by rw [hwP, hBP]; exact cell_new wo _ _ _ rfl 0 _ rfl
            have x1 : wP.cell? ⟨BP, 1, none⟩ = some (ei p.num) := by rw [hwP, hBP]; exact cell_new wo _ _ _ rfl 1 _ rfl
            have x2 : wP.cell? ⟨BP, 2, none⟩ = some (es p.name) := by rw [hwP, hBP]; exact cell_new wo _ _ _ rfl 2 _ rfl
            have x3 : wP.cell? ⟨BP, 3, none⟩ = some (.slice a3 p.args.length c3) := by rw [hwP, hBP]; exact cell_new wo _ _ _ rfl 3 _ rfl
            have r1 := uP.keep r1
            have r2 := uP.keep r2
            have UP := Lib.hid uP
            clear uP
            go_upto_region 7 with (fail)
            rw [← hwP, ← hBP]
            clear hwP hBP s0 s1 s2 s3
            go_region_held3 (fun w' => w'.cell? ⟨BP, 0, none⟩ = some (ei p.kind) ∧ w'.cell? ⟨BP, 1, none⟩ = some (ei p.num) ∧ w'.cell? ⟨BP, 2, none⟩ = some (es p.name) ∧ w'.cell? ⟨BP, 3, none⟩ = some (.slice a3 p.args.length c3) ∧ w'.cell? ⟨bp, op + k * 2, none⟩ = some (ei sc) ∧ w'.cell? ⟨bp, op + k * 2 + 1, none⟩ = some (.bool bh)) (go_keep)
              (first
                | (go_at_call 126; (with_reducible refine (HR.out _ (UP.out.trans (by repeat (first | exact Upd.refl _ _ | refine Upd.drew ?_ | refine Upd.drewN ?_ _)))).mono ?_); rintro e w5 ⟨rfl, hu5⟩; have y0 := hu5.keep x0; have y1 := hu5.keep x1; have y2 := hu5.keep x2; have y3 := hu5.keep x3; have z1 := hu5.keep r1; have z2 := hu5.keep r2))
            all_goals
              have HU5 := Lib.hid (HUk.out.trans (UP.out.trans ((Upd.refl [] wP).drew.trans hu5)))
              clear hu5 y0 y1 y2 y3 z1 z2 x0 x1 x2 x3 r1 r2 HR UP UW HUk
              by_cases hz : rz = 0
              · have hzb : (rz != 0) = false := by simp [hz]
                have HK := Lib.hid (show faultFrom ds d d.body (k + 1) (d.body.drop (k + 1)) = faultFrom ds d d.body 0 d.body by rw [← HFN.out, if_pos hz])
                clear hz HFN
                go_wp2_with fail
                go_roundw
                case rel => exact ⟨k + 1, by omega, by go_num, HU5, HK⟩
                case measure => simp [intOf]; omega
              · have hzb : (rz != 0) = true := by simp [hz]
                have HK := Lib.hid (show faultP ds d = ((k : Int), rz) by rw [HZ.out, ← HFN.out, if_neg hz])
                clear hz HFN
                go_wp2_with fail
                go_ret2
                exact ⟨by rw [HK.out]; rfl, HU2.out.trans HU5.out⟩
          · have hkk : ¬ (k : Int) < (d.body.length : Int) := by omega
            have hf := HF.out
            rw [List.drop_of_length_le (by omega), faultFrom] at hf
            have HK := Lib.hid (show faultP ds d = (0, 0) by rw [HZ.out, ← hf])
            clear hf
            go_wp2_with fail
            go_ret2
            exact ⟨by rw [HK.out]; rfl, HU2.out.trans HUk.out⟩

end Go.Proofs.YtijmkcnipflpbaaGreatDoor

/-
  Slices of structs (Definition): the first element of which something is true, and whether there is one (the library's functions with a function's value).
-/
namespace Go.Proofs.YtijmkcnipflpbaaGreatDoor
open Go.RowKit

set_option maxRecDepth 20000 in
set_option maxHeartbeats 2000000 in
theorem idxFuncDe (P : De → Bool) (fn : FuncId) (caps : Array Value) (v : Value) (xs : List De) (w : World) (fp : List Nat) (hR : R_De1 fp w [v] xs)
    (hent : ∀ args w, Sem.run Tryz.prog (callFunc fn args) w = .ok (.enter fn args) w)
    (hby : ∀ wr us g s, s ∈ xs → Upd [] w wr → R_De g wr us s → Calls Tryz.prog fn (#[.agg us.toArray] ++ caps) wr fun e w' => e = .returned (.bool (P s)) ∧ Upd [] wr w') :
    Calls Tryz.prog 122 #[v, .func (.func fn) #[] caps] w fun e w' => e = .returned (.int .i64 (firstP P xs)) ∧ Upd [] w w' := by
  obtain ⟨a1, c1, rfl, hl1, hm1, hc1⟩ := slQ_open hR
  unfold maxLen at hm1
  have HBY := Lib.hid hby
  have HC := Lib.hid hc1
  have HF := Lib.hid (fun k (hk : k < xs.length) (h1 : ∀ j (_ : j < k) (hj : j < xs.length), P xs[j] = false) (h2 : P xs[k] = true) => firstP_at k hk h1 h2)
  have HN := Lib.hid (fun (h : ∀ j (hj : j < xs.length), P xs[j] = false) => firstP_none h)
  clear hR hby hc1
  generalize firstP P xs = Z at *
  go_enter Tryz.func122, Tryz.ntmps122
  go_wp2_with fail
  go_loopw [8] (fun i wr => ∃ k : Nat, k ≤ xs.length ∧ i = .int .i64 k ∧ Hid (Upd [] w wr) ∧ Hid (∀ j (_ : j < k) (hj : j < xs.length), P xs[j] = false)) (fun i _ => xs.length - (intOf i).toNat)
  case atStart => exact ⟨0, Nat.zero_le _, rfl, Lib.hid (Upd.refl _ _), Lib.hid (fun j hj => absurd hj (Nat.not_lt_zero _))⟩
  case round =>
    obtain ⟨wo, rfl⟩ : ∃ wo : World, wo = wr := ⟨_, rfl⟩
    obtain ⟨k, hk, rfl, HU, HI⟩ := hrel
    by_cases hlt : k < xs.length
    · obtain ⟨bb, off, u, f', rfl, -, -, hul, hcell, -, hr⟩ := HC.out k hlt
      have HFK := Lib.hid (HF.out k hlt HI.out)
      have HIK := Lib.hid (fun (h : P xs[k] = false) j (hjk : j < k + 1) (hj : j < xs.length) => (show P xs[j] = false by
        by_cases e : j = k
        · subst e; exact h
        · exact HI.out j (by omega) hj))
      have HS1 := Lib.hid (HBY.out wo u f' xs[k] (List.getElem_mem hlt) HU.out (R_Dek.upd hr HU.out (by simp)))
      have hcell' : ∀ (j : Nat) c, u[j]? = some c → wo.cell? ⟨bb, off + k * 3 + j, none⟩ = some c := fun j c hj => HU.out.keep (hcell j c hj)
      match u, hul with
      | [x0, x1, x2], _ =>
        have s0 := hcell' 0 _ rfl
        have s1 := hcell' 1 _ rfl
        have s2 := hcell' 2 _ rfl
        simp only [Nat.add_zero] at s0
        have hkl : (k : Int) < (xs.length : Int) := by omega
        clear hr hcell hcell' HF HN
        generalize xs[k] = s at *
        generalize P s = q at *
        go_wp2_with fail
        refine HS1.out.mono ?_
        rintro e w1 ⟨rfl, hu1⟩
        have HU1 := Lib.hid (HU.out.trans hu1)
        clear HS1 hu1 s0 s1 s2
        cases q with
        | false =>
          replace HIK := Lib.hid (HIK.out rfl)
          clear HFK
          go_wp2_with fail
          go_roundw
          case rel => exact ⟨k + 1, by omega, by go_num, HU1, HIK⟩
          case measure => simp [intOf]; omega
        | true =>
          have HZ := Lib.hid (HFK.out rfl)
          clear HIK HFK
          go_wp2_with fail
          go_ret
          exact ⟨by rw [HZ.out]; rfl, HU1.out⟩
    · have HZ := Lib.hid (HN.out (fun j hj => HI.out j (by omega) hj))
      clear HF HN
      go_wp2_with fail
      go_ret
      exact ⟨by rw [HZ.out]; rfl, HU.out⟩

set_option maxRecDepth 20000 in
theorem conFuncDe (P : De → Bool) (fn : FuncId) (caps : Array Value) (v : Value) (xs : List De) (w : World) (fp : List Nat) (hR : R_De1 fp w [v] xs)
    (hent : ∀ args w, Sem.run Tryz.prog (callFunc fn args) w = .ok (.enter fn args) w)
    (hby : ∀ wr us g s, s ∈ xs → Upd [] w wr → R_De g wr us s → Calls Tryz.prog fn (#[.agg us.toArray] ++ caps) wr fun e w' => e = .returned (.bool (P s)) ∧ Upd [] wr w') :
    Calls Tryz.prog 119 #[v, .func (.func fn) #[] caps] w fun e w' => e = .returned (.bool (xs.any P)) ∧ Upd [] w w' := by
  have S1 := Lib.hid (idxFuncDe P fn caps v xs w fp hR hent hby)
  have HB := Lib.hid (firstP_nonneg P xs)
  clear hR hent hby
  generalize firstP P xs = Z at *
  generalize xs.any P = q at *
  go_enter Tryz.func119, Tryz.ntmps119
  go_wp2_with fail
  refine S1.out.mono ?_
  rintro e w1 ⟨rfl, hu⟩
  have HU := Lib.hid hu
  clear hu
  go_wp2_with fail
  go_ret
  exact ⟨by show Ending.returned (.bool (decide (0 ≤ Z))) = _; rw [HB.out], HU.out⟩

end Go.Proofs.YtijmkcnipflpbaaGreatDoor

/-
  The program's check of a list of definitions: what the calls return.
-/
namespace Go.Proofs.YtijmkcnipflpbaaGreatDoor
open Go.RowKit

theorem enter_pars1 (args : Array Value) (w : World) : Sem.run Tryz.prog (callFunc 120 args) w = .ok (.enter 120 args) w := by go_simp
theorem enter_named1 (args : Array Value) (w : World) : Sem.run Tryz.prog (callFunc 123 args) w = .ok (.enter 123 args) w := by go_simp
set_option maxRecDepth 20000 in
set_option maxHeartbeats 1000000 in
theorem pars1I (cs : List Value) (d : De) (w : World) (fp : List Nat) (hR : R_De fp w cs d) :
    Calls Tryz.prog 120 #[.agg cs.toArray] w fun e w' => e = .returned (.bool (!inB d.pars 0 3)) ∧ Upd [] w w' := by
  obtain ⟨v2, f2, rfl, -, -⟩ := hR
  have S1 := Lib.hid (fun W => within d.pars 0 3 W)
  generalize inB d.pars 0 3 = q at *
  go_enter Tryz.func120, Tryz.ntmps120
  go_wp2_with fail
  refine (S1.out _).mono ?_
  rintro e w1 ⟨rfl, rfl⟩
  clear S1
  go_wp2_with fail
  go_ret
  exact ⟨rfl, (Upd.refl _ _).alloc _⟩
set_option maxRecDepth 20000 in
set_option maxHeartbeats 1000000 in
theorem parametersOkI (v : Value) (ds : List De) (w : World) (fp : List Nat) (hR : R_De1 fp w [v] ds) :
    Calls Tryz.prog 90 #[v] w fun e w' => e = .returned (.bool (ds.all fun d => inB d.pars 0 3)) ∧ Upd [] w w' := by
  have S1 := Lib.hid (conFuncDe (fun d => !inB d.pars 0 3) 120 #[] v ds w fp hR enter_pars1 (fun wr us g s _ _ hs => pars1I us s wr g hs))
  have HM := Lib.hid (show (ds.all fun d => inB d.pars 0 3) = !(ds.any fun d => !inB d.pars 0 3) by rw [List.all_eq_not_any_not])
  generalize (ds.all fun d => inB d.pars 0 3) = Z at *
  generalize (ds.any fun d => !inB d.pars 0 3) = q at *
  have hent := enter_pars1
  clear hR
  go_enter Tryz.func90, Tryz.ntmps90
  go_wp2_with fail
  refine S1.out.mono ?_
  rintro e w1 ⟨rfl, hu⟩
  have HU := Lib.hid hu
  clear S1 hu
  go_wp2_with fail
  go_ret
  exact ⟨by rw [HM.out]; rfl, HU.out⟩
set_option maxRecDepth 20000 in
set_option maxHeartbeats 1000000 in
theorem named1I (cs : List Value) (d : De) (nm : List UInt8) (B : Nat) (w : World) (fp : List Nat) (hR : R_De fp w cs d) (c0 : w.cell? ⟨B, 0, none⟩ = some (es nm)) :
    Calls Tryz.prog 123 #[.agg cs.toArray, .pointer (some ⟨B, 0, none⟩)] w fun e w' => e = .returned (.bool (d.name == nm)) ∧ Upd [] w w' := by
  obtain ⟨v2, f2, rfl, -, -⟩ := hR
  have c0 := ((Upd.refl [] w).alloc (.cells #[es d.name, ei d.pars, v2] 78)).keep c0
  obtain ⟨q, hq⟩ : ∃ q, (d.name == nm) = q := ⟨_, rfl⟩
  rw [hq]
  generalize d.name = m at *
  go_enter Tryz.func123, Tryz.ntmps123
  go_wp2_with fail
  go_ret
  exact ⟨by first | rfl | (rw [← hq]; rfl), (Upd.refl _ _).alloc _⟩
set_option maxRecDepth 20000 in
set_option maxHeartbeats 1000000 in
theorem definitionNamedI (v : Value) (ds : List De) (nm : List UInt8) (w : World) (fp : List Nat) (hR : R_De1 fp w [v] ds) :
    Calls Tryz.prog 92 #[v, es nm] w fun e w' => e = .returned (.int .i64 (firstP (fun d => d.name == nm) ds)) ∧ Upd [] w w' := by
  obtain ⟨a, c, rfl, -, -, -⟩ := slQ_open hR
  obtain ⟨wA, hwA⟩ : ∃ wA, wA = w.alloc (.cells #[es nm] 9) := ⟨_, rfl⟩
  obtain ⟨BA, hBA⟩ : ∃ BA, BA = w.heap.size := ⟨_, rfl⟩
  have uA : Upd [] w wA := by rw [hwA]; exact (Upd.refl _ _).alloc _
  have c0 : wA.cell? ⟨BA, 0, none⟩ = some (es nm) := by rw [hwA, hBA]; exact cell_new w _ _ _ rfl 0 _ rfl
  have S1 := Lib.hid (idxFuncDe (fun d => d.name == nm) 123 #[.pointer (some ⟨BA, 0, none⟩)] _ ds wA fp (R_De1k.upd hR uA (by simp)) enter_named1 (fun wr us g s _ hu hs => named1I us s nm BA wr g hs (hu.keep c0)))
  have UA := Lib.hid uA
  have hent := enter_named1
  clear hR uA c0
  generalize firstP (fun d : De => d.name == nm) ds = Z at *
  generalize ds.length = n at *
  go_enter Tryz.func92, Tryz.ntmps92
  go_upto_region 1 with (fail)
  rw [← hwA, ← hBA]
  clear hwA hBA
  go_wp2_with fail
  refine S1.out.mono ?_
  rintro e w1 ⟨rfl, hu⟩
  have HU := Lib.hid (UA.out.trans hu)
  clear S1 hu
  go_wp2_with fail
  go_ret
  exact ⟨rfl, HU.out⟩

/-- what bounds a list of definitions that is looked at. -/
def DesFit (ds : List De) : Prop := ds.length ≤ 2000000 ∧ ∀ d ∈ ds, d.name.length ≤ 2000000 ∧ DeFit d

theorem sizeD_eq (ds : List De) : sizeD ds = (inB (ds.length : Int) 1 4 && ds.all fun d => inB d.pars 0 3) := by
  unfold sizeD inB
  rw [show decide ((1 : Int) ≤ (ds.length : Int)) = decide (1 ≤ ds.length) by congr 1; rw [eq_iff_iff]; omega, show decide ((ds.length : Int) ≤ 4) = decide (ds.length ≤ 4) by congr 1; rw [eq_iff_iff]; omega]
set_option maxRecDepth 20000 in
set_option maxHeartbeats 8000000 in
theorem validDefsI (v : Value) (ds : List De) (w : World) (fp : List Nat) (hR : R_De1 fp w [v] ds) (hF : DesFit ds) :
    Calls Tryz.prog 66 #[v] w fun e w' => e = .returned (.bool (defsOk ds)) ∧ Upd [] w w' := by
  have hR' := hR
  obtain ⟨a, cap, rfl, g1, g2, hc⟩ := slQ_open hR
  unfold maxLen at g2
  have hHS := sizeD_eq ds
  have SW := Lib.hid (within (ds.length : Int) 1 4 w)
  have SP := Lib.hid (parametersOkI (.slice a ds.length cap) ds w fp hR')
  have HSZ := Lib.hid (fun (h : sizeD ds = false) => defsOk_size h)
  have HNO := Lib.hid (fun k (hk : k < ds.length) (h : goodD ds k ds[k] = false) => defsOk_no hk h)
  have HYE := Lib.hid (fun (h : ∀ j (hj : j < ds.length), goodD ds j ds[j] = true) => defsOk_yes h)
  have HC := Lib.hid hc
  have HRD := Lib.hid (fun W (hu : Upd [] w W) => R_De1k.upd hR' hu (by simp))
  have HFT := Lib.hid hF
  clear hR hR' hc hF
  generalize hZ : defsOk ds = Z at *
  clear hZ
  obtain ⟨q1, h1⟩ : ∃ q, inB (ds.length : Int) 1 4 = q := ⟨_, rfl⟩
  obtain ⟨q2, h2⟩ : ∃ q, (ds.all fun d => inB d.pars 0 3) = q := ⟨_, rfl⟩
  rw [h1, h2] at hHS
  rw [h1] at SW
  rw [h2] at SP
  cases q1 with
  | false =>
    have HZ := Lib.hid (HSZ.out (by rw [hHS]; rfl))
    clear HSZ HNO HYE HC HRD HFT h1 h2 hHS SP
    go_enter Tryz.func66, Tryz.ntmps66
    go_wp2_with fail
    refine SW.out.mono ?_
    rintro e w1 ⟨rfl, rfl⟩
    clear SW
    go_wp2_with fail
    go_ret
    exact ⟨by rw [HZ.out]; rfl, Upd.refl _ _⟩
  | true =>
    cases q2 with
    | false =>
      have HZ := Lib.hid (HSZ.out (by rw [hHS]; rfl))
      clear HSZ HNO HYE HC HRD HFT h1 h2 hHS
      go_enter Tryz.func66, Tryz.ntmps66
      go_wp2_with fail
      refine SW.out.mono ?_
      rintro e w1 ⟨rfl, rfl⟩
      clear SW
      go_wp2_with fail
      refine SP.out.mono ?_
      rintro e w1 ⟨rfl, hu⟩
      have HU := Lib.hid hu
      clear SP hu
      go_wp2_with fail
      go_ret
      exact ⟨by rw [HZ.out]; rfl, HU.out⟩
    | true =>
      have hl4 : ds.length ≤ 4 := by have := inB_true h1; omega
      have HPA := Lib.hid (fun d (hd : d ∈ ds) => (show 0 ≤ d.pars ∧ d.pars ≤ 3 from inB_true (List.all_eq_true.1 h2 d hd)))
      have HST := Lib.hid (show sizeD ds = true by rw [hHS]; rfl)
      clear HSZ h1 h2 hHS
      go_enter Tryz.func66, Tryz.ntmps66
      go_wp2_with fail
      refine SW.out.mono ?_
      rintro e w1 ⟨rfl, rfl⟩
      clear SW
      go_wp2_with fail
      refine SP.out.mono ?_
      rintro e w1 ⟨rfl, hu⟩
      have HU1 := Lib.hid hu
      clear SP hu
      go_wp2_with fail
      go_loopw [18] (fun iv wr => ∃ k : Nat, k ≤ ds.length ∧ iv = .int .i64 k ∧ Hid (Upd [] w1 wr) ∧ Hid (∀ j (_ : j < k) (hj : j < ds.length), goodD ds j ds[j] = true)) (fun iv _ => ds.length - (intOf iv).toNat)
      case atStart => exact ⟨0, Nat.zero_le _, rfl, Lib.hid (Upd.refl _ _), Lib.hid (fun j hj => absurd hj (Nat.not_lt_zero _))⟩
      case round =>
        obtain ⟨wo, rfl⟩ : ∃ wo : World, wo = wr := ⟨_, rfl⟩
        obtain ⟨k, hk, rfl, HUk, HG⟩ := hrel
        by_cases hlt : k < ds.length
        · obtain ⟨bb, off, u, f', rfl, -, -, -, hcell, -, hr⟩ := HC.out k hlt
          have hr' := hr
          obtain ⟨v2, f2, rfl, h2, rfl⟩ := hr
          obtain ⟨a2, c2, rfl, -, -, -⟩ := slQ_open h2
          have UW := Lib.hid (HU1.out.trans HUk.out)
          have s0 := UW.out.keep (hcell 0 _ rfl)
          have s1 := UW.out.keep (hcell 1 _ rfl)
          have s2 := UW.out.keep (hcell 2 _ rfl)
          simp only [Nat.add_zero] at s0
          have hfk := HFT.out.2 ds[k] (List.getElem_mem hlt)
          have hpk := HPA.out ds[k] (List.getElem_mem hlt)
          have HNK := Lib.hid (HNO.out k hlt)
          have HGK := Lib.hid (fun (h : goodD ds k ds[k] = true) j (hjk : j < k + 1) (hj : j < ds.length) => (show goodD ds j ds[j] = true by
            by_cases e : j = k
            · subst e; exact h
            · exact HG.out j (by omega) hj))
          have HGD := Lib.hid (show goodD ds k ds[k] = (nameF ds[k].name && !((ds.take k).any fun o => o.name == ds[k].name) && (faultP ds ds[k]).2 == 0) from rfl)
          have SN := Lib.hid (fun W => isNameI ds[k].name W hfk.1)
          have HRK := Lib.hid (fun W (hu : Upd [] wo W) => R_Dek.upd hr' (UW.out.trans hu) (by simp))
          have SB := Lib.hid (fun W (hu : Upd [] wo W) => bodyFaultI ds (.slice (some ⟨bb, off, none⟩) ds.length cap) fp _ ds[k] _ W (HRD.out W (UW.out.trans hu)) (by omega) (HRK.out W hu) hfk.2 hpk.1 hpk.2)
          have SD := Lib.hid (fun W (hu : Upd [] wo W) => show Calls Tryz.prog 92 #[.slice (some ⟨bb, off, none⟩) k cap, es ds[k].name] W (fun e w' => e = .returned (.int .i64 (firstP (fun d => d.name == ds[k].name) (ds.take k))) ∧ Upd [] W w') from by
            obtain ⟨f9, h9, -⟩ := slQ_take (HRD.out W (UW.out.trans hu)) k (by omega)
            exact definitionNamedI _ (ds.take k) ds[k].name W f9 h9)
          have hfa := firstP_nonneg (fun d : De => d.name == ds[k].name) (ds.take k)
          have HFA := Lib.hid hfa
          have hkl : (k : Int) < (ds.length : Int) := by omega
          have hkc : (k : Int) ≤ (cap : Int) := by omega
          have hkc2 : k ≤ cap := by omega
          clear hfk hpk hcell hr' h2 hfa HG
          generalize goodD ds k ds[k] = gz at *
          generalize firstP (fun d : De => d.name == ds[k].name) (ds.take k) = fz at *
          generalize ((ds.take k).any fun o : De => o.name == ds[k].name) = az at *
          generalize faultP ds ds[k] = fl at *
          generalize ds[k] = d at *
          obtain ⟨wP, hwP⟩ : ∃ q, q = wo.alloc (.cells #[es d.name, ei d.pars, .slice a2 d.body.length c2] 78) := ⟨_, rfl⟩
          obtain ⟨BP, hBP⟩ : ∃ q, q = wo.heap.size := ⟨_, rfl⟩
          have uP : Upd [] wo wP := by rw [hwP]; exact (Upd.refl _ _).alloc _
          have x0 : wP.cell? ⟨BP, 0, none⟩ = some (es d.name) := by rw [hwP, hBP]; exact cell_new wo _ _ _ rfl 0 _ rfl
          have x1 : wP.cell? ⟨BP, 1, none⟩ = some (ei d.pars) := by rw [hwP, hBP]; exact cell_new wo _ _ _ rfl 1 _ rfl
          have x2 : wP.cell? ⟨BP, 2, none⟩ = some (.slice a2 d.body.length c2) := by rw [hwP, hBP]; exact cell_new wo _ _ _ rfl 2 _ rfl
          have UP := Lib.hid uP
          have SQ := Lib.hid (fun n => (show Calls Tryz.prog 91 #[es d.name] (wP.drewN n) fun e w' => e = .returned (.bool (nameF d.name)) ∧ ∃ m, w' = wP.drewN m from (SN.out (wP.drewN n)).mono fun e w' ⟨h, hw⟩ => ⟨h, n, hw.symm⟩))
          clear uP
          go_upto_region 6 with (fail)
          rw [← hwP, ← hBP]
          clear hwP hBP s0 s1 s2
          cases hnm : nameF d.name with
          | false =>
            rw [hnm] at SQ
            have HZ := Lib.hid (HNK.out (by rw [HGD.out, hnm]; rfl))
            clear hnm HNK HGK HGD SN SB SD HRK HFA HYE HNO
            go_quiet ((go_at_call 91; with_reducible exact SQ.out _))
            have HU9 := Lib.hid (UW.out.trans (UP.out.drewN nq))
            go_wp2_with fail
            go_ret
            exact ⟨by rw [HZ.out]; rfl, HU9.out⟩
          | true =>
            rw [hnm] at SN
            rw [hnm, Bool.true_and] at HGD
            clear hnm SQ
            go_region_held3 (fun w' => w'.cell? ⟨BP, 0, none⟩ = some (es d.name)) (go_keep)
              (first
                | (go_at_call 91; (with_reducible refine (SN.out _).mono ?_); rintro e wq ⟨rfl, rfl⟩)
                | (go_at_call 92; (with_reducible refine (SD.out _ (UP.out.trans (by repeat (first | exact Upd.refl _ _ | refine Upd.drew ?_ | refine Upd.drewN ?_ _)))).mono ?_); rintro e w5 ⟨rfl, hu5⟩; have y0 := hu5.keep x0))
            all_goals
              have HU5 := Lib.hid (UP.out.trans ((Upd.refl [] wP).drew.trans hu5))
              have y1 := ((Upd.refl [] wP).drew.trans hu5).keep x1
              have y2 := ((Upd.refl [] wP).drew.trans hu5).keep x2
              rw [show decide (0 ≤ fz) = az from HFA.out]
              clear hu5 x0 x1 x2 SN SD HFA UP
              cases az with
              | true =>
                have HZ := Lib.hid (HNK.out (by rw [HGD.out]; rfl))
                clear HNK HGK HGD SB HRK HYE HNO
                go_wp2_with fail
                go_ret
                exact ⟨by rw [HZ.out]; rfl, UW.out.trans HU5.out⟩
              | false =>
                have SB5 := Lib.hid (SB.out w5 HU5.out)
                obtain ⟨f0, f1⟩ := fl
                clear SB HRK
                go_wp2_with fail
                refine SB5.out.mono ?_
                rintro e w6 ⟨rfl, hu6⟩
                have HU6 := Lib.hid (HUk.out.trans (HU5.out.trans hu6))
                clear hu6 SB5 y0 y1 y2 UW HUk HU5
                by_cases hf : f1 = 0
                · have hfb : (f1 != 0) = false := by simp [hf]
                  have HGN := Lib.hid (HGK.out (by rw [HGD.out, hf]; rfl))
                  clear HNK HGK HGD hf
                  go_wp2_with fail
                  go_roundw
                  case rel => exact ⟨k + 1, by omega, by go_num, HU6, HGN⟩
                  case measure => simp [intOf]; omega
                · have hfb : (f1 != 0) = true := by simp [hf]
                  have HZ := Lib.hid (HNK.out (by rw [HGD.out]; simp [hf]))
                  clear HNK HGK HGD hf
                  go_wp2_with fail
                  go_ret
                  exact ⟨by rw [HZ.out]; rfl, HU1.out.trans HU6.out⟩
        · have hkk : ¬ (k : Int) < (ds.length : Int) := by omega
          have HZ := Lib.hid ((HYE.out (fun j hj => HG.out j (by omega) hj)).trans HST.out)
          clear HG HNO HYE
          go_wp2_with fail
          go_ret
          exact ⟨by rw [HZ.out]; rfl, HU1.out.trans HUk.out⟩

end Go.Proofs.YtijmkcnipflpbaaGreatDoor

/-
  Components: readings, and what the laws' helper functions return and make.
-/
namespace Go.Proofs.YtijmkcnipflpbaaGreatDoor
open Go.RowKit

/-- its 2 cells. -/
def R_Co : Rp Co := fun fp w cs x => ∃ (v1 : Value) (f1 : List Nat), cs = [ei x.dfn, v1] ∧ R_I1 f1 w [v1] x.vals ∧ fp = f1 ++ []
theorem R_Cok : Kept R_Co := by
  constructor
  · rintro fp w cs x ⟨v1, f1, rfl, h1, rfl⟩ b hb
    exact R_I1k.lt h1 b (by simpa using hb)
  · rintro fp w w' cs x ⟨v1, f1, rfl, h1, rfl⟩ hs hb
    exact ⟨v1, f1, rfl, R_I1k.frame h1 hs (fun b h => hb b (by simp [h])), rfl⟩
def szF_Co (x : Co) : Int := szF_I1 x.vals
def mkF_Co (x : Co) : Int := 1 + mkF_I1 x.vals
theorem szF_Co_nonneg (x : Co) : 0 ≤ szF_Co x := by have := szF_I1_nonneg x.vals; unfold szF_Co; omega
theorem mkF_Co_nonneg (x : Co) : 0 ≤ mkF_Co x := by have := mkF_I1_nonneg x.vals; unfold mkF_Co; omega
theorem mkF_Co_le (x : Co) : mkF_Co x ≤ 16 * szF_Co x + 1 := by have := mkF_I1_le x.vals; unfold mkF_Co szF_Co; omega
/-- what each text's length is below. -/
def CoOk (x : Co) : Prop := True

set_option maxRecDepth 20000 in
set_option maxHeartbeats 1600000 in
theorem sz_Co (cs : List Value) (x : Co) (left : Int) (w : World) (fp : List Nat) (hl : 0 ≤ left) (hl2 : left ≤ 1048576) (hR : R_Co fp w cs x) (hS : CoOk x) :
    Calls Tryz.prog 38 #[.agg cs.toArray, .int .i64 left] w fun e w' => (∃ r : Int, e = .returned (.int .i64 r) ∧ (r = -1 ∨ (0 ≤ r ∧ r + szF_Co x = left))) ∧ Upd [] w w' := by
  obtain ⟨v1, f1, rfl, h1, rfl⟩ := hR
  obtain ⟨wA, hwA⟩ : ∃ wA, wA = w.alloc (.cells #[ei x.dfn, v1] 71) := ⟨_, rfl⟩
  obtain ⟨BA, hBA⟩ : ∃ BA, BA = w.heap.size := ⟨_, rfl⟩
  have uA : Upd [] w wA := by rw [hwA]; exact (Upd.refl _ _).alloc _
  have S1 := Lib.hid (fun (W : World) (hu : Upd [] w W) (l : Int) (q1 : 0 ≤ l) (q2 : l ≤ 1048576) => sz_I1 v1 x.vals l W f1 q1 q2 (R_I1k.upd h1 hu (by simp)))
  have HC := Lib.hid (fun W (hu : Upd [] wA W) => show W.cell? ⟨BA, 1, none⟩ = some (v1) from
    hu.keep (by rw [hwA, hBA]; exact cell_new w _ _ _ rfl 1 _ rfl))
  have HZ := Lib.hid (show szF_Co x = szF_I1 x.vals from rfl)
  have hn1 := szF_I1_nonneg x.vals
  generalize szF_I1 x.vals = z1 at *
  generalize szF_Co x = ZZ at *
  have c1 := HC.out wA (Upd.refl _ _)
  have HU := Lib.hid uA
  have HX := Lib.hid (Upd.refl [] wA)
  clear h1 hS uA
  go_enter Tryz.func38, Tryz.ntmps38
  go_upto_region 1 with (fail)
  rw [← hwA, ← hBA]
  clear hwA hBA
  have T1 := Lib.hid (S1.out wA HU.out left hl hl2)
  clear S1
  go_wp2_with fail
  refine T1.out.mono ?_
  rintro e w1 ⟨⟨r, rfl, hr⟩, rfl⟩
  clear T1
  rcases hr with rfl | ⟨hge1, hr⟩
  · go_wp2_with fail
    go_ret
    exact ⟨⟨-1, rfl, Or.inl rfl⟩, HU.out⟩
  · have HR1 := Lib.hid hr
    have hle1 : r ≤ 1048576 := by omega
    clear hr
    generalize r = r1 at *
    go_wp2_with fail
    go_ret
    exact ⟨⟨r1, rfl, Or.inr ⟨hge1, by rw [HZ.out]; have := HR1.out; omega⟩⟩, HU.out⟩

theorem Co_size : (Tryz.prog.info? 80).map (·.size) = some 2 := by kernel_rfl
set_option maxRecDepth 20000 in
set_option maxHeartbeats 4000000 in
theorem to_Co (cs : List Value) (x : Co) (w : World) (fp : List Nat) (hl : szF_Co x ≤ 1048576) (hR : R_Co fp w cs x) :
    Calls Tryz.prog 42 #[.agg cs.toArray] w fun e w' => (∃ us, e = .returned (.agg us.toArray) ∧ us.length = 2 ∧ us.toArray.all (·.oneCell') = true ∧ NewQ R_Co w w' us x) ∧ Upd [] w w' := by
  obtain ⟨v1, f1, rfl, h1, rfl⟩ := hR
  have hn1 := szF_I1_nonneg x.vals
  unfold szF_Co at hl
  have S1 := Lib.hid (fun (W : World) (hu : Upd [] w W) => to_I1 v1 x.vals W f1 (by omega) (R_I1k.upd h1 hu (by simp)))
  obtain ⟨wA, hwA⟩ : ∃ wA, wA = ((w.alloc (.cells #[ei x.dfn, v1] 71)).alloc (.cells #[.int .i64 0, .slice none 0 0] 80)).alloc (.cells #[.int .i64 0, .slice none 0 0] 80) := ⟨_, rfl⟩
  obtain ⟨B, hB⟩ : ∃ B, B = w.heap.size := ⟨_, rfl⟩
  have H0 := Lib.hid (show Three w wA 71 80 B [ei x.dfn, v1] [.int .i64 0, .slice none 0 0] [.int .i64 0, .slice none 0 0] from by rw [hwA, hB]; exact Three.mk0 w _ _ _ _ _)
  clear h1 hl hn1
  go_enter Tryz.func42, Tryz.ntmps42
  go_upto_region 2 with (fail)
  rw [← hwA, ← hB]
  clear hwA hB
  have p0 := H0.out.pc 0 _ rfl
  have q0 := H0.out.oc 0 _ rfl
  have z0 := H0.out.fz 0
  go_upto_region 3 with (fail)
  obtain ⟨W0, hW0⟩ : ∃ W0, W0 = wA.setCell ⟨B + 2, 0, none⟩ (ei x.dfn) := ⟨_, rfl⟩
  rw [← hW0]
  have H1 := Lib.hid (show Three w W0 71 80 B [ei x.dfn, v1] [.int .i64 0, .slice none 0 0] _ from by rw [hW0]; exact H0.out.store 0 _)
  have D0 := Lib.hid (show Upd [B + 2] wA W0 from by rw [hW0]; exact (Upd.refl _ _).setCell (Or.inr (by simp)) _)
  have ds0 := D0.out.size
  clear p0 q0 z0 hW0
  have T1 := Lib.hid (S1.out W0 H1.out.upd)
  clear S1
  have p1 := H1.out.pc 1 _ rfl
  go_wp2_with fail
  refine T1.out.mono ?_
  rintro e w1 ⟨⟨u, rfl, hn⟩, hu⟩
  have G1 := Lib.hid (H1.out.call hu)
  have HN1 := Lib.hid hn
  have E1 := Lib.hid hu
  have hlo1 := H1.out.size
  have hhi1 := hu.size
  obtain ⟨m1, n1, rfl⟩ := New.form hn
  clear T1 p1 hn hu
  have q1 := G1.out.oc 1 _ rfl
  have z1 := G1.out.fz 1
  go_upto_region 4 with (fail)
  obtain ⟨W1, hW1⟩ : ∃ W1, W1 = w1.setCell ⟨B + 2, 1, none⟩ (.slice m1 x.vals.length n1) := ⟨_, rfl⟩
  rw [← hW1]
  have H2 := Lib.hid (show Three w W1 71 80 B [ei x.dfn, v1] [.int .i64 0, .slice none 0 0] _ from by rw [hW1]; exact G1.out.store 1 _)
  have D1 := Lib.hid (show Upd [B + 2] w1 W1 from by rw [hW1]; exact (Upd.refl _ _).setCell (Or.inr (by simp)) _)
  have ds1 := D1.out.size
  clear q1 z1 hW1
  have HF := Lib.hid (show Three w W1 71 80 B [ei x.dfn, v1] [.int .i64 0, .slice none 0 0] [ei x.dfn, .slice m1 x.vals.length n1] from H2.out)
  have hlast := HF.out.h2
  have hres := HF.out.h1
  clear G1
  go_wp2_with (first
    | (refine wpList_load_row rfl 80 _ rfl (B + 2) rfl 80 #[ei x.dfn, .slice m1 x.vals.length n1] (0, 0) _ hlast Tryz.underlying80 rfl Co_size ?_)
    | (refine wpList_store_row rfl 80 _ _ rfl (B + 1) #[ei x.dfn, .slice m1 x.vals.length n1] rfl rfl 80 _ hres Co_size rfl (by simp [Value.oneCell']) ?_)
    | fail)
  have hC := setRow_heap W1 (B + 1) _ #[ei x.dfn, .slice m1 x.vals.length n1] _ _ hres
  refine bodyPost_ret (results_cell_row Tryz.results42 _ _ (B + 1) 80 _ (0, 0) _ rfl hC Tryz.underlying80 rfl Co_size) rfl ?_
  have hb := HF.out.base
  have UE : Upd [] w (W1.setRow (B + 1) #[ei x.dfn, .slice m1 x.vals.length n1]) := HF.out.upd.row (Or.inl (by omega)) _
  refine ⟨⟨[ei x.dfn, .slice m1 x.vals.length n1], rfl, rfl, by simp [Value.oneCell'], ?_⟩, UE⟩
  obtain ⟨g1, P1⟩ := Part.of R_I1k HN1.out
  have P1 := P1.upd R_I1k D1.out (by intro b hb; simp at hb; omega)
  have P1 := P1.upd R_I1k (show Upd [B + 1] W1 (W1.setRow (B + 1) #[ei x.dfn, .slice m1 x.vals.length n1]) from (Upd.refl _ _).row (Or.inr (by simp)) _) (by intro b hb; simp at hb; omega)
  refine ⟨g1 ++ [], ⟨_, g1, rfl, P1.r, rfl⟩, ?_, ?_⟩
  · simpa using P1.o
  · intro b hb
    simp only [List.append_nil] at hb
    rcases hb with hb
    · have := P1.b b hb; omega

set_option maxRecDepth 20000 in
set_option maxHeartbeats 2000000 in
theorem eq_Co (cs ds : List Value) (x : Co) (w : World) (fp fp2 : List Nat) (hA : R_Co fp w cs x) (hB : R_Co fp2 w ds x) :
    Calls Tryz.prog 51 #[.agg cs.toArray, .agg ds.toArray] w fun e w' => e = .returned (.bool true) ∧ Upd [] w w' := by
  obtain ⟨v1, f1, rfl, h1, rfl⟩ := hA
  obtain ⟨u1, g1, rfl, k1, rfl⟩ := hB
  obtain ⟨wA, hwA⟩ : ∃ wA, wA = w.alloc (.cells #[ei x.dfn, v1] 80) := ⟨_, rfl⟩
  obtain ⟨wB, hwB⟩ : ∃ wB, wB = wA.alloc (.cells #[ei x.dfn, u1] 80) := ⟨_, rfl⟩
  obtain ⟨BA, hBA⟩ : ∃ BA, BA = w.heap.size := ⟨_, rfl⟩
  have sA : wA.heap.size = BA + 1 := by rw [hwA, hBA]; simp
  have uA : Upd [] w wA := by rw [hwA]; exact (Upd.refl _ _).alloc _
  have uB : Upd [] wA wB := by rw [hwB]; exact (Upd.refl _ _).alloc _
  have HC := Lib.hid (fun W (hu : Upd [] wB W) => show W.cell? ⟨BA, 0, none⟩ = some (ei x.dfn) ∧ W.cell? ⟨BA + 1, 0, none⟩ = some (ei x.dfn) ∧ W.cell? ⟨BA, 1, none⟩ = some (v1) ∧ W.cell? ⟨BA + 1, 1, none⟩ = some (u1) from
    ⟨hu.keep (uB.keep (by rw [hwA, hBA]; exact cell_new w _ _ _ rfl 0 _ rfl)), hu.keep (by rw [hwB]; exact cell_new wA _ _ _ sA 0 _ rfl), hu.keep (uB.keep (by rw [hwA, hBA]; exact cell_new w _ _ _ rfl 1 _ rfl)), hu.keep (by rw [hwB]; exact cell_new wA _ _ _ sA 1 _ rfl)⟩)
  have S1 := Lib.hid (fun W (hu : Upd [] w W) => show Calls Tryz.prog 78 #[v1, u1] W (fun e w' => e = .returned (.bool true) ∧ Upd [] W w') from by
    have := eq_I1 v1 u1 x.vals x.vals W f1 g1 (R_I1k.upd h1 hu (by simp)) (R_I1k.upd k1 hu (by simp))
    rw [show (x.vals == x.vals) = true by simp] at this
    exact this)
  have HU := Lib.hid (uA.trans uB)
  have HX := Lib.hid (Upd.refl [] wB)
  obtain ⟨c0, d0, c1, d1⟩ := HC.out wB (Upd.refl _ _)
  generalize x.dfn = t0 at *
  have b0 : (t0 != t0) = false := by simp
  clear h1 k1 uA uB sA
  go_enter Tryz.func51, Tryz.ntmps51
  go_upto_region 1 with (fail)
  rw [← hwA, ← hwB, ← hBA]
  clear hwA hwB hBA
  have T1 := Lib.hid (S1.out wB HU.out)
  clear S1
  go_wp2_with fail
  refine T1.out.mono ?_
  rintro e w1 ⟨rfl, hu⟩
  have HU := Lib.hid (HU.out.trans hu)
  have HX := Lib.hid (HX.out.trans hu)
  obtain ⟨c0, d0, c1, d1⟩ := HC.out w1 HX.out
  clear T1 hu
  go_wp2_with fail
  go_ret
  exact ⟨rfl, HU.out⟩

end Go.Proofs.YtijmkcnipflpbaaGreatDoor

/-
  Lists of components: readings, and what the laws' helper functions return and make.
-/
namespace Go.Proofs.YtijmkcnipflpbaaGreatDoor
open Go.RowKit


abbrev R_Co1 : Rp (List Co) := slQ 2 R_Co
theorem R_Co1k : Kept R_Co1 := slQ_kept R_Cok
def szF_Co1 (xs : List Co) : Int := xs.length + (xs.map szF_Co).sum
def mkF_Co1 (xs : List Co) : Int := (xs.map mkF_Co).sum
def Co1Ok (xs : List Co) : Prop := ∀ x ∈ xs, CoOk x
theorem szF_Co1_sum (xs : List Co) : 0 ≤ (xs.map szF_Co).sum := by
  induction xs with
  | nil => simp
  | cons r rs ih => simp only [List.map_cons, List.sum_cons]; have := szF_Co_nonneg r; omega
theorem szF_Co1_nonneg (xs : List Co) : 0 ≤ szF_Co1 xs := by have := szF_Co1_sum xs; unfold szF_Co1; omega
theorem szF_Co1_snoc (xs : List Co) (k : Nat) (h : k < xs.length) : ((xs.take (k + 1)).map szF_Co).sum = ((xs.take k).map szF_Co).sum + szF_Co xs[k] := by
  rw [List.take_succ_eq_append_getElem h, List.map_append, List.sum_append]; simp
theorem szF_Co1_take (xs : List Co) (k : Nat) : ((xs.take k).map szF_Co).sum ≤ (xs.map szF_Co).sum := by
  have h := szF_Co1_sum (xs.drop k)
  conv => rhs; rw [← List.take_append_drop k xs]
  rw [List.map_append, List.sum_append]; omega
theorem mkF_Co1_nonneg (xs : List Co) : 0 ≤ mkF_Co1 xs := by
  unfold mkF_Co1; induction xs with
  | nil => simp
  | cons r rs ih => simp only [List.map_cons, List.sum_cons]; have := mkF_Co_nonneg r; omega
theorem mkF_Co1_le (xs : List Co) : mkF_Co1 xs ≤ 16 * szF_Co1 xs := by
  unfold mkF_Co1 szF_Co1; induction xs with
  | nil => simp
  | cons r rs ih => simp only [List.map_cons, List.sum_cons, List.length_cons]; have := mkF_Co_le r; omega
theorem mkF_Co1_snoc (xs : List Co) (k : Nat) (h : k < xs.length) : mkF_Co1 (xs.take (k + 1)) = mkF_Co1 (xs.take k) + mkF_Co xs[k] := by
  unfold mkF_Co1; rw [List.take_succ_eq_append_getElem h, List.map_append, List.sum_append]; simp
theorem mkF_Co1_take (xs : List Co) (k : Nat) : mkF_Co1 (xs.take k) ≤ mkF_Co1 xs := by
  have h := mkF_Co1_nonneg (xs.drop k)
  conv => rhs; rw [← List.take_append_drop k xs]
  unfold mkF_Co1 at *; rw [List.map_append, List.sum_append]; omega
def up_Co (k : Int) (x : Co) : Co := ⟨(k), up_I1 (k + 1) x.vals⟩
def mkd_Co1 : Int → List Co → List Co
  | _, [] => []
  | k, r :: rs => up_Co k r :: mkd_Co1 (k + mkF_Co r) rs
@[simp] theorem mkd_Co1_length (k : Int) (xss : List Co) : (mkd_Co1 k xss).length = xss.length := by
  induction xss generalizing k with
  | nil => rfl
  | cons r rs ih => simp [mkd_Co1, ih]
theorem mkd_Co1_append (k : Int) (xs ys : List Co) : mkd_Co1 k (xs ++ ys) = mkd_Co1 k xs ++ mkd_Co1 (k + mkF_Co1 xs) ys := by
  induction xs generalizing k with
  | nil => simp [mkd_Co1, mkF_Co1]
  | cons r rs ih => simp only [List.cons_append, mkd_Co1, ih, mkF_Co1, List.map_cons, List.sum_cons, Int.add_assoc]
theorem mkd_Co1_set (xss : List Co) (k0 : Int) (k : Nat) (hk : k < xss.length) :
    (mkd_Co1 k0 (xss.take k) ++ xss.drop k).set k (up_Co (k0 + mkF_Co1 (xss.take k)) xss[k]) = mkd_Co1 k0 (xss.take (k + 1)) ++ xss.drop (k + 1) := by
  have hl : (mkd_Co1 k0 (xss.take k)).length = k := by simp; omega
  rw [List.set_append_right _ _ (by omega), hl, Nat.sub_self, List.drop_eq_getElem_cons hk, List.set_cons_zero, List.take_succ_eq_append_getElem hk, mkd_Co1_append]
  simp [mkd_Co1]
set_option maxRecDepth 20000 in
set_option maxHeartbeats 1600000 in
theorem sz_Co1 (v : Value) (xs : List Co) (left : Int) (w : World) (fp : List Nat) (hl : 0 ≤ left) (hl2 : left ≤ 1048576) (hR : R_Co1 fp w [v] xs) (hS : Co1Ok xs) :
    Calls Tryz.prog 17 #[v, .int .i64 left] w fun e w' => (∃ r : Int, e = .returned (.int .i64 r) ∧ (r = -1 ∨ (0 ≤ r ∧ r + szF_Co1 xs = left))) ∧ Upd [] w w' := by
  obtain ⟨a, cap, rfl, h1, h2, hc⟩ := slQ_open hR
  unfold maxLen at h2
  have HS := Lib.hid hS
  have HC := Lib.hid hc
  clear hR hS hc
  by_cases hlt : left - (xs.length : Int) < 0
  · go_enter Tryz.func17, Tryz.ntmps17
    go_wp2_with fail
    go_ret
    exact ⟨⟨-1, rfl, Or.inl rfl⟩, Upd.refl _ _⟩
  · have hge : 0 ≤ left - (xs.length : Int) := by omega
    clear hlt
    go_enter Tryz.func17, Tryz.ntmps17
    go_wp2_with fail
    go_loopw [1, 5] (fun kk i wr => ∃ (k : Nat) (l : Int), k ≤ xs.length ∧ i = .int .i64 k ∧ kk = .int .i64 l ∧ 0 ≤ l ∧ l ≤ 1048576 ∧ Hid (l + xs.length + ((xs.take k).map szF_Co).sum = left) ∧ Hid (Upd [] w wr)) (fun _ i _ => xs.length - (intOf i).toNat)
    case atStart => exact ⟨0, _, Nat.zero_le _, rfl, rfl, hge, by omega, Lib.hid (by simp), Lib.hid (Upd.refl _ _)⟩
    case round =>
      obtain ⟨wo, rfl⟩ : ∃ wo : World, wo = wr := ⟨_, rfl⟩
      obtain ⟨k, l, hk, rfl, rfl, hl0, hl9, HL, HU⟩ := hrel
      by_cases hlt : k < xs.length
      · obtain ⟨b, off, u, f, rfl, -, -, -, hcell, -, hr⟩ := HC.out k hlt
        have HR := Lib.hid (R_Cok.upd hr HU.out (by simp))
        obtain ⟨v1, f1, rfl, -, -⟩ := hr
        have p0 := HU.out.keep (hcell 0 _ rfl)
        have p1 := HU.out.keep (hcell 1 _ rfl)
        simp only [Nat.add_zero] at p0
        have HT := Lib.hid (szF_Co1_snoc xs k hlt)
        have HO := Lib.hid (HS.out xs[k] (List.getElem_mem hlt))
        clear hcell
        generalize hx : xs[k] = x at *
        clear hx
        have S1 := Lib.hid (sz_Co _ x l wo f hl0 hl9 HR.out HO.out)
        have hzz := szF_Co_nonneg x
        generalize szF_Co x = zz at *
        go_wp2_with fail
        refine S1.out.mono ?_
        rintro e w1 ⟨⟨r, rfl, hr2⟩, hu⟩
        have HU1 := Lib.hid (HU.out.trans hu)
        clear S1 hu
        rcases hr2 with rfl | ⟨hr2, hr3⟩
        · go_wp2_with fail
          go_ret
          exact ⟨⟨-1, rfl, Or.inl rfl⟩, HU1.out⟩
        · have H3 := Lib.hid hr3
          have hr4 : r ≤ 1048576 := by omega
          clear hr3
          go_wp2_with fail
          go_roundw
          case rel => exact ⟨k + 1, r, by omega, by go_num, rfl, hr2, hr4, Lib.hid (by have := H3.out; have := HL.out; rw [HT.out]; omega), HU1⟩
          case measure => simp [intOf]; omega
      · obtain rfl : k = xs.length := by omega
        go_wp2_with fail
        go_ret
        exact ⟨⟨l, rfl, Or.inr ⟨hl0, by have := HL.out; rw [List.take_length] at this; unfold szF_Co1; omega⟩⟩, HU.out⟩

theorem Tryz.infoCo : (Tryz.prog.info? 80).map (fun i => (i.zero, i.size, i.bytes)) = some (some (.agg #[.int .i64 0, .slice none 0 0]), 2, 32) := by kernel_rfl
set_option maxRecDepth 20000 in
set_option maxHeartbeats 2000000 in
theorem to_Co1 (v : Value) (xs : List Co) (w : World) (fp : List Nat) (hl : szF_Co1 xs ≤ 1048576) (hR : R_Co1 fp w [v] xs) :
    Calls Tryz.prog 23 #[v] w fun e w' => (∃ v', e = .returned v' ∧ New R_Co1 w w' v' xs) ∧ Upd [] w w' := by
  obtain ⟨i0, hi, hz0, hz1, hz2⟩ := info_parts Tryz.infoCo
  obtain ⟨a, cap, rfl, h1, h2, hc⟩ := slQ_open hR
  unfold maxLen at h2
  have htn := szF_Co1_sum xs
  unfold szF_Co1 at hl
  have HC := Lib.hid hc
  clear hR hc
  have hm1 : i0.bytes * xs.length ≤ 281474976710656 := by rw [hz2]; omega
  go_enter Tryz.func23, Tryz.ntmps23
  go_wp2_with (first
    | (at_make; refine wpList_make_full _ rfl _ _ 31 rfl w.heap.size 80 i0 (.agg #[.int .i64 0, .slice none 0 0]) 2 Tryz.underlying31 hi hz0 hz1 .i64 .i64 _ _ xs.length rfl rfl rfl rfl hm1 (by unfold maxLen; omega) (Nat.le_refl _) ?_; intro w1 hown hgrow)
    | fail)
  have hmd := made_Q ([.int .i64 0, .slice none 0 0] : List Value) (n := 2) rfl (by decide) xs.length
  rw [hmd] at hown
  have hsz : w.heap.size < w1.heap.size := hown.lt w.heap.size rfl |>.2
  have hU : Upd [] w w1 := (Upd.refl _ _).grown hgrow (by simp)
  clear hgrow hm1 hmd
  go_loopw [4] (fun i wr => ∃ (k : Nat) (us : List (List Value)), k ≤ xs.length ∧ i = .int .i64 k ∧ Hid (Upd [] w wr) ∧ w.heap.size < wr.heap.size ∧
      Hid (wr.ownsRow w.heap.size 80 2 (.slice (some ⟨w.heap.size, 0, none⟩) xs.length xs.length) xs.length (us.flatten ++ (List.replicate (xs.length - k) ([.int .i64 0, .slice none 0 0] : List Value)).flatten)) ∧
      Hid (RowsQ 2 R_Co w.heap.size [w.heap.size] wr us (xs.take k)))
    (fun i _ => xs.length - (intOf i).toNat)
  case atStart => exact ⟨0, [], Nat.zero_le _, rfl, Lib.hid hU, hsz, Lib.hid (by simpa using hown), Lib.hid (RowsQ.nil _ _ _ _ _)⟩
  case round =>
    clear hown hU hsz
    obtain ⟨wo, rfl⟩ : ∃ wo : World, wo = wr := ⟨_, rfl⟩
    obtain ⟨k, us, hk, rfl, HU, hsz, HO, HW⟩ := hrel
    have hlu : us.length = k := by have := HW.out.length; simp at this; omega
    by_cases hlt : k < xs.length
    · obtain ⟨b, off, u, f, rfl, -, -, -, hcell, -, hr⟩ := HC.out k hlt
      have HR := Lib.hid (R_Cok.upd hr HU.out (by simp))
      obtain ⟨v1, f1, rfl, -, -⟩ := hr
      have p0 := HU.out.keep (hcell 0 _ rfl)
      have p1 := HU.out.keep (hcell 1 _ rfl)
      simp only [Nat.add_zero] at p0
      have hxl : szF_Co xs[k] ≤ 1048576 := by
        have h1 := szF_Co1_snoc xs k hlt
        have h2 := szF_Co1_take xs (k + 1)
        have h3 := szF_Co1_sum (xs.take k)
        omega
      have HTK := Lib.hid (List.take_succ_eq_append_getElem hlt)
      have HLU := Lib.hid hlu
      clear hcell hlu
      generalize hx : xs[k] = x at *
      clear hx
      have S1 := Lib.hid (to_Co _ x wo f hxl HR.out)
      clear hxl
      go_wp2_with fail
      refine S1.out.mono ?_
      rintro e w2 ⟨⟨u2, rfl, hlen, hone, hnew⟩, hu2⟩
      have hown2 := ownsRow_upd HO.out hu2
      have hrep : (List.replicate (xs.length - k) ([.int .i64 0, .slice none 0 0] : List Value)).flatten.length = (xs.length - k) * 2 := by
        rw [flat_len (n := 2) (by intro y hy; rw [(List.mem_replicate.1 hy).2]; rfl)]; simp
      have hfl : us.flatten.length = k * 2 := by rw [flat_len HW.out.each, HLU.out]
      have hth : w2.there w.heap.size (k * 2) u2.toArray.size := fun j hj => by
        have hj' : j < 2 := by simpa [hlen] using hj
        refine ⟨?_, hown2.frozenAt _⟩
        rw [hown2.cellAt (k * 2 + j) (by omega), List.getElem?_eq_getElem (by rw [List.length_append, hfl, hrep]; omega)]; rfl
      have hszz : (Tryz.prog.info? 80).map (·.size) = some u2.toArray.size := by rw [Co_size]; simp [hlen]
      have hrun := run_storeCells_cells (P := Tryz.prog) w.heap.size (k * 2) u2 0 w2 (fun j hj => by simpa using (hth j (by simpa using hj)).1) (fun j hj => by simpa using (hth j (by simpa using hj)).2) (fun v hv => (Array.all_eq_true_iff_forall_mem.1 hone) v (by simpa using hv))
      simp only [Nat.add_zero] at hrun
      have hst := ownsRow_setCells u2 (k * 2) hown2 (by rw [hlen]; omega)
      rw [show xs.length - k = (xs.length - (k + 1)) + 1 by omega, ← HLU.out, filled_set us ([.int .i64 0, .slice none 0 0] : List Value) _ 2 rfl HW.out.each u2 hlen, HLU.out] at hst
      have hw3 : Upd [w.heap.size] w2 (w2.setCells w.heap.size (k * 2) u2) := upd_setCells _ (Or.inr (by simp)) _ _ (Upd.refl _ _)
      have hrows2 := (HW.out.push R_Cok hu2 hnew hlen (by omega) (by simpa using hsz)).upd R_Cok hw3 (by simp)
      rw [← HTK.out] at hrows2
      have hU2 : Upd [] w (w2.setCells w.heap.size (k * 2) u2) := upd_setCells _ (Or.inl (Nat.le_refl _)) _ _ (HU.out.trans hu2)
      have hsz2 : w.heap.size < (w2.setCells w.heap.size (k * 2) u2).heap.size := by have := hu2.size; have := hw3.size; omega
      have HS := Lib.hid (And.intro hst (And.intro hrows2 hU2))
      clear hown2 hrep hfl hst hw3 hrows2 hU2 hnew hu2 S1 HO HW HU
      clear hth hszz hone
      go_wp2_with fail
      go_roundw
      case rel => exact ⟨k + 1, us ++ [u2], by omega, by go_num, Lib.hid HS.out.2.2, hsz2, Lib.hid HS.out.1, Lib.hid HS.out.2.1⟩
      case measure => simp [intOf]; omega
    · obtain rfl : k = xs.length := by omega
      go_wp2_with fail
      go_ret
      have hrows := HW.out
      have hown := HO.out
      rw [List.take_length] at hrows
      refine ⟨⟨_, rfl, hrows.new (e := 80) (by simpa using hown) (by simp [Value.ownBlock]) (Nat.le_refl _)⟩, HU.out⟩

set_option maxRecDepth 20000 in
set_option maxHeartbeats 2000000 in
theorem eq_Co1 (v1 v2 : Value) (xs : List Co) (w : World) (fp fp2 : List Nat) (h1 : R_Co1 fp w [v1] xs) (h2 : R_Co1 fp2 w [v2] xs) :
    Calls Tryz.prog 30 #[v1, v2] w fun e w' => e = .returned (.bool true) ∧ Upd [] w w' := by
  obtain ⟨a1, c1, rfl, hl1, hm1, hc1⟩ := slQ_open h1
  obtain ⟨a2, c2, rfl, hl2, hm2, hc2⟩ := slQ_open h2
  unfold maxLen at hm1 hm2
  have HC1 := Lib.hid hc1
  have HC2 := Lib.hid hc2
  have hbe : ((xs.length : Int) != (xs.length : Int)) = false := by simp
  clear h1 h2 hc1 hc2
  go_enter Tryz.func30, Tryz.ntmps30
  go_wp2_with fail
  go_loopw [5] (fun i wr => ∃ k : Nat, k ≤ xs.length ∧ i = .int .i64 k ∧ Hid (Upd [] w wr)) (fun i _ => xs.length - (intOf i).toNat)
  case atStart => exact ⟨0, Nat.zero_le _, rfl, Lib.hid (Upd.refl _ _)⟩
  case round =>
    obtain ⟨wo, rfl⟩ : ∃ wo : World, wo = wr := ⟨_, rfl⟩
    obtain ⟨k, hk, rfl, HU⟩ := hrel
    by_cases hlt : k < xs.length
    · obtain ⟨b1, o1, u, f, rfl, -, -, -, hcell, -, hr⟩ := HC1.out k hlt
      obtain ⟨b2, o2, u', f', rfl, -, -, -, hcell2, -, hr2⟩ := HC2.out k hlt
      have HR := Lib.hid (R_Cok.drewN (R_Cok.upd hr HU.out (by simp)))
      have HR2 := Lib.hid (R_Cok.drewN (R_Cok.upd hr2 HU.out (by simp)))
      obtain ⟨v1, f1, rfl, -, -⟩ := hr
      obtain ⟨u1, _, rfl, -, -⟩ := hr2
      have p0 := HU.out.keep (hcell 0 _ rfl)
      have p1 := HU.out.keep (hcell 1 _ rfl)
      have q0 := HU.out.keep (hcell2 0 _ rfl)
      have q1 := HU.out.keep (hcell2 1 _ rfl)
      simp only [Nat.add_zero] at p0 q0
      clear hcell hcell2
      generalize hx : xs[k] = x at *
      clear hx
      have S1 := Lib.hid (fun W (hu : Upd [] wo W) => eq_Co _ _ x W f f' (R_Cok.upd (HR.out 0) hu (by simp)) (R_Cok.upd (HR2.out 0) hu (by simp)))
      clear HR HR2
      obtain ⟨t0, ht0⟩ : ∃ t, t = ei x.dfn := ⟨_, rfl⟩
      rw [← ht0] at p0 q0 S1
      clear ht0
      go_wp2_with fail
      go_region_held3 (fun w' => w'.cell? ⟨b1, o1 + k * 2, none⟩ = some (t0) ∧ w'.cell? ⟨b1, o1 + k * 2 + 1, none⟩ = some (v1) ∧ w'.cell? ⟨b2, o2 + k * 2, none⟩ = some (t0) ∧ w'.cell? ⟨b2, o2 + k * 2 + 1, none⟩ = some (u1)) (go_keep) (((with_reducible refine (S1.out _ (by repeat (first | exact Upd.refl _ _ | refine Upd.drew ?_ | refine Upd.drewN ?_ _))).mono ?_); rintro e w1 ⟨rfl, hu1⟩; have a0 := hu1.keep p0; have b0 := hu1.keep q0; have a1 := hu1.keep p1; have b1 := hu1.keep q1; skip))
      all_goals
        have HU1 := Lib.hid (HU.out.drew.trans hu1)
        clear hu1 HU
        go_wp2_with fail
        go_roundw
        case rel => exact ⟨k + 1, by omega, by go_num, HU1⟩
        case measure => simp [intOf]; omega
    · have hge : xs.length ≤ k := by omega
      go_wp2_with fail
      go_ret
      exact ⟨rfl, HU.out⟩

end Go.Proofs.YtijmkcnipflpbaaGreatDoor

/-
  Slices of structs (Component): the first element of which something is true, and whether there is one (the library's functions with a function's value).
-/
namespace Go.Proofs.YtijmkcnipflpbaaGreatDoor
open Go.RowKit

set_option maxRecDepth 20000 in
set_option maxHeartbeats 2000000 in
theorem idxFuncCo (P : Co → Bool) (fn : FuncId) (caps : Array Value) (v : Value) (xs : List Co) (w : World) (fp : List Nat) (hR : R_Co1 fp w [v] xs)
    (hent : ∀ args w, Sem.run Tryz.prog (callFunc fn args) w = .ok (.enter fn args) w)
    (hby : ∀ wr us g s, s ∈ xs → Upd [] w wr → R_Co g wr us s → Calls Tryz.prog fn (#[.agg us.toArray] ++ caps) wr fun e w' => e = .returned (.bool (P s)) ∧ Upd [] wr w') :
    Calls Tryz.prog 94 #[v, .func (.func fn) #[] caps] w fun e w' => e = .returned (.int .i64 (firstP P xs)) ∧ Upd [] w w' := by
  obtain ⟨a1, c1, rfl, hl1, hm1, hc1⟩ := slQ_open hR
  unfold maxLen at hm1
  have HBY := Lib.hid hby
  have HC := Lib.hid hc1
  have HF := Lib.hid (fun k (hk : k < xs.length) (h1 : ∀ j (_ : j < k) (hj : j < xs.length), P xs[j] = false) (h2 : P xs[k] = true) => firstP_at k hk h1 h2)
  have HN := Lib.hid (fun (h : ∀ j (hj : j < xs.length), P xs[j] = false) => firstP_none h)
  clear hR hby hc1
  generalize firstP P xs = Z at *
  go_enter Tryz.func94, Tryz.ntmps94
  go_wp2_with fail
  go_loopw [8] (fun i wr => ∃ k : Nat, k ≤ xs.length ∧ i = .int .i64 k ∧ Hid (Upd [] w wr) ∧ Hid (∀ j (_ : j < k) (hj : j < xs.length), P xs[j] = false)) (fun i _ => xs.length - (intOf i).toNat)
  case atStart => exact ⟨0, Nat.zero_le _, rfl, Lib.hid (Upd.refl _ _), Lib.hid (fun j hj => absurd hj (Nat.not_lt_zero _))⟩
  case round =>
    obtain ⟨wo, rfl⟩ : ∃ wo : World, wo = wr := ⟨_, rfl⟩
    obtain ⟨k, hk, rfl, HU, HI⟩ := hrel
    by_cases hlt : k < xs.length
    · obtain ⟨bb, off, u, f', rfl, -, -, hul, hcell, -, hr⟩ := HC.out k hlt
      have HFK := Lib.hid (HF.out k hlt HI.out)
      have HIK := Lib.hid (fun (h : P xs[k] = false) j (hjk : j < k + 1) (hj : j < xs.length) => (show P xs[j] = false by
        by_cases e : j = k
        · subst e; exact h
        · exact HI.out j (by omega) hj))
      have HS1 := Lib.hid (HBY.out wo u f' xs[k] (List.getElem_mem hlt) HU.out (R_Cok.upd hr HU.out (by simp)))
      have hcell' : ∀ (j : Nat) c, u[j]? = some c → wo.cell? ⟨bb, off + k * 2 + j, none⟩ = some c := fun j c hj => HU.out.keep (hcell j c hj)
      match u, hul with
      | [x0, x1], _ =>
        have s0 := hcell' 0 _ rfl
        have s1 := hcell' 1 _ rfl
        simp only [Nat.add_zero] at s0
        have hkl : (k : Int) < (xs.length : Int) := by omega
        clear hr hcell hcell' HF HN
        generalize xs[k] = s at *
        generalize P s = q at *
        go_wp2_with fail
        refine HS1.out.mono ?_
        rintro e w1 ⟨rfl, hu1⟩
        have HU1 := Lib.hid (HU.out.trans hu1)
        clear HS1 hu1 s0 s1
        cases q with
        | false =>
          replace HIK := Lib.hid (HIK.out rfl)
          clear HFK
          go_wp2_with fail
          go_roundw
          case rel => exact ⟨k + 1, by omega, by go_num, HU1, HIK⟩
          case measure => simp [intOf]; omega
        | true =>
          have HZ := Lib.hid (HFK.out rfl)
          clear HIK HFK
          go_wp2_with fail
          go_ret
          exact ⟨by rw [HZ.out]; rfl, HU1.out⟩
    · have HZ := Lib.hid (HN.out (fun j hj => HI.out j (by omega) hj))
      clear HF HN
      go_wp2_with fail
      go_ret
      exact ⟨by rw [HZ.out]; rfl, HU.out⟩

set_option maxRecDepth 20000 in
theorem conFuncCo (P : Co → Bool) (fn : FuncId) (caps : Array Value) (v : Value) (xs : List Co) (w : World) (fp : List Nat) (hR : R_Co1 fp w [v] xs)
    (hent : ∀ args w, Sem.run Tryz.prog (callFunc fn args) w = .ok (.enter fn args) w)
    (hby : ∀ wr us g s, s ∈ xs → Upd [] w wr → R_Co g wr us s → Calls Tryz.prog fn (#[.agg us.toArray] ++ caps) wr fun e w' => e = .returned (.bool (P s)) ∧ Upd [] wr w') :
    Calls Tryz.prog 68 #[v, .func (.func fn) #[] caps] w fun e w' => e = .returned (.bool (xs.any P)) ∧ Upd [] w w' := by
  have S1 := Lib.hid (idxFuncCo P fn caps v xs w fp hR hent hby)
  have HB := Lib.hid (firstP_nonneg P xs)
  clear hR hent hby
  generalize firstP P xs = Z at *
  generalize xs.any P = q at *
  go_enter Tryz.func68, Tryz.ntmps68
  go_wp2_with fail
  refine S1.out.mono ?_
  rintro e w1 ⟨rfl, hu⟩
  have HU := Lib.hid hu
  clear hu
  go_wp2_with fail
  go_ret
  exact ⟨by show Ending.returned (.bool (decide (0 ≤ Z))) = _; rw [HB.out], HU.out⟩

end Go.Proofs.YtijmkcnipflpbaaGreatDoor

/-
  Meetings: readings, and what the laws' helper functions return and make.
-/
namespace Go.Proofs.YtijmkcnipflpbaaGreatDoor
open Go.RowKit

/-- its 3 cells. -/
def R_Me : Rp Me := fun fp w cs x => cs = [es x.left, es x.right, es x.result] ∧ fp = []
theorem R_Mek : Kept R_Me := by
  constructor
  · rintro fp w cs x ⟨rfl, rfl⟩ b hb
    simp at hb
  · rintro fp w w' cs x ⟨rfl, rfl⟩ hs hb
    exact ⟨rfl, rfl⟩
def szF_Me (x : Me) : Int := (x.left.length : Int) + (x.right.length : Int) + (x.result.length : Int)
def mkF_Me (x : Me) : Int := 1 + 1 + 1
theorem szF_Me_nonneg (x : Me) : 0 ≤ szF_Me x := by unfold szF_Me; omega
theorem mkF_Me_nonneg (x : Me) : 0 ≤ mkF_Me x := by unfold mkF_Me; omega
theorem mkF_Me_le (x : Me) : mkF_Me x ≤ 16 * szF_Me x + 3 := by unfold mkF_Me szF_Me; omega
/-- what each text's length is below. -/
def MeOk (x : Me) : Prop := x.left.length ≤ 9223372036854775807 ∧ x.right.length ≤ 9223372036854775807 ∧ x.result.length ≤ 9223372036854775807

set_option maxRecDepth 20000 in
set_option maxHeartbeats 1600000 in
theorem sz_Me (cs : List Value) (x : Me) (left : Int) (w : World) (fp : List Nat) (hl : 0 ≤ left) (hl2 : left ≤ 1048576) (hR : R_Me fp w cs x) (hS : MeOk x) :
    Calls Tryz.prog 39 #[.agg cs.toArray, .int .i64 left] w fun e w' => (∃ r : Int, e = .returned (.int .i64 r) ∧ (r = -1 ∨ (0 ≤ r ∧ r + szF_Me x = left))) ∧ Upd [] w w' := by
  obtain ⟨rfl, rfl⟩ := hR
  obtain ⟨wA, hwA⟩ : ∃ wA, wA = w.alloc (.cells #[es x.left, es x.right, es x.result] 74) := ⟨_, rfl⟩
  obtain ⟨BA, hBA⟩ : ∃ BA, BA = w.heap.size := ⟨_, rfl⟩
  have uA : Upd [] w wA := by rw [hwA]; exact (Upd.refl _ _).alloc _
  have HC := Lib.hid (fun W (hu : Upd [] wA W) => show W.cell? ⟨BA, 0, none⟩ = some (es x.left) ∧ W.cell? ⟨BA, 1, none⟩ = some (es x.right) ∧ W.cell? ⟨BA, 2, none⟩ = some (es x.result) from
    ⟨hu.keep (by rw [hwA, hBA]; exact cell_new w _ _ _ rfl 0 _ rfl), hu.keep (by rw [hwA, hBA]; exact cell_new w _ _ _ rfl 1 _ rfl), hu.keep (by rw [hwA, hBA]; exact cell_new w _ _ _ rfl 2 _ rfl)⟩)
  have HZ := Lib.hid (show szF_Me x = (x.left.length : Int) + (x.right.length : Int) + (x.result.length : Int) from rfl)
  have hs0 : x.left.length ≤ 9223372036854775807 := hS.1
  have hs1 : x.right.length ≤ 9223372036854775807 := hS.2.1
  have hs2 : x.result.length ≤ 9223372036854775807 := hS.2.2
  generalize x.left = t0 at *
  generalize x.right = t1 at *
  generalize x.result = t2 at *
  generalize szF_Me x = ZZ at *
  obtain ⟨c0, c1, c2⟩ := HC.out wA (Upd.refl _ _)
  have HU := Lib.hid uA
  have HX := Lib.hid (Upd.refl [] wA)
  clear  hS uA
  go_enter Tryz.func39, Tryz.ntmps39
  go_upto_region 1 with (fail)
  rw [← hwA, ← hBA]
  clear hwA hBA
  by_cases hlt0 : left - (t0.length : Int) < 0
  · go_wp2_with fail
    go_ret
    exact ⟨⟨-1, rfl, Or.inl rfl⟩, HU.out⟩
  · obtain ⟨r0, hr0⟩ : ∃ r0 : Int, r0 = left - (t0.length : Int) := ⟨_, rfl⟩
    have hge0 : 0 ≤ r0 := by omega
    have hle0 : r0 ≤ 1048576 := by omega
    have HR0 := Lib.hid hr0
    rw [← hr0] at hlt0
    have hse0 : left - (t0.length : Int) = r0 := hr0.symm
    clear hr0
    by_cases hlt1 : r0 - (t1.length : Int) < 0
    · go_wp2_with fail
      go_ret
      exact ⟨⟨-1, rfl, Or.inl rfl⟩, HU.out⟩
    · obtain ⟨r1, hr1⟩ : ∃ r1 : Int, r1 = r0 - (t1.length : Int) := ⟨_, rfl⟩
      have hge1 : 0 ≤ r1 := by omega
      have hle1 : r1 ≤ 1048576 := by omega
      have HR1 := Lib.hid hr1
      rw [← hr1] at hlt1
      have hse1 : r0 - (t1.length : Int) = r1 := hr1.symm
      clear hr1
      by_cases hlt2 : r1 - (t2.length : Int) < 0
      · go_wp2_with fail
        go_ret
        exact ⟨⟨-1, rfl, Or.inl rfl⟩, HU.out⟩
      · obtain ⟨r2, hr2⟩ : ∃ r2 : Int, r2 = r1 - (t2.length : Int) := ⟨_, rfl⟩
        have hge2 : 0 ≤ r2 := by omega
        have hle2 : r2 ≤ 1048576 := by omega
        have HR2 := Lib.hid hr2
        rw [← hr2] at hlt2
        have hse2 : r1 - (t2.length : Int) = r2 := hr2.symm
        clear hr2
        go_wp2_with fail
        go_ret
        exact ⟨⟨r2, rfl, Or.inr ⟨hge2, by rw [HZ.out]; have := HR0.out; have := HR1.out; have := HR2.out; omega⟩⟩, HU.out⟩

theorem Me_size : (Tryz.prog.info? 82).map (·.size) = some 3 := by kernel_rfl
set_option maxRecDepth 20000 in
set_option maxHeartbeats 4000000 in
theorem to_Me (cs : List Value) (x : Me) (w : World) (fp : List Nat) (hl : szF_Me x ≤ 1048576) (hR : R_Me fp w cs x) :
    Calls Tryz.prog 43 #[.agg cs.toArray] w fun e w' => (∃ us, e = .returned (.agg us.toArray) ∧ us.length = 3 ∧ us.toArray.all (·.oneCell') = true ∧ NewQ R_Me w w' us x) ∧ Upd [] w w' := by
  obtain ⟨rfl, rfl⟩ := hR
  unfold szF_Me at hl
  obtain ⟨wA, hwA⟩ : ∃ wA, wA = ((w.alloc (.cells #[es x.left, es x.right, es x.result] 74)).alloc (.cells #[.string ⟨#[]⟩, .string ⟨#[]⟩, .string ⟨#[]⟩] 82)).alloc (.cells #[.string ⟨#[]⟩, .string ⟨#[]⟩, .string ⟨#[]⟩] 82) := ⟨_, rfl⟩
  obtain ⟨B, hB⟩ : ∃ B, B = w.heap.size := ⟨_, rfl⟩
  have H0 := Lib.hid (show Three w wA 74 82 B [es x.left, es x.right, es x.result] [.string ⟨#[]⟩, .string ⟨#[]⟩, .string ⟨#[]⟩] [.string ⟨#[]⟩, .string ⟨#[]⟩, .string ⟨#[]⟩] from by rw [hwA, hB]; exact Three.mk0 w _ _ _ _ _)
  clear  hl 
  go_enter Tryz.func43, Tryz.ntmps43
  go_upto_region 2 with (fail)
  rw [← hwA, ← hB]
  clear hwA hB
  have p0 := H0.out.pc 0 _ rfl
  have q0 := H0.out.oc 0 _ rfl
  have z0 := H0.out.fz 0
  go_upto_region 3 with (fail)
  obtain ⟨W0, hW0⟩ : ∃ W0, W0 = wA.setCell ⟨B + 2, 0, none⟩ (es x.left) := ⟨_, rfl⟩
  rw [← hW0]
  have H1 := Lib.hid (show Three w W0 74 82 B [es x.left, es x.right, es x.result] [.string ⟨#[]⟩, .string ⟨#[]⟩, .string ⟨#[]⟩] _ from by rw [hW0]; exact H0.out.store 0 _)
  have D0 := Lib.hid (show Upd [B + 2] wA W0 from by rw [hW0]; exact (Upd.refl _ _).setCell (Or.inr (by simp)) _)
  have ds0 := D0.out.size
  clear p0 q0 z0 hW0
  have p1 := H1.out.pc 1 _ rfl
  have q1 := H1.out.oc 1 _ rfl
  have z1 := H1.out.fz 1
  go_upto_region 4 with (fail)
  obtain ⟨W1, hW1⟩ : ∃ W1, W1 = W0.setCell ⟨B + 2, 1, none⟩ (es x.right) := ⟨_, rfl⟩
  rw [← hW1]
  have H2 := Lib.hid (show Three w W1 74 82 B [es x.left, es x.right, es x.result] [.string ⟨#[]⟩, .string ⟨#[]⟩, .string ⟨#[]⟩] _ from by rw [hW1]; exact H1.out.store 1 _)
  have D1 := Lib.hid (show Upd [B + 2] W0 W1 from by rw [hW1]; exact (Upd.refl _ _).setCell (Or.inr (by simp)) _)
  have ds1 := D1.out.size
  clear p1 q1 z1 hW1
  have p2 := H2.out.pc 2 _ rfl
  have q2 := H2.out.oc 2 _ rfl
  have z2 := H2.out.fz 2
  go_upto_region 5 with (fail)
  obtain ⟨W2, hW2⟩ : ∃ W2, W2 = W1.setCell ⟨B + 2, 2, none⟩ (es x.result) := ⟨_, rfl⟩
  rw [← hW2]
  have H3 := Lib.hid (show Three w W2 74 82 B [es x.left, es x.right, es x.result] [.string ⟨#[]⟩, .string ⟨#[]⟩, .string ⟨#[]⟩] _ from by rw [hW2]; exact H2.out.store 2 _)
  have D2 := Lib.hid (show Upd [B + 2] W1 W2 from by rw [hW2]; exact (Upd.refl _ _).setCell (Or.inr (by simp)) _)
  have ds2 := D2.out.size
  clear p2 q2 z2 hW2
  have HF := Lib.hid (show Three w W2 74 82 B [es x.left, es x.right, es x.result] [.string ⟨#[]⟩, .string ⟨#[]⟩, .string ⟨#[]⟩] [es x.left, es x.right, es x.result] from H3.out)
  have hlast := HF.out.h2
  have hres := HF.out.h1
  skip
  go_wp2_with (first
    | (refine wpList_load_row rfl 82 _ rfl (B + 2) rfl 82 #[es x.left, es x.right, es x.result] (0, 0) _ hlast Tryz.underlying82 rfl Me_size ?_)
    | (refine wpList_store_row rfl 82 _ _ rfl (B + 1) #[es x.left, es x.right, es x.result] rfl rfl 82 _ hres Me_size rfl (by simp [Value.oneCell']) ?_)
    | fail)
  have hC := setRow_heap W2 (B + 1) _ #[es x.left, es x.right, es x.result] _ _ hres
  refine bodyPost_ret (results_cell_row Tryz.results43 _ _ (B + 1) 82 _ (0, 0) _ rfl hC Tryz.underlying82 rfl Me_size) rfl ?_
  have hb := HF.out.base
  have UE : Upd [] w (W2.setRow (B + 1) #[es x.left, es x.right, es x.result]) := HF.out.upd.row (Or.inl (by omega)) _
  refine ⟨⟨[es x.left, es x.right, es x.result], rfl, rfl, by simp [Value.oneCell'], ?_⟩, UE⟩
  refine ⟨[], ⟨rfl, rfl⟩, ?_, ?_⟩
  · exact Own.nil _
  · simp

set_option maxRecDepth 20000 in
set_option maxHeartbeats 2000000 in
theorem eq_Me (cs ds : List Value) (x : Me) (w : World) (fp fp2 : List Nat) (hA : R_Me fp w cs x) (hB : R_Me fp2 w ds x) :
    Calls Tryz.prog 52 #[.agg cs.toArray, .agg ds.toArray] w fun e w' => e = .returned (.bool true) ∧ Upd [] w w' := by
  obtain ⟨rfl, rfl⟩ := hA
  obtain ⟨rfl, rfl⟩ := hB
  obtain ⟨wA, hwA⟩ : ∃ wA, wA = w.alloc (.cells #[es x.left, es x.right, es x.result] 82) := ⟨_, rfl⟩
  obtain ⟨wB, hwB⟩ : ∃ wB, wB = wA.alloc (.cells #[es x.left, es x.right, es x.result] 82) := ⟨_, rfl⟩
  obtain ⟨BA, hBA⟩ : ∃ BA, BA = w.heap.size := ⟨_, rfl⟩
  have sA : wA.heap.size = BA + 1 := by rw [hwA, hBA]; simp
  have uA : Upd [] w wA := by rw [hwA]; exact (Upd.refl _ _).alloc _
  have uB : Upd [] wA wB := by rw [hwB]; exact (Upd.refl _ _).alloc _
  have HC := Lib.hid (fun W (hu : Upd [] wB W) => show W.cell? ⟨BA, 0, none⟩ = some (es x.left) ∧ W.cell? ⟨BA + 1, 0, none⟩ = some (es x.left) ∧ W.cell? ⟨BA, 1, none⟩ = some (es x.right) ∧ W.cell? ⟨BA + 1, 1, none⟩ = some (es x.right) ∧ W.cell? ⟨BA, 2, none⟩ = some (es x.result) ∧ W.cell? ⟨BA + 1, 2, none⟩ = some (es x.result) from
    ⟨hu.keep (uB.keep (by rw [hwA, hBA]; exact cell_new w _ _ _ rfl 0 _ rfl)), hu.keep (by rw [hwB]; exact cell_new wA _ _ _ sA 0 _ rfl), hu.keep (uB.keep (by rw [hwA, hBA]; exact cell_new w _ _ _ rfl 1 _ rfl)), hu.keep (by rw [hwB]; exact cell_new wA _ _ _ sA 1 _ rfl), hu.keep (uB.keep (by rw [hwA, hBA]; exact cell_new w _ _ _ rfl 2 _ rfl)), hu.keep (by rw [hwB]; exact cell_new wA _ _ _ sA 2 _ rfl)⟩)
  have HU := Lib.hid (uA.trans uB)
  have HX := Lib.hid (Upd.refl [] wB)
  obtain ⟨c0, d0, c1, d1, c2, d2⟩ := HC.out wB (Upd.refl _ _)
  generalize x.left = t0 at *
  have b0 : (t0 != t0) = false := by simp
  generalize x.right = t1 at *
  have b1 : (t1 != t1) = false := by simp
  generalize x.result = t2 at *
  have b2 : (t2 != t2) = false := by simp
  clear  uA uB sA
  go_enter Tryz.func52, Tryz.ntmps52
  go_upto_region 1 with (fail)
  rw [← hwA, ← hwB, ← hBA]
  clear hwA hwB hBA
  go_wp2_with fail
  go_ret
  exact ⟨rfl, HU.out⟩

end Go.Proofs.YtijmkcnipflpbaaGreatDoor

/-
  Lists of meetings: readings, and what the laws' helper functions return and make.
-/
namespace Go.Proofs.YtijmkcnipflpbaaGreatDoor
open Go.RowKit


abbrev R_Me1 : Rp (List Me) := slQ 3 R_Me
theorem R_Me1k : Kept R_Me1 := slQ_kept R_Mek
def szF_Me1 (xs : List Me) : Int := xs.length + (xs.map szF_Me).sum
def mkF_Me1 (xs : List Me) : Int := (xs.map mkF_Me).sum
def Me1Ok (xs : List Me) : Prop := ∀ x ∈ xs, MeOk x
theorem szF_Me1_sum (xs : List Me) : 0 ≤ (xs.map szF_Me).sum := by
  induction xs with
  | nil => simp
  | cons r rs ih => simp only [List.map_cons, List.sum_cons]; have := szF_Me_nonneg r; omega
theorem szF_Me1_nonneg (xs : List Me) : 0 ≤ szF_Me1 xs := by have := szF_Me1_sum xs; unfold szF_Me1; omega
theorem szF_Me1_snoc (xs : List Me) (k : Nat) (h : k < xs.length) : ((xs.take (k + 1)).map szF_Me).sum = ((xs.take k).map szF_Me).sum + szF_Me xs[k] := by
  rw [List.take_succ_eq_append_getElem h, List.map_append, List.sum_append]; simp
theorem szF_Me1_take (xs : List Me) (k : Nat) : ((xs.take k).map szF_Me).sum ≤ (xs.map szF_Me).sum := by
  have h := szF_Me1_sum (xs.drop k)
  conv => rhs; rw [← List.take_append_drop k xs]
  rw [List.map_append, List.sum_append]; omega
theorem mkF_Me1_nonneg (xs : List Me) : 0 ≤ mkF_Me1 xs := by
  unfold mkF_Me1; induction xs with
  | nil => simp
  | cons r rs ih => simp only [List.map_cons, List.sum_cons]; have := mkF_Me_nonneg r; omega
theorem mkF_Me1_le (xs : List Me) : mkF_Me1 xs ≤ 16 * szF_Me1 xs := by
  unfold mkF_Me1 szF_Me1; induction xs with
  | nil => simp
  | cons r rs ih => simp only [List.map_cons, List.sum_cons, List.length_cons]; have := mkF_Me_le r; omega
theorem mkF_Me1_snoc (xs : List Me) (k : Nat) (h : k < xs.length) : mkF_Me1 (xs.take (k + 1)) = mkF_Me1 (xs.take k) + mkF_Me xs[k] := by
  unfold mkF_Me1; rw [List.take_succ_eq_append_getElem h, List.map_append, List.sum_append]; simp
theorem mkF_Me1_take (xs : List Me) (k : Nat) : mkF_Me1 (xs.take k) ≤ mkF_Me1 xs := by
  have h := mkF_Me1_nonneg (xs.drop k)
  conv => rhs; rw [← List.take_append_drop k xs]
  unfold mkF_Me1 at *; rw [List.map_append, List.sum_append]; omega
def up_Me (k : Int) (x : Me) : Me := ⟨mtx (k), mtx (k + 1), mtx (k + 1 + 1)⟩
def mkd_Me1 : Int → List Me → List Me
  | _, [] => []
  | k, r :: rs => up_Me k r :: mkd_Me1 (k + mkF_Me r) rs
@[simp] theorem mkd_Me1_length (k : Int) (xss : List Me) : (mkd_Me1 k xss).length = xss.length := by
  induction xss generalizing k with
  | nil => rfl
  | cons r rs ih => simp [mkd_Me1, ih]
theorem mkd_Me1_append (k : Int) (xs ys : List Me) : mkd_Me1 k (xs ++ ys) = mkd_Me1 k xs ++ mkd_Me1 (k + mkF_Me1 xs) ys := by
  induction xs generalizing k with
  | nil => simp [mkd_Me1, mkF_Me1]
  | cons r rs ih => simp only [List.cons_append, mkd_Me1, ih, mkF_Me1, List.map_cons, List.sum_cons, Int.add_assoc]
theorem mkd_Me1_set (xss : List Me) (k0 : Int) (k : Nat) (hk : k < xss.length) :
    (mkd_Me1 k0 (xss.take k) ++ xss.drop k).set k (up_Me (k0 + mkF_Me1 (xss.take k)) xss[k]) = mkd_Me1 k0 (xss.take (k + 1)) ++ xss.drop (k + 1) := by
  have hl : (mkd_Me1 k0 (xss.take k)).length = k := by simp; omega
  rw [List.set_append_right _ _ (by omega), hl, Nat.sub_self, List.drop_eq_getElem_cons hk, List.set_cons_zero, List.take_succ_eq_append_getElem hk, mkd_Me1_append]
  simp [mkd_Me1]
set_option maxRecDepth 20000 in
set_option maxHeartbeats 1600000 in
theorem sz_Me1 (v : Value) (xs : List Me) (left : Int) (w : World) (fp : List Nat) (hl : 0 ≤ left) (hl2 : left ≤ 1048576) (hR : R_Me1 fp w [v] xs) (hS : Me1Ok xs) :
    Calls Tryz.prog 18 #[v, .int .i64 left] w fun e w' => (∃ r : Int, e = .returned (.int .i64 r) ∧ (r = -1 ∨ (0 ≤ r ∧ r + szF_Me1 xs = left))) ∧ Upd [] w w' := by
  obtain ⟨a, cap, rfl, h1, h2, hc⟩ := slQ_open hR
  unfold maxLen at h2
  have HS := Lib.hid hS
  have HC := Lib.hid hc
  clear hR hS hc
  by_cases hlt : left - (xs.length : Int) < 0
  · go_enter Tryz.func18, Tryz.ntmps18
    go_wp2_with fail
    go_ret
    exact ⟨⟨-1, rfl, Or.inl rfl⟩, Upd.refl _ _⟩
  · have hge : 0 ≤ left - (xs.length : Int) := by omega
    clear hlt
    go_enter Tryz.func18, Tryz.ntmps18
    go_wp2_with fail
    go_loopw [1, 5] (fun kk i wr => ∃ (k : Nat) (l : Int), k ≤ xs.length ∧ i = .int .i64 k ∧ kk = .int .i64 l ∧ 0 ≤ l ∧ l ≤ 1048576 ∧ Hid (l + xs.length + ((xs.take k).map szF_Me).sum = left) ∧ Hid (Upd [] w wr)) (fun _ i _ => xs.length - (intOf i).toNat)
    case atStart => exact ⟨0, _, Nat.zero_le _, rfl, rfl, hge, by omega, Lib.hid (by simp), Lib.hid (Upd.refl _ _)⟩
    case round =>
      obtain ⟨wo, rfl⟩ : ∃ wo : World, wo = wr := ⟨_, rfl⟩
      obtain ⟨k, l, hk, rfl, rfl, hl0, hl9, HL, HU⟩ := hrel
      by_cases hlt : k < xs.length
      · obtain ⟨b, off, u, f, rfl, -, -, -, hcell, -, hr⟩ := HC.out k hlt
        have HR := Lib.hid (R_Mek.upd hr HU.out (by simp))
        obtain ⟨rfl, -⟩ := hr
        have p0 := HU.out.keep (hcell 0 _ rfl)
        have p1 := HU.out.keep (hcell 1 _ rfl)
        have p2 := HU.out.keep (hcell 2 _ rfl)
        simp only [Nat.add_zero] at p0
        have HT := Lib.hid (szF_Me1_snoc xs k hlt)
        have HO := Lib.hid (HS.out xs[k] (List.getElem_mem hlt))
        clear hcell
        generalize hx : xs[k] = x at *
        clear hx
        have S1 := Lib.hid (sz_Me _ x l wo f hl0 hl9 HR.out HO.out)
        have hzz := szF_Me_nonneg x
        generalize szF_Me x = zz at *
        go_wp2_with fail
        refine S1.out.mono ?_
        rintro e w1 ⟨⟨r, rfl, hr2⟩, hu⟩
        have HU1 := Lib.hid (HU.out.trans hu)
        clear S1 hu
        rcases hr2 with rfl | ⟨hr2, hr3⟩
        · go_wp2_with fail
          go_ret
          exact ⟨⟨-1, rfl, Or.inl rfl⟩, HU1.out⟩
        · have H3 := Lib.hid hr3
          have hr4 : r ≤ 1048576 := by omega
          clear hr3
          go_wp2_with fail
          go_roundw
          case rel => exact ⟨k + 1, r, by omega, by go_num, rfl, hr2, hr4, Lib.hid (by have := H3.out; have := HL.out; rw [HT.out]; omega), HU1⟩
          case measure => simp [intOf]; omega
      · obtain rfl : k = xs.length := by omega
        go_wp2_with fail
        go_ret
        exact ⟨⟨l, rfl, Or.inr ⟨hl0, by have := HL.out; rw [List.take_length] at this; unfold szF_Me1; omega⟩⟩, HU.out⟩

theorem Tryz.infoMe : (Tryz.prog.info? 82).map (fun i => (i.zero, i.size, i.bytes)) = some (some (.agg #[.string ⟨#[]⟩, .string ⟨#[]⟩, .string ⟨#[]⟩]), 3, 48) := by kernel_rfl
set_option maxRecDepth 20000 in
set_option maxHeartbeats 2000000 in
theorem to_Me1 (v : Value) (xs : List Me) (w : World) (fp : List Nat) (hl : szF_Me1 xs ≤ 1048576) (hR : R_Me1 fp w [v] xs) :
    Calls Tryz.prog 24 #[v] w fun e w' => (∃ v', e = .returned v' ∧ New R_Me1 w w' v' xs) ∧ Upd [] w w' := by
  obtain ⟨i0, hi, hz0, hz1, hz2⟩ := info_parts Tryz.infoMe
  obtain ⟨a, cap, rfl, h1, h2, hc⟩ := slQ_open hR
  unfold maxLen at h2
  have htn := szF_Me1_sum xs
  unfold szF_Me1 at hl
  have HC := Lib.hid hc
  clear hR hc
  have hm1 : i0.bytes * xs.length ≤ 281474976710656 := by rw [hz2]; omega
  go_enter Tryz.func24, Tryz.ntmps24
  go_wp2_with (first
    | (at_make; refine wpList_make_full _ rfl _ _ 32 rfl w.heap.size 82 i0 (.agg #[.string ⟨#[]⟩, .string ⟨#[]⟩, .string ⟨#[]⟩]) 3 Tryz.underlying32 hi hz0 hz1 .i64 .i64 _ _ xs.length rfl rfl rfl rfl hm1 (by unfold maxLen; omega) (Nat.le_refl _) ?_; intro w1 hown hgrow)
    | fail)
  have hmd := made_Q ([.string ⟨#[]⟩, .string ⟨#[]⟩, .string ⟨#[]⟩] : List Value) (n := 3) rfl (by decide) xs.length
  rw [hmd] at hown
  have hsz : w.heap.size < w1.heap.size := hown.lt w.heap.size rfl |>.2
  have hU : Upd [] w w1 := (Upd.refl _ _).grown hgrow (by simp)
  clear hgrow hm1 hmd
  go_loopw [4] (fun i wr => ∃ (k : Nat) (us : List (List Value)), k ≤ xs.length ∧ i = .int .i64 k ∧ Hid (Upd [] w wr) ∧ w.heap.size < wr.heap.size ∧
      Hid (wr.ownsRow w.heap.size 82 3 (.slice (some ⟨w.heap.size, 0, none⟩) xs.length xs.length) xs.length (us.flatten ++ (List.replicate (xs.length - k) ([.string ⟨#[]⟩, .string ⟨#[]⟩, .string ⟨#[]⟩] : List Value)).flatten)) ∧
      Hid (RowsQ 3 R_Me w.heap.size [w.heap.size] wr us (xs.take k)))
    (fun i _ => xs.length - (intOf i).toNat)
  case atStart => exact ⟨0, [], Nat.zero_le _, rfl, Lib.hid hU, hsz, Lib.hid (by simpa using hown), Lib.hid (RowsQ.nil _ _ _ _ _)⟩
  case round =>
    clear hown hU hsz
    obtain ⟨wo, rfl⟩ : ∃ wo : World, wo = wr := ⟨_, rfl⟩
    obtain ⟨k, us, hk, rfl, HU, hsz, HO, HW⟩ := hrel
    have hlu : us.length = k := by have := HW.out.length; simp at this; omega
    by_cases hlt : k < xs.length
    · obtain ⟨b, off, u, f, rfl, -, -, -, hcell, -, hr⟩ := HC.out k hlt
      have HR := Lib.hid (R_Mek.upd hr HU.out (by simp))
      obtain ⟨rfl, -⟩ := hr
      have p0 := HU.out.keep (hcell 0 _ rfl)
      have p1 := HU.out.keep (hcell 1 _ rfl)
      have p2 := HU.out.keep (hcell 2 _ rfl)
      simp only [Nat.add_zero] at p0
      have hxl : szF_Me xs[k] ≤ 1048576 := by
        have h1 := szF_Me1_snoc xs k hlt
        have h2 := szF_Me1_take xs (k + 1)
        have h3 := szF_Me1_sum (xs.take k)
        omega
      have HTK := Lib.hid (List.take_succ_eq_append_getElem hlt)
      have HLU := Lib.hid hlu
      clear hcell hlu
      generalize hx : xs[k] = x at *
      clear hx
      have S1 := Lib.hid (to_Me _ x wo f hxl HR.out)
      clear hxl
      go_wp2_with fail
      refine S1.out.mono ?_
      rintro e w2 ⟨⟨u2, rfl, hlen, hone, hnew⟩, hu2⟩
      have hown2 := ownsRow_upd HO.out hu2
      have hrep : (List.replicate (xs.length - k) ([.string ⟨#[]⟩, .string ⟨#[]⟩, .string ⟨#[]⟩] : List Value)).flatten.length = (xs.length - k) * 3 := by
        rw [flat_len (n := 3) (by intro y hy; rw [(List.mem_replicate.1 hy).2]; rfl)]; simp
      have hfl : us.flatten.length = k * 3 := by rw [flat_len HW.out.each, HLU.out]
      have hth : w2.there w.heap.size (k * 3) u2.toArray.size := fun j hj => by
        have hj' : j < 3 := by simpa [hlen] using hj
        refine ⟨?_, hown2.frozenAt _⟩
        rw [hown2.cellAt (k * 3 + j) (by omega), List.getElem?_eq_getElem (by rw [List.length_append, hfl, hrep]; omega)]; rfl
      have hszz : (Tryz.prog.info? 82).map (·.size) = some u2.toArray.size := by rw [Me_size]; simp [hlen]
      have hrun := run_storeCells_cells (P := Tryz.prog) w.heap.size (k * 3) u2 0 w2 (fun j hj => by simpa using (hth j (by simpa using hj)).1) (fun j hj => by simpa using (hth j (by simpa using hj)).2) (fun v hv => (Array.all_eq_true_iff_forall_mem.1 hone) v (by simpa using hv))
      simp only [Nat.add_zero] at hrun
      have hst := ownsRow_setCells u2 (k * 3) hown2 (by rw [hlen]; omega)
      rw [show xs.length - k = (xs.length - (k + 1)) + 1 by omega, ← HLU.out, filled_set us ([.string ⟨#[]⟩, .string ⟨#[]⟩, .string ⟨#[]⟩] : List Value) _ 3 rfl HW.out.each u2 hlen, HLU.out] at hst
      have hw3 : Upd [w.heap.size] w2 (w2.setCells w.heap.size (k * 3) u2) := upd_setCells _ (Or.inr (by simp)) _ _ (Upd.refl _ _)
      have hrows2 := (HW.out.push R_Mek hu2 hnew hlen (by omega) (by simpa using hsz)).upd R_Mek hw3 (by simp)
      rw [← HTK.out] at hrows2
      have hU2 : Upd [] w (w2.setCells w.heap.size (k * 3) u2) := upd_setCells _ (Or.inl (Nat.le_refl _)) _ _ (HU.out.trans hu2)
      have hsz2 : w.heap.size < (w2.setCells w.heap.size (k * 3) u2).heap.size := by have := hu2.size; have := hw3.size; omega
      have HS := Lib.hid (And.intro hst (And.intro hrows2 hU2))
      clear hown2 hrep hfl hst hw3 hrows2 hU2 hnew hu2 S1 HO HW HU
      clear hth hszz hone
      go_wp2_with fail
      go_roundw
      case rel => exact ⟨k + 1, us ++ [u2], by omega, by go_num, Lib.hid HS.out.2.2, hsz2, Lib.hid HS.out.1, Lib.hid HS.out.2.1⟩
      case measure => simp [intOf]; omega
    · obtain rfl : k = xs.length := by omega
      go_wp2_with fail
      go_ret
      have hrows := HW.out
      have hown := HO.out
      rw [List.take_length] at hrows
      refine ⟨⟨_, rfl, hrows.new (e := 82) (by simpa using hown) (by simp [Value.ownBlock]) (Nat.le_refl _)⟩, HU.out⟩

set_option maxRecDepth 20000 in
set_option maxHeartbeats 2000000 in
theorem eq_Me1 (v1 v2 : Value) (xs : List Me) (w : World) (fp fp2 : List Nat) (h1 : R_Me1 fp w [v1] xs) (h2 : R_Me1 fp2 w [v2] xs) :
    Calls Tryz.prog 31 #[v1, v2] w fun e w' => e = .returned (.bool true) ∧ Upd [] w w' := by
  obtain ⟨a1, c1, rfl, hl1, hm1, hc1⟩ := slQ_open h1
  obtain ⟨a2, c2, rfl, hl2, hm2, hc2⟩ := slQ_open h2
  unfold maxLen at hm1 hm2
  have HC1 := Lib.hid hc1
  have HC2 := Lib.hid hc2
  have hbe : ((xs.length : Int) != (xs.length : Int)) = false := by simp
  clear h1 h2 hc1 hc2
  go_enter Tryz.func31, Tryz.ntmps31
  go_wp2_with fail
  go_loopw [5] (fun i wr => ∃ k : Nat, k ≤ xs.length ∧ i = .int .i64 k ∧ Hid (Upd [] w wr)) (fun i _ => xs.length - (intOf i).toNat)
  case atStart => exact ⟨0, Nat.zero_le _, rfl, Lib.hid (Upd.refl _ _)⟩
  case round =>
    obtain ⟨wo, rfl⟩ : ∃ wo : World, wo = wr := ⟨_, rfl⟩
    obtain ⟨k, hk, rfl, HU⟩ := hrel
    by_cases hlt : k < xs.length
    · obtain ⟨b1, o1, u, f, rfl, -, -, -, hcell, -, hr⟩ := HC1.out k hlt
      obtain ⟨b2, o2, u', f', rfl, -, -, -, hcell2, -, hr2⟩ := HC2.out k hlt
      have HR := Lib.hid (R_Mek.drewN (R_Mek.upd hr HU.out (by simp)))
      have HR2 := Lib.hid (R_Mek.drewN (R_Mek.upd hr2 HU.out (by simp)))
      obtain ⟨rfl, -⟩ := hr
      obtain ⟨rfl, -⟩ := hr2
      have p0 := HU.out.keep (hcell 0 _ rfl)
      have p1 := HU.out.keep (hcell 1 _ rfl)
      have p2 := HU.out.keep (hcell 2 _ rfl)
      have q0 := HU.out.keep (hcell2 0 _ rfl)
      have q1 := HU.out.keep (hcell2 1 _ rfl)
      have q2 := HU.out.keep (hcell2 2 _ rfl)
      simp only [Nat.add_zero] at p0 q0
      clear hcell hcell2
      generalize hx : xs[k] = x at *
      clear hx
      have S1 := Lib.hid (fun W (hu : Upd [] wo W) => eq_Me _ _ x W f f' (R_Mek.upd (HR.out 0) hu (by simp)) (R_Mek.upd (HR2.out 0) hu (by simp)))
      clear HR HR2
      obtain ⟨t0, ht0⟩ : ∃ t, t = es x.left := ⟨_, rfl⟩
      rw [← ht0] at p0 q0 S1
      clear ht0
      obtain ⟨t1, ht1⟩ : ∃ t, t = es x.right := ⟨_, rfl⟩
      rw [← ht1] at p1 q1 S1
      clear ht1
      obtain ⟨t2, ht2⟩ : ∃ t, t = es x.result := ⟨_, rfl⟩
      rw [← ht2] at p2 q2 S1
      clear ht2
      go_wp2_with fail
      go_region_held3 (fun w' => w'.cell? ⟨b1, o1 + k * 3, none⟩ = some (t0) ∧ w'.cell? ⟨b1, o1 + k * 3 + 1, none⟩ = some (t1) ∧ w'.cell? ⟨b1, o1 + k * 3 + 2, none⟩ = some (t2) ∧ w'.cell? ⟨b2, o2 + k * 3, none⟩ = some (t0) ∧ w'.cell? ⟨b2, o2 + k * 3 + 1, none⟩ = some (t1) ∧ w'.cell? ⟨b2, o2 + k * 3 + 2, none⟩ = some (t2)) (go_keep) (((with_reducible refine (S1.out _ (by repeat (first | exact Upd.refl _ _ | refine Upd.drew ?_ | refine Upd.drewN ?_ _))).mono ?_); rintro e w1 ⟨rfl, hu1⟩; have a0 := hu1.keep p0; have b0 := hu1.keep q0; have a1 := hu1.keep p1; have b1 := hu1.keep q1; have a2 := hu1.keep p2; have b2 := hu1.keep q2; skip))
      all_goals
        have HU1 := Lib.hid (HU.out.drew.trans hu1)
        clear hu1 HU
        go_wp2_with fail
        go_roundw
        case rel => exact ⟨k + 1, by omega, by go_num, HU1⟩
        case measure => simp [intOf]; omega
    · have hge : xs.length ≤ k := by omega
      go_wp2_with fail
      go_ret
      exact ⟨rfl, HU.out⟩

end Go.Proofs.YtijmkcnipflpbaaGreatDoor

/-
  Slices of structs (Meeting): the first element of which something is true, and whether there is one (the library's functions with a function's value).
-/
namespace Go.Proofs.YtijmkcnipflpbaaGreatDoor
open Go.RowKit

set_option maxRecDepth 20000 in
set_option maxHeartbeats 2000000 in
theorem idxFuncMe (P : Me → Bool) (fn : FuncId) (caps : Array Value) (v : Value) (xs : List Me) (w : World) (fp : List Nat) (hR : R_Me1 fp w [v] xs)
    (hent : ∀ args w, Sem.run Tryz.prog (callFunc fn args) w = .ok (.enter fn args) w)
    (hby : ∀ wr us g s, s ∈ xs → Upd [] w wr → R_Me g wr us s → Calls Tryz.prog fn (#[.agg us.toArray] ++ caps) wr fun e w' => e = .returned (.bool (P s)) ∧ Upd [] wr w') :
    Calls Tryz.prog 131 #[v, .func (.func fn) #[] caps] w fun e w' => e = .returned (.int .i64 (firstP P xs)) ∧ Upd [] w w' := by
  obtain ⟨a1, c1, rfl, hl1, hm1, hc1⟩ := slQ_open hR
  unfold maxLen at hm1
  have HBY := Lib.hid hby
  have HC := Lib.hid hc1
  have HF := Lib.hid (fun k (hk : k < xs.length) (h1 : ∀ j (_ : j < k) (hj : j < xs.length), P xs[j] = false) (h2 : P xs[k] = true) => firstP_at k hk h1 h2)
  have HN := Lib.hid (fun (h : ∀ j (hj : j < xs.length), P xs[j] = false) => firstP_none h)
  clear hR hby hc1
  generalize firstP P xs = Z at *
  go_enter Tryz.func131, Tryz.ntmps131
  go_wp2_with fail
  go_loopw [8] (fun i wr => ∃ k : Nat, k ≤ xs.length ∧ i = .int .i64 k ∧ Hid (Upd [] w wr) ∧ Hid (∀ j (_ : j < k) (hj : j < xs.length), P xs[j] = false)) (fun i _ => xs.length - (intOf i).toNat)
  case atStart => exact ⟨0, Nat.zero_le _, rfl, Lib.hid (Upd.refl _ _), Lib.hid (fun j hj => absurd hj (Nat.not_lt_zero _))⟩
  case round =>
    obtain ⟨wo, rfl⟩ : ∃ wo : World, wo = wr := ⟨_, rfl⟩
    obtain ⟨k, hk, rfl, HU, HI⟩ := hrel
    by_cases hlt : k < xs.length
    · obtain ⟨bb, off, u, f', rfl, -, -, hul, hcell, -, hr⟩ := HC.out k hlt
      have HFK := Lib.hid (HF.out k hlt HI.out)
      have HIK := Lib.hid (fun (h : P xs[k] = false) j (hjk : j < k + 1) (hj : j < xs.length) => (show P xs[j] = false by
        by_cases e : j = k
        · subst e; exact h
        · exact HI.out j (by omega) hj))
      have HS1 := Lib.hid (HBY.out wo u f' xs[k] (List.getElem_mem hlt) HU.out (R_Mek.upd hr HU.out (by simp)))
      have hcell' : ∀ (j : Nat) c, u[j]? = some c → wo.cell? ⟨bb, off + k * 3 + j, none⟩ = some c := fun j c hj => HU.out.keep (hcell j c hj)
      match u, hul with
      | [x0, x1, x2], _ =>
        have s0 := hcell' 0 _ rfl
        have s1 := hcell' 1 _ rfl
        have s2 := hcell' 2 _ rfl
        simp only [Nat.add_zero] at s0
        have hkl : (k : Int) < (xs.length : Int) := by omega
        clear hr hcell hcell' HF HN
        generalize xs[k] = s at *
        generalize P s = q at *
        go_wp2_with fail
        refine HS1.out.mono ?_
        rintro e w1 ⟨rfl, hu1⟩
        have HU1 := Lib.hid (HU.out.trans hu1)
        clear HS1 hu1 s0 s1 s2
        cases q with
        | false =>
          replace HIK := Lib.hid (HIK.out rfl)
          clear HFK
          go_wp2_with fail
          go_roundw
          case rel => exact ⟨k + 1, by omega, by go_num, HU1, HIK⟩
          case measure => simp [intOf]; omega
        | true =>
          have HZ := Lib.hid (HFK.out rfl)
          clear HIK HFK
          go_wp2_with fail
          go_ret
          exact ⟨by rw [HZ.out]; rfl, HU1.out⟩
    · have HZ := Lib.hid (HN.out (fun j hj => HI.out j (by omega) hj))
      clear HF HN
      go_wp2_with fail
      go_ret
      exact ⟨by rw [HZ.out]; rfl, HU.out⟩

set_option maxRecDepth 20000 in
theorem conFuncMe (P : Me → Bool) (fn : FuncId) (caps : Array Value) (v : Value) (xs : List Me) (w : World) (fp : List Nat) (hR : R_Me1 fp w [v] xs)
    (hent : ∀ args w, Sem.run Tryz.prog (callFunc fn args) w = .ok (.enter fn args) w)
    (hby : ∀ wr us g s, s ∈ xs → Upd [] w wr → R_Me g wr us s → Calls Tryz.prog fn (#[.agg us.toArray] ++ caps) wr fun e w' => e = .returned (.bool (P s)) ∧ Upd [] wr w') :
    Calls Tryz.prog 99 #[v, .func (.func fn) #[] caps] w fun e w' => e = .returned (.bool (xs.any P)) ∧ Upd [] w w' := by
  have S1 := Lib.hid (idxFuncMe P fn caps v xs w fp hR hent hby)
  have HB := Lib.hid (firstP_nonneg P xs)
  clear hR hent hby
  generalize firstP P xs = Z at *
  generalize xs.any P = q at *
  go_enter Tryz.func99, Tryz.ntmps99
  go_wp2_with fail
  refine S1.out.mono ?_
  rintro e w1 ⟨rfl, hu⟩
  have HU := Lib.hid hu
  clear hu
  go_wp2_with fail
  go_ret
  exact ⟨by show Ending.returned (.bool (decide (0 ≤ Z))) = _; rw [HB.out], HU.out⟩

end Go.Proofs.YtijmkcnipflpbaaGreatDoor

/-
  Components and systems: what the program's checks return.
-/
namespace Go.Proofs.YtijmkcnipflpbaaGreatDoor
open Go.RowKit

set_option maxRecDepth 20000 in
set_option maxHeartbeats 4000000 in
theorem componentOkI (ds : List De) (dv : Value) (fd : List Nat) (cs : List Value) (c : Co) (fp : List Nat) (w : World) (hD : R_De1 fd w [dv] ds) (hdl : ds.length ≤ 1000000) (hR : R_Co fp w cs c) :
    Calls Tryz.prog 70 #[dv, .agg cs.toArray] w fun e w' => e = .returned (.bool (compOk ds c)) ∧ Upd [] w w' := by
  obtain ⟨v1, f1, rfl, h1, rfl⟩ := hR
  have h1' := h1
  obtain ⟨a1, c1, rfl, l1, m1, -⟩ := slF1_open h1
  obtain ⟨ad, qd, rfl, dl1, dm1, hc⟩ := slQ_open hD
  unfold maxLen at m1 dm1
  have HM := Lib.hid (show compOk ds c = (inB c.dfn 0 ((ds.length : Int) - 1) && ((c.vals.length : Int) == (ds.map De.pars).getD c.dfn.toNat 0) && c.vals.all isV) from rfl)
  obtain ⟨wA, hwA⟩ : ∃ q, q = w.alloc (.cells #[ei c.dfn, .slice a1 c.vals.length c1] 80) := ⟨_, rfl⟩
  obtain ⟨BA, hBA⟩ : ∃ q, q = w.heap.size := ⟨_, rfl⟩
  have uA : Upd [] w wA := by rw [hwA]; exact (Upd.refl _ _).alloc _
  have x0 : wA.cell? ⟨BA, 0, none⟩ = some (ei c.dfn) := by rw [hwA, hBA]; exact cell_new w _ _ _ rfl 0 _ rfl
  have x1 : wA.cell? ⟨BA, 1, none⟩ = some (.slice a1 c.vals.length c1) := by rw [hwA, hBA]; exact cell_new w _ _ _ rfl 1 _ rfl
  have SI := Lib.hid (fun n => Calls.quiet_of_same (n := n) ((idxI c.dfn ds.length (wA.drewN n) hdl).mono (fun e w' h => ⟨h.1, h.2.symm⟩)))
  have SV := Lib.hid (fun n => Calls.quiet_of_same (n := n) ((areValues (.slice a1 c.vals.length c1) c.vals (wA.drewN n) f1 (R_I1k.drewN (R_I1k.upd h1' uA (by simp)) n)).mono (fun e w' h => ⟨h.1, h.2.symm⟩)))
  have UA := Lib.hid uA
  clear h1 h1' hD
  generalize compOk ds c = Z at *
  obtain ⟨dfn, vals⟩ := c
  simp only at *
  generalize vals.all isV = qv at *
  generalize vals.length = n at *
  obtain ⟨q1, hq1⟩ : ∃ q, inB dfn 0 ((ds.length : Int) - 1) = q := ⟨_, rfl⟩
  rw [hq1] at SI HM
  cases q1 with
  | false =>
    clear hc hq1 SV
    go_enter Tryz.func70, Tryz.ntmps70
    go_upto_region 1 with (fail)
    rw [← hwA, ← hBA]
    clear hwA hBA
    go_quiet ((go_at_call 95; with_reducible exact SI.out _))
    have HU := Lib.hid (UA.out.drewN nq)
    go_wp2_with fail
    go_ret
    exact ⟨by rw [HM.out]; rfl, HU.out⟩
  | true =>
    have hb := inB_true hq1
    obtain ⟨j, rfl⟩ : ∃ j : Nat, dfn = j := ⟨dfn.toNat, by omega⟩
    have hj : j < ds.length := by omega
    obtain ⟨b, off, u, f, rfl, -, -, -, hcell, -, hr⟩ := hc j hj
    obtain ⟨v2, f2, rfl, -, -⟩ := hr
    have p1 := uA.keep (hcell 1 _ rfl)
    have hz : (ds.map De.pars).getD (Int.toNat (j : Int)) 0 = ds[j].pars := by
      rw [Int.toNat_natCast, List.getD_eq_getElem?_getD, List.getElem?_map, List.getElem?_eq_getElem hj]; rfl
    rw [hz] at HM
    have hjl : (j : Int) < (ds.length : Int) := by omega
    clear hc hcell hq1 hb hz uA
    generalize ds[j].pars = P at *
    obtain ⟨q2, hq2⟩ : ∃ q, ((n : Int) == P) = q := ⟨_, rfl⟩
    rw [hq2] at HM
    cases q2 with
    | false =>
      go_enter Tryz.func70, Tryz.ntmps70
      go_upto_region 1 with (fail)
      rw [← hwA, ← hBA]
      clear hwA hBA
      go_quiet ((go_at_call 95; with_reducible exact SI.out _))
      have HU := Lib.hid (UA.out.drewN nq)
      go_wp2_with fail
      go_ret
      exact ⟨by rw [HM.out]; rfl, HU.out⟩
    | true =>
      go_enter Tryz.func70, Tryz.ntmps70
      go_upto_region 1 with (fail)
      rw [← hwA, ← hBA]
      clear hwA hBA
      go_quiet (first | (go_at_call 95; with_reducible exact SI.out _) | (go_at_call 96; with_reducible exact SV.out _))
      have HU := Lib.hid (UA.out.drewN nq)
      go_wp2_with fail
      go_ret
      exact ⟨by rw [HM.out]; rfl, HU.out⟩

theorem enter_sysF1 (args : Array Value) (w : World) : Sem.run Tryz.prog (callFunc 69 args) w = .ok (.enter 69 args) w := by go_simp
theorem enter_meets1 (args : Array Value) (w : World) : Sem.run Tryz.prog (callFunc 100 args) w = .ok (.enter 100 args) w := by go_simp
set_option maxRecDepth 20000 in
set_option maxHeartbeats 2000000 in
theorem sysF1I (ds : List De) (dv : Value) (fd : List Nat) (T : Nat) (cs : List Value) (c : Co) (fp : List Nat) (w : World) (hD : R_De1 fd w [dv] ds) (hdl : ds.length ≤ 1000000) (hR : R_Co fp w cs c) (t0 : w.cell? ⟨T, 0, none⟩ = some dv) :
    Calls Tryz.prog 69 #[.agg cs.toArray, .pointer (some ⟨T, 0, none⟩)] w fun e w' => e = .returned (.bool (!compOk ds c)) ∧ Upd [] w w' := by
  have hR' := hR
  obtain ⟨v1, f1, rfl, h1, rfl⟩ := hR
  obtain ⟨wA, hwA⟩ : ∃ q, q = w.alloc (.cells #[ei c.dfn, v1] 80) := ⟨_, rfl⟩
  obtain ⟨BA, hBA⟩ : ∃ q, q = w.heap.size := ⟨_, rfl⟩
  have uA : Upd [] w wA := by rw [hwA]; exact (Upd.refl _ _).alloc _
  have x0 : wA.cell? ⟨BA, 0, none⟩ = some (ei c.dfn) := by rw [hwA, hBA]; exact cell_new w _ _ _ rfl 0 _ rfl
  have x1 : wA.cell? ⟨BA, 1, none⟩ = some v1 := by rw [hwA, hBA]; exact cell_new w _ _ _ rfl 1 _ rfl
  have y0 := uA.keep t0
  have S1 := Lib.hid (componentOkI ds dv fd _ c _ wA (R_De1k.upd hD uA (by simp)) hdl (R_Cok.upd hR' uA (by simp)))
  have UA := Lib.hid uA
  obtain ⟨a1, c1, rfl, -, -, -⟩ := slF1_open h1
  obtain ⟨ad, qd, rfl, -, -, -⟩ := slQ_open hD
  clear hD hR' h1 uA t0
  generalize compOk ds c = q at *
  generalize c.vals.length = n at *
  generalize c.dfn = d at *
  go_enter Tryz.func69, Tryz.ntmps69
  go_upto_region 1 with (fail)
  rw [← hwA, ← hBA]
  clear hwA hBA
  go_wp2_with fail
  refine S1.out.mono ?_
  rintro e w1 ⟨rfl, hu⟩
  have HU := Lib.hid (UA.out.trans hu)
  clear S1 hu
  go_wp2_with fail
  go_ret
  exact ⟨rfl, HU.out⟩
set_option maxRecDepth 20000 in
set_option maxHeartbeats 2000000 in
theorem meets1I (o : Me) (res : List UInt8) (T : Nat) (w : World) (t2 : w.cell? ⟨T, 2, none⟩ = some (es res)) :
    Calls Tryz.prog 100 #[.agg #[es o.left, es o.right, es o.result], .pointer (some ⟨T, 0, none⟩)] w fun e w' => e = .returned (.bool (o.left == res || o.right == res)) ∧ Upd [] w w' := by
  obtain ⟨l, r, s⟩ := o
  have y2 := ((Upd.refl [] w).alloc (.cells #[es l, es r, es s] 82)).keep t2
  obtain ⟨q1, h1⟩ : ∃ q, (l == res) = q := ⟨_, rfl⟩
  obtain ⟨q2, h2⟩ : ∃ q, (r == res) = q := ⟨_, rfl⟩
  simp only
  rw [h1, h2]
  clear t2
  cases q1 with
  | true =>
    go_enter Tryz.func100, Tryz.ntmps100
    go_wp2_with fail
    go_ret
    exact ⟨rfl, (Upd.refl _ _).alloc _⟩
  | false =>
    go_enter Tryz.func100, Tryz.ntmps100
    go_wp2_with fail
    go_ret
    exact ⟨rfl, (Upd.refl _ _).alloc _⟩

/-- the order of two meetings as a number. -/
def cmpM (a b : Me) : Int := cmpBs [a.left, a.right] [b.left, b.right]
theorem cmp_aux : ∀ p q r s e f : Bool, (p || e) = !q → (r || f) = !s → decide ((0 : Int) ≤ (if (if p = true then (-1 : Int) else if q = true then 1 else 0) = 0 then (if (if r = true then (-1 : Int) else if s = true then 1 else 0) = 0 then 0 else (if r = true then (-1 : Int) else if s = true then 1 else 0)) else (if p = true then (-1 : Int) else if q = true then 1 else 0))) = !(p || (e && r)) := by decide
theorem cmpM_less (a b : Me) : decide (0 ≤ cmpM a b) = !lessM a b :=
  cmp_aux _ _ _ _ _ _ (bl_total a.left b.left) (bl_total a.right b.right)
theorem cmpM_bd (a b : Me) : -1 ≤ cmpM a b ∧ cmpM a b ≤ 1 := by
  unfold cmpM
  simp only [cmpBs, cmpB]
  repeat' split
  all_goals omega

set_option maxRecDepth 20000 in
set_option maxHeartbeats 4000000 in
theorem compareMeetingsI (a b : Me) (w : World) :
    Calls Tryz.prog 98 #[.agg #[es a.left, es a.right, es a.result], .agg #[es b.left, es b.right, es b.result]] w fun e w' => e = .returned (.int .i64 (cmpM a b)) ∧ Upd [] w w' := by
  obtain ⟨wA, hwA⟩ : ∃ q, q = (w.alloc (.cells #[es a.left, es a.right, es a.result] 82)).alloc (.cells #[es b.left, es b.right, es b.result] 82) := ⟨_, rfl⟩
  obtain ⟨BA, hBA⟩ : ∃ q, q = w.heap.size := ⟨_, rfl⟩
  have uA : Upd [] w wA := by rw [hwA]; exact ((Upd.refl _ _).alloc _).alloc _
  have s1 : (w.alloc (.cells #[es a.left, es a.right, es a.result] 82)).heap.size = BA + 1 := by rw [hBA]; simp
  have hk : ∀ (j : Nat) c, (#[es a.left, es a.right, es a.result] : Array Value)[j]? = some c → wA.cell? ⟨BA, j, none⟩ = some c := fun j c hc => by
    rw [hwA, hBA]; exact ((Upd.refl [] _).alloc _).keep (cell_new w _ _ _ rfl j _ hc)
  have hk2 : ∀ (j : Nat) c, (#[es b.left, es b.right, es b.result] : Array Value)[j]? = some c → wA.cell? ⟨BA + 1, j, none⟩ = some c := fun j c hc => by
    rw [hwA]; exact cell_new _ _ _ _ s1 j _ hc
  obtain ⟨w1, hw1⟩ : ∃ q, q = wA.alloc (.cells #[es a.left, es a.right] 9) := ⟨_, rfl⟩
  have u1 : Upd [] wA w1 := by rw [hw1]; exact (Upd.refl _ _).alloc _
  obtain ⟨B1, hB1⟩ : ∃ q, q = wA.heap.size := ⟨_, rfl⟩
  obtain ⟨f1, r1, -, -⟩ : New R_S1 wA w1 (.slice (some ⟨B1, 0, none⟩) 2 2) [a.left, a.right] := by rw [hw1, hB1]; exact new_lit (enc := fun p : List UInt8 => es p) wA 9 [a.left, a.right] (by simp [maxLen])
  obtain ⟨w2, hw2⟩ : ∃ q, q = w1.alloc (.cells #[es b.left, es b.right] 9) := ⟨_, rfl⟩
  have u2 : Upd [] w1 w2 := by rw [hw2]; exact (Upd.refl _ _).alloc _
  obtain ⟨B2, hB2⟩ : ∃ q, q = w1.heap.size := ⟨_, rfl⟩
  have hB3 : wA.heap.size + 1 = B2 := by rw [hB2, hw1]; simp
  obtain ⟨f2, r2, -, -⟩ : New R_S1 w1 w2 (.slice (some ⟨B2, 0, none⟩) 2 2) [b.left, b.right] := by rw [hw2, hB2]; exact new_lit (enc := fun p : List UInt8 => es p) w1 9 [b.left, b.right] (by simp [maxLen])
  have S1 := Lib.hid (cmpStrs _ _ _ _ w2 f1 f2 (R_S1k.upd r1 u2 (by simp)) r2 rfl)
  have y0 : wA.cell? ⟨BA, 0, none⟩ = some (es a.left) := hk 0 _ rfl
  have y1 : wA.cell? ⟨BA, 1, none⟩ = some (es a.right) := hk 1 _ rfl
  have z0 : wA.cell? ⟨BA + 1, 0, none⟩ = some (es b.left) := hk2 0 _ rfl
  have z1 : wA.cell? ⟨BA + 1, 1, none⟩ = some (es b.right) := hk2 1 _ rfl
  have x0 := ((Upd.refl [] wA).alloc (.cells #[es a.left, es a.right] 9)).keep z0
  have x1 := ((Upd.refl [] wA).alloc (.cells #[es a.left, es a.right] 9)).keep z1
  have UU := Lib.hid ((uA.trans u1).trans u2)
  rw [show cmpBs [a.left, a.right] [b.left, b.right] = cmpM a b from rfl] at S1
  clear hk hk2 uA u1 u2 r1 r2 s1
  generalize cmpM a b = Z at *
  go_enter Tryz.func98, Tryz.ntmps98
  go_upto_region 1 with (fail)
  rw [← hwA, ← hBA]
  clear hwA hBA
  have HH := Lib.hid (And.intro hw1 (And.intro hw2 (And.intro hB1 hB3)))
  clear hw1 hw2 hB1 hB2 hB3
  go_wp2_with fail
  rw [← HH.out.1, ← HH.out.2.1, HH.out.2.2.2, ← HH.out.2.2.1]
  refine S1.out.mono ?_
  rintro e w3 ⟨rfl, rfl⟩
  clear S1 HH
  go_wp2_with fail
  go_ret
  exact ⟨rfl, UU.out⟩

end Go.Proofs.YtijmkcnipflpbaaGreatDoor
