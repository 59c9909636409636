/-
  Texts joined in one file: HarnPa, HarnPa1, HarnMe, HarnMe1, SyCa, HarnDe, HarnDe1, HarnPa2, HarnDe2, HarnCo, HarnCo1, HarnCo2, HarnMe2, HarnSy, SyNew.
-/
import Derived.Test.YtnchmnjkmhfleaaGreatZP1
import Derived.Test.YtnchmnjkmhfleaaGreatZP2
import Derived.Deep.DeepCutAuto
/-
  Parts of bodies: readings, and what the laws' helper functions return and make.
-/
namespace Go.Proofs.YtnchmnjkmhfleaaGreat
open Go.RowKit

/-- its 4 cells. -/
def R_Pa : Rp Pa := fun fp w cs x => ∃ (v3 : Value) (f3 : List Nat), cs = [ei x.kind, ei x.num, es x.name, v3] ∧ R_T2 f3 w [v3] x.args ∧ fp = f3 ++ []
theorem R_Pak : Kept R_Pa := by
  constructor
  · rintro fp w cs x ⟨v3, f3, rfl, h3, rfl⟩ b hb
    exact R_T2k.lt h3 b (by simpa using hb)
  · rintro fp w w' cs x ⟨v3, f3, rfl, h3, rfl⟩ hs hb
    exact ⟨v3, f3, rfl, R_T2k.frame h3 hs (fun b h => hb b (by simp [h])), rfl⟩
def szF_Pa (x : Pa) : Int := (x.name.length : Int) + szF_T2 x.args
def mkF_Pa (x : Pa) : Int := 1 + 1 + 1 + mkF_T2 x.args
theorem szF_Pa_nonneg (x : Pa) : 0 ≤ szF_Pa x := by have := szF_T2_nonneg x.args; unfold szF_Pa; omega
theorem mkF_Pa_nonneg (x : Pa) : 0 ≤ mkF_Pa x := by have := mkF_T2_nonneg x.args; unfold mkF_Pa; omega
theorem mkF_Pa_le (x : Pa) : mkF_Pa x ≤ 16 * szF_Pa x + 3 := by have := mkF_T2_le x.args; unfold mkF_Pa szF_Pa; omega
/-- what each text's length is below. -/
def PaOk (x : Pa) : Prop := x.name.length ≤ 9223372036854775807

set_option maxRecDepth 20000 in
set_option maxHeartbeats 1600000 in
theorem sz_Pa (cs : List Value) (x : Pa) (left : Int) (w : World) (fp : List Nat) (hl : 0 ≤ left) (hl2 : left ≤ 1048576) (hR : R_Pa fp w cs x) (hS : PaOk x) :
    Calls Tryz.prog 185 #[.agg cs.toArray, .int .i64 left] w fun e w' => (∃ r : Int, e = .returned (.int .i64 r) ∧ (r = -1 ∨ (0 ≤ r ∧ r + szF_Pa x = left))) ∧ Upd [] w w' := by
  obtain ⟨v3, f3, rfl, h3, rfl⟩ := hR
  obtain ⟨wA, hwA⟩ : ∃ wA, wA = w.alloc (.cells #[ei x.kind, ei x.num, es x.name, v3] 205) := ⟨_, rfl⟩
  obtain ⟨BA, hBA⟩ : ∃ BA, BA = w.heap.size := ⟨_, rfl⟩
  have uA : Upd [] w wA := by rw [hwA]; exact (Upd.refl _ _).alloc _
  have S3 := Lib.hid (fun (W : World) (hu : Upd [] w W) (l : Int) (q1 : 0 ≤ l) (q2 : l ≤ 1048576) => sz_T2 v3 x.args l W f3 q1 q2 (R_T2k.upd h3 hu (by simp)))
  have HC := Lib.hid (fun W (hu : Upd [] wA W) => show W.cell? ⟨BA, 2, none⟩ = some (es x.name) ∧ W.cell? ⟨BA, 3, none⟩ = some (v3) from
    ⟨hu.keep (by rw [hwA, hBA]; exact cell_new w _ _ _ rfl 2 _ rfl), hu.keep (by rw [hwA, hBA]; exact cell_new w _ _ _ rfl 3 _ rfl)⟩)
  have HZ := Lib.hid (show szF_Pa x = (x.name.length : Int) + szF_T2 x.args from rfl)
  have hs2 : x.name.length ≤ 9223372036854775807 := hS
  have hn3 := szF_T2_nonneg x.args
  generalize szF_T2 x.args = z3 at *
  generalize x.name = t2 at *
  generalize szF_Pa x = ZZ at *
  obtain ⟨c2, c3⟩ := HC.out wA (Upd.refl _ _)
  have HU := Lib.hid uA
  have HX := Lib.hid (Upd.refl [] wA)
  clear h3 hS uA
  go_enter Tryz.func185, Tryz.ntmps185
  go_upto_region 1 with (fail)
  rw [← hwA, ← hBA]
  clear hwA hBA
  by_cases hlt2 : left - (t2.length : Int) < 0
  · go_wp2_with fail
    go_ret
    exact ⟨⟨-1, rfl, Or.inl rfl⟩, HU.out⟩
  · obtain ⟨r2, hr2⟩ : ∃ r2 : Int, r2 = left - (t2.length : Int) := ⟨_, rfl⟩
    have hge2 : 0 ≤ r2 := by omega
    have hle2 : r2 ≤ 1048576 := by omega
    have HR2 := Lib.hid hr2
    rw [← hr2] at hlt2
    have hse2 : left - (t2.length : Int) = r2 := hr2.symm
    clear hr2
    have T3 := Lib.hid (S3.out wA HU.out r2 hge2 hle2)
    clear S3
    go_wp2_with fail
    refine T3.out.mono ?_
    rintro e w3 ⟨⟨r, rfl, hr⟩, rfl⟩
    clear T3
    rcases hr with rfl | ⟨hge3, hr⟩
    · go_wp2_with fail
      go_ret
      exact ⟨⟨-1, rfl, Or.inl rfl⟩, HU.out⟩
    · have HR3 := Lib.hid hr
      have hle3 : r ≤ 1048576 := by omega
      clear hr
      generalize r = r3 at *
      go_wp2_with fail
      go_ret
      exact ⟨⟨r3, rfl, Or.inr ⟨hge3, by rw [HZ.out]; have := HR2.out; have := HR3.out; omega⟩⟩, HU.out⟩

theorem Pa_size : (Tryz.prog.info? 109).map (·.size) = some 4 := by kernel_rfl
set_option maxRecDepth 20000 in
set_option maxHeartbeats 4000000 in
theorem to_Pa (cs : List Value) (x : Pa) (w : World) (fp : List Nat) (hl : szF_Pa x ≤ 1048576) (hR : R_Pa fp w cs x) :
    Calls Tryz.prog 190 #[.agg cs.toArray] w fun e w' => (∃ us, e = .returned (.agg us.toArray) ∧ us.length = 4 ∧ us.toArray.all (·.oneCell') = true ∧ NewQ R_Pa w w' us x) ∧ Upd [] w w' := by
  obtain ⟨v3, f3, rfl, h3, rfl⟩ := hR
  have hn3 := szF_T2_nonneg x.args
  unfold szF_Pa at hl
  have S3 := Lib.hid (fun (W : World) (hu : Upd [] w W) => to_T2 v3 x.args W f3 (by omega) (R_T2k.upd h3 hu (by simp)))
  obtain ⟨wA, hwA⟩ : ∃ wA, wA = ((w.alloc (.cells #[ei x.kind, ei x.num, es x.name, v3] 205)).alloc (.cells #[.int .i64 0, .int .i64 0, .string ⟨#[]⟩, .slice none 0 0] 109)).alloc (.cells #[.int .i64 0, .int .i64 0, .string ⟨#[]⟩, .slice none 0 0] 109) := ⟨_, rfl⟩
  obtain ⟨B, hB⟩ : ∃ B, B = w.heap.size := ⟨_, rfl⟩
  have H0 := Lib.hid (show Three w wA 205 109 B [ei x.kind, ei x.num, es x.name, v3] [.int .i64 0, .int .i64 0, .string ⟨#[]⟩, .slice none 0 0] [.int .i64 0, .int .i64 0, .string ⟨#[]⟩, .slice none 0 0] from by rw [hwA, hB]; exact Three.mk0 w _ _ _ _ _)
  clear h3 hl hn3
  go_enter Tryz.func190, Tryz.ntmps190
  go_upto_region 2 with (fail)
  rw [← hwA, ← hB]
  clear hwA hB
  have p0 := H0.out.pc 0 _ rfl
  have q0 := H0.out.oc 0 _ rfl
  have z0 := H0.out.fz 0
  go_upto_region 3 with (fail)
  obtain ⟨W0, hW0⟩ : ∃ W0, W0 = wA.setCell ⟨B + 2, 0, none⟩ (ei x.kind) := ⟨_, rfl⟩
  rw [← hW0]
  have H1 := Lib.hid (show Three w W0 205 109 B [ei x.kind, ei x.num, es x.name, v3] [.int .i64 0, .int .i64 0, .string ⟨#[]⟩, .slice none 0 0] _ from by rw [hW0]; exact H0.out.store 0 _)
  have D0 := Lib.hid (show Upd [B + 2] wA W0 from by rw [hW0]; exact (Upd.refl _ _).setCell (Or.inr (by simp)) _)
  have ds0 := D0.out.size
  clear p0 q0 z0 hW0
  have p1 := H1.out.pc 1 _ rfl
  have q1 := H1.out.oc 1 _ rfl
  have z1 := H1.out.fz 1
  go_upto_region 4 with (fail)
  obtain ⟨W1, hW1⟩ : ∃ W1, W1 = W0.setCell ⟨B + 2, 1, none⟩ (ei x.num) := ⟨_, rfl⟩
  rw [← hW1]
  have H2 := Lib.hid (show Three w W1 205 109 B [ei x.kind, ei x.num, es x.name, v3] [.int .i64 0, .int .i64 0, .string ⟨#[]⟩, .slice none 0 0] _ from by rw [hW1]; exact H1.out.store 1 _)
  have D1 := Lib.hid (show Upd [B + 2] W0 W1 from by rw [hW1]; exact (Upd.refl _ _).setCell (Or.inr (by simp)) _)
  have ds1 := D1.out.size
  clear p1 q1 z1 hW1
  have p2 := H2.out.pc 2 _ rfl
  have q2 := H2.out.oc 2 _ rfl
  have z2 := H2.out.fz 2
  go_upto_region 5 with (fail)
  obtain ⟨W2, hW2⟩ : ∃ W2, W2 = W1.setCell ⟨B + 2, 2, none⟩ (es x.name) := ⟨_, rfl⟩
  rw [← hW2]
  have H3 := Lib.hid (show Three w W2 205 109 B [ei x.kind, ei x.num, es x.name, v3] [.int .i64 0, .int .i64 0, .string ⟨#[]⟩, .slice none 0 0] _ from by rw [hW2]; exact H2.out.store 2 _)
  have D2 := Lib.hid (show Upd [B + 2] W1 W2 from by rw [hW2]; exact (Upd.refl _ _).setCell (Or.inr (by simp)) _)
  have ds2 := D2.out.size
  clear p2 q2 z2 hW2
  have T3 := Lib.hid (S3.out W2 H3.out.upd)
  clear S3
  have p3 := H3.out.pc 3 _ rfl
  go_wp2_with fail
  refine T3.out.mono ?_
  rintro e w3 ⟨⟨u, rfl, hn⟩, hu⟩
  have G3 := Lib.hid (H3.out.call hu)
  have HN3 := Lib.hid hn
  have E3 := Lib.hid hu
  have hlo3 := H3.out.size
  have hhi3 := hu.size
  obtain ⟨m3, n3, rfl⟩ := New.formP hn
  clear T3 p3 hn hu
  have q3 := G3.out.oc 3 _ rfl
  have z3 := G3.out.fz 3
  go_upto_region 6 with (fail)
  obtain ⟨W3, hW3⟩ : ∃ W3, W3 = w3.setCell ⟨B + 2, 3, none⟩ (.slice m3 x.args.length n3) := ⟨_, rfl⟩
  rw [← hW3]
  have H4 := Lib.hid (show Three w W3 205 109 B [ei x.kind, ei x.num, es x.name, v3] [.int .i64 0, .int .i64 0, .string ⟨#[]⟩, .slice none 0 0] _ from by rw [hW3]; exact G3.out.store 3 _)
  have D3 := Lib.hid (show Upd [B + 2] w3 W3 from by rw [hW3]; exact (Upd.refl _ _).setCell (Or.inr (by simp)) _)
  have ds3 := D3.out.size
  clear q3 z3 hW3
  have HF := Lib.hid (show Three w W3 205 109 B [ei x.kind, ei x.num, es x.name, v3] [.int .i64 0, .int .i64 0, .string ⟨#[]⟩, .slice none 0 0] [ei x.kind, ei x.num, es x.name, .slice m3 x.args.length n3] from H4.out)
  have hlast := HF.out.h2
  have hres := HF.out.h1
  clear G3
  go_wp2_with (first
    | (refine wpList_load_row rfl 109 _ rfl (B + 2) rfl 109 #[ei x.kind, ei x.num, es x.name, .slice m3 x.args.length n3] (0, 0) _ hlast Tryz.underlying109 rfl Pa_size ?_)
    | (refine wpList_store_row rfl 109 _ _ rfl (B + 1) #[ei x.kind, ei x.num, es x.name, .slice m3 x.args.length n3] rfl rfl 109 _ hres Pa_size rfl (by simp [Value.oneCell']) ?_)
    | fail)
  have hC := setRow_heap W3 (B + 1) _ #[ei x.kind, ei x.num, es x.name, .slice m3 x.args.length n3] _ _ hres
  refine bodyPost_ret (results_cell_row Tryz.results190 _ _ (B + 1) 109 _ (0, 0) _ rfl hC Tryz.underlying109 rfl Pa_size) rfl ?_
  have hb := HF.out.base
  have UE : Upd [] w (W3.setRow (B + 1) #[ei x.kind, ei x.num, es x.name, .slice m3 x.args.length n3]) := HF.out.upd.row (Or.inl (by omega)) _
  refine ⟨⟨[ei x.kind, ei x.num, es x.name, .slice m3 x.args.length n3], rfl, rfl, by simp [Value.oneCell'], ?_⟩, UE⟩
  obtain ⟨g3, P3⟩ := Part.of R_T2k HN3.out
  have P3 := P3.upd R_T2k D3.out (by intro b hb; simp at hb; omega)
  have P3 := P3.upd R_T2k (show Upd [B + 1] W3 (W3.setRow (B + 1) #[ei x.kind, ei x.num, es x.name, .slice m3 x.args.length n3]) from (Upd.refl _ _).row (Or.inr (by simp)) _) (by intro b hb; simp at hb; omega)
  refine ⟨g3 ++ [], ⟨_, g3, rfl, P3.r, rfl⟩, ?_, ?_⟩
  · simpa using P3.o
  · intro b hb
    simp only [List.append_nil] at hb
    rcases hb with hb
    · have := P3.b b hb; omega

set_option maxRecDepth 20000 in
set_option maxHeartbeats 2000000 in
theorem eq_Pa (cs ds : List Value) (x : Pa) (w : World) (fp fp2 : List Nat) (hA : R_Pa fp w cs x) (hB : R_Pa fp2 w ds x) :
    Calls Tryz.prog 191 #[.agg cs.toArray, .agg ds.toArray] w fun e w' => e = .returned (.bool true) ∧ Upd [] w w' := by
  obtain ⟨v3, f3, rfl, h3, rfl⟩ := hA
  obtain ⟨u3, g3, rfl, k3, rfl⟩ := hB
  obtain ⟨wA, hwA⟩ : ∃ wA, wA = w.alloc (.cells #[ei x.kind, ei x.num, es x.name, v3] 109) := ⟨_, rfl⟩
  obtain ⟨wB, hwB⟩ : ∃ wB, wB = wA.alloc (.cells #[ei x.kind, ei x.num, es x.name, u3] 109) := ⟨_, rfl⟩
  obtain ⟨BA, hBA⟩ : ∃ BA, BA = w.heap.size := ⟨_, rfl⟩
  have sA : wA.heap.size = BA + 1 := by rw [hwA, hBA]; simp
  have uA : Upd [] w wA := by rw [hwA]; exact (Upd.refl _ _).alloc _
  have uB : Upd [] wA wB := by rw [hwB]; exact (Upd.refl _ _).alloc _
  have HC := Lib.hid (fun W (hu : Upd [] wB W) => show W.cell? ⟨BA, 0, none⟩ = some (ei x.kind) ∧ W.cell? ⟨BA + 1, 0, none⟩ = some (ei x.kind) ∧ W.cell? ⟨BA, 1, none⟩ = some (ei x.num) ∧ W.cell? ⟨BA + 1, 1, none⟩ = some (ei x.num) ∧ W.cell? ⟨BA, 2, none⟩ = some (es x.name) ∧ W.cell? ⟨BA + 1, 2, none⟩ = some (es x.name) ∧ W.cell? ⟨BA, 3, none⟩ = some (v3) ∧ W.cell? ⟨BA + 1, 3, none⟩ = some (u3) from
    ⟨hu.keep (uB.keep (by rw [hwA, hBA]; exact cell_new w _ _ _ rfl 0 _ rfl)), hu.keep (by rw [hwB]; exact cell_new wA _ _ _ sA 0 _ rfl), hu.keep (uB.keep (by rw [hwA, hBA]; exact cell_new w _ _ _ rfl 1 _ rfl)), hu.keep (by rw [hwB]; exact cell_new wA _ _ _ sA 1 _ rfl), hu.keep (uB.keep (by rw [hwA, hBA]; exact cell_new w _ _ _ rfl 2 _ rfl)), hu.keep (by rw [hwB]; exact cell_new wA _ _ _ sA 2 _ rfl), hu.keep (uB.keep (by rw [hwA, hBA]; exact cell_new w _ _ _ rfl 3 _ rfl)), hu.keep (by rw [hwB]; exact cell_new wA _ _ _ sA 3 _ rfl)⟩)
  have S3 := Lib.hid (fun W (hu : Upd [] w W) => show Calls Tryz.prog 217 #[v3, u3] W (fun e w' => e = .returned (.bool true) ∧ Upd [] W w') from by
    have := eq_T2 v3 u3 x.args x.args W f3 g3 (R_T2k.upd h3 hu (by simp)) (R_T2k.upd k3 hu (by simp))
    rw [show (x.args == x.args) = true by simp] at this
    exact this)
  have HU := Lib.hid (uA.trans uB)
  have HX := Lib.hid (Upd.refl [] wB)
  obtain ⟨c0, d0, c1, d1, c2, d2, c3, d3⟩ := HC.out wB (Upd.refl _ _)
  generalize x.kind = t0 at *
  have b0 : (t0 != t0) = false := by simp
  generalize x.num = t1 at *
  have b1 : (t1 != t1) = false := by simp
  generalize x.name = t2 at *
  have b2 : (t2 != t2) = false := by simp
  clear h3 k3 uA uB sA
  go_enter Tryz.func191, Tryz.ntmps191
  go_upto_region 1 with (fail)
  rw [← hwA, ← hwB, ← hBA]
  clear hwA hwB hBA
  have T3 := Lib.hid (S3.out wB HU.out)
  clear S3
  go_wp2_with fail
  refine T3.out.mono ?_
  rintro e w3 ⟨rfl, hu⟩
  have HU := Lib.hid (HU.out.trans hu)
  have HX := Lib.hid (HX.out.trans hu)
  obtain ⟨c0, d0, c1, d1, c2, d2, c3, d3⟩ := HC.out w3 HX.out
  clear T3 hu
  go_wp2_with fail
  go_ret
  exact ⟨rfl, HU.out⟩

end Go.Proofs.YtnchmnjkmhfleaaGreat

/-
  Bodies: readings, and what the laws' helper functions return and make.
-/
namespace Go.Proofs.YtnchmnjkmhfleaaGreat
open Go.RowKit


abbrev R_Pa1 : Rp (List Pa) := slQ 4 R_Pa
theorem R_Pa1k : Kept R_Pa1 := slQ_kept R_Pak
def szF_Pa1 (xs : List Pa) : Int := xs.length + (xs.map szF_Pa).sum
def mkF_Pa1 (xs : List Pa) : Int := (xs.map mkF_Pa).sum
def Pa1Ok (xs : List Pa) : Prop := ∀ x ∈ xs, PaOk x
theorem szF_Pa1_sum (xs : List Pa) : 0 ≤ (xs.map szF_Pa).sum := by
  induction xs with
  | nil => simp
  | cons r rs ih => simp only [List.map_cons, List.sum_cons]; have := szF_Pa_nonneg r; omega
theorem szF_Pa1_nonneg (xs : List Pa) : 0 ≤ szF_Pa1 xs := by have := szF_Pa1_sum xs; unfold szF_Pa1; omega
theorem szF_Pa1_snoc (xs : List Pa) (k : Nat) (h : k < xs.length) : ((xs.take (k + 1)).map szF_Pa).sum = ((xs.take k).map szF_Pa).sum + szF_Pa xs[k] := by
  rw [List.take_succ_eq_append_getElem h, List.map_append, List.sum_append]; simp
theorem szF_Pa1_take (xs : List Pa) (k : Nat) : ((xs.take k).map szF_Pa).sum ≤ (xs.map szF_Pa).sum := by
  have h := szF_Pa1_sum (xs.drop k)
  conv => rhs; rw [← List.take_append_drop k xs]
  rw [List.map_append, List.sum_append]; omega
theorem mkF_Pa1_nonneg (xs : List Pa) : 0 ≤ mkF_Pa1 xs := by
  unfold mkF_Pa1; induction xs with
  | nil => simp
  | cons r rs ih => simp only [List.map_cons, List.sum_cons]; have := mkF_Pa_nonneg r; omega
theorem mkF_Pa1_le (xs : List Pa) : mkF_Pa1 xs ≤ 16 * szF_Pa1 xs := by
  unfold mkF_Pa1 szF_Pa1; induction xs with
  | nil => simp
  | cons r rs ih => simp only [List.map_cons, List.sum_cons, List.length_cons]; have := mkF_Pa_le r; omega
theorem mkF_Pa1_snoc (xs : List Pa) (k : Nat) (h : k < xs.length) : mkF_Pa1 (xs.take (k + 1)) = mkF_Pa1 (xs.take k) + mkF_Pa xs[k] := by
  unfold mkF_Pa1; rw [List.take_succ_eq_append_getElem h, List.map_append, List.sum_append]; simp
theorem mkF_Pa1_take (xs : List Pa) (k : Nat) : mkF_Pa1 (xs.take k) ≤ mkF_Pa1 xs := by
  have h := mkF_Pa1_nonneg (xs.drop k)
  conv => rhs; rw [← List.take_append_drop k xs]
  unfold mkF_Pa1 at *; rw [List.map_append, List.sum_append]; omega
def up_Pa (k : Int) (x : Pa) : Pa := ⟨(k), (k + 1), mtx (k + 1 + 1), mkd_T2 (k + 1 + 1 + 1) x.args⟩
def mkd_Pa1 : Int → List Pa → List Pa
  | _, [] => []
  | k, r :: rs => up_Pa k r :: mkd_Pa1 (k + mkF_Pa r) rs
@[simp] theorem mkd_Pa1_length (k : Int) (xss : List Pa) : (mkd_Pa1 k xss).length = xss.length := by
  induction xss generalizing k with
  | nil => rfl
  | cons r rs ih => simp [mkd_Pa1, ih]
theorem mkd_Pa1_append (k : Int) (xs ys : List Pa) : mkd_Pa1 k (xs ++ ys) = mkd_Pa1 k xs ++ mkd_Pa1 (k + mkF_Pa1 xs) ys := by
  induction xs generalizing k with
  | nil => simp [mkd_Pa1, mkF_Pa1]
  | cons r rs ih => simp only [List.cons_append, mkd_Pa1, ih, mkF_Pa1, List.map_cons, List.sum_cons, Int.add_assoc]
theorem mkd_Pa1_set (xss : List Pa) (k0 : Int) (k : Nat) (hk : k < xss.length) :
    (mkd_Pa1 k0 (xss.take k) ++ xss.drop k).set k (up_Pa (k0 + mkF_Pa1 (xss.take k)) xss[k]) = mkd_Pa1 k0 (xss.take (k + 1)) ++ xss.drop (k + 1) := by
  have hl : (mkd_Pa1 k0 (xss.take k)).length = k := by simp; omega
  rw [List.set_append_right _ _ (by omega), hl, Nat.sub_self, List.drop_eq_getElem_cons hk, List.set_cons_zero, List.take_succ_eq_append_getElem hk, mkd_Pa1_append]
  simp [mkd_Pa1]
theorem mkd_Pa1_get (xss : List Pa) (k0 : Int) (k : Nat) (hk : k < xss.length) :
    (mkd_Pa1 k0 xss)[k]'(by simpa using hk) = up_Pa (k0 + mkF_Pa1 (xss.take k)) xss[k] := by
  have h : (mkd_Pa1 k0 xss)[k]? = some (up_Pa (k0 + mkF_Pa1 (xss.take k)) xss[k]) := by
    conv => lhs; rw [← List.take_append_drop k xss, mkd_Pa1_append, List.drop_eq_getElem_cons hk, mkd_Pa1]
    rw [List.getElem?_append_right (by simp; omega)]
    simp [Nat.min_eq_left (Nat.le_of_lt hk)]
  exact Option.some.inj ((List.getElem?_eq_getElem _).symm.trans h)

set_option maxRecDepth 20000 in
set_option maxHeartbeats 1600000 in
theorem sz_Pa1 (v : Value) (xs : List Pa) (left : Int) (w : World) (fp : List Nat) (hl : 0 ≤ left) (hl2 : left ≤ 1048576) (hR : R_Pa1 fp w [v] xs) (hS : Pa1Ok xs) :
    Calls Tryz.prog 157 #[v, .int .i64 left] w fun e w' => (∃ r : Int, e = .returned (.int .i64 r) ∧ (r = -1 ∨ (0 ≤ r ∧ r + szF_Pa1 xs = left))) ∧ Upd [] w w' := by
  obtain ⟨a, cap, rfl, h1, h2, hc⟩ := slQ_open hR
  unfold maxLen at h2
  have HS := Lib.hid hS
  have HC := Lib.hid hc
  clear hR hS hc
  by_cases hlt : left - (xs.length : Int) < 0
  · go_enter Tryz.func157, Tryz.ntmps157
    go_wp2_with fail
    go_ret
    exact ⟨⟨-1, rfl, Or.inl rfl⟩, Upd.refl _ _⟩
  · have hge : 0 ≤ left - (xs.length : Int) := by omega
    clear hlt
    go_enter Tryz.func157, Tryz.ntmps157
    go_wp2_with fail
    go_loopw [1, 5] (fun kk i wr => ∃ (k : Nat) (l : Int), k ≤ xs.length ∧ i = .int .i64 k ∧ kk = .int .i64 l ∧ 0 ≤ l ∧ l ≤ 1048576 ∧ Hid (l + xs.length + ((xs.take k).map szF_Pa).sum = left) ∧ Hid (Upd [] w wr)) (fun _ i _ => xs.length - (intOf i).toNat)
    case atStart => exact ⟨0, _, Nat.zero_le _, rfl, rfl, hge, by omega, Lib.hid (by simp), Lib.hid (Upd.refl _ _)⟩
    case round =>
      obtain ⟨wo, rfl⟩ : ∃ wo : World, wo = wr := ⟨_, rfl⟩
      obtain ⟨k, l, hk, rfl, rfl, hl0, hl9, HL, HU⟩ := hrel
      by_cases hlt : k < xs.length
      · obtain ⟨b, off, u, f, rfl, -, -, -, hcell, -, hr⟩ := HC.out k hlt
        have HR := Lib.hid (R_Pak.upd hr HU.out (by simp))
        obtain ⟨v3, f3, rfl, -, -⟩ := hr
        have p0 := HU.out.keep (hcell 0 _ rfl)
        have p1 := HU.out.keep (hcell 1 _ rfl)
        have p2 := HU.out.keep (hcell 2 _ rfl)
        have p3 := HU.out.keep (hcell 3 _ rfl)
        simp only [Nat.add_zero] at p0
        have HT := Lib.hid (szF_Pa1_snoc xs k hlt)
        have HO := Lib.hid (HS.out xs[k] (List.getElem_mem hlt))
        clear hcell
        generalize hx : xs[k] = x at *
        clear hx
        have S1 := Lib.hid (sz_Pa _ x l wo f hl0 hl9 HR.out HO.out)
        have hzz := szF_Pa_nonneg x
        generalize szF_Pa x = zz at *
        go_wp2_with fail
        refine S1.out.mono ?_
        rintro e w1 ⟨⟨r, rfl, hr2⟩, hu⟩
        have HU1 := Lib.hid (HU.out.trans hu)
        clear S1 hu
        rcases hr2 with rfl | ⟨hr2, hr3⟩
        · go_wp2_with fail
          go_ret
          exact ⟨⟨-1, rfl, Or.inl rfl⟩, HU1.out⟩
        · have H3 := Lib.hid hr3
          have hr4 : r ≤ 1048576 := by omega
          clear hr3
          go_wp2_with fail
          go_roundw
          case rel => exact ⟨k + 1, r, by omega, by go_num, rfl, hr2, hr4, Lib.hid (by have := H3.out; have := HL.out; rw [HT.out]; omega), HU1⟩
          case measure => simp [intOf]; omega
      · obtain rfl : k = xs.length := by omega
        go_wp2_with fail
        go_ret
        exact ⟨⟨l, rfl, Or.inr ⟨hl0, by have := HL.out; rw [List.take_length] at this; unfold szF_Pa1; omega⟩⟩, HU.out⟩

theorem Tryz.infoPa : (Tryz.prog.info? 109).map (fun i => (i.zero, i.size, i.bytes)) = some (some (.agg #[.int .i64 0, .int .i64 0, .string ⟨#[]⟩, .slice none 0 0]), 4, 56) := by kernel_rfl
set_option maxRecDepth 20000 in
set_option maxHeartbeats 2000000 in
theorem to_Pa1 (v : Value) (xs : List Pa) (w : World) (fp : List Nat) (hl : szF_Pa1 xs ≤ 1048576) (hR : R_Pa1 fp w [v] xs) :
    Calls Tryz.prog 163 #[v] w fun e w' => (∃ v', e = .returned v' ∧ New R_Pa1 w w' v' xs) ∧ Upd [] w w' := by
  obtain ⟨i0, hi, hz0, hz1, hz2⟩ := info_parts Tryz.infoPa
  obtain ⟨a, cap, rfl, h1, h2, hc⟩ := slQ_open hR
  unfold maxLen at h2
  have htn := szF_Pa1_sum xs
  unfold szF_Pa1 at hl
  have HC := Lib.hid hc
  clear hR hc
  have hm1 : i0.bytes * xs.length ≤ 281474976710656 := by rw [hz2]; omega
  go_enter Tryz.func163, Tryz.ntmps163
  go_wp2_with (first
    | (at_make; refine wpList_make_full _ rfl _ _ 88 rfl w.heap.size 109 i0 (.agg #[.int .i64 0, .int .i64 0, .string ⟨#[]⟩, .slice none 0 0]) 4 Tryz.underlying88 hi hz0 hz1 .i64 .i64 _ _ xs.length rfl rfl rfl rfl hm1 (by unfold maxLen; omega) (Nat.le_refl _) ?_; intro w1 hown hgrow)
    | fail)
  have hmd := made_Q ([.int .i64 0, .int .i64 0, .string ⟨#[]⟩, .slice none 0 0] : List Value) (n := 4) rfl (by decide) xs.length
  rw [hmd] at hown
  have hsz : w.heap.size < w1.heap.size := hown.lt w.heap.size rfl |>.2
  have hU : Upd [] w w1 := (Upd.refl _ _).grown hgrow (by simp)
  clear hgrow hm1 hmd
  go_loopw [4] (fun i wr => ∃ (k : Nat) (us : List (List Value)), k ≤ xs.length ∧ i = .int .i64 k ∧ Hid (Upd [] w wr) ∧ w.heap.size < wr.heap.size ∧
      Hid (wr.ownsRow w.heap.size 109 4 (.slice (some ⟨w.heap.size, 0, none⟩) xs.length xs.length) xs.length (us.flatten ++ (List.replicate (xs.length - k) ([.int .i64 0, .int .i64 0, .string ⟨#[]⟩, .slice none 0 0] : List Value)).flatten)) ∧
      Hid (RowsQ 4 R_Pa w.heap.size [w.heap.size] wr us (xs.take k)))
    (fun i _ => xs.length - (intOf i).toNat)
  case atStart => exact ⟨0, [], Nat.zero_le _, rfl, Lib.hid hU, hsz, Lib.hid (by simpa using hown), Lib.hid (RowsQ.nil _ _ _ _ _)⟩
  case round =>
    clear hown hU hsz
    obtain ⟨wo, rfl⟩ : ∃ wo : World, wo = wr := ⟨_, rfl⟩
    obtain ⟨k, us, hk, rfl, HU, hsz, HO, HW⟩ := hrel
    have hlu : us.length = k := by have := HW.out.length; simp at this; omega
    by_cases hlt : k < xs.length
    · obtain ⟨b, off, u, f, rfl, -, -, -, hcell, -, hr⟩ := HC.out k hlt
      have HR := Lib.hid (R_Pak.upd hr HU.out (by simp))
      obtain ⟨v3, f3, rfl, -, -⟩ := hr
      have p0 := HU.out.keep (hcell 0 _ rfl)
      have p1 := HU.out.keep (hcell 1 _ rfl)
      have p2 := HU.out.keep (hcell 2 _ rfl)
      have p3 := HU.out.keep (hcell 3 _ rfl)
      simp only [Nat.add_zero] at p0
      have hxl : szF_Pa xs[k] ≤ 1048576 := by
        have h1 := szF_Pa1_snoc xs k hlt
        have h2 := szF_Pa1_take xs (k + 1)
        have h3 := szF_Pa1_sum (xs.take k)
        omega
      have HTK := Lib.hid (List.take_succ_eq_append_getElem hlt)
      have HLU := Lib.hid hlu
      clear hcell hlu
      generalize hx : xs[k] = x at *
      clear hx
      have S1 := Lib.hid (to_Pa _ x wo f hxl HR.out)
      clear hxl
      go_wp2_with fail
      refine S1.out.mono ?_
      rintro e w2 ⟨⟨u2, rfl, hlen, hone, hnew⟩, hu2⟩
      have hown2 := ownsRow_upd HO.out hu2
      have hrep : (List.replicate (xs.length - k) ([.int .i64 0, .int .i64 0, .string ⟨#[]⟩, .slice none 0 0] : List Value)).flatten.length = (xs.length - k) * 4 := by
        rw [flat_len (n := 4) (by intro y hy; rw [(List.mem_replicate.1 hy).2]; rfl)]; simp
      have hfl : us.flatten.length = k * 4 := by rw [flat_len HW.out.each, HLU.out]
      have hth : w2.there w.heap.size (k * 4) u2.toArray.size := fun j hj => by
        have hj' : j < 4 := by simpa [hlen] using hj
        refine ⟨?_, hown2.frozenAt _⟩
        rw [hown2.cellAt (k * 4 + j) (by omega), List.getElem?_eq_getElem (by rw [List.length_append, hfl, hrep]; omega)]; rfl
      have hszz : (Tryz.prog.info? 109).map (·.size) = some u2.toArray.size := by rw [Pa_size]; simp [hlen]
      have hrun := run_storeCells_cells (P := Tryz.prog) w.heap.size (k * 4) u2 0 w2 (fun j hj => by simpa using (hth j (by simpa using hj)).1) (fun j hj => by simpa using (hth j (by simpa using hj)).2) (fun v hv => (Array.all_eq_true_iff_forall_mem.1 hone) v (by simpa using hv))
      simp only [Nat.add_zero] at hrun
      have hst := ownsRow_setCells u2 (k * 4) hown2 (by rw [hlen]; omega)
      rw [show xs.length - k = (xs.length - (k + 1)) + 1 by omega, ← HLU.out, filled_set us ([.int .i64 0, .int .i64 0, .string ⟨#[]⟩, .slice none 0 0] : List Value) _ 4 rfl HW.out.each u2 hlen, HLU.out] at hst
      have hw3 : Upd [w.heap.size] w2 (w2.setCells w.heap.size (k * 4) u2) := upd_setCells _ (Or.inr (by simp)) _ _ (Upd.refl _ _)
      have hrows2 := (HW.out.push R_Pak hu2 hnew hlen (by omega) (by simpa using hsz)).upd R_Pak hw3 (by simp)
      rw [← HTK.out] at hrows2
      have hU2 : Upd [] w (w2.setCells w.heap.size (k * 4) u2) := upd_setCells _ (Or.inl (Nat.le_refl _)) _ _ (HU.out.trans hu2)
      have hsz2 : w.heap.size < (w2.setCells w.heap.size (k * 4) u2).heap.size := by have := hu2.size; have := hw3.size; omega
      have HS := Lib.hid (And.intro hst (And.intro hrows2 hU2))
      clear hown2 hrep hfl hst hw3 hrows2 hU2 hnew hu2 S1 HO HW HU
      clear hth hszz hone
      go_wp2_with fail
      go_roundw
      case rel => exact ⟨k + 1, us ++ [u2], by omega, by go_num, Lib.hid HS.out.2.2, hsz2, Lib.hid HS.out.1, Lib.hid HS.out.2.1⟩
      case measure => simp [intOf]; omega
    · obtain rfl : k = xs.length := by omega
      go_wp2_with fail
      go_ret
      have hrows := HW.out
      have hown := HO.out
      rw [List.take_length] at hrows
      refine ⟨⟨_, rfl, hrows.new (e := 109) (by simpa using hown) (by simp [Value.ownBlock]) (Nat.le_refl _)⟩, HU.out⟩

set_option maxRecDepth 20000 in
set_option maxHeartbeats 2000000 in
theorem eq_Pa1 (v1 v2 : Value) (xs : List Pa) (w : World) (fp fp2 : List Nat) (h1 : R_Pa1 fp w [v1] xs) (h2 : R_Pa1 fp2 w [v2] xs) :
    Calls Tryz.prog 164 #[v1, v2] w fun e w' => e = .returned (.bool true) ∧ Upd [] w w' := by
  obtain ⟨a1, c1, rfl, hl1, hm1, hc1⟩ := slQ_open h1
  obtain ⟨a2, c2, rfl, hl2, hm2, hc2⟩ := slQ_open h2
  unfold maxLen at hm1 hm2
  have HC1 := Lib.hid hc1
  have HC2 := Lib.hid hc2
  have hbe : ((xs.length : Int) != (xs.length : Int)) = false := by simp
  clear h1 h2 hc1 hc2
  go_enter Tryz.func164, Tryz.ntmps164
  go_wp2_with fail
  go_loopw [5] (fun i wr => ∃ k : Nat, k ≤ xs.length ∧ i = .int .i64 k ∧ Hid (Upd [] w wr)) (fun i _ => xs.length - (intOf i).toNat)
  case atStart => exact ⟨0, Nat.zero_le _, rfl, Lib.hid (Upd.refl _ _)⟩
  case round =>
    obtain ⟨wo, rfl⟩ : ∃ wo : World, wo = wr := ⟨_, rfl⟩
    obtain ⟨k, hk, rfl, HU⟩ := hrel
    by_cases hlt : k < xs.length
    · obtain ⟨b1, o1, u, f, rfl, -, -, -, hcell, -, hr⟩ := HC1.out k hlt
      obtain ⟨b2, o2, u', f', rfl, -, -, -, hcell2, -, hr2⟩ := HC2.out k hlt
      have HR := Lib.hid (R_Pak.drewN (R_Pak.upd hr HU.out (by simp)))
      have HR2 := Lib.hid (R_Pak.drewN (R_Pak.upd hr2 HU.out (by simp)))
      obtain ⟨v3, f3, rfl, -, -⟩ := hr
      obtain ⟨u3, _, rfl, -, -⟩ := hr2
      have p0 := HU.out.keep (hcell 0 _ rfl)
      have p1 := HU.out.keep (hcell 1 _ rfl)
      have p2 := HU.out.keep (hcell 2 _ rfl)
      have p3 := HU.out.keep (hcell 3 _ rfl)
      have q0 := HU.out.keep (hcell2 0 _ rfl)
      have q1 := HU.out.keep (hcell2 1 _ rfl)
      have q2 := HU.out.keep (hcell2 2 _ rfl)
      have q3 := HU.out.keep (hcell2 3 _ rfl)
      simp only [Nat.add_zero] at p0 q0
      clear hcell hcell2
      generalize hx : xs[k] = x at *
      clear hx
      have S1 := Lib.hid (fun W (hu : Upd [] wo W) => eq_Pa _ _ x W f f' (R_Pak.upd (HR.out 0) hu (by simp)) (R_Pak.upd (HR2.out 0) hu (by simp)))
      clear HR HR2
      obtain ⟨t0, ht0⟩ : ∃ t, t = ei x.kind := ⟨_, rfl⟩
      rw [← ht0] at p0 q0 S1
      clear ht0
      obtain ⟨t1, ht1⟩ : ∃ t, t = ei x.num := ⟨_, rfl⟩
      rw [← ht1] at p1 q1 S1
      clear ht1
      obtain ⟨t2, ht2⟩ : ∃ t, t = es x.name := ⟨_, rfl⟩
      rw [← ht2] at p2 q2 S1
      clear ht2
      go_wp2_with fail
      go_region_held3 (fun w' => w'.cell? ⟨b1, o1 + k * 4, none⟩ = some (t0) ∧ w'.cell? ⟨b1, o1 + k * 4 + 1, none⟩ = some (t1) ∧ w'.cell? ⟨b1, o1 + k * 4 + 2, none⟩ = some (t2) ∧ w'.cell? ⟨b1, o1 + k * 4 + 3, none⟩ = some (v3) ∧ w'.cell? ⟨b2, o2 + k * 4, none⟩ = some (t0) ∧ w'.cell? ⟨b2, o2 + k * 4 + 1, none⟩ = some (t1) ∧ w'.cell? ⟨b2, o2 + k * 4 + 2, none⟩ = some (t2) ∧ w'.cell? ⟨b2, o2 + k * 4 + 3, none⟩ = some (u3)) (go_keep) (((with_reducible refine (S1.out _ (by repeat (first | exact Upd.refl _ _ | refine Upd.drew ?_ | refine Upd.drewN ?_ _))).mono ?_); rintro e w1 ⟨rfl, hu1⟩; have a0 := hu1.keep p0; have b0 := hu1.keep q0; have a1 := hu1.keep p1; have b1 := hu1.keep q1; have a2 := hu1.keep p2; have b2 := hu1.keep q2; have a3 := hu1.keep p3; have b3 := hu1.keep q3; skip))
      all_goals
        have HU1 := Lib.hid (HU.out.drew.trans hu1)
        clear hu1 HU
        go_wp2_with fail
        go_roundw
        case rel => exact ⟨k + 1, by omega, by go_num, HU1⟩
        case measure => simp [intOf]; omega
    · have hge : xs.length ≤ k := by omega
      go_wp2_with fail
      go_ret
      exact ⟨rfl, HU.out⟩

end Go.Proofs.YtnchmnjkmhfleaaGreat

/-
  Meetings: readings, and what the laws' helper functions return and make.
-/
namespace Go.Proofs.YtnchmnjkmhfleaaGreat
open Go.RowKit

/-- its 3 cells. -/
def R_Me : Rp Me := fun fp w cs x => cs = [es x.left, es x.right, es x.result] ∧ fp = []
theorem R_Mek : Kept R_Me := by
  constructor
  · rintro fp w cs x ⟨rfl, rfl⟩ b hb
    simp at hb
  · rintro fp w w' cs x ⟨rfl, rfl⟩ hs hb
    exact ⟨rfl, rfl⟩
def szF_Me (x : Me) : Int := (x.left.length : Int) + (x.right.length : Int) + (x.result.length : Int)
def mkF_Me (x : Me) : Int := 1 + 1 + 1
theorem szF_Me_nonneg (x : Me) : 0 ≤ szF_Me x := by unfold szF_Me; omega
theorem mkF_Me_nonneg (x : Me) : 0 ≤ mkF_Me x := by unfold mkF_Me; omega
theorem mkF_Me_le (x : Me) : mkF_Me x ≤ 16 * szF_Me x + 3 := by unfold mkF_Me szF_Me; omega
/-- what each text's length is below. -/
def MeOk (x : Me) : Prop := x.left.length ≤ 9223372036854775807 ∧ x.right.length ≤ 9223372036854775807 ∧ x.result.length ≤ 9223372036854775807

set_option maxRecDepth 20000 in
set_option maxHeartbeats 1600000 in
theorem sz_Me (cs : List Value) (x : Me) (left : Int) (w : World) (fp : List Nat) (hl : 0 ≤ left) (hl2 : left ≤ 1048576) (hR : R_Me fp w cs x) (hS : MeOk x) :
    Calls Tryz.prog 102 #[.agg cs.toArray, .int .i64 left] w fun e w' => (∃ r : Int, e = .returned (.int .i64 r) ∧ (r = -1 ∨ (0 ≤ r ∧ r + szF_Me x = left))) ∧ Upd [] w w' := by
  obtain ⟨rfl, rfl⟩ := hR
  obtain ⟨wA, hwA⟩ : ∃ wA, wA = w.alloc (.cells #[es x.left, es x.right, es x.result] 137) := ⟨_, rfl⟩
  obtain ⟨BA, hBA⟩ : ∃ BA, BA = w.heap.size := ⟨_, rfl⟩
  have uA : Upd [] w wA := by rw [hwA]; exact (Upd.refl _ _).alloc _
  have HC := Lib.hid (fun W (hu : Upd [] wA W) => show W.cell? ⟨BA, 0, none⟩ = some (es x.left) ∧ W.cell? ⟨BA, 1, none⟩ = some (es x.right) ∧ W.cell? ⟨BA, 2, none⟩ = some (es x.result) from
    ⟨hu.keep (by rw [hwA, hBA]; exact cell_new w _ _ _ rfl 0 _ rfl), hu.keep (by rw [hwA, hBA]; exact cell_new w _ _ _ rfl 1 _ rfl), hu.keep (by rw [hwA, hBA]; exact cell_new w _ _ _ rfl 2 _ rfl)⟩)
  have HZ := Lib.hid (show szF_Me x = (x.left.length : Int) + (x.right.length : Int) + (x.result.length : Int) from rfl)
  have hs0 : x.left.length ≤ 9223372036854775807 := hS.1
  have hs1 : x.right.length ≤ 9223372036854775807 := hS.2.1
  have hs2 : x.result.length ≤ 9223372036854775807 := hS.2.2
  generalize x.left = t0 at *
  generalize x.right = t1 at *
  generalize x.result = t2 at *
  generalize szF_Me x = ZZ at *
  obtain ⟨c0, c1, c2⟩ := HC.out wA (Upd.refl _ _)
  have HU := Lib.hid uA
  have HX := Lib.hid (Upd.refl [] wA)
  clear  hS uA
  go_enter Tryz.func102, Tryz.ntmps102
  go_upto_region 1 with (fail)
  rw [← hwA, ← hBA]
  clear hwA hBA
  by_cases hlt0 : left - (t0.length : Int) < 0
  · go_wp2_with fail
    go_ret
    exact ⟨⟨-1, rfl, Or.inl rfl⟩, HU.out⟩
  · obtain ⟨r0, hr0⟩ : ∃ r0 : Int, r0 = left - (t0.length : Int) := ⟨_, rfl⟩
    have hge0 : 0 ≤ r0 := by omega
    have hle0 : r0 ≤ 1048576 := by omega
    have HR0 := Lib.hid hr0
    rw [← hr0] at hlt0
    have hse0 : left - (t0.length : Int) = r0 := hr0.symm
    clear hr0
    by_cases hlt1 : r0 - (t1.length : Int) < 0
    · go_wp2_with fail
      go_ret
      exact ⟨⟨-1, rfl, Or.inl rfl⟩, HU.out⟩
    · obtain ⟨r1, hr1⟩ : ∃ r1 : Int, r1 = r0 - (t1.length : Int) := ⟨_, rfl⟩
      have hge1 : 0 ≤ r1 := by omega
      have hle1 : r1 ≤ 1048576 := by omega
      have HR1 := Lib.hid hr1
      rw [← hr1] at hlt1
      have hse1 : r0 - (t1.length : Int) = r1 := hr1.symm
      clear hr1
      by_cases hlt2 : r1 - (t2.length : Int) < 0
      · go_wp2_with fail
        go_ret
        exact ⟨⟨-1, rfl, Or.inl rfl⟩, HU.out⟩
      · obtain ⟨r2, hr2⟩ : ∃ r2 : Int, r2 = r1 - (t2.length : Int) := ⟨_, rfl⟩
        have hge2 : 0 ≤ r2 := by omega
        have hle2 : r2 ≤ 1048576 := by omega
        have HR2 := Lib.hid hr2
        rw [← hr2] at hlt2
        have hse2 : r1 - (t2.length : Int) = r2 := hr2.symm
        clear hr2
        go_wp2_with fail
        go_ret
        exact ⟨⟨r2, rfl, Or.inr ⟨hge2, by rw [HZ.out]; have := HR0.out; have := HR1.out; have := HR2.out; omega⟩⟩, HU.out⟩

theorem Me_size : (Tryz.prog.info? 70).map (·.size) = some 3 := by kernel_rfl
set_option maxRecDepth 20000 in
set_option maxHeartbeats 4000000 in
theorem to_Me (cs : List Value) (x : Me) (w : World) (fp : List Nat) (hl : szF_Me x ≤ 1048576) (hR : R_Me fp w cs x) :
    Calls Tryz.prog 107 #[.agg cs.toArray] w fun e w' => (∃ us, e = .returned (.agg us.toArray) ∧ us.length = 3 ∧ us.toArray.all (·.oneCell') = true ∧ NewQ R_Me w w' us x) ∧ Upd [] w w' := by
  obtain ⟨rfl, rfl⟩ := hR
  unfold szF_Me at hl
  obtain ⟨wA, hwA⟩ : ∃ wA, wA = ((w.alloc (.cells #[es x.left, es x.right, es x.result] 137)).alloc (.cells #[.string ⟨#[]⟩, .string ⟨#[]⟩, .string ⟨#[]⟩] 70)).alloc (.cells #[.string ⟨#[]⟩, .string ⟨#[]⟩, .string ⟨#[]⟩] 70) := ⟨_, rfl⟩
  obtain ⟨B, hB⟩ : ∃ B, B = w.heap.size := ⟨_, rfl⟩
  have H0 := Lib.hid (show Three w wA 137 70 B [es x.left, es x.right, es x.result] [.string ⟨#[]⟩, .string ⟨#[]⟩, .string ⟨#[]⟩] [.string ⟨#[]⟩, .string ⟨#[]⟩, .string ⟨#[]⟩] from by rw [hwA, hB]; exact Three.mk0 w _ _ _ _ _)
  clear  hl 
  go_enter Tryz.func107, Tryz.ntmps107
  go_upto_region 2 with (fail)
  rw [← hwA, ← hB]
  clear hwA hB
  have p0 := H0.out.pc 0 _ rfl
  have q0 := H0.out.oc 0 _ rfl
  have z0 := H0.out.fz 0
  go_upto_region 3 with (fail)
  obtain ⟨W0, hW0⟩ : ∃ W0, W0 = wA.setCell ⟨B + 2, 0, none⟩ (es x.left) := ⟨_, rfl⟩
  rw [← hW0]
  have H1 := Lib.hid (show Three w W0 137 70 B [es x.left, es x.right, es x.result] [.string ⟨#[]⟩, .string ⟨#[]⟩, .string ⟨#[]⟩] _ from by rw [hW0]; exact H0.out.store 0 _)
  have D0 := Lib.hid (show Upd [B + 2] wA W0 from by rw [hW0]; exact (Upd.refl _ _).setCell (Or.inr (by simp)) _)
  have ds0 := D0.out.size
  clear p0 q0 z0 hW0
  have p1 := H1.out.pc 1 _ rfl
  have q1 := H1.out.oc 1 _ rfl
  have z1 := H1.out.fz 1
  go_upto_region 4 with (fail)
  obtain ⟨W1, hW1⟩ : ∃ W1, W1 = W0.setCell ⟨B + 2, 1, none⟩ (es x.right) := ⟨_, rfl⟩
  rw [← hW1]
  have H2 := Lib.hid (show Three w W1 137 70 B [es x.left, es x.right, es x.result] [.string ⟨#[]⟩, .string ⟨#[]⟩, .string ⟨#[]⟩] _ from by rw [hW1]; exact H1.out.store 1 _)
  have D1 := Lib.hid (show Upd [B + 2] W0 W1 from by rw [hW1]; exact (Upd.refl _ _).setCell (Or.inr (by simp)) _)
  have ds1 := D1.out.size
  clear p1 q1 z1 hW1
  have p2 := H2.out.pc 2 _ rfl
  have q2 := H2.out.oc 2 _ rfl
  have z2 := H2.out.fz 2
  go_upto_region 5 with (fail)
  obtain ⟨W2, hW2⟩ : ∃ W2, W2 = W1.setCell ⟨B + 2, 2, none⟩ (es x.result) := ⟨_, rfl⟩
  rw [← hW2]
  have H3 := Lib.hid (show Three w W2 137 70 B [es x.left, es x.right, es x.result] [.string ⟨#[]⟩, .string ⟨#[]⟩, .string ⟨#[]⟩] _ from by rw [hW2]; exact H2.out.store 2 _)
  have D2 := Lib.hid (show Upd [B + 2] W1 W2 from by rw [hW2]; exact (Upd.refl _ _).setCell (Or.inr (by simp)) _)
  have ds2 := D2.out.size
  clear p2 q2 z2 hW2
  have HF := Lib.hid (show Three w W2 137 70 B [es x.left, es x.right, es x.result] [.string ⟨#[]⟩, .string ⟨#[]⟩, .string ⟨#[]⟩] [es x.left, es x.right, es x.result] from H3.out)
  have hlast := HF.out.h2
  have hres := HF.out.h1
  skip
  go_wp2_with (first
    | (refine wpList_load_row rfl 70 _ rfl (B + 2) rfl 70 #[es x.left, es x.right, es x.result] (0, 0) _ hlast Tryz.underlying70 rfl Me_size ?_)
    | (refine wpList_store_row rfl 70 _ _ rfl (B + 1) #[es x.left, es x.right, es x.result] rfl rfl 70 _ hres Me_size rfl (by simp [Value.oneCell']) ?_)
    | fail)
  have hC := setRow_heap W2 (B + 1) _ #[es x.left, es x.right, es x.result] _ _ hres
  refine bodyPost_ret (results_cell_row Tryz.results107 _ _ (B + 1) 70 _ (0, 0) _ rfl hC Tryz.underlying70 rfl Me_size) rfl ?_
  have hb := HF.out.base
  have UE : Upd [] w (W2.setRow (B + 1) #[es x.left, es x.right, es x.result]) := HF.out.upd.row (Or.inl (by omega)) _
  refine ⟨⟨[es x.left, es x.right, es x.result], rfl, rfl, by simp [Value.oneCell'], ?_⟩, UE⟩
  refine ⟨[], ⟨rfl, rfl⟩, ?_, ?_⟩
  · exact Own.nil _
  · simp

set_option maxRecDepth 20000 in
set_option maxHeartbeats 2000000 in
theorem eq_Me (cs ds : List Value) (x : Me) (w : World) (fp fp2 : List Nat) (hA : R_Me fp w cs x) (hB : R_Me fp2 w ds x) :
    Calls Tryz.prog 109 #[.agg cs.toArray, .agg ds.toArray] w fun e w' => e = .returned (.bool true) ∧ Upd [] w w' := by
  obtain ⟨rfl, rfl⟩ := hA
  obtain ⟨rfl, rfl⟩ := hB
  obtain ⟨wA, hwA⟩ : ∃ wA, wA = w.alloc (.cells #[es x.left, es x.right, es x.result] 70) := ⟨_, rfl⟩
  obtain ⟨wB, hwB⟩ : ∃ wB, wB = wA.alloc (.cells #[es x.left, es x.right, es x.result] 70) := ⟨_, rfl⟩
  obtain ⟨BA, hBA⟩ : ∃ BA, BA = w.heap.size := ⟨_, rfl⟩
  have sA : wA.heap.size = BA + 1 := by rw [hwA, hBA]; simp
  have uA : Upd [] w wA := by rw [hwA]; exact (Upd.refl _ _).alloc _
  have uB : Upd [] wA wB := by rw [hwB]; exact (Upd.refl _ _).alloc _
  have HC := Lib.hid (fun W (hu : Upd [] wB W) => show W.cell? ⟨BA, 0, none⟩ = some (es x.left) ∧ W.cell? ⟨BA + 1, 0, none⟩ = some (es x.left) ∧ W.cell? ⟨BA, 1, none⟩ = some (es x.right) ∧ W.cell? ⟨BA + 1, 1, none⟩ = some (es x.right) ∧ W.cell? ⟨BA, 2, none⟩ = some (es x.result) ∧ W.cell? ⟨BA + 1, 2, none⟩ = some (es x.result) from
    ⟨hu.keep (uB.keep (by rw [hwA, hBA]; exact cell_new w _ _ _ rfl 0 _ rfl)), hu.keep (by rw [hwB]; exact cell_new wA _ _ _ sA 0 _ rfl), hu.keep (uB.keep (by rw [hwA, hBA]; exact cell_new w _ _ _ rfl 1 _ rfl)), hu.keep (by rw [hwB]; exact cell_new wA _ _ _ sA 1 _ rfl), hu.keep (uB.keep (by rw [hwA, hBA]; exact cell_new w _ _ _ rfl 2 _ rfl)), hu.keep (by rw [hwB]; exact cell_new wA _ _ _ sA 2 _ rfl)⟩)
  have HU := Lib.hid (uA.trans uB)
  have HX := Lib.hid (Upd.refl [] wB)
  obtain ⟨c0, d0, c1, d1, c2, d2⟩ := HC.out wB (Upd.refl _ _)
  generalize x.left = t0 at *
  have b0 : (t0 != t0) = false := by simp
  generalize x.right = t1 at *
  have b1 : (t1 != t1) = false := by simp
  generalize x.result = t2 at *
  have b2 : (t2 != t2) = false := by simp
  clear  uA uB sA
  go_enter Tryz.func109, Tryz.ntmps109
  go_upto_region 1 with (fail)
  rw [← hwA, ← hwB, ← hBA]
  clear hwA hwB hBA
  go_wp2_with fail
  go_ret
  exact ⟨rfl, HU.out⟩

end Go.Proofs.YtnchmnjkmhfleaaGreat

/-
  Lists of meetings: readings, and what the laws' helper functions return and make.
-/
namespace Go.Proofs.YtnchmnjkmhfleaaGreat
open Go.RowKit


abbrev R_Me1 : Rp (List Me) := slQ 3 R_Me
theorem R_Me1k : Kept R_Me1 := slQ_kept R_Mek
def szF_Me1 (xs : List Me) : Int := xs.length + (xs.map szF_Me).sum
def mkF_Me1 (xs : List Me) : Int := (xs.map mkF_Me).sum
def Me1Ok (xs : List Me) : Prop := ∀ x ∈ xs, MeOk x
theorem szF_Me1_sum (xs : List Me) : 0 ≤ (xs.map szF_Me).sum := by
  induction xs with
  | nil => simp
  | cons r rs ih => simp only [List.map_cons, List.sum_cons]; have := szF_Me_nonneg r; omega
theorem szF_Me1_nonneg (xs : List Me) : 0 ≤ szF_Me1 xs := by have := szF_Me1_sum xs; unfold szF_Me1; omega
theorem szF_Me1_snoc (xs : List Me) (k : Nat) (h : k < xs.length) : ((xs.take (k + 1)).map szF_Me).sum = ((xs.take k).map szF_Me).sum + szF_Me xs[k] := by
  rw [List.take_succ_eq_append_getElem h, List.map_append, List.sum_append]; simp
theorem szF_Me1_take (xs : List Me) (k : Nat) : ((xs.take k).map szF_Me).sum ≤ (xs.map szF_Me).sum := by
  have h := szF_Me1_sum (xs.drop k)
  conv => rhs; rw [← List.take_append_drop k xs]
  rw [List.map_append, List.sum_append]; omega
theorem mkF_Me1_nonneg (xs : List Me) : 0 ≤ mkF_Me1 xs := by
  unfold mkF_Me1; induction xs with
  | nil => simp
  | cons r rs ih => simp only [List.map_cons, List.sum_cons]; have := mkF_Me_nonneg r; omega
theorem mkF_Me1_le (xs : List Me) : mkF_Me1 xs ≤ 16 * szF_Me1 xs := by
  unfold mkF_Me1 szF_Me1; induction xs with
  | nil => simp
  | cons r rs ih => simp only [List.map_cons, List.sum_cons, List.length_cons]; have := mkF_Me_le r; omega
theorem mkF_Me1_snoc (xs : List Me) (k : Nat) (h : k < xs.length) : mkF_Me1 (xs.take (k + 1)) = mkF_Me1 (xs.take k) + mkF_Me xs[k] := by
  unfold mkF_Me1; rw [List.take_succ_eq_append_getElem h, List.map_append, List.sum_append]; simp
theorem mkF_Me1_take (xs : List Me) (k : Nat) : mkF_Me1 (xs.take k) ≤ mkF_Me1 xs := by
  have h := mkF_Me1_nonneg (xs.drop k)
  conv => rhs; rw [← List.take_append_drop k xs]
  unfold mkF_Me1 at *; rw [List.map_append, List.sum_append]; omega
def up_Me (k : Int) (x : Me) : Me := ⟨mtx (k), mtx (k + 1), mtx (k + 1 + 1)⟩
def mkd_Me1 : Int → List Me → List Me
  | _, [] => []
  | k, r :: rs => up_Me k r :: mkd_Me1 (k + mkF_Me r) rs
@[simp] theorem mkd_Me1_length (k : Int) (xss : List Me) : (mkd_Me1 k xss).length = xss.length := by
  induction xss generalizing k with
  | nil => rfl
  | cons r rs ih => simp [mkd_Me1, ih]
theorem mkd_Me1_append (k : Int) (xs ys : List Me) : mkd_Me1 k (xs ++ ys) = mkd_Me1 k xs ++ mkd_Me1 (k + mkF_Me1 xs) ys := by
  induction xs generalizing k with
  | nil => simp [mkd_Me1, mkF_Me1]
  | cons r rs ih => simp only [List.cons_append, mkd_Me1, ih, mkF_Me1, List.map_cons, List.sum_cons, Int.add_assoc]
theorem mkd_Me1_set (xss : List Me) (k0 : Int) (k : Nat) (hk : k < xss.length) :
    (mkd_Me1 k0 (xss.take k) ++ xss.drop k).set k (up_Me (k0 + mkF_Me1 (xss.take k)) xss[k]) = mkd_Me1 k0 (xss.take (k + 1)) ++ xss.drop (k + 1) := by
  have hl : (mkd_Me1 k0 (xss.take k)).length = k := by simp; omega
  rw [List.set_append_right _ _ (by omega), hl, Nat.sub_self, List.drop_eq_getElem_cons hk, List.set_cons_zero, List.take_succ_eq_append_getElem hk, mkd_Me1_append]
  simp [mkd_Me1]
theorem mkd_Me1_get (xss : List Me) (k0 : Int) (k : Nat) (hk : k < xss.length) :
    (mkd_Me1 k0 xss)[k]'(by simpa using hk) = up_Me (k0 + mkF_Me1 (xss.take k)) xss[k] := by
  have h : (mkd_Me1 k0 xss)[k]? = some (up_Me (k0 + mkF_Me1 (xss.take k)) xss[k]) := by
    conv => lhs; rw [← List.take_append_drop k xss, mkd_Me1_append, List.drop_eq_getElem_cons hk, mkd_Me1]
    rw [List.getElem?_append_right (by simp; omega)]
    simp [Nat.min_eq_left (Nat.le_of_lt hk)]
  exact Option.some.inj ((List.getElem?_eq_getElem _).symm.trans h)

set_option maxRecDepth 20000 in
set_option maxHeartbeats 1600000 in
theorem sz_Me1 (v : Value) (xs : List Me) (left : Int) (w : World) (fp : List Nat) (hl : 0 ≤ left) (hl2 : left ≤ 1048576) (hR : R_Me1 fp w [v] xs) (hS : Me1Ok xs) :
    Calls Tryz.prog 47 #[v, .int .i64 left] w fun e w' => (∃ r : Int, e = .returned (.int .i64 r) ∧ (r = -1 ∨ (0 ≤ r ∧ r + szF_Me1 xs = left))) ∧ Upd [] w w' := by
  obtain ⟨a, cap, rfl, h1, h2, hc⟩ := slQ_open hR
  unfold maxLen at h2
  have HS := Lib.hid hS
  have HC := Lib.hid hc
  clear hR hS hc
  by_cases hlt : left - (xs.length : Int) < 0
  · go_enter Tryz.func47, Tryz.ntmps47
    go_wp2_with fail
    go_ret
    exact ⟨⟨-1, rfl, Or.inl rfl⟩, Upd.refl _ _⟩
  · have hge : 0 ≤ left - (xs.length : Int) := by omega
    clear hlt
    go_enter Tryz.func47, Tryz.ntmps47
    go_wp2_with fail
    go_loopw [1, 5] (fun kk i wr => ∃ (k : Nat) (l : Int), k ≤ xs.length ∧ i = .int .i64 k ∧ kk = .int .i64 l ∧ 0 ≤ l ∧ l ≤ 1048576 ∧ Hid (l + xs.length + ((xs.take k).map szF_Me).sum = left) ∧ Hid (Upd [] w wr)) (fun _ i _ => xs.length - (intOf i).toNat)
    case atStart => exact ⟨0, _, Nat.zero_le _, rfl, rfl, hge, by omega, Lib.hid (by simp), Lib.hid (Upd.refl _ _)⟩
    case round =>
      obtain ⟨wo, rfl⟩ : ∃ wo : World, wo = wr := ⟨_, rfl⟩
      obtain ⟨k, l, hk, rfl, rfl, hl0, hl9, HL, HU⟩ := hrel
      by_cases hlt : k < xs.length
      · obtain ⟨b, off, u, f, rfl, -, -, -, hcell, -, hr⟩ := HC.out k hlt
        have HR := Lib.hid (R_Mek.upd hr HU.out (by simp))
        obtain ⟨rfl, -⟩ := hr
        have p0 := HU.out.keep (hcell 0 _ rfl)
        have p1 := HU.out.keep (hcell 1 _ rfl)
        have p2 := HU.out.keep (hcell 2 _ rfl)
        simp only [Nat.add_zero] at p0
        have HT := Lib.hid (szF_Me1_snoc xs k hlt)
        have HO := Lib.hid (HS.out xs[k] (List.getElem_mem hlt))
        clear hcell
        generalize hx : xs[k] = x at *
        clear hx
        have S1 := Lib.hid (sz_Me _ x l wo f hl0 hl9 HR.out HO.out)
        have hzz := szF_Me_nonneg x
        generalize szF_Me x = zz at *
        go_wp2_with fail
        refine S1.out.mono ?_
        rintro e w1 ⟨⟨r, rfl, hr2⟩, hu⟩
        have HU1 := Lib.hid (HU.out.trans hu)
        clear S1 hu
        rcases hr2 with rfl | ⟨hr2, hr3⟩
        · go_wp2_with fail
          go_ret
          exact ⟨⟨-1, rfl, Or.inl rfl⟩, HU1.out⟩
        · have H3 := Lib.hid hr3
          have hr4 : r ≤ 1048576 := by omega
          clear hr3
          go_wp2_with fail
          go_roundw
          case rel => exact ⟨k + 1, r, by omega, by go_num, rfl, hr2, hr4, Lib.hid (by have := H3.out; have := HL.out; rw [HT.out]; omega), HU1⟩
          case measure => simp [intOf]; omega
      · obtain rfl : k = xs.length := by omega
        go_wp2_with fail
        go_ret
        exact ⟨⟨l, rfl, Or.inr ⟨hl0, by have := HL.out; rw [List.take_length] at this; unfold szF_Me1; omega⟩⟩, HU.out⟩

theorem Tryz.infoMe : (Tryz.prog.info? 70).map (fun i => (i.zero, i.size, i.bytes)) = some (some (.agg #[.string ⟨#[]⟩, .string ⟨#[]⟩, .string ⟨#[]⟩]), 3, 48) := by kernel_rfl
set_option maxRecDepth 20000 in
set_option maxHeartbeats 2000000 in
theorem to_Me1 (v : Value) (xs : List Me) (w : World) (fp : List Nat) (hl : szF_Me1 xs ≤ 1048576) (hR : R_Me1 fp w [v] xs) :
    Calls Tryz.prog 57 #[v] w fun e w' => (∃ v', e = .returned v' ∧ New R_Me1 w w' v' xs) ∧ Upd [] w w' := by
  obtain ⟨i0, hi, hz0, hz1, hz2⟩ := info_parts Tryz.infoMe
  obtain ⟨a, cap, rfl, h1, h2, hc⟩ := slQ_open hR
  unfold maxLen at h2
  have htn := szF_Me1_sum xs
  unfold szF_Me1 at hl
  have HC := Lib.hid hc
  clear hR hc
  have hm1 : i0.bytes * xs.length ≤ 281474976710656 := by rw [hz2]; omega
  go_enter Tryz.func57, Tryz.ntmps57
  go_wp2_with (first
    | (at_make; refine wpList_make_full _ rfl _ _ 26 rfl w.heap.size 70 i0 (.agg #[.string ⟨#[]⟩, .string ⟨#[]⟩, .string ⟨#[]⟩]) 3 Tryz.underlying26 hi hz0 hz1 .i64 .i64 _ _ xs.length rfl rfl rfl rfl hm1 (by unfold maxLen; omega) (Nat.le_refl _) ?_; intro w1 hown hgrow)
    | fail)
  have hmd := made_Q ([.string ⟨#[]⟩, .string ⟨#[]⟩, .string ⟨#[]⟩] : List Value) (n := 3) rfl (by decide) xs.length
  rw [hmd] at hown
  have hsz : w.heap.size < w1.heap.size := hown.lt w.heap.size rfl |>.2
  have hU : Upd [] w w1 := (Upd.refl _ _).grown hgrow (by simp)
  clear hgrow hm1 hmd
  go_loopw [4] (fun i wr => ∃ (k : Nat) (us : List (List Value)), k ≤ xs.length ∧ i = .int .i64 k ∧ Hid (Upd [] w wr) ∧ w.heap.size < wr.heap.size ∧
      Hid (wr.ownsRow w.heap.size 70 3 (.slice (some ⟨w.heap.size, 0, none⟩) xs.length xs.length) xs.length (us.flatten ++ (List.replicate (xs.length - k) ([.string ⟨#[]⟩, .string ⟨#[]⟩, .string ⟨#[]⟩] : List Value)).flatten)) ∧
      Hid (RowsQ 3 R_Me w.heap.size [w.heap.size] wr us (xs.take k)))
    (fun i _ => xs.length - (intOf i).toNat)
  case atStart => exact ⟨0, [], Nat.zero_le _, rfl, Lib.hid hU, hsz, Lib.hid (by simpa using hown), Lib.hid (RowsQ.nil _ _ _ _ _)⟩
  case round =>
    clear hown hU hsz
    obtain ⟨wo, rfl⟩ : ∃ wo : World, wo = wr := ⟨_, rfl⟩
    obtain ⟨k, us, hk, rfl, HU, hsz, HO, HW⟩ := hrel
    have hlu : us.length = k := by have := HW.out.length; simp at this; omega
    by_cases hlt : k < xs.length
    · obtain ⟨b, off, u, f, rfl, -, -, -, hcell, -, hr⟩ := HC.out k hlt
      have HR := Lib.hid (R_Mek.upd hr HU.out (by simp))
      obtain ⟨rfl, -⟩ := hr
      have p0 := HU.out.keep (hcell 0 _ rfl)
      have p1 := HU.out.keep (hcell 1 _ rfl)
      have p2 := HU.out.keep (hcell 2 _ rfl)
      simp only [Nat.add_zero] at p0
      have hxl : szF_Me xs[k] ≤ 1048576 := by
        have h1 := szF_Me1_snoc xs k hlt
        have h2 := szF_Me1_take xs (k + 1)
        have h3 := szF_Me1_sum (xs.take k)
        omega
      have HTK := Lib.hid (List.take_succ_eq_append_getElem hlt)
      have HLU := Lib.hid hlu
      clear hcell hlu
      generalize hx : xs[k] = x at *
      clear hx
      have S1 := Lib.hid (to_Me _ x wo f hxl HR.out)
      clear hxl
      go_wp2_with fail
      refine S1.out.mono ?_
      rintro e w2 ⟨⟨u2, rfl, hlen, hone, hnew⟩, hu2⟩
      have hown2 := ownsRow_upd HO.out hu2
      have hrep : (List.replicate (xs.length - k) ([.string ⟨#[]⟩, .string ⟨#[]⟩, .string ⟨#[]⟩] : List Value)).flatten.length = (xs.length - k) * 3 := by
        rw [flat_len (n := 3) (by intro y hy; rw [(List.mem_replicate.1 hy).2]; rfl)]; simp
      have hfl : us.flatten.length = k * 3 := by rw [flat_len HW.out.each, HLU.out]
      have hth : w2.there w.heap.size (k * 3) u2.toArray.size := fun j hj => by
        have hj' : j < 3 := by simpa [hlen] using hj
        refine ⟨?_, hown2.frozenAt _⟩
        rw [hown2.cellAt (k * 3 + j) (by omega), List.getElem?_eq_getElem (by rw [List.length_append, hfl, hrep]; omega)]; rfl
      have hszz : (Tryz.prog.info? 70).map (·.size) = some u2.toArray.size := by rw [Me_size]; simp [hlen]
      have hrun := run_storeCells_cells (P := Tryz.prog) w.heap.size (k * 3) u2 0 w2 (fun j hj => by simpa using (hth j (by simpa using hj)).1) (fun j hj => by simpa using (hth j (by simpa using hj)).2) (fun v hv => (Array.all_eq_true_iff_forall_mem.1 hone) v (by simpa using hv))
      simp only [Nat.add_zero] at hrun
      have hst := ownsRow_setCells u2 (k * 3) hown2 (by rw [hlen]; omega)
      rw [show xs.length - k = (xs.length - (k + 1)) + 1 by omega, ← HLU.out, filled_set us ([.string ⟨#[]⟩, .string ⟨#[]⟩, .string ⟨#[]⟩] : List Value) _ 3 rfl HW.out.each u2 hlen, HLU.out] at hst
      have hw3 : Upd [w.heap.size] w2 (w2.setCells w.heap.size (k * 3) u2) := upd_setCells _ (Or.inr (by simp)) _ _ (Upd.refl _ _)
      have hrows2 := (HW.out.push R_Mek hu2 hnew hlen (by omega) (by simpa using hsz)).upd R_Mek hw3 (by simp)
      rw [← HTK.out] at hrows2
      have hU2 : Upd [] w (w2.setCells w.heap.size (k * 3) u2) := upd_setCells _ (Or.inl (Nat.le_refl _)) _ _ (HU.out.trans hu2)
      have hsz2 : w.heap.size < (w2.setCells w.heap.size (k * 3) u2).heap.size := by have := hu2.size; have := hw3.size; omega
      have HS := Lib.hid (And.intro hst (And.intro hrows2 hU2))
      clear hown2 hrep hfl hst hw3 hrows2 hU2 hnew hu2 S1 HO HW HU
      clear hth hszz hone
      go_wp2_with fail
      go_roundw
      case rel => exact ⟨k + 1, us ++ [u2], by omega, by go_num, Lib.hid HS.out.2.2, hsz2, Lib.hid HS.out.1, Lib.hid HS.out.2.1⟩
      case measure => simp [intOf]; omega
    · obtain rfl : k = xs.length := by omega
      go_wp2_with fail
      go_ret
      have hrows := HW.out
      have hown := HO.out
      rw [List.take_length] at hrows
      refine ⟨⟨_, rfl, hrows.new (e := 70) (by simpa using hown) (by simp [Value.ownBlock]) (Nat.le_refl _)⟩, HU.out⟩

set_option maxRecDepth 20000 in
set_option maxHeartbeats 2000000 in
theorem eq_Me1 (v1 v2 : Value) (xs : List Me) (w : World) (fp fp2 : List Nat) (h1 : R_Me1 fp w [v1] xs) (h2 : R_Me1 fp2 w [v2] xs) :
    Calls Tryz.prog 62 #[v1, v2] w fun e w' => e = .returned (.bool true) ∧ Upd [] w w' := by
  obtain ⟨a1, c1, rfl, hl1, hm1, hc1⟩ := slQ_open h1
  obtain ⟨a2, c2, rfl, hl2, hm2, hc2⟩ := slQ_open h2
  unfold maxLen at hm1 hm2
  have HC1 := Lib.hid hc1
  have HC2 := Lib.hid hc2
  have hbe : ((xs.length : Int) != (xs.length : Int)) = false := by simp
  clear h1 h2 hc1 hc2
  go_enter Tryz.func62, Tryz.ntmps62
  go_wp2_with fail
  go_loopw [5] (fun i wr => ∃ k : Nat, k ≤ xs.length ∧ i = .int .i64 k ∧ Hid (Upd [] w wr)) (fun i _ => xs.length - (intOf i).toNat)
  case atStart => exact ⟨0, Nat.zero_le _, rfl, Lib.hid (Upd.refl _ _)⟩
  case round =>
    obtain ⟨wo, rfl⟩ : ∃ wo : World, wo = wr := ⟨_, rfl⟩
    obtain ⟨k, hk, rfl, HU⟩ := hrel
    by_cases hlt : k < xs.length
    · obtain ⟨b1, o1, u, f, rfl, -, -, -, hcell, -, hr⟩ := HC1.out k hlt
      obtain ⟨b2, o2, u', f', rfl, -, -, -, hcell2, -, hr2⟩ := HC2.out k hlt
      have HR := Lib.hid (R_Mek.drewN (R_Mek.upd hr HU.out (by simp)))
      have HR2 := Lib.hid (R_Mek.drewN (R_Mek.upd hr2 HU.out (by simp)))
      obtain ⟨rfl, -⟩ := hr
      obtain ⟨rfl, -⟩ := hr2
      have p0 := HU.out.keep (hcell 0 _ rfl)
      have p1 := HU.out.keep (hcell 1 _ rfl)
      have p2 := HU.out.keep (hcell 2 _ rfl)
      have q0 := HU.out.keep (hcell2 0 _ rfl)
      have q1 := HU.out.keep (hcell2 1 _ rfl)
      have q2 := HU.out.keep (hcell2 2 _ rfl)
      simp only [Nat.add_zero] at p0 q0
      clear hcell hcell2
      generalize hx : xs[k] = x at *
      clear hx
      have S1 := Lib.hid (fun W (hu : Upd [] wo W) => eq_Me _ _ x W f f' (R_Mek.upd (HR.out 0) hu (by simp)) (R_Mek.upd (HR2.out 0) hu (by simp)))
      clear HR HR2
      obtain ⟨t0, ht0⟩ : ∃ t, t = es x.left := ⟨_, rfl⟩
      rw [← ht0] at p0 q0 S1
      clear ht0
      obtain ⟨t1, ht1⟩ : ∃ t, t = es x.right := ⟨_, rfl⟩
      rw [← ht1] at p1 q1 S1
      clear ht1
      obtain ⟨t2, ht2⟩ : ∃ t, t = es x.result := ⟨_, rfl⟩
      rw [← ht2] at p2 q2 S1
      clear ht2
      go_wp2_with fail
      go_region_held3 (fun w' => w'.cell? ⟨b1, o1 + k * 3, none⟩ = some (t0) ∧ w'.cell? ⟨b1, o1 + k * 3 + 1, none⟩ = some (t1) ∧ w'.cell? ⟨b1, o1 + k * 3 + 2, none⟩ = some (t2) ∧ w'.cell? ⟨b2, o2 + k * 3, none⟩ = some (t0) ∧ w'.cell? ⟨b2, o2 + k * 3 + 1, none⟩ = some (t1) ∧ w'.cell? ⟨b2, o2 + k * 3 + 2, none⟩ = some (t2)) (go_keep) (((with_reducible refine (S1.out _ (by repeat (first | exact Upd.refl _ _ | refine Upd.drew ?_ | refine Upd.drewN ?_ _))).mono ?_); rintro e w1 ⟨rfl, hu1⟩; have a0 := hu1.keep p0; have b0 := hu1.keep q0; have a1 := hu1.keep p1; have b1 := hu1.keep q1; have a2 := hu1.keep p2; have b2 := hu1.keep q2; skip))
      all_goals
        have HU1 := Lib.hid (HU.out.drew.trans hu1)
        clear hu1 HU
        go_wp2_with fail
        go_roundw
        case rel => exact ⟨k + 1, by omega, by go_num, HU1⟩
        case measure => simp [intOf]; omega
    · have hge : xs.length ≤ k := by omega
      go_wp2_with fail
      go_ret
      exact ⟨rfl, HU.out⟩

end Go.Proofs.YtnchmnjkmhfleaaGreat

/-
  Copies that the program makes: lists of expressions, parts, meetings, texts.
-/
namespace Go.Proofs.YtnchmnjkmhfleaaGreat
open Go.RowKit

set_option maxRecDepth 20000 in
set_option maxHeartbeats 1000000 in
theorem cloneTermsI (v : Value) (xs : List (List Tm)) (w : World) (fp : List Nat) (hl : xs.length ≤ 1000000) (hl2 : ∀ e ∈ xs, e.length ≤ 1000000) (hR : R_T2 fp w [v] xs) :
    Calls Tryz.prog 89 #[v] w fun r w' => (∃ v', r = .returned v' ∧ New R_T2 w w' v' xs) ∧ Upd [] w w' := by
  obtain ⟨i0, hi, hz0, hz1, hz2⟩ := info_parts Tryz.infoTS
  obtain ⟨a, cap, rfl, g1, g2, hc⟩ := slP_open hR
  unfold maxLen at g2
  have HC := Lib.hid hc
  have HL := Lib.hid hl2
  clear hR hc hl2
  go_enter Tryz.func89, Tryz.ntmps89
  go_wp2_with fail
  go_loopw [3, 8] (fun cv iv wr => ∃ k : Nat, k ≤ xs.length ∧ iv = .int .i64 k ∧ Hid (Upd [] w wr) ∧ w.heap.size ≤ wr.heap.size ∧ Hid (Acc R_T1 w 158 wr cv (xs.take k))) (fun _ iv _ => xs.length - (intOf iv).toNat)
  case atStart => exact ⟨0, Nat.zero_le _, rfl, Lib.hid (Upd.refl _ _), Nat.le_refl _, Lib.hid (by simpa using Acc.nil R_T1 w 158 w)⟩
  case round =>
    rename_i cv iv
    obtain ⟨wo, rfl⟩ : ∃ wo : World, wo = wr := ⟨_, rfl⟩
    obtain ⟨k, hk, rfl, HU, hsz, HA⟩ := hrel
    by_cases hlt : k < xs.length
    · obtain ⟨b, off, u, f, rfl, -, -, p0, -, hr⟩ := HC.out k hlt
      have p0 := HU.out.keep p0
      have hkl : (k : Int) < (xs.length : Int) := by omega
      have hru := R_T1k.upd hr HU.out (by simp)
      have S1 := Lib.hid (cloneTI u xs[k] wo f (HL.out _ (List.getElem_mem hlt)) hru)
      obtain ⟨au, cu, rfl, -, -, -⟩ := slF2_open hru
      have HTK := Lib.hid (List.take_succ_eq_append_getElem hlt)
      have htl : (xs.take k).length = k := by rw [List.length_take]; omega
      have HTL := Lib.hid htl
      generalize hx : xs[k] = x at *
      clear hx hr hru
      obtain ⟨us, hown, hrows⟩ := HA.out
      have HOW := Lib.hid hown
      have HRW := Lib.hid hrows
      obtain ⟨ca, cc, rfl⟩ := ownsRow_form hown
      clear htl hown hrows
      generalize x.length = nx at *
      go_wp2_with fail
      refine S1.out.mono ?_
      rintro e w1 ⟨⟨v', rfl, hnew⟩, hu1⟩
      obtain ⟨va, vc, rfl⟩ := hnew.form
      have hown1 := ownsRow_upd HOW.out hu1
      have hle1 := hu1.size
      have htl := HTL.out
      rw [htl] at hown1
      clear S1
      go_wp2_with (first
        | (at_builtin; refine wpList_append_tight _ rfl _ _ 107 rfl w.heap.size 158 i0 (.slice none 0 0) 1 24 Tryz.underlying107 hi hz0 hz1 hz2 rfl (by decide) _ _ _ rfl (hown1.alloc _) ⟨w1.heap.size, 0, none⟩ 1 1 [.slice va x.length vc] rfl rfl (fun j u hj => by rw [addr_add, Nat.zero_add]; exact cell_new w1 #[.slice va x.length vc] _ _ rfl j u (by simpa using hj)) (by simp [Value.oneCell']) (by unfold maxLen; omega) (by omega) (by simp; omega) ?_)
        | fail)
      intro v2 w2 hown2 hg2 ht2
      have hacc := Acc.push R_T1k HOW.out HRW.out hsz hu1 hnew (.cells #[.slice va x.length vc] 158) (by rw [htl]; exact hown2) (by rw [htl]; exact hg2) (fun b hb => by
        rcases ht2 b hb with h | h
        · exact Or.inl (by rw [htl]; exact h)
        · exact Or.inr (by simpa using h))
      rw [← HTK.out] at hacc
      have hU2 : Upd [] w w2 := ((HU.out.trans hu1).alloc _).grown hg2 (fun b hb => Or.inl (HOW.out.lt b (by rw [htl]; exact hb)).1)
      have HP := Lib.hid (And.intro hacc hU2)
      clear hacc hU2 hown2 hg2 ht2 hown1 hnew hu1
      go_wp2_with fail
      go_roundw
      case rel => exact ⟨k + 1, by omega, by go_num, Lib.hid HP.out.2, HP.out.2.size, Lib.hid HP.out.1⟩
      case measure => simp [intOf]; omega
    · obtain rfl : k = xs.length := by omega
      have ha := HA.out
      rw [List.take_length] at ha
      have HN := Lib.hid ha.new
      clear ha HA
      go_wp2_with fail
      go_ret
      exact ⟨⟨_, rfl, HN.out⟩, HU.out⟩

theorem ownsRow_some {w : World} {base : Nat} {e : TypeId} {size : Nat} {v : Value} {n : Nat} {xs : List Value} (h : w.ownsRow base e size v n xs) (hn : 0 < n) : ∃ P cap, v = .slice (some ⟨P, 0, none⟩) n cap := by
  rcases h.2 with ⟨rfl, rfl⟩ | ⟨g, cap, cur, rfl, -⟩
  · omega
  · exact ⟨g, cap, rfl⟩
theorem one_Pa {fp : List Nat} {w : World} {u : List Value} {p : Pa} (h : R_Pa fp w u p) : ∀ c ∈ u, c.oneCell' = true := by
  obtain ⟨v3, f3, rfl, h3, rfl⟩ := h
  obtain ⟨a, c, rfl, -, -, -⟩ := slP_open h3
  intro c hc
  simp at hc
  rcases hc with rfl | rfl | rfl | rfl <;> rfl
theorem one_Me {fp : List Nat} {w : World} {u : List Value} {p : Me} (h : R_Me fp w u p) : ∀ c ∈ u, c.oneCell' = true := by
  obtain ⟨rfl, rfl⟩ := h
  intro c hc
  simp at hc
  rcases hc with rfl | rfl | rfl <;> rfl
theorem one_flat {us : List (List Value)} (h : ∀ u ∈ us, ∀ c ∈ u, c.oneCell' = true) : ∀ c ∈ us.flatten, c.oneCell' = true := by
  intro c hc
  obtain ⟨u, hu, hcu⟩ := List.mem_flatten.1 hc
  exact h u hu c hcu

set_option maxRecDepth 20000 in
set_option maxHeartbeats 1000000 in
/-- a copy of parts: the cells alone. -/
theorem clonePartI (v : Value) (xs : List Pa) (w : World) (fp : List Nat) (hl : xs.length ≤ 1000000) (h0 : 0 < xs.length) (hR : R_Pa1 fp w [v] xs) :
    Calls Tryz.prog 88 #[v] w fun r w' => (∃ P cap old, r = .returned (.slice (some ⟨P, 0, none⟩) xs.length cap) ∧ w'.ownsRow w.heap.size 109 4 (.slice (some ⟨P, 0, none⟩) xs.length cap) xs.length (List.flatten old) ∧ old.length = xs.length ∧ (∀ u ∈ old, u.length = 4) ∧ ∀ i (h : i < xs.length) u, old[i]? = some u → ∃ f, R_Pa f w u xs[i]) ∧ Upd [] w w' := by
  obtain ⟨i0, hi, hz0, hz1, hz2⟩ := info_parts Tryz.infoPa
  have hown : (w.alloc (.cells #[] 109)).ownsRow w.heap.size 109 4 (.slice (some ⟨w.heap.size, 0, none⟩) 0 0) 0 [] := by
    simpa using World.ownsRow_lit (base := w.heap.size) (e := 109) (size := 4) w #[] 0 (Nat.le_refl _) (by simp [maxLen]) (by simp)
  obtain ⟨us, fb, hul, hun, hF, -, hr⟩ := slQ_flat hR (by decide)
  have HF := Lib.hid (hF.upd ((Upd.refl [] w).alloc (.cells #[] 109)) (by simp))
  have HR := Lib.hid hr
  have HO := Lib.hid (one_flat (us := us) (fun u hu => by
    obtain ⟨i, hi, rfl⟩ := List.mem_iff_getElem.1 hu
    obtain ⟨f, -, h⟩ := hr i (by omega) _ (List.getElem?_eq_getElem hi)
    exact one_Pa h))
  obtain ⟨a, cap, rfl, -, -, hc⟩ := slQ_open hR
  obtain ⟨b, off, -, -, rfl, -⟩ := hc 0 h0
  have HUN := Lib.hid (And.intro hul hun)
  clear hR hc hF hr hul hun
  have hq := fun (w : World) (a : Option Addr) (n c : Nat) => Lib.run_eql_slice_nil (P := Tryz.prog) w 88 109 a n c 0 0 Tryz.underlying88
  go_enter Tryz.func88, Tryz.ntmps88
  go_wp2_with (first
    | (at_builtin; refine wpList_append_flat rfl _ _ 88 rfl w.heap.size 109 i0 (.agg #[.int .i64 0, .int .i64 0, .string ⟨#[]⟩, .slice none 0 0]) 4 56 Tryz.underlying88 hi hz0 hz1 hz2 rfl (by decide) _ _ _ rfl hown _ xs.length _ rfl _ HF.out HO.out (by unfold maxLen; omega) (by omega) (by simp) ?_)
    | fail)
  intro v2 w2 hown2 hg2 ht2
  try simp only [Nat.zero_add, List.nil_append] at hown2
  obtain ⟨P, cp, rfl⟩ := ownsRow_some hown2 h0
  have hU : Upd [] w w2 := ((Upd.refl [] w).alloc _).grown hg2 (fun k hk => Or.inl (hown.lt k hk).1)
  have HE := Lib.hid (And.intro hown2 hU)
  have HRR := Lib.hid (fun i (h : i < xs.length) u (hu : us[i]? = some u) => (show ∃ f, R_Pa f w u xs[i] by
    obtain ⟨f, hf, h⟩ := HR.out i h u hu
    exact ⟨f, h⟩))
  clear hown2 hg2 ht2 hown hU
  go_wp2_with fail
  go_ret
  exact ⟨⟨P, cp, us, rfl, HE.out.1, HUN.out.1, HUN.out.2, HRR.out⟩, HE.out.2⟩

set_option maxRecDepth 20000 in
set_option maxHeartbeats 1000000 in
theorem cloneMeetI (v : Value) (xs : List Me) (w : World) (fp : List Nat) (hl : xs.length ≤ 1000000) (hR : R_Me1 fp w [v] xs) :
    Calls Tryz.prog 90 #[v] w fun r w' => (∃ v', r = .returned v' ∧ New R_Me1 w w' v' xs) ∧ Upd [] w w' := by
  obtain ⟨i0, hi, hz0, hz1, hz2⟩ := info_parts Tryz.infoMe
  have hown : (w.alloc (.cells #[] 70)).ownsRow w.heap.size 70 3 (.slice (some ⟨w.heap.size, 0, none⟩) 0 0) 0 [] := by
    simpa using World.ownsRow_lit (base := w.heap.size) (e := 70) (size := 3) w #[] 0 (Nat.le_refl _) (by simp [maxLen]) (by simp)
  obtain ⟨us, fb, hul, hun, hF, -, hr⟩ := slQ_flat hR (by decide)
  have HF := Lib.hid (hF.upd ((Upd.refl [] w).alloc (.cells #[] 70)) (by simp))
  have hr2 : ∀ i (h : i < xs.length) u, us[i]? = some u → ∀ W : World, R_Me [] W u xs[i] := fun i h u hu W => by
    obtain ⟨f, -, e, -⟩ := hr i h u hu
    exact ⟨e, rfl⟩
  have HR := Lib.hid hr2
  have HO := Lib.hid (one_flat (us := us) (fun u hu => by
    obtain ⟨i, hi, rfl⟩ := List.mem_iff_getElem.1 hu
    exact one_Me (hr2 i (by omega) _ (List.getElem?_eq_getElem hi) w)))
  obtain ⟨a, cap, rfl, -, -, hc⟩ := slQ_open hR
  have HUN := Lib.hid (And.intro hul hun)
  have hq := fun (w : World) (a : Option Addr) (n c : Nat) => Lib.run_eql_slice_nil (P := Tryz.prog) w 26 70 a n c 0 0 Tryz.underlying26
  cases a with
  | none =>
    have hx : xs = [] := by
      cases xs with
      | nil => rfl
      | cons y ys => obtain ⟨b, off, -, -, h, -⟩ := hc 0 (by simp); cases h
    subst hx
    have HN := Lib.hid (show New R_Me1 w w (.slice none 0 0) [] from shallow_new (e := 70) (us := []) (World.ownsRow_nil _ _ _ _) rfl (by simp) (by simp))
    clear HF hown hc hR hF hr hul hun HUN HR HO hr2
    go_enter Tryz.func90, Tryz.ntmps90
    go_wp2_with fail
    go_ret
    exact ⟨⟨_, rfl, HN.out⟩, Upd.refl _ _⟩
  | some ad =>
    clear hc hR hF hr hul hun hr2
    go_enter Tryz.func90, Tryz.ntmps90
    go_wp2_with (first
      | (at_builtin; refine wpList_append_flat rfl _ _ 26 rfl w.heap.size 70 i0 (.agg #[.string ⟨#[]⟩, .string ⟨#[]⟩, .string ⟨#[]⟩]) 3 48 Tryz.underlying26 hi hz0 hz1 hz2 rfl (by decide) _ _ _ rfl hown _ xs.length _ rfl _ HF.out HO.out (by unfold maxLen; omega) (by omega) (by simp) ?_)
      | fail)
    intro v2 w2 hown2 hg2 ht2
    try simp only [Nat.zero_add, List.nil_append] at hown2
    have hU : Upd [] w w2 := ((Upd.refl [] w).alloc _).grown hg2 (fun k hk => Or.inl (hown.lt k hk).1)
    have hn : New R_Me1 w w2 v2 xs := shallow_new (e := 70) hown2 HUN.out.1 HUN.out.2 (fun i h u hu => HR.out i h u hu w2)
    have HE := Lib.hid (And.intro hn hU)
    clear hown2 hg2 ht2 hown hU hn
    go_wp2_with fail
    go_ret
    exact ⟨⟨_, rfl, HE.out.1⟩, HE.out.2⟩

theorem Flat.ofS1 {fp : List Nat} {w : World} {v : Value} {xs : List (List UInt8)} (h : R_S1 fp w [v] xs) : Flat fp w v 1 xs.length (xs.map es) := by
  obtain ⟨v', hv, hF⟩ := h
  cases hv
  rw [flatMap_single] at hF; exact hF
theorem one_S1 (xs : List (List UInt8)) : ∀ u ∈ xs.map es, u.oneCell' = true := by
  intro u hu
  obtain ⟨t, -, rfl⟩ := List.mem_map.1 hu
  rfl

set_option maxRecDepth 20000 in
set_option maxHeartbeats 1000000 in
theorem cloneSSI (v : Value) (xs : List (List UInt8)) (w : World) (fp : List Nat) (hl : xs.length ≤ 1000000) (hR : R_S1 fp w [v] xs) :
    Calls Tryz.prog 91 #[v] w fun r w' => (∃ v', r = .returned v' ∧ New R_S1 w w' v' xs) ∧ Upd [] w w' := by
  obtain ⟨i0, hi, hz0, hz1, hz2⟩ := info_parts Tryz.info9
  have hown : (w.alloc (.cells #[] 9)).ownsRow w.heap.size 9 1 (.slice (some ⟨w.heap.size, 0, none⟩) 0 0) 0 [] := by
    simpa using World.ownsRow_lit (base := w.heap.size) (e := 9) (size := 1) w #[] 0 (Nat.le_refl _) (by simp [maxLen]) (by simp)
  have HF := Lib.hid (Flat.ofS1 (R_S1k.upd hR ((Upd.refl [] w).alloc (.cells #[] 9)) (by simp)))
  obtain ⟨a, cap, rfl, hcl, hcm, hce⟩ := slF1_open hR
  clear hR
  have hq := fun (w : World) (a : Option Addr) (n c : Nat) => Lib.run_eql_slice_nil (P := Tryz.prog) w 27 9 a n c 0 0 Tryz.underlying27
  cases a with
  | none =>
    have hx : xs = [] := by
      cases xs with
      | nil => rfl
      | cons y ys => obtain ⟨b, off, h, -⟩ := hce 0 (by simp); cases h
    subst hx
    have HN := Lib.hid (show New R_S1 w w (.slice none 0 0) [] from New.nilF _ _ _ _)
    clear HF hown hce
    go_enter Tryz.func91, Tryz.ntmps91
    go_wp2_with fail
    go_ret
    exact ⟨⟨_, rfl, HN.out⟩, Upd.refl _ _⟩
  | some ad =>
    clear hce
    go_enter Tryz.func91, Tryz.ntmps91
    go_wp2_with (first
      | (at_builtin; refine wpList_append_flat rfl _ _ 27 rfl w.heap.size 9 i0 (es []) 1 16 Tryz.underlying27 hi hz0 hz1 hz2 rfl (by decide) _ _ _ rfl hown _ xs.length _ rfl _ HF.out (one_S1 xs) (by unfold maxLen; omega) (by omega) (by simp) ?_)
      | fail)
    intro v2 w2 hown2 hg2 ht2
    have hU : Upd [] w w2 := ((Upd.refl [] w).alloc _).grown hg2 (fun k hk => Or.inl (hown.lt k hk).1)
    have hn : New R_S1 w w2 v2 xs := New.ofOwns (e := 9) (by simpa using hown2)
    have HE := Lib.hid (And.intro hn hU)
    clear hown2 hg2 ht2 hown hn hU
    go_wp2_with fail
    go_ret
    exact ⟨⟨_, rfl, HE.out.1⟩, HE.out.2⟩

end Go.Proofs.YtnchmnjkmhfleaaGreat

/-
  Definitions: readings, and what the laws' helper functions return and make.
-/
namespace Go.Proofs.YtnchmnjkmhfleaaGreat
open Go.RowKit

/-- its 3 cells. -/
def R_De : Rp De := fun fp w cs x => ∃ (v2 : Value) (f2 : List Nat), cs = [es x.name, ei x.pars, v2] ∧ R_Pa1 f2 w [v2] x.body ∧ fp = f2 ++ []
theorem R_Dek : Kept R_De := by
  constructor
  · rintro fp w cs x ⟨v2, f2, rfl, h2, rfl⟩ b hb
    exact R_Pa1k.lt h2 b (by simpa using hb)
  · rintro fp w w' cs x ⟨v2, f2, rfl, h2, rfl⟩ hs hb
    exact ⟨v2, f2, rfl, R_Pa1k.frame h2 hs (fun b h => hb b (by simp [h])), rfl⟩
def szF_De (x : De) : Int := (x.name.length : Int) + szF_Pa1 x.body
def mkF_De (x : De) : Int := 1 + 1 + mkF_Pa1 x.body
theorem szF_De_nonneg (x : De) : 0 ≤ szF_De x := by have := szF_Pa1_nonneg x.body; unfold szF_De; omega
theorem mkF_De_nonneg (x : De) : 0 ≤ mkF_De x := by have := mkF_Pa1_nonneg x.body; unfold mkF_De; omega
theorem mkF_De_le (x : De) : mkF_De x ≤ 16 * szF_De x + 2 := by have := mkF_Pa1_le x.body; unfold mkF_De szF_De; omega
/-- what each text's length is below. -/
def DeOk (x : De) : Prop := x.name.length ≤ 9223372036854775807 ∧ Pa1Ok x.body

set_option maxRecDepth 20000 in
set_option maxHeartbeats 1600000 in
theorem sz_De (cs : List Value) (x : De) (left : Int) (w : World) (fp : List Nat) (hl : 0 ≤ left) (hl2 : left ≤ 1048576) (hR : R_De fp w cs x) (hS : DeOk x) :
    Calls Tryz.prog 101 #[.agg cs.toArray, .int .i64 left] w fun e w' => (∃ r : Int, e = .returned (.int .i64 r) ∧ (r = -1 ∨ (0 ≤ r ∧ r + szF_De x = left))) ∧ Upd [] w w' := by
  obtain ⟨v2, f2, rfl, h2, rfl⟩ := hR
  obtain ⟨wA, hwA⟩ : ∃ wA, wA = w.alloc (.cells #[es x.name, ei x.pars, v2] 135) := ⟨_, rfl⟩
  obtain ⟨BA, hBA⟩ : ∃ BA, BA = w.heap.size := ⟨_, rfl⟩
  have uA : Upd [] w wA := by rw [hwA]; exact (Upd.refl _ _).alloc _
  have S2 := Lib.hid (fun (W : World) (hu : Upd [] w W) (l : Int) (q1 : 0 ≤ l) (q2 : l ≤ 1048576) => sz_Pa1 v2 x.body l W f2 q1 q2 (R_Pa1k.upd h2 hu (by simp)) hS.2)
  have HC := Lib.hid (fun W (hu : Upd [] wA W) => show W.cell? ⟨BA, 0, none⟩ = some (es x.name) ∧ W.cell? ⟨BA, 2, none⟩ = some (v2) from
    ⟨hu.keep (by rw [hwA, hBA]; exact cell_new w _ _ _ rfl 0 _ rfl), hu.keep (by rw [hwA, hBA]; exact cell_new w _ _ _ rfl 2 _ rfl)⟩)
  have HZ := Lib.hid (show szF_De x = (x.name.length : Int) + szF_Pa1 x.body from rfl)
  have hs0 : x.name.length ≤ 9223372036854775807 := hS.1
  have hn2 := szF_Pa1_nonneg x.body
  generalize szF_Pa1 x.body = z2 at *
  generalize x.name = t0 at *
  generalize szF_De x = ZZ at *
  obtain ⟨c0, c2⟩ := HC.out wA (Upd.refl _ _)
  have HU := Lib.hid uA
  have HX := Lib.hid (Upd.refl [] wA)
  clear h2 hS uA
  go_enter Tryz.func101, Tryz.ntmps101
  go_upto_region 1 with (fail)
  rw [← hwA, ← hBA]
  clear hwA hBA
  by_cases hlt0 : left - (t0.length : Int) < 0
  · go_wp2_with fail
    go_ret
    exact ⟨⟨-1, rfl, Or.inl rfl⟩, HU.out⟩
  · obtain ⟨r0, hr0⟩ : ∃ r0 : Int, r0 = left - (t0.length : Int) := ⟨_, rfl⟩
    have hge0 : 0 ≤ r0 := by omega
    have hle0 : r0 ≤ 1048576 := by omega
    have HR0 := Lib.hid hr0
    rw [← hr0] at hlt0
    have hse0 : left - (t0.length : Int) = r0 := hr0.symm
    clear hr0
    have T2 := Lib.hid (S2.out wA HU.out r0 hge0 hle0)
    clear S2
    go_wp2_with fail
    refine T2.out.mono ?_
    rintro e w2 ⟨⟨r, rfl, hr⟩, hu⟩
    clear T2
    have HU := Lib.hid (HU.out.trans hu)
    have HX := Lib.hid (HX.out.trans hu)
    obtain ⟨c0, c2⟩ := HC.out w2 HX.out
    clear hu
    rcases hr with rfl | ⟨hge2, hr⟩
    · go_wp2_with fail
      go_ret
      exact ⟨⟨-1, rfl, Or.inl rfl⟩, HU.out⟩
    · have HR2 := Lib.hid hr
      have hle2 : r ≤ 1048576 := by omega
      clear hr
      generalize r = r2 at *
      go_wp2_with fail
      go_ret
      exact ⟨⟨r2, rfl, Or.inr ⟨hge2, by rw [HZ.out]; have := HR0.out; have := HR2.out; omega⟩⟩, HU.out⟩

theorem De_size : (Tryz.prog.info? 90).map (·.size) = some 3 := by kernel_rfl
set_option maxRecDepth 20000 in
set_option maxHeartbeats 4000000 in
theorem to_De (cs : List Value) (x : De) (w : World) (fp : List Nat) (hl : szF_De x ≤ 1048576) (hR : R_De fp w cs x) :
    Calls Tryz.prog 106 #[.agg cs.toArray] w fun e w' => (∃ us, e = .returned (.agg us.toArray) ∧ us.length = 3 ∧ us.toArray.all (·.oneCell') = true ∧ NewQ R_De w w' us x) ∧ Upd [] w w' := by
  obtain ⟨v2, f2, rfl, h2, rfl⟩ := hR
  have hn2 := szF_Pa1_nonneg x.body
  unfold szF_De at hl
  have S2 := Lib.hid (fun (W : World) (hu : Upd [] w W) => to_Pa1 v2 x.body W f2 (by omega) (R_Pa1k.upd h2 hu (by simp)))
  obtain ⟨wA, hwA⟩ : ∃ wA, wA = ((w.alloc (.cells #[es x.name, ei x.pars, v2] 135)).alloc (.cells #[.string ⟨#[]⟩, .int .i64 0, .slice none 0 0] 90)).alloc (.cells #[.string ⟨#[]⟩, .int .i64 0, .slice none 0 0] 90) := ⟨_, rfl⟩
  obtain ⟨B, hB⟩ : ∃ B, B = w.heap.size := ⟨_, rfl⟩
  have H0 := Lib.hid (show Three w wA 135 90 B [es x.name, ei x.pars, v2] [.string ⟨#[]⟩, .int .i64 0, .slice none 0 0] [.string ⟨#[]⟩, .int .i64 0, .slice none 0 0] from by rw [hwA, hB]; exact Three.mk0 w _ _ _ _ _)
  clear h2 hl hn2
  go_enter Tryz.func106, Tryz.ntmps106
  go_upto_region 2 with (fail)
  rw [← hwA, ← hB]
  clear hwA hB
  have p0 := H0.out.pc 0 _ rfl
  have q0 := H0.out.oc 0 _ rfl
  have z0 := H0.out.fz 0
  go_upto_region 3 with (fail)
  obtain ⟨W0, hW0⟩ : ∃ W0, W0 = wA.setCell ⟨B + 2, 0, none⟩ (es x.name) := ⟨_, rfl⟩
  rw [← hW0]
  have H1 := Lib.hid (show Three w W0 135 90 B [es x.name, ei x.pars, v2] [.string ⟨#[]⟩, .int .i64 0, .slice none 0 0] _ from by rw [hW0]; exact H0.out.store 0 _)
  have D0 := Lib.hid (show Upd [B + 2] wA W0 from by rw [hW0]; exact (Upd.refl _ _).setCell (Or.inr (by simp)) _)
  have ds0 := D0.out.size
  clear p0 q0 z0 hW0
  have p1 := H1.out.pc 1 _ rfl
  have q1 := H1.out.oc 1 _ rfl
  have z1 := H1.out.fz 1
  go_upto_region 4 with (fail)
  obtain ⟨W1, hW1⟩ : ∃ W1, W1 = W0.setCell ⟨B + 2, 1, none⟩ (ei x.pars) := ⟨_, rfl⟩
  rw [← hW1]
  have H2 := Lib.hid (show Three w W1 135 90 B [es x.name, ei x.pars, v2] [.string ⟨#[]⟩, .int .i64 0, .slice none 0 0] _ from by rw [hW1]; exact H1.out.store 1 _)
  have D1 := Lib.hid (show Upd [B + 2] W0 W1 from by rw [hW1]; exact (Upd.refl _ _).setCell (Or.inr (by simp)) _)
  have ds1 := D1.out.size
  clear p1 q1 z1 hW1
  have T2 := Lib.hid (S2.out W1 H2.out.upd)
  clear S2
  have p2 := H2.out.pc 2 _ rfl
  go_wp2_with fail
  refine T2.out.mono ?_
  rintro e w2 ⟨⟨u, rfl, hn⟩, hu⟩
  have G2 := Lib.hid (H2.out.call hu)
  have HN2 := Lib.hid hn
  have E2 := Lib.hid hu
  have hlo2 := H2.out.size
  have hhi2 := hu.size
  obtain ⟨m2, n2, rfl⟩ := New.formQ hn
  clear T2 p2 hn hu
  have q2 := G2.out.oc 2 _ rfl
  have z2 := G2.out.fz 2
  go_upto_region 5 with (fail)
  obtain ⟨W2, hW2⟩ : ∃ W2, W2 = w2.setCell ⟨B + 2, 2, none⟩ (.slice m2 x.body.length n2) := ⟨_, rfl⟩
  rw [← hW2]
  have H3 := Lib.hid (show Three w W2 135 90 B [es x.name, ei x.pars, v2] [.string ⟨#[]⟩, .int .i64 0, .slice none 0 0] _ from by rw [hW2]; exact G2.out.store 2 _)
  have D2 := Lib.hid (show Upd [B + 2] w2 W2 from by rw [hW2]; exact (Upd.refl _ _).setCell (Or.inr (by simp)) _)
  have ds2 := D2.out.size
  clear q2 z2 hW2
  have HF := Lib.hid (show Three w W2 135 90 B [es x.name, ei x.pars, v2] [.string ⟨#[]⟩, .int .i64 0, .slice none 0 0] [es x.name, ei x.pars, .slice m2 x.body.length n2] from H3.out)
  have hlast := HF.out.h2
  have hres := HF.out.h1
  clear G2
  go_wp2_with (first
    | (refine wpList_load_row rfl 90 _ rfl (B + 2) rfl 90 #[es x.name, ei x.pars, .slice m2 x.body.length n2] (0, 0) _ hlast Tryz.underlying90 rfl De_size ?_)
    | (refine wpList_store_row rfl 90 _ _ rfl (B + 1) #[es x.name, ei x.pars, .slice m2 x.body.length n2] rfl rfl 90 _ hres De_size rfl (by simp [Value.oneCell']) ?_)
    | fail)
  have hC := setRow_heap W2 (B + 1) _ #[es x.name, ei x.pars, .slice m2 x.body.length n2] _ _ hres
  refine bodyPost_ret (results_cell_row Tryz.results106 _ _ (B + 1) 90 _ (0, 0) _ rfl hC Tryz.underlying90 rfl De_size) rfl ?_
  have hb := HF.out.base
  have UE : Upd [] w (W2.setRow (B + 1) #[es x.name, ei x.pars, .slice m2 x.body.length n2]) := HF.out.upd.row (Or.inl (by omega)) _
  refine ⟨⟨[es x.name, ei x.pars, .slice m2 x.body.length n2], rfl, rfl, by simp [Value.oneCell'], ?_⟩, UE⟩
  obtain ⟨g2, P2⟩ := Part.of R_Pa1k HN2.out
  have P2 := P2.upd R_Pa1k D2.out (by intro b hb; simp at hb; omega)
  have P2 := P2.upd R_Pa1k (show Upd [B + 1] W2 (W2.setRow (B + 1) #[es x.name, ei x.pars, .slice m2 x.body.length n2]) from (Upd.refl _ _).row (Or.inr (by simp)) _) (by intro b hb; simp at hb; omega)
  refine ⟨g2 ++ [], ⟨_, g2, rfl, P2.r, rfl⟩, ?_, ?_⟩
  · simpa using P2.o
  · intro b hb
    simp only [List.append_nil] at hb
    rcases hb with hb
    · have := P2.b b hb; omega

set_option maxRecDepth 20000 in
set_option maxHeartbeats 2000000 in
theorem eq_De (cs ds : List Value) (x : De) (w : World) (fp fp2 : List Nat) (hA : R_De fp w cs x) (hB : R_De fp2 w ds x) :
    Calls Tryz.prog 108 #[.agg cs.toArray, .agg ds.toArray] w fun e w' => e = .returned (.bool true) ∧ Upd [] w w' := by
  obtain ⟨v2, f2, rfl, h2, rfl⟩ := hA
  obtain ⟨u2, g2, rfl, k2, rfl⟩ := hB
  obtain ⟨wA, hwA⟩ : ∃ wA, wA = w.alloc (.cells #[es x.name, ei x.pars, v2] 90) := ⟨_, rfl⟩
  obtain ⟨wB, hwB⟩ : ∃ wB, wB = wA.alloc (.cells #[es x.name, ei x.pars, u2] 90) := ⟨_, rfl⟩
  obtain ⟨BA, hBA⟩ : ∃ BA, BA = w.heap.size := ⟨_, rfl⟩
  have sA : wA.heap.size = BA + 1 := by rw [hwA, hBA]; simp
  have uA : Upd [] w wA := by rw [hwA]; exact (Upd.refl _ _).alloc _
  have uB : Upd [] wA wB := by rw [hwB]; exact (Upd.refl _ _).alloc _
  have HC := Lib.hid (fun W (hu : Upd [] wB W) => show W.cell? ⟨BA, 0, none⟩ = some (es x.name) ∧ W.cell? ⟨BA + 1, 0, none⟩ = some (es x.name) ∧ W.cell? ⟨BA, 1, none⟩ = some (ei x.pars) ∧ W.cell? ⟨BA + 1, 1, none⟩ = some (ei x.pars) ∧ W.cell? ⟨BA, 2, none⟩ = some (v2) ∧ W.cell? ⟨BA + 1, 2, none⟩ = some (u2) from
    ⟨hu.keep (uB.keep (by rw [hwA, hBA]; exact cell_new w _ _ _ rfl 0 _ rfl)), hu.keep (by rw [hwB]; exact cell_new wA _ _ _ sA 0 _ rfl), hu.keep (uB.keep (by rw [hwA, hBA]; exact cell_new w _ _ _ rfl 1 _ rfl)), hu.keep (by rw [hwB]; exact cell_new wA _ _ _ sA 1 _ rfl), hu.keep (uB.keep (by rw [hwA, hBA]; exact cell_new w _ _ _ rfl 2 _ rfl)), hu.keep (by rw [hwB]; exact cell_new wA _ _ _ sA 2 _ rfl)⟩)
  have S2 := Lib.hid (fun W (hu : Upd [] w W) => eq_Pa1 v2 u2 x.body W f2 g2 (R_Pa1k.upd h2 hu (by simp)) (R_Pa1k.upd k2 hu (by simp)))
  have HU := Lib.hid (uA.trans uB)
  have HX := Lib.hid (Upd.refl [] wB)
  obtain ⟨c0, d0, c1, d1, c2, d2⟩ := HC.out wB (Upd.refl _ _)
  generalize x.name = t0 at *
  have b0 : (t0 != t0) = false := by simp
  generalize x.pars = t1 at *
  have b1 : (t1 != t1) = false := by simp
  clear h2 k2 uA uB sA
  go_enter Tryz.func108, Tryz.ntmps108
  go_upto_region 1 with (fail)
  rw [← hwA, ← hwB, ← hBA]
  clear hwA hwB hBA
  have T2 := Lib.hid (S2.out wB HU.out)
  clear S2
  go_wp2_with fail
  refine T2.out.mono ?_
  rintro e w2 ⟨rfl, hu⟩
  have HU := Lib.hid (HU.out.trans hu)
  have HX := Lib.hid (HX.out.trans hu)
  obtain ⟨c0, d0, c1, d1, c2, d2⟩ := HC.out w2 HX.out
  clear T2 hu
  go_wp2_with fail
  go_ret
  exact ⟨rfl, HU.out⟩

end Go.Proofs.YtnchmnjkmhfleaaGreat

/-
  Lists of definitions: readings, and what the laws' helper functions return and make.
-/
namespace Go.Proofs.YtnchmnjkmhfleaaGreat
open Go.RowKit


abbrev R_De1 : Rp (List De) := slQ 3 R_De
theorem R_De1k : Kept R_De1 := slQ_kept R_Dek
def szF_De1 (xs : List De) : Int := xs.length + (xs.map szF_De).sum
def mkF_De1 (xs : List De) : Int := (xs.map mkF_De).sum
def De1Ok (xs : List De) : Prop := ∀ x ∈ xs, DeOk x
theorem szF_De1_sum (xs : List De) : 0 ≤ (xs.map szF_De).sum := by
  induction xs with
  | nil => simp
  | cons r rs ih => simp only [List.map_cons, List.sum_cons]; have := szF_De_nonneg r; omega
theorem szF_De1_nonneg (xs : List De) : 0 ≤ szF_De1 xs := by have := szF_De1_sum xs; unfold szF_De1; omega
theorem szF_De1_snoc (xs : List De) (k : Nat) (h : k < xs.length) : ((xs.take (k + 1)).map szF_De).sum = ((xs.take k).map szF_De).sum + szF_De xs[k] := by
  rw [List.take_succ_eq_append_getElem h, List.map_append, List.sum_append]; simp
theorem szF_De1_take (xs : List De) (k : Nat) : ((xs.take k).map szF_De).sum ≤ (xs.map szF_De).sum := by
  have h := szF_De1_sum (xs.drop k)
  conv => rhs; rw [← List.take_append_drop k xs]
  rw [List.map_append, List.sum_append]; omega
theorem mkF_De1_nonneg (xs : List De) : 0 ≤ mkF_De1 xs := by
  unfold mkF_De1; induction xs with
  | nil => simp
  | cons r rs ih => simp only [List.map_cons, List.sum_cons]; have := mkF_De_nonneg r; omega
theorem mkF_De1_le (xs : List De) : mkF_De1 xs ≤ 16 * szF_De1 xs := by
  unfold mkF_De1 szF_De1; induction xs with
  | nil => simp
  | cons r rs ih => simp only [List.map_cons, List.sum_cons, List.length_cons]; have := mkF_De_le r; omega
theorem mkF_De1_snoc (xs : List De) (k : Nat) (h : k < xs.length) : mkF_De1 (xs.take (k + 1)) = mkF_De1 (xs.take k) + mkF_De xs[k] := by
  unfold mkF_De1; rw [List.take_succ_eq_append_getElem h, List.map_append, List.sum_append]; simp
theorem mkF_De1_take (xs : List De) (k : Nat) : mkF_De1 (xs.take k) ≤ mkF_De1 xs := by
  have h := mkF_De1_nonneg (xs.drop k)
  conv => rhs; rw [← List.take_append_drop k xs]
  unfold mkF_De1 at *; rw [List.map_append, List.sum_append]; omega
def up_De (k : Int) (x : De) : De := ⟨mtx (k), (k + 1), mkd_Pa1 (k + 1 + 1) x.body⟩
def mkd_De1 : Int → List De → List De
  | _, [] => []
  | k, r :: rs => up_De k r :: mkd_De1 (k + mkF_De r) rs
@[simp] theorem mkd_De1_length (k : Int) (xss : List De) : (mkd_De1 k xss).length = xss.length := by
  induction xss generalizing k with
  | nil => rfl
  | cons r rs ih => simp [mkd_De1, ih]
theorem mkd_De1_append (k : Int) (xs ys : List De) : mkd_De1 k (xs ++ ys) = mkd_De1 k xs ++ mkd_De1 (k + mkF_De1 xs) ys := by
  induction xs generalizing k with
  | nil => simp [mkd_De1, mkF_De1]
  | cons r rs ih => simp only [List.cons_append, mkd_De1, ih, mkF_De1, List.map_cons, List.sum_cons, Int.add_assoc]
theorem mkd_De1_set (xss : List De) (k0 : Int) (k : Nat) (hk : k < xss.length) :
    (mkd_De1 k0 (xss.take k) ++ xss.drop k).set k (up_De (k0 + mkF_De1 (xss.take k)) xss[k]) = mkd_De1 k0 (xss.take (k + 1)) ++ xss.drop (k + 1) := by
  have hl : (mkd_De1 k0 (xss.take k)).length = k := by simp; omega
  rw [List.set_append_right _ _ (by omega), hl, Nat.sub_self, List.drop_eq_getElem_cons hk, List.set_cons_zero, List.take_succ_eq_append_getElem hk, mkd_De1_append]
  simp [mkd_De1]
theorem mkd_De1_get (xss : List De) (k0 : Int) (k : Nat) (hk : k < xss.length) :
    (mkd_De1 k0 xss)[k]'(by simpa using hk) = up_De (k0 + mkF_De1 (xss.take k)) xss[k] := by
  have h : (mkd_De1 k0 xss)[k]? = some (up_De (k0 + mkF_De1 (xss.take k)) xss[k]) := by
    conv => lhs; rw [← List.take_append_drop k xss, mkd_De1_append, List.drop_eq_getElem_cons hk, mkd_De1]
    rw [List.getElem?_append_right (by simp; omega)]
    simp [Nat.min_eq_left (Nat.le_of_lt hk)]
  exact Option.some.inj ((List.getElem?_eq_getElem _).symm.trans h)

set_option maxRecDepth 20000 in
set_option maxHeartbeats 1600000 in
theorem sz_De1 (v : Value) (xs : List De) (left : Int) (w : World) (fp : List Nat) (hl : 0 ≤ left) (hl2 : left ≤ 1048576) (hR : R_De1 fp w [v] xs) (hS : De1Ok xs) :
    Calls Tryz.prog 45 #[v, .int .i64 left] w fun e w' => (∃ r : Int, e = .returned (.int .i64 r) ∧ (r = -1 ∨ (0 ≤ r ∧ r + szF_De1 xs = left))) ∧ Upd [] w w' := by
  obtain ⟨a, cap, rfl, h1, h2, hc⟩ := slQ_open hR
  unfold maxLen at h2
  have HS := Lib.hid hS
  have HC := Lib.hid hc
  clear hR hS hc
  by_cases hlt : left - (xs.length : Int) < 0
  · go_enter Tryz.func45, Tryz.ntmps45
    go_wp2_with fail
    go_ret
    exact ⟨⟨-1, rfl, Or.inl rfl⟩, Upd.refl _ _⟩
  · have hge : 0 ≤ left - (xs.length : Int) := by omega
    clear hlt
    go_enter Tryz.func45, Tryz.ntmps45
    go_wp2_with fail
    go_loopw [1, 5] (fun kk i wr => ∃ (k : Nat) (l : Int), k ≤ xs.length ∧ i = .int .i64 k ∧ kk = .int .i64 l ∧ 0 ≤ l ∧ l ≤ 1048576 ∧ Hid (l + xs.length + ((xs.take k).map szF_De).sum = left) ∧ Hid (Upd [] w wr)) (fun _ i _ => xs.length - (intOf i).toNat)
    case atStart => exact ⟨0, _, Nat.zero_le _, rfl, rfl, hge, by omega, Lib.hid (by simp), Lib.hid (Upd.refl _ _)⟩
    case round =>
      obtain ⟨wo, rfl⟩ : ∃ wo : World, wo = wr := ⟨_, rfl⟩
      obtain ⟨k, l, hk, rfl, rfl, hl0, hl9, HL, HU⟩ := hrel
      by_cases hlt : k < xs.length
      · obtain ⟨b, off, u, f, rfl, -, -, -, hcell, -, hr⟩ := HC.out k hlt
        have HR := Lib.hid (R_Dek.upd hr HU.out (by simp))
        obtain ⟨v2, f2, rfl, -, -⟩ := hr
        have p0 := HU.out.keep (hcell 0 _ rfl)
        have p1 := HU.out.keep (hcell 1 _ rfl)
        have p2 := HU.out.keep (hcell 2 _ rfl)
        simp only [Nat.add_zero] at p0
        have HT := Lib.hid (szF_De1_snoc xs k hlt)
        have HO := Lib.hid (HS.out xs[k] (List.getElem_mem hlt))
        clear hcell
        generalize hx : xs[k] = x at *
        clear hx
        have S1 := Lib.hid (sz_De _ x l wo f hl0 hl9 HR.out HO.out)
        have hzz := szF_De_nonneg x
        generalize szF_De x = zz at *
        go_wp2_with fail
        refine S1.out.mono ?_
        rintro e w1 ⟨⟨r, rfl, hr2⟩, hu⟩
        have HU1 := Lib.hid (HU.out.trans hu)
        clear S1 hu
        rcases hr2 with rfl | ⟨hr2, hr3⟩
        · go_wp2_with fail
          go_ret
          exact ⟨⟨-1, rfl, Or.inl rfl⟩, HU1.out⟩
        · have H3 := Lib.hid hr3
          have hr4 : r ≤ 1048576 := by omega
          clear hr3
          go_wp2_with fail
          go_roundw
          case rel => exact ⟨k + 1, r, by omega, by go_num, rfl, hr2, hr4, Lib.hid (by have := H3.out; have := HL.out; rw [HT.out]; omega), HU1⟩
          case measure => simp [intOf]; omega
      · obtain rfl : k = xs.length := by omega
        go_wp2_with fail
        go_ret
        exact ⟨⟨l, rfl, Or.inr ⟨hl0, by have := HL.out; rw [List.take_length] at this; unfold szF_De1; omega⟩⟩, HU.out⟩

theorem Tryz.infoDe : (Tryz.prog.info? 90).map (fun i => (i.zero, i.size, i.bytes)) = some (some (.agg #[.string ⟨#[]⟩, .int .i64 0, .slice none 0 0]), 3, 48) := by kernel_rfl
set_option maxRecDepth 20000 in
set_option maxHeartbeats 2000000 in
theorem to_De1 (v : Value) (xs : List De) (w : World) (fp : List Nat) (hl : szF_De1 xs ≤ 1048576) (hR : R_De1 fp w [v] xs) :
    Calls Tryz.prog 55 #[v] w fun e w' => (∃ v', e = .returned v' ∧ New R_De1 w w' v' xs) ∧ Upd [] w w' := by
  obtain ⟨i0, hi, hz0, hz1, hz2⟩ := info_parts Tryz.infoDe
  obtain ⟨a, cap, rfl, h1, h2, hc⟩ := slQ_open hR
  unfold maxLen at h2
  have htn := szF_De1_sum xs
  unfold szF_De1 at hl
  have HC := Lib.hid hc
  clear hR hc
  have hm1 : i0.bytes * xs.length ≤ 281474976710656 := by rw [hz2]; omega
  go_enter Tryz.func55, Tryz.ntmps55
  go_wp2_with (first
    | (at_make; refine wpList_make_full _ rfl _ _ 24 rfl w.heap.size 90 i0 (.agg #[.string ⟨#[]⟩, .int .i64 0, .slice none 0 0]) 3 Tryz.underlying24 hi hz0 hz1 .i64 .i64 _ _ xs.length rfl rfl rfl rfl hm1 (by unfold maxLen; omega) (Nat.le_refl _) ?_; intro w1 hown hgrow)
    | fail)
  have hmd := made_Q ([.string ⟨#[]⟩, .int .i64 0, .slice none 0 0] : List Value) (n := 3) rfl (by decide) xs.length
  rw [hmd] at hown
  have hsz : w.heap.size < w1.heap.size := hown.lt w.heap.size rfl |>.2
  have hU : Upd [] w w1 := (Upd.refl _ _).grown hgrow (by simp)
  clear hgrow hm1 hmd
  go_loopw [4] (fun i wr => ∃ (k : Nat) (us : List (List Value)), k ≤ xs.length ∧ i = .int .i64 k ∧ Hid (Upd [] w wr) ∧ w.heap.size < wr.heap.size ∧
      Hid (wr.ownsRow w.heap.size 90 3 (.slice (some ⟨w.heap.size, 0, none⟩) xs.length xs.length) xs.length (us.flatten ++ (List.replicate (xs.length - k) ([.string ⟨#[]⟩, .int .i64 0, .slice none 0 0] : List Value)).flatten)) ∧
      Hid (RowsQ 3 R_De w.heap.size [w.heap.size] wr us (xs.take k)))
    (fun i _ => xs.length - (intOf i).toNat)
  case atStart => exact ⟨0, [], Nat.zero_le _, rfl, Lib.hid hU, hsz, Lib.hid (by simpa using hown), Lib.hid (RowsQ.nil _ _ _ _ _)⟩
  case round =>
    clear hown hU hsz
    obtain ⟨wo, rfl⟩ : ∃ wo : World, wo = wr := ⟨_, rfl⟩
    obtain ⟨k, us, hk, rfl, HU, hsz, HO, HW⟩ := hrel
    have hlu : us.length = k := by have := HW.out.length; simp at this; omega
    by_cases hlt : k < xs.length
    · obtain ⟨b, off, u, f, rfl, -, -, -, hcell, -, hr⟩ := HC.out k hlt
      have HR := Lib.hid (R_Dek.upd hr HU.out (by simp))
      obtain ⟨v2, f2, rfl, -, -⟩ := hr
      have p0 := HU.out.keep (hcell 0 _ rfl)
      have p1 := HU.out.keep (hcell 1 _ rfl)
      have p2 := HU.out.keep (hcell 2 _ rfl)
      simp only [Nat.add_zero] at p0
      have hxl : szF_De xs[k] ≤ 1048576 := by
        have h1 := szF_De1_snoc xs k hlt
        have h2 := szF_De1_take xs (k + 1)
        have h3 := szF_De1_sum (xs.take k)
        omega
      have HTK := Lib.hid (List.take_succ_eq_append_getElem hlt)
      have HLU := Lib.hid hlu
      clear hcell hlu
      generalize hx : xs[k] = x at *
      clear hx
      have S1 := Lib.hid (to_De _ x wo f hxl HR.out)
      clear hxl
      go_wp2_with fail
      refine S1.out.mono ?_
      rintro e w2 ⟨⟨u2, rfl, hlen, hone, hnew⟩, hu2⟩
      have hown2 := ownsRow_upd HO.out hu2
      have hrep : (List.replicate (xs.length - k) ([.string ⟨#[]⟩, .int .i64 0, .slice none 0 0] : List Value)).flatten.length = (xs.length - k) * 3 := by
        rw [flat_len (n := 3) (by intro y hy; rw [(List.mem_replicate.1 hy).2]; rfl)]; simp
      have hfl : us.flatten.length = k * 3 := by rw [flat_len HW.out.each, HLU.out]
      have hth : w2.there w.heap.size (k * 3) u2.toArray.size := fun j hj => by
        have hj' : j < 3 := by simpa [hlen] using hj
        refine ⟨?_, hown2.frozenAt _⟩
        rw [hown2.cellAt (k * 3 + j) (by omega), List.getElem?_eq_getElem (by rw [List.length_append, hfl, hrep]; omega)]; rfl
      have hszz : (Tryz.prog.info? 90).map (·.size) = some u2.toArray.size := by rw [De_size]; simp [hlen]
      have hrun := run_storeCells_cells (P := Tryz.prog) w.heap.size (k * 3) u2 0 w2 (fun j hj => by simpa using (hth j (by simpa using hj)).1) (fun j hj => by simpa using (hth j (by simpa using hj)).2) (fun v hv => (Array.all_eq_true_iff_forall_mem.1 hone) v (by simpa using hv))
      simp only [Nat.add_zero] at hrun
      have hst := ownsRow_setCells u2 (k * 3) hown2 (by rw [hlen]; omega)
      rw [show xs.length - k = (xs.length - (k + 1)) + 1 by omega, ← HLU.out, filled_set us ([.string ⟨#[]⟩, .int .i64 0, .slice none 0 0] : List Value) _ 3 rfl HW.out.each u2 hlen, HLU.out] at hst
      have hw3 : Upd [w.heap.size] w2 (w2.setCells w.heap.size (k * 3) u2) := upd_setCells _ (Or.inr (by simp)) _ _ (Upd.refl _ _)
      have hrows2 := (HW.out.push R_Dek hu2 hnew hlen (by omega) (by simpa using hsz)).upd R_Dek hw3 (by simp)
      rw [← HTK.out] at hrows2
      have hU2 : Upd [] w (w2.setCells w.heap.size (k * 3) u2) := upd_setCells _ (Or.inl (Nat.le_refl _)) _ _ (HU.out.trans hu2)
      have hsz2 : w.heap.size < (w2.setCells w.heap.size (k * 3) u2).heap.size := by have := hu2.size; have := hw3.size; omega
      have HS := Lib.hid (And.intro hst (And.intro hrows2 hU2))
      clear hown2 hrep hfl hst hw3 hrows2 hU2 hnew hu2 S1 HO HW HU
      clear hth hszz hone
      go_wp2_with fail
      go_roundw
      case rel => exact ⟨k + 1, us ++ [u2], by omega, by go_num, Lib.hid HS.out.2.2, hsz2, Lib.hid HS.out.1, Lib.hid HS.out.2.1⟩
      case measure => simp [intOf]; omega
    · obtain rfl : k = xs.length := by omega
      go_wp2_with fail
      go_ret
      have hrows := HW.out
      have hown := HO.out
      rw [List.take_length] at hrows
      refine ⟨⟨_, rfl, hrows.new (e := 90) (by simpa using hown) (by simp [Value.ownBlock]) (Nat.le_refl _)⟩, HU.out⟩

set_option maxRecDepth 20000 in
set_option maxHeartbeats 2000000 in
theorem eq_De1 (v1 v2 : Value) (xs : List De) (w : World) (fp fp2 : List Nat) (h1 : R_De1 fp w [v1] xs) (h2 : R_De1 fp2 w [v2] xs) :
    Calls Tryz.prog 60 #[v1, v2] w fun e w' => e = .returned (.bool true) ∧ Upd [] w w' := by
  obtain ⟨a1, c1, rfl, hl1, hm1, hc1⟩ := slQ_open h1
  obtain ⟨a2, c2, rfl, hl2, hm2, hc2⟩ := slQ_open h2
  unfold maxLen at hm1 hm2
  have HC1 := Lib.hid hc1
  have HC2 := Lib.hid hc2
  have hbe : ((xs.length : Int) != (xs.length : Int)) = false := by simp
  clear h1 h2 hc1 hc2
  go_enter Tryz.func60, Tryz.ntmps60
  go_wp2_with fail
  go_loopw [5] (fun i wr => ∃ k : Nat, k ≤ xs.length ∧ i = .int .i64 k ∧ Hid (Upd [] w wr)) (fun i _ => xs.length - (intOf i).toNat)
  case atStart => exact ⟨0, Nat.zero_le _, rfl, Lib.hid (Upd.refl _ _)⟩
  case round =>
    obtain ⟨wo, rfl⟩ : ∃ wo : World, wo = wr := ⟨_, rfl⟩
    obtain ⟨k, hk, rfl, HU⟩ := hrel
    by_cases hlt : k < xs.length
    · obtain ⟨b1, o1, u, f, rfl, -, -, -, hcell, -, hr⟩ := HC1.out k hlt
      obtain ⟨b2, o2, u', f', rfl, -, -, -, hcell2, -, hr2⟩ := HC2.out k hlt
      have HR := Lib.hid (R_Dek.drewN (R_Dek.upd hr HU.out (by simp)))
      have HR2 := Lib.hid (R_Dek.drewN (R_Dek.upd hr2 HU.out (by simp)))
      obtain ⟨v2, f2, rfl, -, -⟩ := hr
      obtain ⟨u2, _, rfl, -, -⟩ := hr2
      have p0 := HU.out.keep (hcell 0 _ rfl)
      have p1 := HU.out.keep (hcell 1 _ rfl)
      have p2 := HU.out.keep (hcell 2 _ rfl)
      have q0 := HU.out.keep (hcell2 0 _ rfl)
      have q1 := HU.out.keep (hcell2 1 _ rfl)
      have q2 := HU.out.keep (hcell2 2 _ rfl)
      simp only [Nat.add_zero] at p0 q0
      clear hcell hcell2
      generalize hx : xs[k] = x at *
      clear hx
      have S1 := Lib.hid (fun W (hu : Upd [] wo W) => eq_De _ _ x W f f' (R_Dek.upd (HR.out 0) hu (by simp)) (R_Dek.upd (HR2.out 0) hu (by simp)))
      clear HR HR2
      obtain ⟨t0, ht0⟩ : ∃ t, t = es x.name := ⟨_, rfl⟩
      rw [← ht0] at p0 q0 S1
      clear ht0
      obtain ⟨t1, ht1⟩ : ∃ t, t = ei x.pars := ⟨_, rfl⟩
      rw [← ht1] at p1 q1 S1
      clear ht1
      go_wp2_with fail
      go_region_held3 (fun w' => w'.cell? ⟨b1, o1 + k * 3, none⟩ = some (t0) ∧ w'.cell? ⟨b1, o1 + k * 3 + 1, none⟩ = some (t1) ∧ w'.cell? ⟨b1, o1 + k * 3 + 2, none⟩ = some (v2) ∧ w'.cell? ⟨b2, o2 + k * 3, none⟩ = some (t0) ∧ w'.cell? ⟨b2, o2 + k * 3 + 1, none⟩ = some (t1) ∧ w'.cell? ⟨b2, o2 + k * 3 + 2, none⟩ = some (u2)) (go_keep) (((with_reducible refine (S1.out _ (by repeat (first | exact Upd.refl _ _ | refine Upd.drew ?_ | refine Upd.drewN ?_ _))).mono ?_); rintro e w1 ⟨rfl, hu1⟩; have a0 := hu1.keep p0; have b0 := hu1.keep q0; have a1 := hu1.keep p1; have b1 := hu1.keep q1; have a2 := hu1.keep p2; have b2 := hu1.keep q2; skip))
      all_goals
        have HU1 := Lib.hid (HU.out.drew.trans hu1)
        clear hu1 HU
        go_wp2_with fail
        go_roundw
        case rel => exact ⟨k + 1, by omega, by go_num, HU1⟩
        case measure => simp [intOf]; omega
    · have hge : xs.length ≤ k := by omega
      go_wp2_with fail
      go_ret
      exact ⟨rfl, HU.out⟩

end Go.Proofs.YtnchmnjkmhfleaaGreat

/-
  Bodies, marked: readings, and what the laws' helper functions return and make.
-/
namespace Go.Proofs.YtnchmnjkmhfleaaGreat
open Go.RowKit


set_option maxRecDepth 20000 in
set_option maxHeartbeats 4000000 in
theorem mark_Pa1 (v : Value) (xs : List Pa) (k0 : Int) (w : World) (fp : List Nat) (hk0 : 0 ≤ k0) (hk1 : k0 + mkF_Pa1 xs ≤ 4611686018427387904) (hR : R_Pa1 fp w [v] xs) (hO : Own fp w) :
    Calls Tryz.prog 111 #[v, .int .i64 k0] w fun e w' => e = .returned (.int .i64 (k0 + mkF_Pa1 xs)) ∧ R_Pa1 fp w' [v] (mkd_Pa1 k0 xs) ∧ Own fp w' ∧ Upd fp w w' := by
  obtain ⟨a, cap, rfl, h1, h2, -⟩ := slQ_open hR
  unfold maxLen at h2
  go_enter Tryz.func111, Tryz.ntmps111
  go_wp2_with fail
  go_loopw [1, 5] (fun kk i wr => ∃ (k : Nat) (q : Int), k ≤ xs.length ∧ i = .int .i64 k ∧ kk = .int .i64 q ∧ Hid (q = k0 + mkF_Pa1 (xs.take k)) ∧ Hid (Upd fp w wr) ∧ Hid (Own fp wr) ∧
      Hid (R_Pa1 fp wr [.slice a xs.length cap] (mkd_Pa1 k0 (xs.take k) ++ xs.drop k)))
    (fun _ i _ => xs.length - (intOf i).toNat)
  case atStart => exact ⟨0, k0, Nat.zero_le _, rfl, rfl, Lib.hid (by simp [mkF_Pa1]), Lib.hid (Upd.refl _ _), Lib.hid hO, Lib.hid (by simpa [mkd_Pa1] using hR)⟩
  case round =>
    clear hO hR
    obtain ⟨wo, rfl⟩ : ∃ wo : World, wo = wr := ⟨_, rfl⟩
    obtain ⟨k, q, hk, rfl, rfl, HQ, HU, HO, HF⟩ := hrel
    by_cases hlt : k < xs.length
    · obtain ⟨a', cap', b, off, u, f, hv, -, -, rfl, hb, hbl, hul, hcell, hsub, hbf, hr, hof, hob, hput⟩ := slQ_set R_Pak HF.out HO.out k (by simp; omega)
      simp only [Value.slice.injEq] at hv
      obtain ⟨rfl, -, rfl⟩ := hv
      have e : (mkd_Pa1 k0 (xs.take k) ++ xs.drop k)[k]'(by simp; omega) = xs[k] := by
        rw [List.getElem_append_right (by simp; omega)]; simp [Nat.min_eq_left hk]
      rw [e] at hr
      have hq0 : 0 ≤ q := by have := mkF_Pa1_nonneg (xs.take k); have := HQ.out; omega
      have hq1 : q + mkF_Pa xs[k] ≤ 4611686018427387904 := by
        have ht2 := mkF_Pa1_snoc xs k hlt
        have ht3 := mkF_Pa1_take xs (k + 1)
        have := HQ.out
        omega
      have HT := Lib.hid (mkF_Pa1_snoc xs k hlt)
      have HP := Lib.hid hput
      have HST := Lib.hid (mkd_Pa1_set xs k0 k hlt)
      rw [← HQ.out] at HST
      clear hput e HO
      generalize xs[k] = x at *
      have HMX := Lib.hid (show mkF_Pa x = 1 + 1 + 1 + mkF_T2 x.args from rfl)
      unfold mkF_Pa at hq1
      obtain ⟨v3, f3, rfl, h3, rfl⟩ := hr
      have hn3 := mkF_T2_nonneg x.args
      have o3 : Own f3 wo := by simpa using hof
      have p0 := hcell 0 _ rfl
      have p1 := hcell 1 _ rfl
      have p2 := hcell 2 _ rfl
      have p3 := hcell 3 _ rfl
      simp only [Nat.add_zero] at p0
      have nb3 : b ∉ f3 := fun h => hbf (by simp [h])
      have HB := Lib.hid (And.intro hsub (And.intro hbf hob))
      have hB := hob
      have UA := Lib.hid (Upd.refl (b :: (f3 ++ [])) wo)
      have FAR := Lib.hid (FarEq.refl wo b (off + k * 4) (off + k * 4 + 4))
      have hbz := hbl
      clear hcell hsub hob hof
      have fz := hB.frozen (b := b) (by simp) (off + k * 4)
      obtain ⟨nx0, htx⟩ : ∃ nx, nx = q := ⟨_, rfl⟩
      have HTX0 := Lib.hid htx
      obtain ⟨W0, hW0⟩ : ∃ W0, W0 = wo.setCell ⟨b, off + k * 4, none⟩ (ei nx0) := ⟨_, rfl⟩
      have hu2 : Upd [b] wo W0 := by rw [hW0]; exact (Upd.refl _ _).setCell (Or.inr (by simp)) _
      have hc2 : W0.cell? ⟨b, off + k * 4, none⟩ = some (ei nx0) := by rw [hW0]; exact World.cell?_setCell_same _ _ _ p0
      have hc3 : ∀ o, o ≠ off + k * 4 → W0.cell? ⟨b, o, none⟩ = wo.cell? ⟨b, o, none⟩ := fun o ho => by rw [hW0]; exact World.cell?_setCell_other _ _ _ _ (by intro h; simp only [Addr.mk.injEq] at h; omega)
      have hB2 : Own [b] W0 := by rw [hW0]; exact hB.setCell _ _
      rw [htx] at hW0
      clear htx
      go_upto_region 5 with (fail)
      rw [← hW0]
      clear fz hB
      replace h3 := R_T2k.upd h3 hu2 (by intro c hc h; simp at h; subst h; exact nb3 hc)
      replace o3 := o3.upd hu2 (by intro c hc h; simp at h; subst h; exact nb3 hc)
      replace p1 := (hc3 _ (by omega)).trans p1
      replace p2 := (hc3 _ (by omega)).trans p2
      replace p3 := (hc3 _ (by omega)).trans p3
      replace p0 := hc2
      have hB := hB2
      replace FAR := Lib.hid (FAR.out.put hc3 (by omega))
      replace hbz := Nat.lt_of_lt_of_le hbz hu2.size
      replace UA := Lib.hid (UA.out.trans (hu2.mono (by intro c hc; simp at hc; simp [hc])))
      clear hu2 hc2 hc3 hB2 hW0
      have fz := hB.frozen (b := b) (by simp) (off + k * 4 + 1)
      obtain ⟨nx1, htx⟩ : ∃ nx, nx = q + 1 := ⟨_, rfl⟩
      have HTX1 := Lib.hid htx
      obtain ⟨W1, hW1⟩ : ∃ W1, W1 = W0.setCell ⟨b, off + k * 4 + 1, none⟩ (ei nx1) := ⟨_, rfl⟩
      have hu2 : Upd [b] W0 W1 := by rw [hW1]; exact (Upd.refl _ _).setCell (Or.inr (by simp)) _
      have hc2 : W1.cell? ⟨b, off + k * 4 + 1, none⟩ = some (ei nx1) := by rw [hW1]; exact World.cell?_setCell_same _ _ _ p1
      have hc3 : ∀ o, o ≠ off + k * 4 + 1 → W1.cell? ⟨b, o, none⟩ = W0.cell? ⟨b, o, none⟩ := fun o ho => by rw [hW1]; exact World.cell?_setCell_other _ _ _ _ (by intro h; simp only [Addr.mk.injEq] at h; omega)
      have hB2 : Own [b] W1 := by rw [hW1]; exact hB.setCell _ _
      rw [htx] at hW1
      clear htx
      go_upto_region 7 with (fail)
      rw [← hW1]
      clear fz hB
      replace h3 := R_T2k.upd h3 hu2 (by intro c hc h; simp at h; subst h; exact nb3 hc)
      replace o3 := o3.upd hu2 (by intro c hc h; simp at h; subst h; exact nb3 hc)
      replace p0 := (hc3 _ (by omega)).trans p0
      replace p2 := (hc3 _ (by omega)).trans p2
      replace p3 := (hc3 _ (by omega)).trans p3
      replace p1 := hc2
      have hB := hB2
      replace FAR := Lib.hid (FAR.out.put hc3 (by omega))
      replace hbz := Nat.lt_of_lt_of_le hbz hu2.size
      replace UA := Lib.hid (UA.out.trans (hu2.mono (by intro c hc; simp at hc; simp [hc])))
      clear hu2 hc2 hc3 hB2 hW1
      have M2 := Lib.hid (markText (q + 1 + 1) W1 (by omega) (by omega))
      have fz := hB.frozen (b := b) (by simp) (off + k * 4 + 2)
      go_wp2_with fail
      refine M2.out.mono ?_
      rintro e w2 ⟨rfl, hu⟩
      clear M2 fz
      replace h3 := R_T2k.upd h3 hu (by simp)
      replace o3 := o3.upd hu (by simp)
      replace p0 := hu.keep p0
      replace p1 := hu.keep p1
      replace p2 := hu.keep p2
      replace p3 := hu.keep p3
      replace hB := hB.upd hu (by simp)
      replace FAR := Lib.hid (FAR.out.upd hu (by simp) hbz)
      replace hbz := Nat.lt_of_lt_of_le hbz hu.size
      replace UA := Lib.hid (UA.out.trans (hu.mono (by simp)))
      have fz := hB.frozen (b := b) (by simp) (off + k * 4 + 2)
      obtain ⟨tx2, htx⟩ : ∃ tx, tx = mtx (q + 1 + 1) := ⟨_, rfl⟩
      rw [← htx]
      have HTX2 := Lib.hid htx
      obtain ⟨W2, hW2⟩ : ∃ W2, W2 = w2.setCell ⟨b, off + k * 4 + 2, none⟩ (es tx2) := ⟨_, rfl⟩
      have hu2 : Upd [b] w2 W2 := by rw [hW2]; exact (Upd.refl _ _).setCell (Or.inr (by simp)) _
      have hc2 : W2.cell? ⟨b, off + k * 4 + 2, none⟩ = some (es tx2) := by rw [hW2]; exact World.cell?_setCell_same _ _ _ p2
      have hc3 : ∀ o, o ≠ off + k * 4 + 2 → W2.cell? ⟨b, o, none⟩ = w2.cell? ⟨b, o, none⟩ := fun o ho => by rw [hW2]; exact World.cell?_setCell_other _ _ _ _ (by intro h; simp only [Addr.mk.injEq] at h; omega)
      have hB2 : Own [b] W2 := by rw [hW2]; exact hB.setCell _ _
      clear htx hu
      go_upto_region 9 with (fail)
      rw [← hW2]
      clear fz hB
      replace h3 := R_T2k.upd h3 hu2 (by intro c hc h; simp at h; subst h; exact nb3 hc)
      replace o3 := o3.upd hu2 (by intro c hc h; simp at h; subst h; exact nb3 hc)
      replace p0 := (hc3 _ (by omega)).trans p0
      replace p1 := (hc3 _ (by omega)).trans p1
      replace p3 := (hc3 _ (by omega)).trans p3
      replace p2 := hc2
      have hB := hB2
      replace FAR := Lib.hid (FAR.out.put hc3 (by omega))
      replace hbz := Nat.lt_of_lt_of_le hbz hu2.size
      replace UA := Lib.hid (UA.out.trans (hu2.mono (by intro c hc; simp at hc; simp [hc])))
      clear hu2 hc2 hc3 hB2 hW2
      have M3 := Lib.hid (mark_T2 v3 x.args (q + 1 + 1 + 1) W2 f3 (by omega) (by omega) h3 o3)
      clear h3 o3
      go_wp2_with fail
      refine M3.out.mono ?_
      rintro e w3 ⟨rfl, h3, o3, hu⟩
      clear M3
      replace p0 := hu.keepF nb3 p0
      replace p1 := hu.keepF nb3 p1
      replace p2 := hu.keepF nb3 p2
      replace p3 := hu.keepF nb3 p3
      replace hB := hB.upd hu (by intro c hc h; simp at hc; subst hc; exact nb3 h)
      replace FAR := Lib.hid (FAR.out.upd hu nb3 hbz)
      replace hbz := Nat.lt_of_lt_of_le hbz hu.size
      replace UA := Lib.hid (UA.out.trans (hu.mono (by intro c hc; simp [hc])))
      clear hu
      have hRN : R_Pa (f3 ++ []) w3 [ei nx0, ei nx1, es tx2, v3] (up_Pa q x) := by
        exact ⟨v3, f3, by rw [HTX0.out, HTX1.out, HTX2.out]; rfl, h3, rfl⟩
      have hP := HP.out w3 (up_Pa q x) [ei nx0, ei nx1, es tx2, v3] UA.out (fun o ho => FAR.out o ho) rfl (fun j c hj => by
        match j, hj with
        | 0, hj => cases hj; exact p0
        | 1, hj => cases hj; exact p1
        | 2, hj => cases hj; exact p2
        | 3, hj => cases hj; exact p3
        ) hRN (by simpa using o3) hB
      rw [HST.out] at hP
      have hsub2 : ∀ c ∈ b :: (f3 ++ []), c ∈ fp := fun c hc => by
        rcases List.mem_cons.1 hc with rfl | h
        · exact hb
        · exact HB.out.1 c h
      have HE := Lib.hid (And.intro hP (HU.out.trans (UA.out.mono hsub2)))
      have hacc : q + 1 + 1 + 1 + mkF_T2 x.args = q + mkF_Pa x := by rw [HMX.out]; omega
      have HACC := Lib.hid hacc
      clear hP hRN hsub2 hacc h3 o3 hB p0 p1 p2 p3 UA FAR HP HB
      go_wp2_with fail
      go_roundw
      case rel => exact ⟨k + 1, _, by omega, by go_num, rfl, Lib.hid (by have := HACC.out; rw [HT.out]; have := HQ.out; omega), Lib.hid HE.out.2, Lib.hid HE.out.1.2, Lib.hid HE.out.1.1⟩
      case measure => simp [intOf]; omega
    · obtain rfl : k = xs.length := by omega
      have hq := HQ.out
      rw [List.take_length] at hq
      subst hq
      go_wp2_with fail
      go_ret
      exact ⟨rfl, by simpa using HF.out, HO.out, HU.out⟩

set_option maxRecDepth 20000 in
set_option maxHeartbeats 4000000 in
theorem held_Pa1 (v : Value) (xs : List Pa) (k0 : Int) (w : World) (fp : List Nat) (hk0 : 0 ≤ k0) (hk1 : k0 + mkF_Pa1 xs ≤ 4611686018427387904) (hR : R_Pa1 fp w [v] (mkd_Pa1 k0 xs)) :
    Calls Tryz.prog 112 #[v, .int .i64 k0] w fun e w' => e = .returned (.int .i64 (k0 + mkF_Pa1 xs)) ∧ Upd [] w w' := by
  obtain ⟨a, cap, rfl, h1, h2, hc⟩ := slQ_open hR
  simp only [mkd_Pa1_length] at *
  unfold maxLen at h2
  have HC := Lib.hid hc
  clear hR hc
  go_enter Tryz.func112, Tryz.ntmps112
  go_wp2_with fail
  go_loopw [1, 5] (fun kk i wr => ∃ (k : Nat) (q : Int), k ≤ xs.length ∧ i = .int .i64 k ∧ kk = .int .i64 q ∧ Hid (q = k0 + mkF_Pa1 (xs.take k)) ∧ Hid (Upd [] w wr)) (fun _ i _ => xs.length - (intOf i).toNat)
  case atStart => exact ⟨0, k0, Nat.zero_le _, rfl, rfl, Lib.hid (by simp [mkF_Pa1]), Lib.hid (Upd.refl _ _)⟩
  case round =>
    obtain ⟨wo, rfl⟩ : ∃ wo : World, wo = wr := ⟨_, rfl⟩
    obtain ⟨k, q, hk, rfl, rfl, HQ, HU⟩ := hrel
    by_cases hlt : k < xs.length
    · obtain ⟨b, off, u, f, rfl, -, -, -, hcell, -, hr⟩ := HC.out k (by simpa using hlt)
      rw [mkd_Pa1_get xs k0 k hlt, ← HQ.out] at hr
      have hq0 : 0 ≤ q := by have := mkF_Pa1_nonneg (xs.take k); have := HQ.out; omega
      have hq1 : q + mkF_Pa xs[k] ≤ 4611686018427387904 := by
        have ht2 := mkF_Pa1_snoc xs k hlt
        have ht3 := mkF_Pa1_take xs (k + 1)
        have := HQ.out
        omega
      have HT := Lib.hid (mkF_Pa1_snoc xs k hlt)
      generalize xs[k] = x at *
      have HMX := Lib.hid (show mkF_Pa x = 1 + 1 + 1 + mkF_T2 x.args from rfl)
      unfold mkF_Pa at hq1
      have hr := R_Pak.upd hr HU.out (by simp)
      obtain ⟨v3, f3, rfl, h3, rfl⟩ := hr
      have hn3 := mkF_T2_nonneg x.args
      have p0 := HU.out.keep (hcell 0 _ rfl)
      have p1 := HU.out.keep (hcell 1 _ rfl)
      have p2 := HU.out.keep (hcell 2 _ rfl)
      have p3 := HU.out.keep (hcell 3 _ rfl)
      simp only [Nat.add_zero] at p0
      clear hcell
      replace p0 : wo.cell? ⟨b, off + k * 4, none⟩ = some (ei (q)) := p0
      have hbq0 : ((q) != (q)) = false := by simp
      replace p1 : wo.cell? ⟨b, off + k * 4 + 1, none⟩ = some (ei (q + 1)) := p1
      have hbq1 : ((q + 1) != (q + 1)) = false := by simp
      have M2 := Lib.hid (fun W => markText (q + 1 + 1) W (by omega) (by omega))
      replace p2 : wo.cell? ⟨b, off + k * 4 + 2, none⟩ = some (es (mtx (q + 1 + 1))) := p2
      obtain ⟨tx, htx⟩ : ∃ tx, tx = mtx (q + 1 + 1) := ⟨_, rfl⟩
      rw [← htx] at p2 M2
      have hbq : (tx != tx) = false := by simp
      clear htx
      go_wp2_with fail
      go_region_held3 (fun w' => w'.cell? ⟨b, off + k * 4 + 2, none⟩ = some (es tx)) (go_keep) (((with_reducible refine (M2.out _).mono ?_); rintro e w2 ⟨rfl, hu⟩; have t1 := hu.keep p2))
      replace hu := ((Upd.refl [] wo).drew).trans hu
      clear M2 t1 hbq
      replace h3 := R_T2k.upd h3 hu (by simp)
      replace p3 := hu.keep p3
      replace HU := Lib.hid (HU.out.trans hu)
      clear hu
      have M3 := Lib.hid (held_T2 v3 x.args (q + 1 + 1 + 1) w2 f3 (by omega) (by omega) h3)
      clear h3
      go_wp2_with fail
      refine M3.out.mono ?_
      rintro e w3 ⟨rfl, rfl⟩
      clear M3
      have hacc : q + 1 + 1 + 1 + mkF_T2 x.args = q + mkF_Pa x := by rw [HMX.out]; omega
      have HACC := Lib.hid hacc
      clear hacc
      go_wp2_with fail
      go_roundw
      case rel => exact ⟨k + 1, _, by omega, by go_num, rfl, Lib.hid (by have := HACC.out; rw [HT.out]; have := HQ.out; omega), HU⟩
      case measure => simp [intOf]; omega
    · obtain rfl : k = xs.length := by omega
      have hq := HQ.out
      rw [List.take_length] at hq
      subst hq
      go_wp2_with fail
      go_ret
      exact ⟨rfl, HU.out⟩

end Go.Proofs.YtnchmnjkmhfleaaGreat

/-
  Lists of definitions, marked: readings, and what the laws' helper functions return and make.
-/
namespace Go.Proofs.YtnchmnjkmhfleaaGreat
open Go.RowKit


set_option maxRecDepth 20000 in
set_option maxHeartbeats 4000000 in
theorem mark_De1 (v : Value) (xs : List De) (k0 : Int) (w : World) (fp : List Nat) (hk0 : 0 ≤ k0) (hk1 : k0 + mkF_De1 xs ≤ 4611686018427387904) (hR : R_De1 fp w [v] xs) (hO : Own fp w) :
    Calls Tryz.prog 65 #[v, .int .i64 k0] w fun e w' => e = .returned (.int .i64 (k0 + mkF_De1 xs)) ∧ R_De1 fp w' [v] (mkd_De1 k0 xs) ∧ Own fp w' ∧ Upd fp w w' := by
  obtain ⟨a, cap, rfl, h1, h2, -⟩ := slQ_open hR
  unfold maxLen at h2
  go_enter Tryz.func65, Tryz.ntmps65
  go_wp2_with fail
  go_loopw [1, 5] (fun kk i wr => ∃ (k : Nat) (q : Int), k ≤ xs.length ∧ i = .int .i64 k ∧ kk = .int .i64 q ∧ Hid (q = k0 + mkF_De1 (xs.take k)) ∧ Hid (Upd fp w wr) ∧ Hid (Own fp wr) ∧
      Hid (R_De1 fp wr [.slice a xs.length cap] (mkd_De1 k0 (xs.take k) ++ xs.drop k)))
    (fun _ i _ => xs.length - (intOf i).toNat)
  case atStart => exact ⟨0, k0, Nat.zero_le _, rfl, rfl, Lib.hid (by simp [mkF_De1]), Lib.hid (Upd.refl _ _), Lib.hid hO, Lib.hid (by simpa [mkd_De1] using hR)⟩
  case round =>
    clear hO hR
    obtain ⟨wo, rfl⟩ : ∃ wo : World, wo = wr := ⟨_, rfl⟩
    obtain ⟨k, q, hk, rfl, rfl, HQ, HU, HO, HF⟩ := hrel
    by_cases hlt : k < xs.length
    · obtain ⟨a', cap', b, off, u, f, hv, -, -, rfl, hb, hbl, hul, hcell, hsub, hbf, hr, hof, hob, hput⟩ := slQ_set R_Dek HF.out HO.out k (by simp; omega)
      simp only [Value.slice.injEq] at hv
      obtain ⟨rfl, -, rfl⟩ := hv
      have e : (mkd_De1 k0 (xs.take k) ++ xs.drop k)[k]'(by simp; omega) = xs[k] := by
        rw [List.getElem_append_right (by simp; omega)]; simp [Nat.min_eq_left hk]
      rw [e] at hr
      have hq0 : 0 ≤ q := by have := mkF_De1_nonneg (xs.take k); have := HQ.out; omega
      have hq1 : q + mkF_De xs[k] ≤ 4611686018427387904 := by
        have ht2 := mkF_De1_snoc xs k hlt
        have ht3 := mkF_De1_take xs (k + 1)
        have := HQ.out
        omega
      have HT := Lib.hid (mkF_De1_snoc xs k hlt)
      have HP := Lib.hid hput
      have HST := Lib.hid (mkd_De1_set xs k0 k hlt)
      rw [← HQ.out] at HST
      clear hput e HO
      generalize xs[k] = x at *
      have HMX := Lib.hid (show mkF_De x = 1 + 1 + mkF_Pa1 x.body from rfl)
      unfold mkF_De at hq1
      obtain ⟨v2, f2, rfl, h2, rfl⟩ := hr
      have hn2 := mkF_Pa1_nonneg x.body
      have o2 : Own f2 wo := by simpa using hof
      have p0 := hcell 0 _ rfl
      have p1 := hcell 1 _ rfl
      have p2 := hcell 2 _ rfl
      simp only [Nat.add_zero] at p0
      have nb2 : b ∉ f2 := fun h => hbf (by simp [h])
      have HB := Lib.hid (And.intro hsub (And.intro hbf hob))
      have hB := hob
      have UA := Lib.hid (Upd.refl (b :: (f2 ++ [])) wo)
      have FAR := Lib.hid (FarEq.refl wo b (off + k * 3) (off + k * 3 + 3))
      have hbz := hbl
      clear hcell hsub hob hof
      have M0 := Lib.hid (markText (q) wo (by omega) (by omega))
      have fz := hB.frozen (b := b) (by simp) (off + k * 3)
      go_wp2_with fail
      refine M0.out.mono ?_
      rintro e w0 ⟨rfl, hu⟩
      clear M0 fz
      replace h2 := R_Pa1k.upd h2 hu (by simp)
      replace o2 := o2.upd hu (by simp)
      replace p0 := hu.keep p0
      replace p1 := hu.keep p1
      replace p2 := hu.keep p2
      replace hB := hB.upd hu (by simp)
      replace FAR := Lib.hid (FAR.out.upd hu (by simp) hbz)
      replace hbz := Nat.lt_of_lt_of_le hbz hu.size
      replace UA := Lib.hid (UA.out.trans (hu.mono (by simp)))
      have fz := hB.frozen (b := b) (by simp) (off + k * 3)
      obtain ⟨tx0, htx⟩ : ∃ tx, tx = mtx (q) := ⟨_, rfl⟩
      rw [← htx]
      have HTX0 := Lib.hid htx
      obtain ⟨W0, hW0⟩ : ∃ W0, W0 = w0.setCell ⟨b, off + k * 3, none⟩ (es tx0) := ⟨_, rfl⟩
      have hu2 : Upd [b] w0 W0 := by rw [hW0]; exact (Upd.refl _ _).setCell (Or.inr (by simp)) _
      have hc2 : W0.cell? ⟨b, off + k * 3, none⟩ = some (es tx0) := by rw [hW0]; exact World.cell?_setCell_same _ _ _ p0
      have hc3 : ∀ o, o ≠ off + k * 3 → W0.cell? ⟨b, o, none⟩ = w0.cell? ⟨b, o, none⟩ := fun o ho => by rw [hW0]; exact World.cell?_setCell_other _ _ _ _ (by intro h; simp only [Addr.mk.injEq] at h; omega)
      have hB2 : Own [b] W0 := by rw [hW0]; exact hB.setCell _ _
      clear htx hu
      go_upto_region 5 with (fail)
      rw [← hW0]
      clear fz hB
      replace h2 := R_Pa1k.upd h2 hu2 (by intro c hc h; simp at h; subst h; exact nb2 hc)
      replace o2 := o2.upd hu2 (by intro c hc h; simp at h; subst h; exact nb2 hc)
      replace p1 := (hc3 _ (by omega)).trans p1
      replace p2 := (hc3 _ (by omega)).trans p2
      replace p0 := hc2
      have hB := hB2
      replace FAR := Lib.hid (FAR.out.put hc3 (by omega))
      replace hbz := Nat.lt_of_lt_of_le hbz hu2.size
      replace UA := Lib.hid (UA.out.trans (hu2.mono (by intro c hc; simp at hc; simp [hc])))
      clear hu2 hc2 hc3 hB2 hW0
      have fz := hB.frozen (b := b) (by simp) (off + k * 3 + 1)
      obtain ⟨nx1, htx⟩ : ∃ nx, nx = q + 1 := ⟨_, rfl⟩
      have HTX1 := Lib.hid htx
      obtain ⟨W1, hW1⟩ : ∃ W1, W1 = W0.setCell ⟨b, off + k * 3 + 1, none⟩ (ei nx1) := ⟨_, rfl⟩
      have hu2 : Upd [b] W0 W1 := by rw [hW1]; exact (Upd.refl _ _).setCell (Or.inr (by simp)) _
      have hc2 : W1.cell? ⟨b, off + k * 3 + 1, none⟩ = some (ei nx1) := by rw [hW1]; exact World.cell?_setCell_same _ _ _ p1
      have hc3 : ∀ o, o ≠ off + k * 3 + 1 → W1.cell? ⟨b, o, none⟩ = W0.cell? ⟨b, o, none⟩ := fun o ho => by rw [hW1]; exact World.cell?_setCell_other _ _ _ _ (by intro h; simp only [Addr.mk.injEq] at h; omega)
      have hB2 : Own [b] W1 := by rw [hW1]; exact hB.setCell _ _
      rw [htx] at hW1
      clear htx
      go_upto_region 7 with (fail)
      rw [← hW1]
      clear fz hB
      replace h2 := R_Pa1k.upd h2 hu2 (by intro c hc h; simp at h; subst h; exact nb2 hc)
      replace o2 := o2.upd hu2 (by intro c hc h; simp at h; subst h; exact nb2 hc)
      replace p0 := (hc3 _ (by omega)).trans p0
      replace p2 := (hc3 _ (by omega)).trans p2
      replace p1 := hc2
      have hB := hB2
      replace FAR := Lib.hid (FAR.out.put hc3 (by omega))
      replace hbz := Nat.lt_of_lt_of_le hbz hu2.size
      replace UA := Lib.hid (UA.out.trans (hu2.mono (by intro c hc; simp at hc; simp [hc])))
      clear hu2 hc2 hc3 hB2 hW1
      have M2 := Lib.hid (mark_Pa1 v2 x.body (q + 1 + 1) W1 f2 (by omega) (by omega) h2 o2)
      clear h2 o2
      go_wp2_with fail
      refine M2.out.mono ?_
      rintro e w2 ⟨rfl, h2, o2, hu⟩
      clear M2
      replace p0 := hu.keepF nb2 p0
      replace p1 := hu.keepF nb2 p1
      replace p2 := hu.keepF nb2 p2
      replace hB := hB.upd hu (by intro c hc h; simp at hc; subst hc; exact nb2 h)
      replace FAR := Lib.hid (FAR.out.upd hu nb2 hbz)
      replace hbz := Nat.lt_of_lt_of_le hbz hu.size
      replace UA := Lib.hid (UA.out.trans (hu.mono (by intro c hc; simp [hc])))
      clear hu
      have hRN : R_De (f2 ++ []) w2 [es tx0, ei nx1, v2] (up_De q x) := by
        exact ⟨v2, f2, by rw [HTX0.out, HTX1.out]; rfl, h2, rfl⟩
      have hP := HP.out w2 (up_De q x) [es tx0, ei nx1, v2] UA.out (fun o ho => FAR.out o ho) rfl (fun j c hj => by
        match j, hj with
        | 0, hj => cases hj; exact p0
        | 1, hj => cases hj; exact p1
        | 2, hj => cases hj; exact p2
        ) hRN (by simpa using o2) hB
      rw [HST.out] at hP
      have hsub2 : ∀ c ∈ b :: (f2 ++ []), c ∈ fp := fun c hc => by
        rcases List.mem_cons.1 hc with rfl | h
        · exact hb
        · exact HB.out.1 c h
      have HE := Lib.hid (And.intro hP (HU.out.trans (UA.out.mono hsub2)))
      have hacc : q + 1 + 1 + mkF_Pa1 x.body = q + mkF_De x := by rw [HMX.out]; omega
      have HACC := Lib.hid hacc
      clear hP hRN hsub2 hacc h2 o2 hB p0 p1 p2 UA FAR HP HB
      go_wp2_with fail
      go_roundw
      case rel => exact ⟨k + 1, _, by omega, by go_num, rfl, Lib.hid (by have := HACC.out; rw [HT.out]; have := HQ.out; omega), Lib.hid HE.out.2, Lib.hid HE.out.1.2, Lib.hid HE.out.1.1⟩
      case measure => simp [intOf]; omega
    · obtain rfl : k = xs.length := by omega
      have hq := HQ.out
      rw [List.take_length] at hq
      subst hq
      go_wp2_with fail
      go_ret
      exact ⟨rfl, by simpa using HF.out, HO.out, HU.out⟩

set_option maxRecDepth 20000 in
set_option maxHeartbeats 4000000 in
theorem held_De1 (v : Value) (xs : List De) (k0 : Int) (w : World) (fp : List Nat) (hk0 : 0 ≤ k0) (hk1 : k0 + mkF_De1 xs ≤ 4611686018427387904) (hR : R_De1 fp w [v] (mkd_De1 k0 xs)) :
    Calls Tryz.prog 70 #[v, .int .i64 k0] w fun e w' => e = .returned (.int .i64 (k0 + mkF_De1 xs)) ∧ Upd [] w w' := by
  obtain ⟨a, cap, rfl, h1, h2, hc⟩ := slQ_open hR
  simp only [mkd_De1_length] at *
  unfold maxLen at h2
  have HC := Lib.hid hc
  clear hR hc
  go_enter Tryz.func70, Tryz.ntmps70
  go_wp2_with fail
  go_loopw [1, 5] (fun kk i wr => ∃ (k : Nat) (q : Int), k ≤ xs.length ∧ i = .int .i64 k ∧ kk = .int .i64 q ∧ Hid (q = k0 + mkF_De1 (xs.take k)) ∧ Hid (Upd [] w wr)) (fun _ i _ => xs.length - (intOf i).toNat)
  case atStart => exact ⟨0, k0, Nat.zero_le _, rfl, rfl, Lib.hid (by simp [mkF_De1]), Lib.hid (Upd.refl _ _)⟩
  case round =>
    obtain ⟨wo, rfl⟩ : ∃ wo : World, wo = wr := ⟨_, rfl⟩
    obtain ⟨k, q, hk, rfl, rfl, HQ, HU⟩ := hrel
    by_cases hlt : k < xs.length
    · obtain ⟨b, off, u, f, rfl, -, -, -, hcell, -, hr⟩ := HC.out k (by simpa using hlt)
      rw [mkd_De1_get xs k0 k hlt, ← HQ.out] at hr
      have hq0 : 0 ≤ q := by have := mkF_De1_nonneg (xs.take k); have := HQ.out; omega
      have hq1 : q + mkF_De xs[k] ≤ 4611686018427387904 := by
        have ht2 := mkF_De1_snoc xs k hlt
        have ht3 := mkF_De1_take xs (k + 1)
        have := HQ.out
        omega
      have HT := Lib.hid (mkF_De1_snoc xs k hlt)
      generalize xs[k] = x at *
      have HMX := Lib.hid (show mkF_De x = 1 + 1 + mkF_Pa1 x.body from rfl)
      unfold mkF_De at hq1
      have hr := R_Dek.upd hr HU.out (by simp)
      obtain ⟨v2, f2, rfl, h2, rfl⟩ := hr
      have hn2 := mkF_Pa1_nonneg x.body
      have p0 := HU.out.keep (hcell 0 _ rfl)
      have p1 := HU.out.keep (hcell 1 _ rfl)
      have p2 := HU.out.keep (hcell 2 _ rfl)
      simp only [Nat.add_zero] at p0
      clear hcell
      have M0 := Lib.hid (fun W => markText (q) W (by omega) (by omega))
      replace p0 : wo.cell? ⟨b, off + k * 3, none⟩ = some (es (mtx (q))) := p0
      obtain ⟨tx, htx⟩ : ∃ tx, tx = mtx (q) := ⟨_, rfl⟩
      rw [← htx] at p0 M0
      have hbq : (tx != tx) = false := by simp
      clear htx
      go_wp2_with fail
      go_region_held3 (fun w' => w'.cell? ⟨b, off + k * 3, none⟩ = some (es tx)) (go_keep) (((with_reducible refine (M0.out _).mono ?_); rintro e w0 ⟨rfl, hu⟩; have t1 := hu.keep p0))
      replace hu := ((Upd.refl [] wo).drew).trans hu
      clear M0 t1 hbq
      replace h2 := R_Pa1k.upd h2 hu (by simp)
      replace p1 := hu.keep p1
      replace p2 := hu.keep p2
      replace HU := Lib.hid (HU.out.trans hu)
      clear hu
      replace p1 : w0.cell? ⟨b, off + k * 3 + 1, none⟩ = some (ei (q + 1)) := p1
      have hbq1 : ((q + 1) != (q + 1)) = false := by simp
      have M2 := Lib.hid (held_Pa1 v2 x.body (q + 1 + 1) w0 f2 (by omega) (by omega) h2)
      clear h2
      go_wp2_with fail
      refine M2.out.mono ?_
      rintro e w2 ⟨rfl, hu⟩
      clear M2
      replace HU := Lib.hid (HU.out.trans hu)
      clear hu
      have hacc : q + 1 + 1 + mkF_Pa1 x.body = q + mkF_De x := by rw [HMX.out]; omega
      have HACC := Lib.hid hacc
      clear hacc
      go_wp2_with fail
      go_roundw
      case rel => exact ⟨k + 1, _, by omega, by go_num, rfl, Lib.hid (by have := HACC.out; rw [HT.out]; have := HQ.out; omega), HU⟩
      case measure => simp [intOf]; omega
    · obtain rfl : k = xs.length := by omega
      have hq := HQ.out
      rw [List.take_length] at hq
      subst hq
      go_wp2_with fail
      go_ret
      exact ⟨rfl, HU.out⟩

end Go.Proofs.YtnchmnjkmhfleaaGreat

/-
  Components: readings, and what the laws' helper functions return and make.
-/
namespace Go.Proofs.YtnchmnjkmhfleaaGreat
open Go.RowKit

/-- its 2 cells. -/
def R_Co : Rp Co := fun fp w cs x => ∃ (v1 : Value) (f1 : List Nat), cs = [ei x.dfn, v1] ∧ R_I1 f1 w [v1] x.vals ∧ fp = f1 ++ []
theorem R_Cok : Kept R_Co := by
  constructor
  · rintro fp w cs x ⟨v1, f1, rfl, h1, rfl⟩ b hb
    exact R_I1k.lt h1 b (by simpa using hb)
  · rintro fp w w' cs x ⟨v1, f1, rfl, h1, rfl⟩ hs hb
    exact ⟨v1, f1, rfl, R_I1k.frame h1 hs (fun b h => hb b (by simp [h])), rfl⟩
def szF_Co (x : Co) : Int := szF_I1 x.vals
def mkF_Co (x : Co) : Int := 1 + mkF_I1 x.vals
theorem szF_Co_nonneg (x : Co) : 0 ≤ szF_Co x := by have := szF_I1_nonneg x.vals; unfold szF_Co; omega
theorem mkF_Co_nonneg (x : Co) : 0 ≤ mkF_Co x := by have := mkF_I1_nonneg x.vals; unfold mkF_Co; omega
theorem mkF_Co_le (x : Co) : mkF_Co x ≤ 16 * szF_Co x + 1 := by have := mkF_I1_le x.vals; unfold mkF_Co szF_Co; omega
/-- what each text's length is below. -/
def CoOk (x : Co) : Prop := True

set_option maxRecDepth 20000 in
set_option maxHeartbeats 1600000 in
theorem sz_Co (cs : List Value) (x : Co) (left : Int) (w : World) (fp : List Nat) (hl : 0 ≤ left) (hl2 : left ≤ 1048576) (hR : R_Co fp w cs x) (hS : CoOk x) :
    Calls Tryz.prog 16 #[.agg cs.toArray, .int .i64 left] w fun e w' => (∃ r : Int, e = .returned (.int .i64 r) ∧ (r = -1 ∨ (0 ≤ r ∧ r + szF_Co x = left))) ∧ Upd [] w w' := by
  obtain ⟨v1, f1, rfl, h1, rfl⟩ := hR
  obtain ⟨wA, hwA⟩ : ∃ wA, wA = w.alloc (.cells #[ei x.dfn, v1] 46) := ⟨_, rfl⟩
  obtain ⟨BA, hBA⟩ : ∃ BA, BA = w.heap.size := ⟨_, rfl⟩
  have uA : Upd [] w wA := by rw [hwA]; exact (Upd.refl _ _).alloc _
  have S1 := Lib.hid (fun (W : World) (hu : Upd [] w W) (l : Int) (q1 : 0 ≤ l) (q2 : l ≤ 1048576) => sz_I1 v1 x.vals l W f1 q1 q2 (R_I1k.upd h1 hu (by simp)))
  have HC := Lib.hid (fun W (hu : Upd [] wA W) => show W.cell? ⟨BA, 1, none⟩ = some (v1) from
    hu.keep (by rw [hwA, hBA]; exact cell_new w _ _ _ rfl 1 _ rfl))
  have HZ := Lib.hid (show szF_Co x = szF_I1 x.vals from rfl)
  have hn1 := szF_I1_nonneg x.vals
  generalize szF_I1 x.vals = z1 at *
  generalize szF_Co x = ZZ at *
  have c1 := HC.out wA (Upd.refl _ _)
  have HU := Lib.hid uA
  have HX := Lib.hid (Upd.refl [] wA)
  clear h1 hS uA
  go_enter Tryz.func16, Tryz.ntmps16
  go_upto_region 1 with (fail)
  rw [← hwA, ← hBA]
  clear hwA hBA
  have T1 := Lib.hid (S1.out wA HU.out left hl hl2)
  clear S1
  go_wp2_with fail
  refine T1.out.mono ?_
  rintro e w1 ⟨⟨r, rfl, hr⟩, rfl⟩
  clear T1
  rcases hr with rfl | ⟨hge1, hr⟩
  · go_wp2_with fail
    go_ret
    exact ⟨⟨-1, rfl, Or.inl rfl⟩, HU.out⟩
  · have HR1 := Lib.hid hr
    have hle1 : r ≤ 1048576 := by omega
    clear hr
    generalize r = r1 at *
    go_wp2_with fail
    go_ret
    exact ⟨⟨r1, rfl, Or.inr ⟨hge1, by rw [HZ.out]; have := HR1.out; omega⟩⟩, HU.out⟩

theorem Co_size : (Tryz.prog.info? 38).map (·.size) = some 2 := by kernel_rfl
set_option maxRecDepth 20000 in
set_option maxHeartbeats 4000000 in
theorem to_Co (cs : List Value) (x : Co) (w : World) (fp : List Nat) (hl : szF_Co x ≤ 1048576) (hR : R_Co fp w cs x) :
    Calls Tryz.prog 19 #[.agg cs.toArray] w fun e w' => (∃ us, e = .returned (.agg us.toArray) ∧ us.length = 2 ∧ us.toArray.all (·.oneCell') = true ∧ NewQ R_Co w w' us x) ∧ Upd [] w w' := by
  obtain ⟨v1, f1, rfl, h1, rfl⟩ := hR
  have hn1 := szF_I1_nonneg x.vals
  unfold szF_Co at hl
  have S1 := Lib.hid (fun (W : World) (hu : Upd [] w W) => to_I1 v1 x.vals W f1 (by omega) (R_I1k.upd h1 hu (by simp)))
  obtain ⟨wA, hwA⟩ : ∃ wA, wA = ((w.alloc (.cells #[ei x.dfn, v1] 46)).alloc (.cells #[.int .i64 0, .slice none 0 0] 38)).alloc (.cells #[.int .i64 0, .slice none 0 0] 38) := ⟨_, rfl⟩
  obtain ⟨B, hB⟩ : ∃ B, B = w.heap.size := ⟨_, rfl⟩
  have H0 := Lib.hid (show Three w wA 46 38 B [ei x.dfn, v1] [.int .i64 0, .slice none 0 0] [.int .i64 0, .slice none 0 0] from by rw [hwA, hB]; exact Three.mk0 w _ _ _ _ _)
  clear h1 hl hn1
  go_enter Tryz.func19, Tryz.ntmps19
  go_upto_region 2 with (fail)
  rw [← hwA, ← hB]
  clear hwA hB
  have p0 := H0.out.pc 0 _ rfl
  have q0 := H0.out.oc 0 _ rfl
  have z0 := H0.out.fz 0
  go_upto_region 3 with (fail)
  obtain ⟨W0, hW0⟩ : ∃ W0, W0 = wA.setCell ⟨B + 2, 0, none⟩ (ei x.dfn) := ⟨_, rfl⟩
  rw [← hW0]
  have H1 := Lib.hid (show Three w W0 46 38 B [ei x.dfn, v1] [.int .i64 0, .slice none 0 0] _ from by rw [hW0]; exact H0.out.store 0 _)
  have D0 := Lib.hid (show Upd [B + 2] wA W0 from by rw [hW0]; exact (Upd.refl _ _).setCell (Or.inr (by simp)) _)
  have ds0 := D0.out.size
  clear p0 q0 z0 hW0
  have T1 := Lib.hid (S1.out W0 H1.out.upd)
  clear S1
  have p1 := H1.out.pc 1 _ rfl
  go_wp2_with fail
  refine T1.out.mono ?_
  rintro e w1 ⟨⟨u, rfl, hn⟩, hu⟩
  have G1 := Lib.hid (H1.out.call hu)
  have HN1 := Lib.hid hn
  have E1 := Lib.hid hu
  have hlo1 := H1.out.size
  have hhi1 := hu.size
  obtain ⟨m1, n1, rfl⟩ := New.form hn
  clear T1 p1 hn hu
  have q1 := G1.out.oc 1 _ rfl
  have z1 := G1.out.fz 1
  go_upto_region 4 with (fail)
  obtain ⟨W1, hW1⟩ : ∃ W1, W1 = w1.setCell ⟨B + 2, 1, none⟩ (.slice m1 x.vals.length n1) := ⟨_, rfl⟩
  rw [← hW1]
  have H2 := Lib.hid (show Three w W1 46 38 B [ei x.dfn, v1] [.int .i64 0, .slice none 0 0] _ from by rw [hW1]; exact G1.out.store 1 _)
  have D1 := Lib.hid (show Upd [B + 2] w1 W1 from by rw [hW1]; exact (Upd.refl _ _).setCell (Or.inr (by simp)) _)
  have ds1 := D1.out.size
  clear q1 z1 hW1
  have HF := Lib.hid (show Three w W1 46 38 B [ei x.dfn, v1] [.int .i64 0, .slice none 0 0] [ei x.dfn, .slice m1 x.vals.length n1] from H2.out)
  have hlast := HF.out.h2
  have hres := HF.out.h1
  clear G1
  go_wp2_with (first
    | (refine wpList_load_row rfl 38 _ rfl (B + 2) rfl 38 #[ei x.dfn, .slice m1 x.vals.length n1] (0, 0) _ hlast Tryz.underlying38 rfl Co_size ?_)
    | (refine wpList_store_row rfl 38 _ _ rfl (B + 1) #[ei x.dfn, .slice m1 x.vals.length n1] rfl rfl 38 _ hres Co_size rfl (by simp [Value.oneCell']) ?_)
    | fail)
  have hC := setRow_heap W1 (B + 1) _ #[ei x.dfn, .slice m1 x.vals.length n1] _ _ hres
  refine bodyPost_ret (results_cell_row Tryz.results19 _ _ (B + 1) 38 _ (0, 0) _ rfl hC Tryz.underlying38 rfl Co_size) rfl ?_
  have hb := HF.out.base
  have UE : Upd [] w (W1.setRow (B + 1) #[ei x.dfn, .slice m1 x.vals.length n1]) := HF.out.upd.row (Or.inl (by omega)) _
  refine ⟨⟨[ei x.dfn, .slice m1 x.vals.length n1], rfl, rfl, by simp [Value.oneCell'], ?_⟩, UE⟩
  obtain ⟨g1, P1⟩ := Part.of R_I1k HN1.out
  have P1 := P1.upd R_I1k D1.out (by intro b hb; simp at hb; omega)
  have P1 := P1.upd R_I1k (show Upd [B + 1] W1 (W1.setRow (B + 1) #[ei x.dfn, .slice m1 x.vals.length n1]) from (Upd.refl _ _).row (Or.inr (by simp)) _) (by intro b hb; simp at hb; omega)
  refine ⟨g1 ++ [], ⟨_, g1, rfl, P1.r, rfl⟩, ?_, ?_⟩
  · simpa using P1.o
  · intro b hb
    simp only [List.append_nil] at hb
    rcases hb with hb
    · have := P1.b b hb; omega

set_option maxRecDepth 20000 in
set_option maxHeartbeats 2000000 in
theorem eq_Co (cs ds : List Value) (x : Co) (w : World) (fp fp2 : List Nat) (hA : R_Co fp w cs x) (hB : R_Co fp2 w ds x) :
    Calls Tryz.prog 21 #[.agg cs.toArray, .agg ds.toArray] w fun e w' => e = .returned (.bool true) ∧ Upd [] w w' := by
  obtain ⟨v1, f1, rfl, h1, rfl⟩ := hA
  obtain ⟨u1, g1, rfl, k1, rfl⟩ := hB
  obtain ⟨wA, hwA⟩ : ∃ wA, wA = w.alloc (.cells #[ei x.dfn, v1] 38) := ⟨_, rfl⟩
  obtain ⟨wB, hwB⟩ : ∃ wB, wB = wA.alloc (.cells #[ei x.dfn, u1] 38) := ⟨_, rfl⟩
  obtain ⟨BA, hBA⟩ : ∃ BA, BA = w.heap.size := ⟨_, rfl⟩
  have sA : wA.heap.size = BA + 1 := by rw [hwA, hBA]; simp
  have uA : Upd [] w wA := by rw [hwA]; exact (Upd.refl _ _).alloc _
  have uB : Upd [] wA wB := by rw [hwB]; exact (Upd.refl _ _).alloc _
  have HC := Lib.hid (fun W (hu : Upd [] wB W) => show W.cell? ⟨BA, 0, none⟩ = some (ei x.dfn) ∧ W.cell? ⟨BA + 1, 0, none⟩ = some (ei x.dfn) ∧ W.cell? ⟨BA, 1, none⟩ = some (v1) ∧ W.cell? ⟨BA + 1, 1, none⟩ = some (u1) from
    ⟨hu.keep (uB.keep (by rw [hwA, hBA]; exact cell_new w _ _ _ rfl 0 _ rfl)), hu.keep (by rw [hwB]; exact cell_new wA _ _ _ sA 0 _ rfl), hu.keep (uB.keep (by rw [hwA, hBA]; exact cell_new w _ _ _ rfl 1 _ rfl)), hu.keep (by rw [hwB]; exact cell_new wA _ _ _ sA 1 _ rfl)⟩)
  have S1 := Lib.hid (fun W (hu : Upd [] w W) => show Calls Tryz.prog 64 #[v1, u1] W (fun e w' => e = .returned (.bool true) ∧ Upd [] W w') from by
    have := eq_I1 v1 u1 x.vals x.vals W f1 g1 (R_I1k.upd h1 hu (by simp)) (R_I1k.upd k1 hu (by simp))
    rw [show (x.vals == x.vals) = true by simp] at this
    exact this)
  have HU := Lib.hid (uA.trans uB)
  have HX := Lib.hid (Upd.refl [] wB)
  obtain ⟨c0, d0, c1, d1⟩ := HC.out wB (Upd.refl _ _)
  generalize x.dfn = t0 at *
  have b0 : (t0 != t0) = false := by simp
  clear h1 k1 uA uB sA
  go_enter Tryz.func21, Tryz.ntmps21
  go_upto_region 1 with (fail)
  rw [← hwA, ← hwB, ← hBA]
  clear hwA hwB hBA
  have T1 := Lib.hid (S1.out wB HU.out)
  clear S1
  go_wp2_with fail
  refine T1.out.mono ?_
  rintro e w1 ⟨rfl, hu⟩
  have HU := Lib.hid (HU.out.trans hu)
  have HX := Lib.hid (HX.out.trans hu)
  obtain ⟨c0, d0, c1, d1⟩ := HC.out w1 HX.out
  clear T1 hu
  go_wp2_with fail
  go_ret
  exact ⟨rfl, HU.out⟩

end Go.Proofs.YtnchmnjkmhfleaaGreat

/-
  Lists of components: readings, and what the laws' helper functions return and make.
-/
namespace Go.Proofs.YtnchmnjkmhfleaaGreat
open Go.RowKit


abbrev R_Co1 : Rp (List Co) := slQ 2 R_Co
theorem R_Co1k : Kept R_Co1 := slQ_kept R_Cok
def szF_Co1 (xs : List Co) : Int := xs.length + (xs.map szF_Co).sum
def mkF_Co1 (xs : List Co) : Int := (xs.map mkF_Co).sum
def Co1Ok (xs : List Co) : Prop := ∀ x ∈ xs, CoOk x
theorem szF_Co1_sum (xs : List Co) : 0 ≤ (xs.map szF_Co).sum := by
  induction xs with
  | nil => simp
  | cons r rs ih => simp only [List.map_cons, List.sum_cons]; have := szF_Co_nonneg r; omega
theorem szF_Co1_nonneg (xs : List Co) : 0 ≤ szF_Co1 xs := by have := szF_Co1_sum xs; unfold szF_Co1; omega
theorem szF_Co1_snoc (xs : List Co) (k : Nat) (h : k < xs.length) : ((xs.take (k + 1)).map szF_Co).sum = ((xs.take k).map szF_Co).sum + szF_Co xs[k] := by
  rw [List.take_succ_eq_append_getElem h, List.map_append, List.sum_append]; simp
theorem szF_Co1_take (xs : List Co) (k : Nat) : ((xs.take k).map szF_Co).sum ≤ (xs.map szF_Co).sum := by
  have h := szF_Co1_sum (xs.drop k)
  conv => rhs; rw [← List.take_append_drop k xs]
  rw [List.map_append, List.sum_append]; omega
theorem mkF_Co1_nonneg (xs : List Co) : 0 ≤ mkF_Co1 xs := by
  unfold mkF_Co1; induction xs with
  | nil => simp
  | cons r rs ih => simp only [List.map_cons, List.sum_cons]; have := mkF_Co_nonneg r; omega
theorem mkF_Co1_le (xs : List Co) : mkF_Co1 xs ≤ 16 * szF_Co1 xs := by
  unfold mkF_Co1 szF_Co1; induction xs with
  | nil => simp
  | cons r rs ih => simp only [List.map_cons, List.sum_cons, List.length_cons]; have := mkF_Co_le r; omega
theorem mkF_Co1_snoc (xs : List Co) (k : Nat) (h : k < xs.length) : mkF_Co1 (xs.take (k + 1)) = mkF_Co1 (xs.take k) + mkF_Co xs[k] := by
  unfold mkF_Co1; rw [List.take_succ_eq_append_getElem h, List.map_append, List.sum_append]; simp
theorem mkF_Co1_take (xs : List Co) (k : Nat) : mkF_Co1 (xs.take k) ≤ mkF_Co1 xs := by
  have h := mkF_Co1_nonneg (xs.drop k)
  conv => rhs; rw [← List.take_append_drop k xs]
  unfold mkF_Co1 at *; rw [List.map_append, List.sum_append]; omega
def up_Co (k : Int) (x : Co) : Co := ⟨(k), up_I1 (k + 1) x.vals⟩
def mkd_Co1 : Int → List Co → List Co
  | _, [] => []
  | k, r :: rs => up_Co k r :: mkd_Co1 (k + mkF_Co r) rs
@[simp] theorem mkd_Co1_length (k : Int) (xss : List Co) : (mkd_Co1 k xss).length = xss.length := by
  induction xss generalizing k with
  | nil => rfl
  | cons r rs ih => simp [mkd_Co1, ih]
theorem mkd_Co1_append (k : Int) (xs ys : List Co) : mkd_Co1 k (xs ++ ys) = mkd_Co1 k xs ++ mkd_Co1 (k + mkF_Co1 xs) ys := by
  induction xs generalizing k with
  | nil => simp [mkd_Co1, mkF_Co1]
  | cons r rs ih => simp only [List.cons_append, mkd_Co1, ih, mkF_Co1, List.map_cons, List.sum_cons, Int.add_assoc]
theorem mkd_Co1_set (xss : List Co) (k0 : Int) (k : Nat) (hk : k < xss.length) :
    (mkd_Co1 k0 (xss.take k) ++ xss.drop k).set k (up_Co (k0 + mkF_Co1 (xss.take k)) xss[k]) = mkd_Co1 k0 (xss.take (k + 1)) ++ xss.drop (k + 1) := by
  have hl : (mkd_Co1 k0 (xss.take k)).length = k := by simp; omega
  rw [List.set_append_right _ _ (by omega), hl, Nat.sub_self, List.drop_eq_getElem_cons hk, List.set_cons_zero, List.take_succ_eq_append_getElem hk, mkd_Co1_append]
  simp [mkd_Co1]
theorem mkd_Co1_get (xss : List Co) (k0 : Int) (k : Nat) (hk : k < xss.length) :
    (mkd_Co1 k0 xss)[k]'(by simpa using hk) = up_Co (k0 + mkF_Co1 (xss.take k)) xss[k] := by
  have h : (mkd_Co1 k0 xss)[k]? = some (up_Co (k0 + mkF_Co1 (xss.take k)) xss[k]) := by
    conv => lhs; rw [← List.take_append_drop k xss, mkd_Co1_append, List.drop_eq_getElem_cons hk, mkd_Co1]
    rw [List.getElem?_append_right (by simp; omega)]
    simp [Nat.min_eq_left (Nat.le_of_lt hk)]
  exact Option.some.inj ((List.getElem?_eq_getElem _).symm.trans h)

set_option maxRecDepth 20000 in
set_option maxHeartbeats 1600000 in
theorem sz_Co1 (v : Value) (xs : List Co) (left : Int) (w : World) (fp : List Nat) (hl : 0 ≤ left) (hl2 : left ≤ 1048576) (hR : R_Co1 fp w [v] xs) (hS : Co1Ok xs) :
    Calls Tryz.prog 46 #[v, .int .i64 left] w fun e w' => (∃ r : Int, e = .returned (.int .i64 r) ∧ (r = -1 ∨ (0 ≤ r ∧ r + szF_Co1 xs = left))) ∧ Upd [] w w' := by
  obtain ⟨a, cap, rfl, h1, h2, hc⟩ := slQ_open hR
  unfold maxLen at h2
  have HS := Lib.hid hS
  have HC := Lib.hid hc
  clear hR hS hc
  by_cases hlt : left - (xs.length : Int) < 0
  · go_enter Tryz.func46, Tryz.ntmps46
    go_wp2_with fail
    go_ret
    exact ⟨⟨-1, rfl, Or.inl rfl⟩, Upd.refl _ _⟩
  · have hge : 0 ≤ left - (xs.length : Int) := by omega
    clear hlt
    go_enter Tryz.func46, Tryz.ntmps46
    go_wp2_with fail
    go_loopw [1, 5] (fun kk i wr => ∃ (k : Nat) (l : Int), k ≤ xs.length ∧ i = .int .i64 k ∧ kk = .int .i64 l ∧ 0 ≤ l ∧ l ≤ 1048576 ∧ Hid (l + xs.length + ((xs.take k).map szF_Co).sum = left) ∧ Hid (Upd [] w wr)) (fun _ i _ => xs.length - (intOf i).toNat)
    case atStart => exact ⟨0, _, Nat.zero_le _, rfl, rfl, hge, by omega, Lib.hid (by simp), Lib.hid (Upd.refl _ _)⟩
    case round =>
      obtain ⟨wo, rfl⟩ : ∃ wo : World, wo = wr := ⟨_, rfl⟩
      obtain ⟨k, l, hk, rfl, rfl, hl0, hl9, HL, HU⟩ := hrel
      by_cases hlt : k < xs.length
      · obtain ⟨b, off, u, f, rfl, -, -, -, hcell, -, hr⟩ := HC.out k hlt
        have HR := Lib.hid (R_Cok.upd hr HU.out (by simp))
        obtain ⟨v1, f1, rfl, -, -⟩ := hr
        have p0 := HU.out.keep (hcell 0 _ rfl)
        have p1 := HU.out.keep (hcell 1 _ rfl)
        simp only [Nat.add_zero] at p0
        have HT := Lib.hid (szF_Co1_snoc xs k hlt)
        have HO := Lib.hid (HS.out xs[k] (List.getElem_mem hlt))
        clear hcell
        generalize hx : xs[k] = x at *
        clear hx
        have S1 := Lib.hid (sz_Co _ x l wo f hl0 hl9 HR.out HO.out)
        have hzz := szF_Co_nonneg x
        generalize szF_Co x = zz at *
        go_wp2_with fail
        refine S1.out.mono ?_
        rintro e w1 ⟨⟨r, rfl, hr2⟩, hu⟩
        have HU1 := Lib.hid (HU.out.trans hu)
        clear S1 hu
        rcases hr2 with rfl | ⟨hr2, hr3⟩
        · go_wp2_with fail
          go_ret
          exact ⟨⟨-1, rfl, Or.inl rfl⟩, HU1.out⟩
        · have H3 := Lib.hid hr3
          have hr4 : r ≤ 1048576 := by omega
          clear hr3
          go_wp2_with fail
          go_roundw
          case rel => exact ⟨k + 1, r, by omega, by go_num, rfl, hr2, hr4, Lib.hid (by have := H3.out; have := HL.out; rw [HT.out]; omega), HU1⟩
          case measure => simp [intOf]; omega
      · obtain rfl : k = xs.length := by omega
        go_wp2_with fail
        go_ret
        exact ⟨⟨l, rfl, Or.inr ⟨hl0, by have := HL.out; rw [List.take_length] at this; unfold szF_Co1; omega⟩⟩, HU.out⟩

theorem Tryz.infoCo : (Tryz.prog.info? 38).map (fun i => (i.zero, i.size, i.bytes)) = some (some (.agg #[.int .i64 0, .slice none 0 0]), 2, 32) := by kernel_rfl
set_option maxRecDepth 20000 in
set_option maxHeartbeats 2000000 in
theorem to_Co1 (v : Value) (xs : List Co) (w : World) (fp : List Nat) (hl : szF_Co1 xs ≤ 1048576) (hR : R_Co1 fp w [v] xs) :
    Calls Tryz.prog 56 #[v] w fun e w' => (∃ v', e = .returned v' ∧ New R_Co1 w w' v' xs) ∧ Upd [] w w' := by
  obtain ⟨i0, hi, hz0, hz1, hz2⟩ := info_parts Tryz.infoCo
  obtain ⟨a, cap, rfl, h1, h2, hc⟩ := slQ_open hR
  unfold maxLen at h2
  have htn := szF_Co1_sum xs
  unfold szF_Co1 at hl
  have HC := Lib.hid hc
  clear hR hc
  have hm1 : i0.bytes * xs.length ≤ 281474976710656 := by rw [hz2]; omega
  go_enter Tryz.func56, Tryz.ntmps56
  go_wp2_with (first
    | (at_make; refine wpList_make_full _ rfl _ _ 25 rfl w.heap.size 38 i0 (.agg #[.int .i64 0, .slice none 0 0]) 2 Tryz.underlying25 hi hz0 hz1 .i64 .i64 _ _ xs.length rfl rfl rfl rfl hm1 (by unfold maxLen; omega) (Nat.le_refl _) ?_; intro w1 hown hgrow)
    | fail)
  have hmd := made_Q ([.int .i64 0, .slice none 0 0] : List Value) (n := 2) rfl (by decide) xs.length
  rw [hmd] at hown
  have hsz : w.heap.size < w1.heap.size := hown.lt w.heap.size rfl |>.2
  have hU : Upd [] w w1 := (Upd.refl _ _).grown hgrow (by simp)
  clear hgrow hm1 hmd
  go_loopw [4] (fun i wr => ∃ (k : Nat) (us : List (List Value)), k ≤ xs.length ∧ i = .int .i64 k ∧ Hid (Upd [] w wr) ∧ w.heap.size < wr.heap.size ∧
      Hid (wr.ownsRow w.heap.size 38 2 (.slice (some ⟨w.heap.size, 0, none⟩) xs.length xs.length) xs.length (us.flatten ++ (List.replicate (xs.length - k) ([.int .i64 0, .slice none 0 0] : List Value)).flatten)) ∧
      Hid (RowsQ 2 R_Co w.heap.size [w.heap.size] wr us (xs.take k)))
    (fun i _ => xs.length - (intOf i).toNat)
  case atStart => exact ⟨0, [], Nat.zero_le _, rfl, Lib.hid hU, hsz, Lib.hid (by simpa using hown), Lib.hid (RowsQ.nil _ _ _ _ _)⟩
  case round =>
    clear hown hU hsz
    obtain ⟨wo, rfl⟩ : ∃ wo : World, wo = wr := ⟨_, rfl⟩
    obtain ⟨k, us, hk, rfl, HU, hsz, HO, HW⟩ := hrel
    have hlu : us.length = k := by have := HW.out.length; simp at this; omega
    by_cases hlt : k < xs.length
    · obtain ⟨b, off, u, f, rfl, -, -, -, hcell, -, hr⟩ := HC.out k hlt
      have HR := Lib.hid (R_Cok.upd hr HU.out (by simp))
      obtain ⟨v1, f1, rfl, -, -⟩ := hr
      have p0 := HU.out.keep (hcell 0 _ rfl)
      have p1 := HU.out.keep (hcell 1 _ rfl)
      simp only [Nat.add_zero] at p0
      have hxl : szF_Co xs[k] ≤ 1048576 := by
        have h1 := szF_Co1_snoc xs k hlt
        have h2 := szF_Co1_take xs (k + 1)
        have h3 := szF_Co1_sum (xs.take k)
        omega
      have HTK := Lib.hid (List.take_succ_eq_append_getElem hlt)
      have HLU := Lib.hid hlu
      clear hcell hlu
      generalize hx : xs[k] = x at *
      clear hx
      have S1 := Lib.hid (to_Co _ x wo f hxl HR.out)
      clear hxl
      go_wp2_with fail
      refine S1.out.mono ?_
      rintro e w2 ⟨⟨u2, rfl, hlen, hone, hnew⟩, hu2⟩
      have hown2 := ownsRow_upd HO.out hu2
      have hrep : (List.replicate (xs.length - k) ([.int .i64 0, .slice none 0 0] : List Value)).flatten.length = (xs.length - k) * 2 := by
        rw [flat_len (n := 2) (by intro y hy; rw [(List.mem_replicate.1 hy).2]; rfl)]; simp
      have hfl : us.flatten.length = k * 2 := by rw [flat_len HW.out.each, HLU.out]
      have hth : w2.there w.heap.size (k * 2) u2.toArray.size := fun j hj => by
        have hj' : j < 2 := by simpa [hlen] using hj
        refine ⟨?_, hown2.frozenAt _⟩
        rw [hown2.cellAt (k * 2 + j) (by omega), List.getElem?_eq_getElem (by rw [List.length_append, hfl, hrep]; omega)]; rfl
      have hszz : (Tryz.prog.info? 38).map (·.size) = some u2.toArray.size := by rw [Co_size]; simp [hlen]
      have hrun := run_storeCells_cells (P := Tryz.prog) w.heap.size (k * 2) u2 0 w2 (fun j hj => by simpa using (hth j (by simpa using hj)).1) (fun j hj => by simpa using (hth j (by simpa using hj)).2) (fun v hv => (Array.all_eq_true_iff_forall_mem.1 hone) v (by simpa using hv))
      simp only [Nat.add_zero] at hrun
      have hst := ownsRow_setCells u2 (k * 2) hown2 (by rw [hlen]; omega)
      rw [show xs.length - k = (xs.length - (k + 1)) + 1 by omega, ← HLU.out, filled_set us ([.int .i64 0, .slice none 0 0] : List Value) _ 2 rfl HW.out.each u2 hlen, HLU.out] at hst
      have hw3 : Upd [w.heap.size] w2 (w2.setCells w.heap.size (k * 2) u2) := upd_setCells _ (Or.inr (by simp)) _ _ (Upd.refl _ _)
      have hrows2 := (HW.out.push R_Cok hu2 hnew hlen (by omega) (by simpa using hsz)).upd R_Cok hw3 (by simp)
      rw [← HTK.out] at hrows2
      have hU2 : Upd [] w (w2.setCells w.heap.size (k * 2) u2) := upd_setCells _ (Or.inl (Nat.le_refl _)) _ _ (HU.out.trans hu2)
      have hsz2 : w.heap.size < (w2.setCells w.heap.size (k * 2) u2).heap.size := by have := hu2.size; have := hw3.size; omega
      have HS := Lib.hid (And.intro hst (And.intro hrows2 hU2))
      clear hown2 hrep hfl hst hw3 hrows2 hU2 hnew hu2 S1 HO HW HU
      clear hth hszz hone
      go_wp2_with fail
      go_roundw
      case rel => exact ⟨k + 1, us ++ [u2], by omega, by go_num, Lib.hid HS.out.2.2, hsz2, Lib.hid HS.out.1, Lib.hid HS.out.2.1⟩
      case measure => simp [intOf]; omega
    · obtain rfl : k = xs.length := by omega
      go_wp2_with fail
      go_ret
      have hrows := HW.out
      have hown := HO.out
      rw [List.take_length] at hrows
      refine ⟨⟨_, rfl, hrows.new (e := 38) (by simpa using hown) (by simp [Value.ownBlock]) (Nat.le_refl _)⟩, HU.out⟩

set_option maxRecDepth 20000 in
set_option maxHeartbeats 2000000 in
theorem eq_Co1 (v1 v2 : Value) (xs : List Co) (w : World) (fp fp2 : List Nat) (h1 : R_Co1 fp w [v1] xs) (h2 : R_Co1 fp2 w [v2] xs) :
    Calls Tryz.prog 61 #[v1, v2] w fun e w' => e = .returned (.bool true) ∧ Upd [] w w' := by
  obtain ⟨a1, c1, rfl, hl1, hm1, hc1⟩ := slQ_open h1
  obtain ⟨a2, c2, rfl, hl2, hm2, hc2⟩ := slQ_open h2
  unfold maxLen at hm1 hm2
  have HC1 := Lib.hid hc1
  have HC2 := Lib.hid hc2
  have hbe : ((xs.length : Int) != (xs.length : Int)) = false := by simp
  clear h1 h2 hc1 hc2
  go_enter Tryz.func61, Tryz.ntmps61
  go_wp2_with fail
  go_loopw [5] (fun i wr => ∃ k : Nat, k ≤ xs.length ∧ i = .int .i64 k ∧ Hid (Upd [] w wr)) (fun i _ => xs.length - (intOf i).toNat)
  case atStart => exact ⟨0, Nat.zero_le _, rfl, Lib.hid (Upd.refl _ _)⟩
  case round =>
    obtain ⟨wo, rfl⟩ : ∃ wo : World, wo = wr := ⟨_, rfl⟩
    obtain ⟨k, hk, rfl, HU⟩ := hrel
    by_cases hlt : k < xs.length
    · obtain ⟨b1, o1, u, f, rfl, -, -, -, hcell, -, hr⟩ := HC1.out k hlt
      obtain ⟨b2, o2, u', f', rfl, -, -, -, hcell2, -, hr2⟩ := HC2.out k hlt
      have HR := Lib.hid (R_Cok.drewN (R_Cok.upd hr HU.out (by simp)))
      have HR2 := Lib.hid (R_Cok.drewN (R_Cok.upd hr2 HU.out (by simp)))
      obtain ⟨v1, f1, rfl, -, -⟩ := hr
      obtain ⟨u1, _, rfl, -, -⟩ := hr2
      have p0 := HU.out.keep (hcell 0 _ rfl)
      have p1 := HU.out.keep (hcell 1 _ rfl)
      have q0 := HU.out.keep (hcell2 0 _ rfl)
      have q1 := HU.out.keep (hcell2 1 _ rfl)
      simp only [Nat.add_zero] at p0 q0
      clear hcell hcell2
      generalize hx : xs[k] = x at *
      clear hx
      have S1 := Lib.hid (fun W (hu : Upd [] wo W) => eq_Co _ _ x W f f' (R_Cok.upd (HR.out 0) hu (by simp)) (R_Cok.upd (HR2.out 0) hu (by simp)))
      clear HR HR2
      obtain ⟨t0, ht0⟩ : ∃ t, t = ei x.dfn := ⟨_, rfl⟩
      rw [← ht0] at p0 q0 S1
      clear ht0
      go_wp2_with fail
      go_region_held3 (fun w' => w'.cell? ⟨b1, o1 + k * 2, none⟩ = some (t0) ∧ w'.cell? ⟨b1, o1 + k * 2 + 1, none⟩ = some (v1) ∧ w'.cell? ⟨b2, o2 + k * 2, none⟩ = some (t0) ∧ w'.cell? ⟨b2, o2 + k * 2 + 1, none⟩ = some (u1)) (go_keep) (((with_reducible refine (S1.out _ (by repeat (first | exact Upd.refl _ _ | refine Upd.drew ?_ | refine Upd.drewN ?_ _))).mono ?_); rintro e w1 ⟨rfl, hu1⟩; have a0 := hu1.keep p0; have b0 := hu1.keep q0; have a1 := hu1.keep p1; have b1 := hu1.keep q1; skip))
      all_goals
        have HU1 := Lib.hid (HU.out.drew.trans hu1)
        clear hu1 HU
        go_wp2_with fail
        go_roundw
        case rel => exact ⟨k + 1, by omega, by go_num, HU1⟩
        case measure => simp [intOf]; omega
    · have hge : xs.length ≤ k := by omega
      go_wp2_with fail
      go_ret
      exact ⟨rfl, HU.out⟩

end Go.Proofs.YtnchmnjkmhfleaaGreat

/-
  Lists of components, marked: readings, and what the laws' helper functions return and make.
-/
namespace Go.Proofs.YtnchmnjkmhfleaaGreat
open Go.RowKit


set_option maxRecDepth 20000 in
set_option maxHeartbeats 4000000 in
theorem mark_Co1 (v : Value) (xs : List Co) (k0 : Int) (w : World) (fp : List Nat) (hk0 : 0 ≤ k0) (hk1 : k0 + mkF_Co1 xs ≤ 4611686018427387904) (hR : R_Co1 fp w [v] xs) (hO : Own fp w) :
    Calls Tryz.prog 66 #[v, .int .i64 k0] w fun e w' => e = .returned (.int .i64 (k0 + mkF_Co1 xs)) ∧ R_Co1 fp w' [v] (mkd_Co1 k0 xs) ∧ Own fp w' ∧ Upd fp w w' := by
  obtain ⟨a, cap, rfl, h1, h2, -⟩ := slQ_open hR
  unfold maxLen at h2
  go_enter Tryz.func66, Tryz.ntmps66
  go_wp2_with fail
  go_loopw [1, 5] (fun kk i wr => ∃ (k : Nat) (q : Int), k ≤ xs.length ∧ i = .int .i64 k ∧ kk = .int .i64 q ∧ Hid (q = k0 + mkF_Co1 (xs.take k)) ∧ Hid (Upd fp w wr) ∧ Hid (Own fp wr) ∧
      Hid (R_Co1 fp wr [.slice a xs.length cap] (mkd_Co1 k0 (xs.take k) ++ xs.drop k)))
    (fun _ i _ => xs.length - (intOf i).toNat)
  case atStart => exact ⟨0, k0, Nat.zero_le _, rfl, rfl, Lib.hid (by simp [mkF_Co1]), Lib.hid (Upd.refl _ _), Lib.hid hO, Lib.hid (by simpa [mkd_Co1] using hR)⟩
  case round =>
    clear hO hR
    obtain ⟨wo, rfl⟩ : ∃ wo : World, wo = wr := ⟨_, rfl⟩
    obtain ⟨k, q, hk, rfl, rfl, HQ, HU, HO, HF⟩ := hrel
    by_cases hlt : k < xs.length
    · obtain ⟨a', cap', b, off, u, f, hv, -, -, rfl, hb, hbl, hul, hcell, hsub, hbf, hr, hof, hob, hput⟩ := slQ_set R_Cok HF.out HO.out k (by simp; omega)
      simp only [Value.slice.injEq] at hv
      obtain ⟨rfl, -, rfl⟩ := hv
      have e : (mkd_Co1 k0 (xs.take k) ++ xs.drop k)[k]'(by simp; omega) = xs[k] := by
        rw [List.getElem_append_right (by simp; omega)]; simp [Nat.min_eq_left hk]
      rw [e] at hr
      have hq0 : 0 ≤ q := by have := mkF_Co1_nonneg (xs.take k); have := HQ.out; omega
      have hq1 : q + mkF_Co xs[k] ≤ 4611686018427387904 := by
        have ht2 := mkF_Co1_snoc xs k hlt
        have ht3 := mkF_Co1_take xs (k + 1)
        have := HQ.out
        omega
      have HT := Lib.hid (mkF_Co1_snoc xs k hlt)
      have HP := Lib.hid hput
      have HST := Lib.hid (mkd_Co1_set xs k0 k hlt)
      rw [← HQ.out] at HST
      clear hput e HO
      generalize xs[k] = x at *
      have HMX := Lib.hid (show mkF_Co x = 1 + mkF_I1 x.vals from rfl)
      unfold mkF_Co at hq1
      obtain ⟨v1, f1, rfl, h1, rfl⟩ := hr
      have hn1 := mkF_I1_nonneg x.vals
      have o1 : Own f1 wo := by simpa using hof
      have p0 := hcell 0 _ rfl
      have p1 := hcell 1 _ rfl
      simp only [Nat.add_zero] at p0
      have nb1 : b ∉ f1 := fun h => hbf (by simp [h])
      have HB := Lib.hid (And.intro hsub (And.intro hbf hob))
      have hB := hob
      have UA := Lib.hid (Upd.refl (b :: (f1 ++ [])) wo)
      have FAR := Lib.hid (FarEq.refl wo b (off + k * 2) (off + k * 2 + 2))
      have hbz := hbl
      clear hcell hsub hob hof
      have fz := hB.frozen (b := b) (by simp) (off + k * 2)
      obtain ⟨nx0, htx⟩ : ∃ nx, nx = q := ⟨_, rfl⟩
      have HTX0 := Lib.hid htx
      obtain ⟨W0, hW0⟩ : ∃ W0, W0 = wo.setCell ⟨b, off + k * 2, none⟩ (ei nx0) := ⟨_, rfl⟩
      have hu2 : Upd [b] wo W0 := by rw [hW0]; exact (Upd.refl _ _).setCell (Or.inr (by simp)) _
      have hc2 : W0.cell? ⟨b, off + k * 2, none⟩ = some (ei nx0) := by rw [hW0]; exact World.cell?_setCell_same _ _ _ p0
      have hc3 : ∀ o, o ≠ off + k * 2 → W0.cell? ⟨b, o, none⟩ = wo.cell? ⟨b, o, none⟩ := fun o ho => by rw [hW0]; exact World.cell?_setCell_other _ _ _ _ (by intro h; simp only [Addr.mk.injEq] at h; omega)
      have hB2 : Own [b] W0 := by rw [hW0]; exact hB.setCell _ _
      rw [htx] at hW0
      clear htx
      go_upto_region 5 with (fail)
      rw [← hW0]
      clear fz hB
      replace h1 := R_I1k.upd h1 hu2 (by intro c hc h; simp at h; subst h; exact nb1 hc)
      replace o1 := o1.upd hu2 (by intro c hc h; simp at h; subst h; exact nb1 hc)
      replace p1 := (hc3 _ (by omega)).trans p1
      replace p0 := hc2
      have hB := hB2
      replace FAR := Lib.hid (FAR.out.put hc3 (by omega))
      replace hbz := Nat.lt_of_lt_of_le hbz hu2.size
      replace UA := Lib.hid (UA.out.trans (hu2.mono (by intro c hc; simp at hc; simp [hc])))
      clear hu2 hc2 hc3 hB2 hW0
      have M1 := Lib.hid (mark_I1 v1 x.vals (q + 1) W0 f1 (by omega) (by omega) h1 o1)
      clear h1 o1
      go_wp2_with fail
      refine M1.out.mono ?_
      rintro e w1 ⟨rfl, h1, o1, hu⟩
      clear M1
      replace p0 := hu.keepF nb1 p0
      replace p1 := hu.keepF nb1 p1
      replace hB := hB.upd hu (by intro c hc h; simp at hc; subst hc; exact nb1 h)
      replace FAR := Lib.hid (FAR.out.upd hu nb1 hbz)
      replace hbz := Nat.lt_of_lt_of_le hbz hu.size
      replace UA := Lib.hid (UA.out.trans (hu.mono (by intro c hc; simp [hc])))
      clear hu
      have hRN : R_Co (f1 ++ []) w1 [ei nx0, v1] (up_Co q x) := by
        exact ⟨v1, f1, by rw [HTX0.out]; rfl, h1, rfl⟩
      have hP := HP.out w1 (up_Co q x) [ei nx0, v1] UA.out (fun o ho => FAR.out o ho) rfl (fun j c hj => by
        match j, hj with
        | 0, hj => cases hj; exact p0
        | 1, hj => cases hj; exact p1
        ) hRN (by simpa using o1) hB
      rw [HST.out] at hP
      have hsub2 : ∀ c ∈ b :: (f1 ++ []), c ∈ fp := fun c hc => by
        rcases List.mem_cons.1 hc with rfl | h
        · exact hb
        · exact HB.out.1 c h
      have HE := Lib.hid (And.intro hP (HU.out.trans (UA.out.mono hsub2)))
      have hacc : q + 1 + mkF_I1 x.vals = q + mkF_Co x := by rw [HMX.out]; omega
      have HACC := Lib.hid hacc
      clear hP hRN hsub2 hacc h1 o1 hB p0 p1 UA FAR HP HB
      go_wp2_with fail
      go_roundw
      case rel => exact ⟨k + 1, _, by omega, by go_num, rfl, Lib.hid (by have := HACC.out; rw [HT.out]; have := HQ.out; omega), Lib.hid HE.out.2, Lib.hid HE.out.1.2, Lib.hid HE.out.1.1⟩
      case measure => simp [intOf]; omega
    · obtain rfl : k = xs.length := by omega
      have hq := HQ.out
      rw [List.take_length] at hq
      subst hq
      go_wp2_with fail
      go_ret
      exact ⟨rfl, by simpa using HF.out, HO.out, HU.out⟩

set_option maxRecDepth 20000 in
set_option maxHeartbeats 4000000 in
theorem held_Co1 (v : Value) (xs : List Co) (k0 : Int) (w : World) (fp : List Nat) (hk0 : 0 ≤ k0) (hk1 : k0 + mkF_Co1 xs ≤ 4611686018427387904) (hR : R_Co1 fp w [v] (mkd_Co1 k0 xs)) :
    Calls Tryz.prog 71 #[v, .int .i64 k0] w fun e w' => e = .returned (.int .i64 (k0 + mkF_Co1 xs)) ∧ Upd [] w w' := by
  obtain ⟨a, cap, rfl, h1, h2, hc⟩ := slQ_open hR
  simp only [mkd_Co1_length] at *
  unfold maxLen at h2
  have HC := Lib.hid hc
  clear hR hc
  go_enter Tryz.func71, Tryz.ntmps71
  go_wp2_with fail
  go_loopw [1, 5] (fun kk i wr => ∃ (k : Nat) (q : Int), k ≤ xs.length ∧ i = .int .i64 k ∧ kk = .int .i64 q ∧ Hid (q = k0 + mkF_Co1 (xs.take k)) ∧ Hid (Upd [] w wr)) (fun _ i _ => xs.length - (intOf i).toNat)
  case atStart => exact ⟨0, k0, Nat.zero_le _, rfl, rfl, Lib.hid (by simp [mkF_Co1]), Lib.hid (Upd.refl _ _)⟩
  case round =>
    obtain ⟨wo, rfl⟩ : ∃ wo : World, wo = wr := ⟨_, rfl⟩
    obtain ⟨k, q, hk, rfl, rfl, HQ, HU⟩ := hrel
    by_cases hlt : k < xs.length
    · obtain ⟨b, off, u, f, rfl, -, -, -, hcell, -, hr⟩ := HC.out k (by simpa using hlt)
      rw [mkd_Co1_get xs k0 k hlt, ← HQ.out] at hr
      have hq0 : 0 ≤ q := by have := mkF_Co1_nonneg (xs.take k); have := HQ.out; omega
      have hq1 : q + mkF_Co xs[k] ≤ 4611686018427387904 := by
        have ht2 := mkF_Co1_snoc xs k hlt
        have ht3 := mkF_Co1_take xs (k + 1)
        have := HQ.out
        omega
      have HT := Lib.hid (mkF_Co1_snoc xs k hlt)
      generalize xs[k] = x at *
      have HMX := Lib.hid (show mkF_Co x = 1 + mkF_I1 x.vals from rfl)
      unfold mkF_Co at hq1
      have hr := R_Cok.upd hr HU.out (by simp)
      obtain ⟨v1, f1, rfl, h1, rfl⟩ := hr
      have hn1 := mkF_I1_nonneg x.vals
      have p0 := HU.out.keep (hcell 0 _ rfl)
      have p1 := HU.out.keep (hcell 1 _ rfl)
      simp only [Nat.add_zero] at p0
      clear hcell
      replace p0 : wo.cell? ⟨b, off + k * 2, none⟩ = some (ei (q)) := p0
      have hbq0 : ((q) != (q)) = false := by simp
      have M1 := Lib.hid (held_I1 v1 x.vals (q + 1) wo f1 (by omega) (by omega) h1)
      clear h1
      go_wp2_with fail
      refine M1.out.mono ?_
      rintro e w1 ⟨rfl, rfl⟩
      clear M1
      have hacc : q + 1 + mkF_I1 x.vals = q + mkF_Co x := by rw [HMX.out]; omega
      have HACC := Lib.hid hacc
      clear hacc
      go_wp2_with fail
      go_roundw
      case rel => exact ⟨k + 1, _, by omega, by go_num, rfl, Lib.hid (by have := HACC.out; rw [HT.out]; have := HQ.out; omega), HU⟩
      case measure => simp [intOf]; omega
    · obtain rfl : k = xs.length := by omega
      have hq := HQ.out
      rw [List.take_length] at hq
      subst hq
      go_wp2_with fail
      go_ret
      exact ⟨rfl, HU.out⟩

end Go.Proofs.YtnchmnjkmhfleaaGreat

/-
  Lists of meetings, marked: readings, and what the laws' helper functions return and make.
-/
namespace Go.Proofs.YtnchmnjkmhfleaaGreat
open Go.RowKit


set_option maxRecDepth 20000 in
set_option maxHeartbeats 4000000 in
theorem mark_Me1 (v : Value) (xs : List Me) (k0 : Int) (w : World) (fp : List Nat) (hk0 : 0 ≤ k0) (hk1 : k0 + mkF_Me1 xs ≤ 4611686018427387904) (hR : R_Me1 fp w [v] xs) (hO : Own fp w) :
    Calls Tryz.prog 67 #[v, .int .i64 k0] w fun e w' => e = .returned (.int .i64 (k0 + mkF_Me1 xs)) ∧ R_Me1 fp w' [v] (mkd_Me1 k0 xs) ∧ Own fp w' ∧ Upd fp w w' := by
  obtain ⟨a, cap, rfl, h1, h2, -⟩ := slQ_open hR
  unfold maxLen at h2
  go_enter Tryz.func67, Tryz.ntmps67
  go_wp2_with fail
  go_loopw [1, 5] (fun kk i wr => ∃ (k : Nat) (q : Int), k ≤ xs.length ∧ i = .int .i64 k ∧ kk = .int .i64 q ∧ Hid (q = k0 + mkF_Me1 (xs.take k)) ∧ Hid (Upd fp w wr) ∧ Hid (Own fp wr) ∧
      Hid (R_Me1 fp wr [.slice a xs.length cap] (mkd_Me1 k0 (xs.take k) ++ xs.drop k)))
    (fun _ i _ => xs.length - (intOf i).toNat)
  case atStart => exact ⟨0, k0, Nat.zero_le _, rfl, rfl, Lib.hid (by simp [mkF_Me1]), Lib.hid (Upd.refl _ _), Lib.hid hO, Lib.hid (by simpa [mkd_Me1] using hR)⟩
  case round =>
    clear hO hR
    obtain ⟨wo, rfl⟩ : ∃ wo : World, wo = wr := ⟨_, rfl⟩
    obtain ⟨k, q, hk, rfl, rfl, HQ, HU, HO, HF⟩ := hrel
    by_cases hlt : k < xs.length
    · obtain ⟨a', cap', b, off, u, f, hv, -, -, rfl, hb, hbl, hul, hcell, hsub, hbf, hr, hof, hob, hput⟩ := slQ_set R_Mek HF.out HO.out k (by simp; omega)
      simp only [Value.slice.injEq] at hv
      obtain ⟨rfl, -, rfl⟩ := hv
      have e : (mkd_Me1 k0 (xs.take k) ++ xs.drop k)[k]'(by simp; omega) = xs[k] := by
        rw [List.getElem_append_right (by simp; omega)]; simp [Nat.min_eq_left hk]
      rw [e] at hr
      have hq0 : 0 ≤ q := by have := mkF_Me1_nonneg (xs.take k); have := HQ.out; omega
      have hq1 : q + mkF_Me xs[k] ≤ 4611686018427387904 := by
        have ht2 := mkF_Me1_snoc xs k hlt
        have ht3 := mkF_Me1_take xs (k + 1)
        have := HQ.out
        omega
      have HT := Lib.hid (mkF_Me1_snoc xs k hlt)
      have HP := Lib.hid hput
      have HST := Lib.hid (mkd_Me1_set xs k0 k hlt)
      rw [← HQ.out] at HST
      clear hput e HO
      generalize xs[k] = x at *
      have HMX := Lib.hid (show mkF_Me x = 1 + 1 + 1 from rfl)
      unfold mkF_Me at hq1
      obtain ⟨rfl, rfl⟩ := hr
      have p0 := hcell 0 _ rfl
      have p1 := hcell 1 _ rfl
      have p2 := hcell 2 _ rfl
      simp only [Nat.add_zero] at p0
      have HB := Lib.hid (And.intro hsub (And.intro hbf hob))
      have hB := hob
      have UA := Lib.hid (Upd.refl (b :: ([])) wo)
      have FAR := Lib.hid (FarEq.refl wo b (off + k * 3) (off + k * 3 + 3))
      have hbz := hbl
      clear hcell hsub hob
      have M0 := Lib.hid (markText (q) wo (by omega) (by omega))
      have fz := hB.frozen (b := b) (by simp) (off + k * 3)
      go_wp2_with fail
      refine M0.out.mono ?_
      rintro e w0 ⟨rfl, hu⟩
      clear M0 fz
      replace p0 := hu.keep p0
      replace p1 := hu.keep p1
      replace p2 := hu.keep p2
      replace hB := hB.upd hu (by simp)
      replace FAR := Lib.hid (FAR.out.upd hu (by simp) hbz)
      replace hbz := Nat.lt_of_lt_of_le hbz hu.size
      replace UA := Lib.hid (UA.out.trans (hu.mono (by simp)))
      have fz := hB.frozen (b := b) (by simp) (off + k * 3)
      obtain ⟨tx0, htx⟩ : ∃ tx, tx = mtx (q) := ⟨_, rfl⟩
      rw [← htx]
      have HTX0 := Lib.hid htx
      obtain ⟨W0, hW0⟩ : ∃ W0, W0 = w0.setCell ⟨b, off + k * 3, none⟩ (es tx0) := ⟨_, rfl⟩
      have hu2 : Upd [b] w0 W0 := by rw [hW0]; exact (Upd.refl _ _).setCell (Or.inr (by simp)) _
      have hc2 : W0.cell? ⟨b, off + k * 3, none⟩ = some (es tx0) := by rw [hW0]; exact World.cell?_setCell_same _ _ _ p0
      have hc3 : ∀ o, o ≠ off + k * 3 → W0.cell? ⟨b, o, none⟩ = w0.cell? ⟨b, o, none⟩ := fun o ho => by rw [hW0]; exact World.cell?_setCell_other _ _ _ _ (by intro h; simp only [Addr.mk.injEq] at h; omega)
      have hB2 : Own [b] W0 := by rw [hW0]; exact hB.setCell _ _
      clear htx hu
      go_upto_region 5 with (fail)
      rw [← hW0]
      clear fz hB
      replace p1 := (hc3 _ (by omega)).trans p1
      replace p2 := (hc3 _ (by omega)).trans p2
      replace p0 := hc2
      have hB := hB2
      replace FAR := Lib.hid (FAR.out.put hc3 (by omega))
      replace hbz := Nat.lt_of_lt_of_le hbz hu2.size
      replace UA := Lib.hid (UA.out.trans (hu2.mono (by intro c hc; simp at hc; simp [hc])))
      clear hu2 hc2 hc3 hB2 hW0
      have M1 := Lib.hid (markText (q + 1) W0 (by omega) (by omega))
      have fz := hB.frozen (b := b) (by simp) (off + k * 3 + 1)
      go_wp2_with fail
      refine M1.out.mono ?_
      rintro e w1 ⟨rfl, hu⟩
      clear M1 fz
      replace p0 := hu.keep p0
      replace p1 := hu.keep p1
      replace p2 := hu.keep p2
      replace hB := hB.upd hu (by simp)
      replace FAR := Lib.hid (FAR.out.upd hu (by simp) hbz)
      replace hbz := Nat.lt_of_lt_of_le hbz hu.size
      replace UA := Lib.hid (UA.out.trans (hu.mono (by simp)))
      have fz := hB.frozen (b := b) (by simp) (off + k * 3 + 1)
      obtain ⟨tx1, htx⟩ : ∃ tx, tx = mtx (q + 1) := ⟨_, rfl⟩
      rw [← htx]
      have HTX1 := Lib.hid htx
      obtain ⟨W1, hW1⟩ : ∃ W1, W1 = w1.setCell ⟨b, off + k * 3 + 1, none⟩ (es tx1) := ⟨_, rfl⟩
      have hu2 : Upd [b] w1 W1 := by rw [hW1]; exact (Upd.refl _ _).setCell (Or.inr (by simp)) _
      have hc2 : W1.cell? ⟨b, off + k * 3 + 1, none⟩ = some (es tx1) := by rw [hW1]; exact World.cell?_setCell_same _ _ _ p1
      have hc3 : ∀ o, o ≠ off + k * 3 + 1 → W1.cell? ⟨b, o, none⟩ = w1.cell? ⟨b, o, none⟩ := fun o ho => by rw [hW1]; exact World.cell?_setCell_other _ _ _ _ (by intro h; simp only [Addr.mk.injEq] at h; omega)
      have hB2 : Own [b] W1 := by rw [hW1]; exact hB.setCell _ _
      clear htx hu
      go_upto_region 7 with (fail)
      rw [← hW1]
      clear fz hB
      replace p0 := (hc3 _ (by omega)).trans p0
      replace p2 := (hc3 _ (by omega)).trans p2
      replace p1 := hc2
      have hB := hB2
      replace FAR := Lib.hid (FAR.out.put hc3 (by omega))
      replace hbz := Nat.lt_of_lt_of_le hbz hu2.size
      replace UA := Lib.hid (UA.out.trans (hu2.mono (by intro c hc; simp at hc; simp [hc])))
      clear hu2 hc2 hc3 hB2 hW1
      have M2 := Lib.hid (markText (q + 1 + 1) W1 (by omega) (by omega))
      have fz := hB.frozen (b := b) (by simp) (off + k * 3 + 2)
      go_wp2_with fail
      refine M2.out.mono ?_
      rintro e w2 ⟨rfl, hu⟩
      clear M2 fz
      replace p0 := hu.keep p0
      replace p1 := hu.keep p1
      replace p2 := hu.keep p2
      replace hB := hB.upd hu (by simp)
      replace FAR := Lib.hid (FAR.out.upd hu (by simp) hbz)
      replace hbz := Nat.lt_of_lt_of_le hbz hu.size
      replace UA := Lib.hid (UA.out.trans (hu.mono (by simp)))
      have fz := hB.frozen (b := b) (by simp) (off + k * 3 + 2)
      obtain ⟨tx2, htx⟩ : ∃ tx, tx = mtx (q + 1 + 1) := ⟨_, rfl⟩
      rw [← htx]
      have HTX2 := Lib.hid htx
      obtain ⟨W2, hW2⟩ : ∃ W2, W2 = w2.setCell ⟨b, off + k * 3 + 2, none⟩ (es tx2) := ⟨_, rfl⟩
      have hu2 : Upd [b] w2 W2 := by rw [hW2]; exact (Upd.refl _ _).setCell (Or.inr (by simp)) _
      have hc2 : W2.cell? ⟨b, off + k * 3 + 2, none⟩ = some (es tx2) := by rw [hW2]; exact World.cell?_setCell_same _ _ _ p2
      have hc3 : ∀ o, o ≠ off + k * 3 + 2 → W2.cell? ⟨b, o, none⟩ = w2.cell? ⟨b, o, none⟩ := fun o ho => by rw [hW2]; exact World.cell?_setCell_other _ _ _ _ (by intro h; simp only [Addr.mk.injEq] at h; omega)
      have hB2 : Own [b] W2 := by rw [hW2]; exact hB.setCell _ _
      clear htx hu
      go_upto_region 9 with (fail)
      rw [← hW2]
      clear fz hB
      replace p0 := (hc3 _ (by omega)).trans p0
      replace p1 := (hc3 _ (by omega)).trans p1
      replace p2 := hc2
      have hB := hB2
      replace FAR := Lib.hid (FAR.out.put hc3 (by omega))
      replace hbz := Nat.lt_of_lt_of_le hbz hu2.size
      replace UA := Lib.hid (UA.out.trans (hu2.mono (by intro c hc; simp at hc; simp [hc])))
      clear hu2 hc2 hc3 hB2 hW2
      have hRN : R_Me ([]) W2 [es tx0, es tx1, es tx2] (up_Me q x) := by
        exact ⟨by rw [HTX0.out, HTX1.out, HTX2.out]; rfl, rfl⟩
      have hP := HP.out W2 (up_Me q x) [es tx0, es tx1, es tx2] UA.out (fun o ho => FAR.out o ho) rfl (fun j c hj => by
        match j, hj with
        | 0, hj => cases hj; exact p0
        | 1, hj => cases hj; exact p1
        | 2, hj => cases hj; exact p2
        ) hRN (Own.nil _) hB
      rw [HST.out] at hP
      have hsub2 : ∀ c ∈ b :: ([]), c ∈ fp := fun c hc => by
        rcases List.mem_cons.1 hc with rfl | h
        · exact hb
        · exact HB.out.1 c h
      have HE := Lib.hid (And.intro hP (HU.out.trans (UA.out.mono hsub2)))
      have hacc : q + 1 + 1 + 1 = q + mkF_Me x := by rw [HMX.out]; omega
      have HACC := Lib.hid hacc
      clear hP hRN hsub2 hacc  hB p0 p1 p2 UA FAR HP HB
      go_wp2_with fail
      go_roundw
      case rel => exact ⟨k + 1, _, by omega, by go_num, rfl, Lib.hid (by have := HACC.out; rw [HT.out]; have := HQ.out; omega), Lib.hid HE.out.2, Lib.hid HE.out.1.2, Lib.hid HE.out.1.1⟩
      case measure => simp [intOf]; omega
    · obtain rfl : k = xs.length := by omega
      have hq := HQ.out
      rw [List.take_length] at hq
      subst hq
      go_wp2_with fail
      go_ret
      exact ⟨rfl, by simpa using HF.out, HO.out, HU.out⟩

set_option maxRecDepth 20000 in
set_option maxHeartbeats 4000000 in
theorem held_Me1 (v : Value) (xs : List Me) (k0 : Int) (w : World) (fp : List Nat) (hk0 : 0 ≤ k0) (hk1 : k0 + mkF_Me1 xs ≤ 4611686018427387904) (hR : R_Me1 fp w [v] (mkd_Me1 k0 xs)) :
    Calls Tryz.prog 72 #[v, .int .i64 k0] w fun e w' => e = .returned (.int .i64 (k0 + mkF_Me1 xs)) ∧ Upd [] w w' := by
  obtain ⟨a, cap, rfl, h1, h2, hc⟩ := slQ_open hR
  simp only [mkd_Me1_length] at *
  unfold maxLen at h2
  have HC := Lib.hid hc
  clear hR hc
  go_enter Tryz.func72, Tryz.ntmps72
  go_wp2_with fail
  go_loopw [1, 5] (fun kk i wr => ∃ (k : Nat) (q : Int), k ≤ xs.length ∧ i = .int .i64 k ∧ kk = .int .i64 q ∧ Hid (q = k0 + mkF_Me1 (xs.take k)) ∧ Hid (Upd [] w wr)) (fun _ i _ => xs.length - (intOf i).toNat)
  case atStart => exact ⟨0, k0, Nat.zero_le _, rfl, rfl, Lib.hid (by simp [mkF_Me1]), Lib.hid (Upd.refl _ _)⟩
  case round =>
    obtain ⟨wo, rfl⟩ : ∃ wo : World, wo = wr := ⟨_, rfl⟩
    obtain ⟨k, q, hk, rfl, rfl, HQ, HU⟩ := hrel
    by_cases hlt : k < xs.length
    · obtain ⟨b, off, u, f, rfl, -, -, -, hcell, -, hr⟩ := HC.out k (by simpa using hlt)
      rw [mkd_Me1_get xs k0 k hlt, ← HQ.out] at hr
      have hq0 : 0 ≤ q := by have := mkF_Me1_nonneg (xs.take k); have := HQ.out; omega
      have hq1 : q + mkF_Me xs[k] ≤ 4611686018427387904 := by
        have ht2 := mkF_Me1_snoc xs k hlt
        have ht3 := mkF_Me1_take xs (k + 1)
        have := HQ.out
        omega
      have HT := Lib.hid (mkF_Me1_snoc xs k hlt)
      generalize xs[k] = x at *
      have HMX := Lib.hid (show mkF_Me x = 1 + 1 + 1 from rfl)
      unfold mkF_Me at hq1
      have hr := R_Mek.upd hr HU.out (by simp)
      obtain ⟨rfl, rfl⟩ := hr
      have p0 := HU.out.keep (hcell 0 _ rfl)
      have p1 := HU.out.keep (hcell 1 _ rfl)
      have p2 := HU.out.keep (hcell 2 _ rfl)
      simp only [Nat.add_zero] at p0
      clear hcell
      have M0 := Lib.hid (fun W => markText (q) W (by omega) (by omega))
      replace p0 : wo.cell? ⟨b, off + k * 3, none⟩ = some (es (mtx (q))) := p0
      obtain ⟨tx, htx⟩ : ∃ tx, tx = mtx (q) := ⟨_, rfl⟩
      rw [← htx] at p0 M0
      have hbq : (tx != tx) = false := by simp
      clear htx
      go_wp2_with fail
      go_region_held3 (fun w' => w'.cell? ⟨b, off + k * 3, none⟩ = some (es tx)) (go_keep) (((with_reducible refine (M0.out _).mono ?_); rintro e w0 ⟨rfl, hu⟩; have t1 := hu.keep p0))
      replace hu := ((Upd.refl [] wo).drew).trans hu
      clear M0 t1 hbq
      replace p1 := hu.keep p1
      replace p2 := hu.keep p2
      replace HU := Lib.hid (HU.out.trans hu)
      clear hu
      have M1 := Lib.hid (fun W => markText (q + 1) W (by omega) (by omega))
      replace p1 : w0.cell? ⟨b, off + k * 3 + 1, none⟩ = some (es (mtx (q + 1))) := p1
      obtain ⟨tx, htx⟩ : ∃ tx, tx = mtx (q + 1) := ⟨_, rfl⟩
      rw [← htx] at p1 M1
      have hbq : (tx != tx) = false := by simp
      clear htx
      go_wp2_with fail
      go_region_held3 (fun w' => w'.cell? ⟨b, off + k * 3 + 1, none⟩ = some (es tx)) (go_keep) (((with_reducible refine (M1.out _).mono ?_); rintro e w1 ⟨rfl, hu⟩; have t1 := hu.keep p1))
      replace hu := ((Upd.refl [] w0).drew).trans hu
      clear M1 t1 hbq
      replace p2 := hu.keep p2
      replace HU := Lib.hid (HU.out.trans hu)
      clear hu
      have M2 := Lib.hid (fun W => markText (q + 1 + 1) W (by omega) (by omega))
      replace p2 : w1.cell? ⟨b, off + k * 3 + 2, none⟩ = some (es (mtx (q + 1 + 1))) := p2
      obtain ⟨tx, htx⟩ : ∃ tx, tx = mtx (q + 1 + 1) := ⟨_, rfl⟩
      rw [← htx] at p2 M2
      have hbq : (tx != tx) = false := by simp
      clear htx
      go_wp2_with fail
      go_region_held3 (fun w' => w'.cell? ⟨b, off + k * 3 + 2, none⟩ = some (es tx)) (go_keep) (((with_reducible refine (M2.out _).mono ?_); rintro e w2 ⟨rfl, hu⟩; have t1 := hu.keep p2))
      replace hu := ((Upd.refl [] w1).drew).trans hu
      clear M2 t1 hbq
      replace HU := Lib.hid (HU.out.trans hu)
      clear hu
      have hacc : q + 1 + 1 + 1 = q + mkF_Me x := by rw [HMX.out]; omega
      have HACC := Lib.hid hacc
      clear hacc
      go_wp2_with fail
      go_roundw
      case rel => exact ⟨k + 1, _, by omega, by go_num, rfl, Lib.hid (by have := HACC.out; rw [HT.out]; have := HQ.out; omega), HU⟩
      case measure => simp [intOf]; omega
    · obtain rfl : k = xs.length := by omega
      have hq := HQ.out
      rw [List.take_length] at hq
      subst hq
      go_wp2_with fail
      go_ret
      exact ⟨rfl, HU.out⟩

end Go.Proofs.YtnchmnjkmhfleaaGreat

/-
  Systems: readings, and what the laws' helper functions return and make.
-/
namespace Go.Proofs.YtnchmnjkmhfleaaGreat
open Go.RowKit

/-- its 5 cells. -/
def R_Sy : Rp Sy := fun fp w cs x => ∃ (v0 v1 v2 v3 v4 : Value) (f0 f1 f2 f3 f4 : List Nat), cs = [v0, v1, v2, v3, v4] ∧ R_De1 f0 w [v0] x.defs ∧ R_Co1 f1 w [v1] x.comps ∧ R_Me1 f2 w [v2] x.meets ∧ R_S1 f3 w [v3] x.allow ∧ R_S1 f4 w [v4] x.hide ∧ fp = f0 ++ (f1 ++ (f2 ++ (f3 ++ (f4))))
theorem R_Syk : Kept R_Sy := by
  constructor
  · rintro fp w cs x ⟨v0, v1, v2, v3, v4, f0, f1, f2, f3, f4, rfl, h0, h1, h2, h3, h4, rfl⟩ b hb
    simp only [List.mem_append] at hb
    rcases hb with hb | hb | hb | hb | hb
    · exact R_De1k.lt h0 b hb
    · exact R_Co1k.lt h1 b hb
    · exact R_Me1k.lt h2 b hb
    · exact R_S1k.lt h3 b hb
    · exact R_S1k.lt h4 b hb
  · rintro fp w w' cs x ⟨v0, v1, v2, v3, v4, f0, f1, f2, f3, f4, rfl, h0, h1, h2, h3, h4, rfl⟩ hs hb
    exact ⟨v0, v1, v2, v3, v4, f0, f1, f2, f3, f4, rfl, R_De1k.frame h0 hs (fun b h => hb b (by simp [h])), R_Co1k.frame h1 hs (fun b h => hb b (by simp [h])), R_Me1k.frame h2 hs (fun b h => hb b (by simp [h])), R_S1k.frame h3 hs (fun b h => hb b (by simp [h])), R_S1k.frame h4 hs (fun b h => hb b (by simp [h])), rfl⟩
def szF_Sy (x : Sy) : Int := szF_De1 x.defs + szF_Co1 x.comps + szF_Me1 x.meets + szF_S1 x.allow + szF_S1 x.hide
def mkF_Sy (x : Sy) : Int := mkF_De1 x.defs + mkF_Co1 x.comps + mkF_Me1 x.meets + mkF_S1 x.allow + mkF_S1 x.hide
theorem mkF_Sy_nonneg (x : Sy) : 0 ≤ mkF_Sy x := by have := mkF_De1_nonneg x.defs; have := mkF_Co1_nonneg x.comps; have := mkF_Me1_nonneg x.meets; have := mkF_S1_nonneg x.allow; have := mkF_S1_nonneg x.hide; unfold mkF_Sy; omega
theorem mkF_Sy_le (x : Sy) : mkF_Sy x ≤ 16 * szF_Sy x + 0 := by have := mkF_De1_le x.defs; have := mkF_Co1_le x.comps; have := mkF_Me1_le x.meets; have := mkF_S1_le x.allow; have := mkF_S1_le x.hide; unfold mkF_Sy szF_Sy; omega
/-- what each text's length is below. -/
def SyOk (x : Sy) : Prop := De1Ok x.defs ∧ Co1Ok x.comps ∧ Me1Ok x.meets ∧ strsOk x.allow ∧ strsOk x.hide

set_option maxRecDepth 20000 in
set_option maxHeartbeats 1600000 in
theorem sz_Sy (cs : List Value) (x : Sy) (left : Int) (w : World) (fp : List Nat) (hl : 0 ≤ left) (hl2 : left ≤ 1048576) (hR : R_Sy fp w cs x) (hS : SyOk x) :
    Calls Tryz.prog 15 #[.agg cs.toArray, .int .i64 left] w fun e w' => (∃ r : Int, e = .returned (.int .i64 r) ∧ (r = -1 ∨ (0 ≤ r ∧ r + szF_Sy x = left))) ∧ Upd [] w w' := by
  obtain ⟨v0, v1, v2, v3, v4, f0, f1, f2, f3, f4, rfl, h0, h1, h2, h3, h4, rfl⟩ := hR
  obtain ⟨wA, hwA⟩ : ∃ wA, wA = w.alloc (.cells #[v0, v1, v2, v3, v4] 45) := ⟨_, rfl⟩
  obtain ⟨BA, hBA⟩ : ∃ BA, BA = w.heap.size := ⟨_, rfl⟩
  have uA : Upd [] w wA := by rw [hwA]; exact (Upd.refl _ _).alloc _
  have S0 := Lib.hid (fun (W : World) (hu : Upd [] w W) (l : Int) (q1 : 0 ≤ l) (q2 : l ≤ 1048576) => sz_De1 v0 x.defs l W f0 q1 q2 (R_De1k.upd h0 hu (by simp)) hS.1)
  have S1 := Lib.hid (fun (W : World) (hu : Upd [] w W) (l : Int) (q1 : 0 ≤ l) (q2 : l ≤ 1048576) => sz_Co1 v1 x.comps l W f1 q1 q2 (R_Co1k.upd h1 hu (by simp)) hS.2.1)
  have S2 := Lib.hid (fun (W : World) (hu : Upd [] w W) (l : Int) (q1 : 0 ≤ l) (q2 : l ≤ 1048576) => sz_Me1 v2 x.meets l W f2 q1 q2 (R_Me1k.upd h2 hu (by simp)) hS.2.2.1)
  have S3 := Lib.hid (fun (W : World) (hu : Upd [] w W) (l : Int) (q1 : 0 ≤ l) (q2 : l ≤ 1048576) => sz_S1 v3 x.allow l W f3 q1 q2 (R_S1k.upd h3 hu (by simp)) hS.2.2.2.1)
  have S4 := Lib.hid (fun (W : World) (hu : Upd [] w W) (l : Int) (q1 : 0 ≤ l) (q2 : l ≤ 1048576) => sz_S1 v4 x.hide l W f4 q1 q2 (R_S1k.upd h4 hu (by simp)) hS.2.2.2.2)
  have HC := Lib.hid (fun W (hu : Upd [] wA W) => show W.cell? ⟨BA, 0, none⟩ = some (v0) ∧ W.cell? ⟨BA, 1, none⟩ = some (v1) ∧ W.cell? ⟨BA, 2, none⟩ = some (v2) ∧ W.cell? ⟨BA, 3, none⟩ = some (v3) ∧ W.cell? ⟨BA, 4, none⟩ = some (v4) from
    ⟨hu.keep (by rw [hwA, hBA]; exact cell_new w _ _ _ rfl 0 _ rfl), hu.keep (by rw [hwA, hBA]; exact cell_new w _ _ _ rfl 1 _ rfl), hu.keep (by rw [hwA, hBA]; exact cell_new w _ _ _ rfl 2 _ rfl), hu.keep (by rw [hwA, hBA]; exact cell_new w _ _ _ rfl 3 _ rfl), hu.keep (by rw [hwA, hBA]; exact cell_new w _ _ _ rfl 4 _ rfl)⟩)
  have HZ := Lib.hid (show szF_Sy x = szF_De1 x.defs + szF_Co1 x.comps + szF_Me1 x.meets + szF_S1 x.allow + szF_S1 x.hide from rfl)
  have hn0 := szF_De1_nonneg x.defs
  have hn1 := szF_Co1_nonneg x.comps
  have hn2 := szF_Me1_nonneg x.meets
  have hn3 := szF_S1_nonneg x.allow
  have hn4 := szF_S1_nonneg x.hide
  generalize szF_De1 x.defs = z0 at *
  generalize szF_Co1 x.comps = z1 at *
  generalize szF_Me1 x.meets = z2 at *
  generalize szF_S1 x.allow = z3 at *
  generalize szF_S1 x.hide = z4 at *
  generalize szF_Sy x = ZZ at *
  obtain ⟨c0, c1, c2, c3, c4⟩ := HC.out wA (Upd.refl _ _)
  have HU := Lib.hid uA
  have HX := Lib.hid (Upd.refl [] wA)
  clear h0 h1 h2 h3 h4 hS uA
  go_enter Tryz.func15, Tryz.ntmps15
  go_upto_region 1 with (fail)
  rw [← hwA, ← hBA]
  clear hwA hBA
  have T0 := Lib.hid (S0.out wA HU.out left hl hl2)
  clear S0
  go_wp2_with fail
  refine T0.out.mono ?_
  rintro e w0 ⟨⟨r, rfl, hr⟩, hu⟩
  clear T0
  have HU := Lib.hid (HU.out.trans hu)
  have HX := Lib.hid (HX.out.trans hu)
  obtain ⟨c0, c1, c2, c3, c4⟩ := HC.out w0 HX.out
  clear hu
  rcases hr with rfl | ⟨hge0, hr⟩
  · go_wp2_with fail
    go_ret
    exact ⟨⟨-1, rfl, Or.inl rfl⟩, HU.out⟩
  · have HR0 := Lib.hid hr
    have hle0 : r ≤ 1048576 := by omega
    clear hr
    generalize r = r0 at *
    have T1 := Lib.hid (S1.out w0 HU.out r0 hge0 hle0)
    clear S1
    go_wp2_with fail
    refine T1.out.mono ?_
    rintro e w1 ⟨⟨r, rfl, hr⟩, hu⟩
    clear T1
    have HU := Lib.hid (HU.out.trans hu)
    have HX := Lib.hid (HX.out.trans hu)
    obtain ⟨c0, c1, c2, c3, c4⟩ := HC.out w1 HX.out
    clear hu
    rcases hr with rfl | ⟨hge1, hr⟩
    · go_wp2_with fail
      go_ret
      exact ⟨⟨-1, rfl, Or.inl rfl⟩, HU.out⟩
    · have HR1 := Lib.hid hr
      have hle1 : r ≤ 1048576 := by omega
      clear hr
      generalize r = r1 at *
      have T2 := Lib.hid (S2.out w1 HU.out r1 hge1 hle1)
      clear S2
      go_wp2_with fail
      refine T2.out.mono ?_
      rintro e w2 ⟨⟨r, rfl, hr⟩, hu⟩
      clear T2
      have HU := Lib.hid (HU.out.trans hu)
      have HX := Lib.hid (HX.out.trans hu)
      obtain ⟨c0, c1, c2, c3, c4⟩ := HC.out w2 HX.out
      clear hu
      rcases hr with rfl | ⟨hge2, hr⟩
      · go_wp2_with fail
        go_ret
        exact ⟨⟨-1, rfl, Or.inl rfl⟩, HU.out⟩
      · have HR2 := Lib.hid hr
        have hle2 : r ≤ 1048576 := by omega
        clear hr
        generalize r = r2 at *
        have T3 := Lib.hid (S3.out w2 HU.out r2 hge2 hle2)
        clear S3
        go_wp2_with fail
        refine T3.out.mono ?_
        rintro e w3 ⟨⟨r, rfl, hr⟩, rfl⟩
        clear T3
        rcases hr with rfl | ⟨hge3, hr⟩
        · go_wp2_with fail
          go_ret
          exact ⟨⟨-1, rfl, Or.inl rfl⟩, HU.out⟩
        · have HR3 := Lib.hid hr
          have hle3 : r ≤ 1048576 := by omega
          clear hr
          generalize r = r3 at *
          have T4 := Lib.hid (S4.out w2 HU.out r3 hge3 hle3)
          clear S4
          go_wp2_with fail
          refine T4.out.mono ?_
          rintro e w4 ⟨⟨r, rfl, hr⟩, rfl⟩
          clear T4
          rcases hr with rfl | ⟨hge4, hr⟩
          · go_wp2_with fail
            go_ret
            exact ⟨⟨-1, rfl, Or.inl rfl⟩, HU.out⟩
          · have HR4 := Lib.hid hr
            have hle4 : r ≤ 1048576 := by omega
            clear hr
            generalize r = r4 at *
            go_wp2_with fail
            go_ret
            exact ⟨⟨r4, rfl, Or.inr ⟨hge4, by rw [HZ.out]; have := HR0.out; have := HR1.out; have := HR2.out; have := HR3.out; have := HR4.out; omega⟩⟩, HU.out⟩

theorem Sy_size : (Tryz.prog.info? 29).map (·.size) = some 5 := by kernel_rfl
set_option maxRecDepth 20000 in
set_option maxHeartbeats 4000000 in
theorem to_Sy (cs : List Value) (x : Sy) (w : World) (fp : List Nat) (hl : szF_Sy x ≤ 1048576) (hR : R_Sy fp w cs x) :
    Calls Tryz.prog 18 #[.agg cs.toArray] w fun e w' => (∃ us, e = .returned (.agg us.toArray) ∧ us.length = 5 ∧ us.toArray.all (·.oneCell') = true ∧ NewQ R_Sy w w' us x) ∧ Upd [] w w' := by
  obtain ⟨v0, v1, v2, v3, v4, f0, f1, f2, f3, f4, rfl, h0, h1, h2, h3, h4, rfl⟩ := hR
  have hn0 := szF_De1_nonneg x.defs
  have hn1 := szF_Co1_nonneg x.comps
  have hn2 := szF_Me1_nonneg x.meets
  have hn3 := szF_S1_nonneg x.allow
  have hn4 := szF_S1_nonneg x.hide
  unfold szF_Sy at hl
  have S0 := Lib.hid (fun (W : World) (hu : Upd [] w W) => to_De1 v0 x.defs W f0 (by omega) (R_De1k.upd h0 hu (by simp)))
  have S1 := Lib.hid (fun (W : World) (hu : Upd [] w W) => to_Co1 v1 x.comps W f1 (by omega) (R_Co1k.upd h1 hu (by simp)))
  have S2 := Lib.hid (fun (W : World) (hu : Upd [] w W) => to_Me1 v2 x.meets W f2 (by omega) (R_Me1k.upd h2 hu (by simp)))
  have S3 := Lib.hid (fun (W : World) (hu : Upd [] w W) => to_S1 v3 x.allow W f3 (by omega) (R_S1k.upd h3 hu (by simp)))
  have S4 := Lib.hid (fun (W : World) (hu : Upd [] w W) => to_S1 v4 x.hide W f4 (by omega) (R_S1k.upd h4 hu (by simp)))
  obtain ⟨wA, hwA⟩ : ∃ wA, wA = ((w.alloc (.cells #[v0, v1, v2, v3, v4] 45)).alloc (.cells #[.slice none 0 0, .slice none 0 0, .slice none 0 0, .slice none 0 0, .slice none 0 0] 29)).alloc (.cells #[.slice none 0 0, .slice none 0 0, .slice none 0 0, .slice none 0 0, .slice none 0 0] 29) := ⟨_, rfl⟩
  obtain ⟨B, hB⟩ : ∃ B, B = w.heap.size := ⟨_, rfl⟩
  have H0 := Lib.hid (show Three w wA 45 29 B [v0, v1, v2, v3, v4] [.slice none 0 0, .slice none 0 0, .slice none 0 0, .slice none 0 0, .slice none 0 0] [.slice none 0 0, .slice none 0 0, .slice none 0 0, .slice none 0 0, .slice none 0 0] from by rw [hwA, hB]; exact Three.mk0 w _ _ _ _ _)
  clear h0 h1 h2 h3 h4 hl hn0 hn1 hn2 hn3 hn4
  go_enter Tryz.func18, Tryz.ntmps18
  go_upto_region 2 with (fail)
  rw [← hwA, ← hB]
  clear hwA hB
  have T0 := Lib.hid (S0.out wA H0.out.upd)
  clear S0
  have p0 := H0.out.pc 0 _ rfl
  go_wp2_with fail
  refine T0.out.mono ?_
  rintro e w0 ⟨⟨u, rfl, hn⟩, hu⟩
  have G0 := Lib.hid (H0.out.call hu)
  have HN0 := Lib.hid hn
  have E0 := Lib.hid hu
  have hlo0 := H0.out.size
  have hhi0 := hu.size
  obtain ⟨m0, n0, rfl⟩ := New.formQ hn
  clear T0 p0 hn hu
  have q0 := G0.out.oc 0 _ rfl
  have z0 := G0.out.fz 0
  go_upto_region 3 with (fail)
  obtain ⟨W0, hW0⟩ : ∃ W0, W0 = w0.setCell ⟨B + 2, 0, none⟩ (.slice m0 x.defs.length n0) := ⟨_, rfl⟩
  rw [← hW0]
  have H1 := Lib.hid (show Three w W0 45 29 B [v0, v1, v2, v3, v4] [.slice none 0 0, .slice none 0 0, .slice none 0 0, .slice none 0 0, .slice none 0 0] _ from by rw [hW0]; exact G0.out.store 0 _)
  have D0 := Lib.hid (show Upd [B + 2] w0 W0 from by rw [hW0]; exact (Upd.refl _ _).setCell (Or.inr (by simp)) _)
  have ds0 := D0.out.size
  clear q0 z0 hW0
  have T1 := Lib.hid (S1.out W0 H1.out.upd)
  clear S1
  have p1 := H1.out.pc 1 _ rfl
  go_wp2_with fail
  refine T1.out.mono ?_
  rintro e w1 ⟨⟨u, rfl, hn⟩, hu⟩
  have G1 := Lib.hid (H1.out.call hu)
  have HN1 := Lib.hid hn
  have E1 := Lib.hid hu
  have hlo1 := H1.out.size
  have hhi1 := hu.size
  obtain ⟨m1, n1, rfl⟩ := New.formQ hn
  clear T1 p1 hn hu
  have q1 := G1.out.oc 1 _ rfl
  have z1 := G1.out.fz 1
  go_upto_region 4 with (fail)
  obtain ⟨W1, hW1⟩ : ∃ W1, W1 = w1.setCell ⟨B + 2, 1, none⟩ (.slice m1 x.comps.length n1) := ⟨_, rfl⟩
  rw [← hW1]
  have H2 := Lib.hid (show Three w W1 45 29 B [v0, v1, v2, v3, v4] [.slice none 0 0, .slice none 0 0, .slice none 0 0, .slice none 0 0, .slice none 0 0] _ from by rw [hW1]; exact G1.out.store 1 _)
  have D1 := Lib.hid (show Upd [B + 2] w1 W1 from by rw [hW1]; exact (Upd.refl _ _).setCell (Or.inr (by simp)) _)
  have ds1 := D1.out.size
  clear q1 z1 hW1
  have T2 := Lib.hid (S2.out W1 H2.out.upd)
  clear S2
  have p2 := H2.out.pc 2 _ rfl
  go_wp2_with fail
  refine T2.out.mono ?_
  rintro e w2 ⟨⟨u, rfl, hn⟩, hu⟩
  have G2 := Lib.hid (H2.out.call hu)
  have HN2 := Lib.hid hn
  have E2 := Lib.hid hu
  have hlo2 := H2.out.size
  have hhi2 := hu.size
  obtain ⟨m2, n2, rfl⟩ := New.formQ hn
  clear T2 p2 hn hu
  have q2 := G2.out.oc 2 _ rfl
  have z2 := G2.out.fz 2
  go_upto_region 5 with (fail)
  obtain ⟨W2, hW2⟩ : ∃ W2, W2 = w2.setCell ⟨B + 2, 2, none⟩ (.slice m2 x.meets.length n2) := ⟨_, rfl⟩
  rw [← hW2]
  have H3 := Lib.hid (show Three w W2 45 29 B [v0, v1, v2, v3, v4] [.slice none 0 0, .slice none 0 0, .slice none 0 0, .slice none 0 0, .slice none 0 0] _ from by rw [hW2]; exact G2.out.store 2 _)
  have D2 := Lib.hid (show Upd [B + 2] w2 W2 from by rw [hW2]; exact (Upd.refl _ _).setCell (Or.inr (by simp)) _)
  have ds2 := D2.out.size
  clear q2 z2 hW2
  have T3 := Lib.hid (S3.out W2 H3.out.upd)
  clear S3
  have p3 := H3.out.pc 3 _ rfl
  go_wp2_with fail
  refine T3.out.mono ?_
  rintro e w3 ⟨⟨u, rfl, hn⟩, hu⟩
  have G3 := Lib.hid (H3.out.call hu)
  have HN3 := Lib.hid hn
  have E3 := Lib.hid hu
  have hlo3 := H3.out.size
  have hhi3 := hu.size
  obtain ⟨m3, n3, rfl⟩ := New.form hn
  clear T3 p3 hn hu
  have q3 := G3.out.oc 3 _ rfl
  have z3 := G3.out.fz 3
  go_upto_region 6 with (fail)
  obtain ⟨W3, hW3⟩ : ∃ W3, W3 = w3.setCell ⟨B + 2, 3, none⟩ (.slice m3 x.allow.length n3) := ⟨_, rfl⟩
  rw [← hW3]
  have H4 := Lib.hid (show Three w W3 45 29 B [v0, v1, v2, v3, v4] [.slice none 0 0, .slice none 0 0, .slice none 0 0, .slice none 0 0, .slice none 0 0] _ from by rw [hW3]; exact G3.out.store 3 _)
  have D3 := Lib.hid (show Upd [B + 2] w3 W3 from by rw [hW3]; exact (Upd.refl _ _).setCell (Or.inr (by simp)) _)
  have ds3 := D3.out.size
  clear q3 z3 hW3
  have T4 := Lib.hid (S4.out W3 H4.out.upd)
  clear S4
  have p4 := H4.out.pc 4 _ rfl
  go_wp2_with fail
  refine T4.out.mono ?_
  rintro e w4 ⟨⟨u, rfl, hn⟩, hu⟩
  have G4 := Lib.hid (H4.out.call hu)
  have HN4 := Lib.hid hn
  have E4 := Lib.hid hu
  have hlo4 := H4.out.size
  have hhi4 := hu.size
  obtain ⟨m4, n4, rfl⟩ := New.form hn
  clear T4 p4 hn hu
  have q4 := G4.out.oc 4 _ rfl
  have z4 := G4.out.fz 4
  go_upto_region 7 with (fail)
  obtain ⟨W4, hW4⟩ : ∃ W4, W4 = w4.setCell ⟨B + 2, 4, none⟩ (.slice m4 x.hide.length n4) := ⟨_, rfl⟩
  rw [← hW4]
  have H5 := Lib.hid (show Three w W4 45 29 B [v0, v1, v2, v3, v4] [.slice none 0 0, .slice none 0 0, .slice none 0 0, .slice none 0 0, .slice none 0 0] _ from by rw [hW4]; exact G4.out.store 4 _)
  have D4 := Lib.hid (show Upd [B + 2] w4 W4 from by rw [hW4]; exact (Upd.refl _ _).setCell (Or.inr (by simp)) _)
  have ds4 := D4.out.size
  clear q4 z4 hW4
  have HF := Lib.hid (show Three w W4 45 29 B [v0, v1, v2, v3, v4] [.slice none 0 0, .slice none 0 0, .slice none 0 0, .slice none 0 0, .slice none 0 0] [.slice m0 x.defs.length n0, .slice m1 x.comps.length n1, .slice m2 x.meets.length n2, .slice m3 x.allow.length n3, .slice m4 x.hide.length n4] from H5.out)
  have hlast := HF.out.h2
  have hres := HF.out.h1
  clear G0 G1 G2 G3 G4
  go_wp2_with (first
    | (refine wpList_load_row rfl 29 _ rfl (B + 2) rfl 29 #[.slice m0 x.defs.length n0, .slice m1 x.comps.length n1, .slice m2 x.meets.length n2, .slice m3 x.allow.length n3, .slice m4 x.hide.length n4] (0, 0) _ hlast Tryz.underlying29 rfl Sy_size ?_)
    | (refine wpList_store_row rfl 29 _ _ rfl (B + 1) #[.slice m0 x.defs.length n0, .slice m1 x.comps.length n1, .slice m2 x.meets.length n2, .slice m3 x.allow.length n3, .slice m4 x.hide.length n4] rfl rfl 29 _ hres Sy_size rfl (by simp [Value.oneCell']) ?_)
    | fail)
  have hC := setRow_heap W4 (B + 1) _ #[.slice m0 x.defs.length n0, .slice m1 x.comps.length n1, .slice m2 x.meets.length n2, .slice m3 x.allow.length n3, .slice m4 x.hide.length n4] _ _ hres
  refine bodyPost_ret (results_cell_row Tryz.results18 _ _ (B + 1) 29 _ (0, 0) _ rfl hC Tryz.underlying29 rfl Sy_size) rfl ?_
  have hb := HF.out.base
  have UE : Upd [] w (W4.setRow (B + 1) #[.slice m0 x.defs.length n0, .slice m1 x.comps.length n1, .slice m2 x.meets.length n2, .slice m3 x.allow.length n3, .slice m4 x.hide.length n4]) := HF.out.upd.row (Or.inl (by omega)) _
  refine ⟨⟨[.slice m0 x.defs.length n0, .slice m1 x.comps.length n1, .slice m2 x.meets.length n2, .slice m3 x.allow.length n3, .slice m4 x.hide.length n4], rfl, rfl, by simp [Value.oneCell'], ?_⟩, UE⟩
  obtain ⟨g0, P0⟩ := Part.of R_De1k HN0.out
  have P0 := P0.upd R_De1k D0.out (by intro b hb; simp at hb; omega)
  have P0 := P0.upd R_De1k (show Upd [] W0 w1 from E1.out) (by simp)
  have P0 := P0.upd R_De1k D1.out (by intro b hb; simp at hb; omega)
  have P0 := P0.upd R_De1k (show Upd [] W1 w2 from E2.out) (by simp)
  have P0 := P0.upd R_De1k D2.out (by intro b hb; simp at hb; omega)
  have P0 := P0.upd R_De1k (show Upd [] W2 w3 from E3.out) (by simp)
  have P0 := P0.upd R_De1k D3.out (by intro b hb; simp at hb; omega)
  have P0 := P0.upd R_De1k (show Upd [] W3 w4 from E4.out) (by simp)
  have P0 := P0.upd R_De1k D4.out (by intro b hb; simp at hb; omega)
  have P0 := P0.upd R_De1k (show Upd [B + 1] W4 (W4.setRow (B + 1) #[.slice m0 x.defs.length n0, .slice m1 x.comps.length n1, .slice m2 x.meets.length n2, .slice m3 x.allow.length n3, .slice m4 x.hide.length n4]) from (Upd.refl _ _).row (Or.inr (by simp)) _) (by intro b hb; simp at hb; omega)
  obtain ⟨g1, P1⟩ := Part.of R_Co1k HN1.out
  have P1 := P1.upd R_Co1k D1.out (by intro b hb; simp at hb; omega)
  have P1 := P1.upd R_Co1k (show Upd [] W1 w2 from E2.out) (by simp)
  have P1 := P1.upd R_Co1k D2.out (by intro b hb; simp at hb; omega)
  have P1 := P1.upd R_Co1k (show Upd [] W2 w3 from E3.out) (by simp)
  have P1 := P1.upd R_Co1k D3.out (by intro b hb; simp at hb; omega)
  have P1 := P1.upd R_Co1k (show Upd [] W3 w4 from E4.out) (by simp)
  have P1 := P1.upd R_Co1k D4.out (by intro b hb; simp at hb; omega)
  have P1 := P1.upd R_Co1k (show Upd [B + 1] W4 (W4.setRow (B + 1) #[.slice m0 x.defs.length n0, .slice m1 x.comps.length n1, .slice m2 x.meets.length n2, .slice m3 x.allow.length n3, .slice m4 x.hide.length n4]) from (Upd.refl _ _).row (Or.inr (by simp)) _) (by intro b hb; simp at hb; omega)
  obtain ⟨g2, P2⟩ := Part.of R_Me1k HN2.out
  have P2 := P2.upd R_Me1k D2.out (by intro b hb; simp at hb; omega)
  have P2 := P2.upd R_Me1k (show Upd [] W2 w3 from E3.out) (by simp)
  have P2 := P2.upd R_Me1k D3.out (by intro b hb; simp at hb; omega)
  have P2 := P2.upd R_Me1k (show Upd [] W3 w4 from E4.out) (by simp)
  have P2 := P2.upd R_Me1k D4.out (by intro b hb; simp at hb; omega)
  have P2 := P2.upd R_Me1k (show Upd [B + 1] W4 (W4.setRow (B + 1) #[.slice m0 x.defs.length n0, .slice m1 x.comps.length n1, .slice m2 x.meets.length n2, .slice m3 x.allow.length n3, .slice m4 x.hide.length n4]) from (Upd.refl _ _).row (Or.inr (by simp)) _) (by intro b hb; simp at hb; omega)
  obtain ⟨g3, P3⟩ := Part.of R_S1k HN3.out
  have P3 := P3.upd R_S1k D3.out (by intro b hb; simp at hb; omega)
  have P3 := P3.upd R_S1k (show Upd [] W3 w4 from E4.out) (by simp)
  have P3 := P3.upd R_S1k D4.out (by intro b hb; simp at hb; omega)
  have P3 := P3.upd R_S1k (show Upd [B + 1] W4 (W4.setRow (B + 1) #[.slice m0 x.defs.length n0, .slice m1 x.comps.length n1, .slice m2 x.meets.length n2, .slice m3 x.allow.length n3, .slice m4 x.hide.length n4]) from (Upd.refl _ _).row (Or.inr (by simp)) _) (by intro b hb; simp at hb; omega)
  obtain ⟨g4, P4⟩ := Part.of R_S1k HN4.out
  have P4 := P4.upd R_S1k D4.out (by intro b hb; simp at hb; omega)
  have P4 := P4.upd R_S1k (show Upd [B + 1] W4 (W4.setRow (B + 1) #[.slice m0 x.defs.length n0, .slice m1 x.comps.length n1, .slice m2 x.meets.length n2, .slice m3 x.allow.length n3, .slice m4 x.hide.length n4]) from (Upd.refl _ _).row (Or.inr (by simp)) _) (by intro b hb; simp at hb; omega)
  refine ⟨g0 ++ (g1 ++ (g2 ++ (g3 ++ (g4)))), ⟨_, _, _, _, _, g0, g1, g2, g3, g4, rfl, P0.r, P1.r, P2.r, P3.r, P4.r, rfl⟩, ?_, ?_⟩
  · exact own_join P0.o (own_join P1.o (own_join P2.o (own_join P3.o (P4.o) (fun b hb hc => by have := P3.b b hb; have := P4.b b hc; omega)) (fun b hb hc => by
        have := P2.b b hb
        simp only [List.mem_append] at hc
        rcases hc with hc | hc
        · have := P3.b b hc; omega
        · have := P4.b b hc; omega
        )) (fun b hb hc => by
        have := P1.b b hb
        simp only [List.mem_append] at hc
        rcases hc with hc | hc | hc
        · have := P2.b b hc; omega
        · have := P3.b b hc; omega
        · have := P4.b b hc; omega
        )) (fun b hb hc => by
        have := P0.b b hb
        simp only [List.mem_append] at hc
        rcases hc with hc | hc | hc | hc
        · have := P1.b b hc; omega
        · have := P2.b b hc; omega
        · have := P3.b b hc; omega
        · have := P4.b b hc; omega
        )
  · intro b hb
    simp only [List.mem_append] at hb
    rcases hb with hb | hb | hb | hb | hb
    · have := P0.b b hb; omega
    · have := P1.b b hb; omega
    · have := P2.b b hb; omega
    · have := P3.b b hb; omega
    · have := P4.b b hb; omega

set_option maxRecDepth 20000 in
set_option maxHeartbeats 2000000 in
theorem eq_Sy (cs ds : List Value) (x : Sy) (w : World) (fp fp2 : List Nat) (hA : R_Sy fp w cs x) (hB : R_Sy fp2 w ds x) :
    Calls Tryz.prog 20 #[.agg cs.toArray, .agg ds.toArray] w fun e w' => e = .returned (.bool true) ∧ Upd [] w w' := by
  obtain ⟨v0, v1, v2, v3, v4, f0, f1, f2, f3, f4, rfl, h0, h1, h2, h3, h4, rfl⟩ := hA
  obtain ⟨u0, u1, u2, u3, u4, g0, g1, g2, g3, g4, rfl, k0, k1, k2, k3, k4, rfl⟩ := hB
  obtain ⟨wA, hwA⟩ : ∃ wA, wA = w.alloc (.cells #[v0, v1, v2, v3, v4] 29) := ⟨_, rfl⟩
  obtain ⟨wB, hwB⟩ : ∃ wB, wB = wA.alloc (.cells #[u0, u1, u2, u3, u4] 29) := ⟨_, rfl⟩
  obtain ⟨BA, hBA⟩ : ∃ BA, BA = w.heap.size := ⟨_, rfl⟩
  have sA : wA.heap.size = BA + 1 := by rw [hwA, hBA]; simp
  have uA : Upd [] w wA := by rw [hwA]; exact (Upd.refl _ _).alloc _
  have uB : Upd [] wA wB := by rw [hwB]; exact (Upd.refl _ _).alloc _
  have HC := Lib.hid (fun W (hu : Upd [] wB W) => show W.cell? ⟨BA, 0, none⟩ = some (v0) ∧ W.cell? ⟨BA + 1, 0, none⟩ = some (u0) ∧ W.cell? ⟨BA, 1, none⟩ = some (v1) ∧ W.cell? ⟨BA + 1, 1, none⟩ = some (u1) ∧ W.cell? ⟨BA, 2, none⟩ = some (v2) ∧ W.cell? ⟨BA + 1, 2, none⟩ = some (u2) ∧ W.cell? ⟨BA, 3, none⟩ = some (v3) ∧ W.cell? ⟨BA + 1, 3, none⟩ = some (u3) ∧ W.cell? ⟨BA, 4, none⟩ = some (v4) ∧ W.cell? ⟨BA + 1, 4, none⟩ = some (u4) from
    ⟨hu.keep (uB.keep (by rw [hwA, hBA]; exact cell_new w _ _ _ rfl 0 _ rfl)), hu.keep (by rw [hwB]; exact cell_new wA _ _ _ sA 0 _ rfl), hu.keep (uB.keep (by rw [hwA, hBA]; exact cell_new w _ _ _ rfl 1 _ rfl)), hu.keep (by rw [hwB]; exact cell_new wA _ _ _ sA 1 _ rfl), hu.keep (uB.keep (by rw [hwA, hBA]; exact cell_new w _ _ _ rfl 2 _ rfl)), hu.keep (by rw [hwB]; exact cell_new wA _ _ _ sA 2 _ rfl), hu.keep (uB.keep (by rw [hwA, hBA]; exact cell_new w _ _ _ rfl 3 _ rfl)), hu.keep (by rw [hwB]; exact cell_new wA _ _ _ sA 3 _ rfl), hu.keep (uB.keep (by rw [hwA, hBA]; exact cell_new w _ _ _ rfl 4 _ rfl)), hu.keep (by rw [hwB]; exact cell_new wA _ _ _ sA 4 _ rfl)⟩)
  have S0 := Lib.hid (fun W (hu : Upd [] w W) => eq_De1 v0 u0 x.defs W f0 g0 (R_De1k.upd h0 hu (by simp)) (R_De1k.upd k0 hu (by simp)))
  have S1 := Lib.hid (fun W (hu : Upd [] w W) => eq_Co1 v1 u1 x.comps W f1 g1 (R_Co1k.upd h1 hu (by simp)) (R_Co1k.upd k1 hu (by simp)))
  have S2 := Lib.hid (fun W (hu : Upd [] w W) => eq_Me1 v2 u2 x.meets W f2 g2 (R_Me1k.upd h2 hu (by simp)) (R_Me1k.upd k2 hu (by simp)))
  have S3 := Lib.hid (fun W (hu : Upd [] w W) => show Calls Tryz.prog 63 #[v3, u3] W (fun e w' => e = .returned (.bool true) ∧ Upd [] W w') from by
    have := eq_S1 v3 u3 x.allow x.allow W f3 g3 (R_S1k.upd h3 hu (by simp)) (R_S1k.upd k3 hu (by simp))
    rw [show (x.allow == x.allow) = true by simp] at this
    exact this)
  have S4 := Lib.hid (fun W (hu : Upd [] w W) => show Calls Tryz.prog 63 #[v4, u4] W (fun e w' => e = .returned (.bool true) ∧ Upd [] W w') from by
    have := eq_S1 v4 u4 x.hide x.hide W f4 g4 (R_S1k.upd h4 hu (by simp)) (R_S1k.upd k4 hu (by simp))
    rw [show (x.hide == x.hide) = true by simp] at this
    exact this)
  have HU := Lib.hid (uA.trans uB)
  have HX := Lib.hid (Upd.refl [] wB)
  obtain ⟨c0, d0, c1, d1, c2, d2, c3, d3, c4, d4⟩ := HC.out wB (Upd.refl _ _)
  clear h0 k0 h1 k1 h2 k2 h3 k3 h4 k4 uA uB sA
  go_enter Tryz.func20, Tryz.ntmps20
  go_upto_region 1 with (fail)
  rw [← hwA, ← hwB, ← hBA]
  clear hwA hwB hBA
  have T0 := Lib.hid (S0.out wB HU.out)
  clear S0
  go_wp2_with fail
  refine T0.out.mono ?_
  rintro e w0 ⟨rfl, hu⟩
  have HU := Lib.hid (HU.out.trans hu)
  have HX := Lib.hid (HX.out.trans hu)
  obtain ⟨c0, d0, c1, d1, c2, d2, c3, d3, c4, d4⟩ := HC.out w0 HX.out
  clear T0 hu
  have T1 := Lib.hid (S1.out w0 HU.out)
  clear S1
  go_wp2_with fail
  refine T1.out.mono ?_
  rintro e w1 ⟨rfl, hu⟩
  have HU := Lib.hid (HU.out.trans hu)
  have HX := Lib.hid (HX.out.trans hu)
  obtain ⟨c0, d0, c1, d1, c2, d2, c3, d3, c4, d4⟩ := HC.out w1 HX.out
  clear T1 hu
  have T2 := Lib.hid (S2.out w1 HU.out)
  clear S2
  go_wp2_with fail
  refine T2.out.mono ?_
  rintro e w2 ⟨rfl, hu⟩
  have HU := Lib.hid (HU.out.trans hu)
  have HX := Lib.hid (HX.out.trans hu)
  obtain ⟨c0, d0, c1, d1, c2, d2, c3, d3, c4, d4⟩ := HC.out w2 HX.out
  clear T2 hu
  have T3 := Lib.hid (S3.out w2 HU.out)
  clear S3
  go_wp2_with fail
  refine T3.out.mono ?_
  rintro e w3 ⟨rfl, hu⟩
  have HU := Lib.hid (HU.out.trans hu)
  have HX := Lib.hid (HX.out.trans hu)
  obtain ⟨c0, d0, c1, d1, c2, d2, c3, d3, c4, d4⟩ := HC.out w3 HX.out
  clear T3 hu
  have T4 := Lib.hid (S4.out w3 HU.out)
  clear S4
  go_wp2_with fail
  refine T4.out.mono ?_
  rintro e w4 ⟨rfl, hu⟩
  have HU := Lib.hid (HU.out.trans hu)
  have HX := Lib.hid (HX.out.trans hu)
  obtain ⟨c0, d0, c1, d1, c2, d2, c3, d3, c4, d4⟩ := HC.out w4 HX.out
  clear T4 hu
  go_wp2_with fail
  go_ret
  exact ⟨rfl, HU.out⟩
def up_Sy (k : Int) (x : Sy) : Sy := ⟨mkd_De1 (k) x.defs, mkd_Co1 (k + mkF_De1 x.defs) x.comps, mkd_Me1 (k + mkF_De1 x.defs + mkF_Co1 x.comps) x.meets, up_S1 (k + mkF_De1 x.defs + mkF_Co1 x.comps + mkF_Me1 x.meets) x.allow, up_S1 (k + mkF_De1 x.defs + mkF_Co1 x.comps + mkF_Me1 x.meets + mkF_S1 x.allow) x.hide⟩

set_option maxRecDepth 20000 in
set_option maxHeartbeats 2000000 in
theorem mark_Sy (cs : List Value) (x : Sy) (k0 : Int) (w : World) (fp : List Nat) (hk0 : 0 ≤ k0) (hk1 : k0 + mkF_Sy x ≤ 4611686018427387904) (hR : R_Sy fp w cs x) (hO : Own fp w) :
    Calls Tryz.prog 22 #[.agg cs.toArray, .int .i64 k0] w fun e w' => e = .returned (.int .i64 (k0 + mkF_Sy x)) ∧ R_Sy fp w' cs (up_Sy k0 x) ∧ Own fp w' ∧ Upd fp w w' := by
  have hlt := R_Syk.lt hR
  obtain ⟨v0, v1, v2, v3, v4, f0, f1, f2, f3, f4, rfl, h0, h1, h2, h3, h4, rfl⟩ := hR
  have HMX := Lib.hid (show mkF_Sy x = mkF_De1 x.defs + mkF_Co1 x.comps + mkF_Me1 x.meets + mkF_S1 x.allow + mkF_S1 x.hide from rfl)
  unfold mkF_Sy at hk1
  have hn0 := mkF_De1_nonneg x.defs
  have hn1 := mkF_Co1_nonneg x.comps
  have hn2 := mkF_Me1_nonneg x.meets
  have hn3 := mkF_S1_nonneg x.allow
  have hn4 := mkF_S1_nonneg x.hide
  obtain ⟨o0, hOr, dj0⟩ := own_split hO
  obtain ⟨o1, hOrr, dj1⟩ := own_split hOr
  obtain ⟨o2, hOrrr, dj2⟩ := own_split hOrr
  obtain ⟨o3, hOrrrr, dj3⟩ := own_split hOrrr
  have o4 := hOrrrr
  obtain ⟨wA, hwA⟩ : ∃ wA, wA = w.alloc (.cells #[v0, v1, v2, v3, v4] 29) := ⟨_, rfl⟩
  obtain ⟨BA, hBA⟩ : ∃ BA, BA = w.heap.size := ⟨_, rfl⟩
  have uA : Upd [] w wA := by rw [hwA]; exact (Upd.refl _ _).alloc _
  have nb0 : BA ∉ f0 := fun h => by have := hlt BA (by simp [h]); omega
  replace h0 := R_De1k.upd h0 uA (by simp)
  replace o0 := o0.upd uA (by simp)
  have p0 : wA.cell? ⟨BA, 0, none⟩ = some v0 := by rw [hwA, hBA]; exact cell_new w _ _ _ rfl 0 _ rfl
  have nb1 : BA ∉ f1 := fun h => by have := hlt BA (by simp [h]); omega
  replace h1 := R_Co1k.upd h1 uA (by simp)
  replace o1 := o1.upd uA (by simp)
  have p1 : wA.cell? ⟨BA, 1, none⟩ = some v1 := by rw [hwA, hBA]; exact cell_new w _ _ _ rfl 1 _ rfl
  have nb2 : BA ∉ f2 := fun h => by have := hlt BA (by simp [h]); omega
  replace h2 := R_Me1k.upd h2 uA (by simp)
  replace o2 := o2.upd uA (by simp)
  have p2 : wA.cell? ⟨BA, 2, none⟩ = some v2 := by rw [hwA, hBA]; exact cell_new w _ _ _ rfl 2 _ rfl
  have nb3 : BA ∉ f3 := fun h => by have := hlt BA (by simp [h]); omega
  replace h3 := R_S1k.upd h3 uA (by simp)
  replace o3 := o3.upd uA (by simp)
  have p3 : wA.cell? ⟨BA, 3, none⟩ = some v3 := by rw [hwA, hBA]; exact cell_new w _ _ _ rfl 3 _ rfl
  have nb4 : BA ∉ f4 := fun h => by have := hlt BA (by simp [h]); omega
  replace h4 := R_S1k.upd h4 uA (by simp)
  replace o4 := o4.upd uA (by simp)
  have p4 : wA.cell? ⟨BA, 4, none⟩ = some v4 := by rw [hwA, hBA]; exact cell_new w _ _ _ rfl 4 _ rfl
  have UA := Lib.hid (uA.mono (g := f0 ++ (f1 ++ (f2 ++ (f3 ++ (f4))))) (by simp))
  clear uA hlt hOrrrr
  go_enter Tryz.func22, Tryz.ntmps22
  have M0 := Lib.hid (mark_De1 v0 x.defs (k0) wA f0 (by omega) (by omega) h0 o0)
  clear h0 o0
  go_wp2_with fail
  rw [← hwA, ← hBA]
  clear hwA hBA
  refine M0.out.mono ?_
  rintro e w0 ⟨rfl, h0, o0, hu⟩
  clear M0
  have ds : ∀ c ∈ f1, c ∉ f0 := fun c h1 h2 => dj0 c h2 (by simp [h1])
  replace h1 := R_Co1k.upd h1 hu ds
  replace o1 := o1.upd hu ds
  clear ds
  have ds : ∀ c ∈ f2, c ∉ f0 := fun c h1 h2 => dj0 c h2 (by simp [h1])
  replace h2 := R_Me1k.upd h2 hu ds
  replace o2 := o2.upd hu ds
  clear ds
  have ds : ∀ c ∈ f3, c ∉ f0 := fun c h1 h2 => dj0 c h2 (by simp [h1])
  replace h3 := R_S1k.upd h3 hu ds
  replace o3 := o3.upd hu ds
  clear ds
  have ds : ∀ c ∈ f4, c ∉ f0 := fun c h1 h2 => dj0 c h2 (by simp [h1])
  replace h4 := R_S1k.upd h4 hu ds
  replace o4 := o4.upd hu ds
  clear ds
  replace p0 := hu.keepF nb0 p0
  replace p1 := hu.keepF nb0 p1
  replace p2 := hu.keepF nb0 p2
  replace p3 := hu.keepF nb0 p3
  replace p4 := hu.keepF nb0 p4
  replace UA := Lib.hid (UA.out.trans (hu.mono (by intro c hc; simp [hc])))
  clear hu
  have M1 := Lib.hid (mark_Co1 v1 x.comps (k0 + mkF_De1 x.defs) w0 f1 (by omega) (by omega) h1 o1)
  clear h1 o1
  go_wp2_with fail
  refine M1.out.mono ?_
  rintro e w1 ⟨rfl, h1, o1, hu⟩
  clear M1
  have ds : ∀ c ∈ f0, c ∉ f1 := fun c h1 h2 => dj0 c h1 (by simp [h2])
  replace h0 := R_De1k.upd h0 hu ds
  replace o0 := o0.upd hu ds
  clear ds
  have ds : ∀ c ∈ f2, c ∉ f1 := fun c h1 h2 => dj1 c h2 (by simp [h1])
  replace h2 := R_Me1k.upd h2 hu ds
  replace o2 := o2.upd hu ds
  clear ds
  have ds : ∀ c ∈ f3, c ∉ f1 := fun c h1 h2 => dj1 c h2 (by simp [h1])
  replace h3 := R_S1k.upd h3 hu ds
  replace o3 := o3.upd hu ds
  clear ds
  have ds : ∀ c ∈ f4, c ∉ f1 := fun c h1 h2 => dj1 c h2 (by simp [h1])
  replace h4 := R_S1k.upd h4 hu ds
  replace o4 := o4.upd hu ds
  clear ds
  replace p0 := hu.keepF nb1 p0
  replace p1 := hu.keepF nb1 p1
  replace p2 := hu.keepF nb1 p2
  replace p3 := hu.keepF nb1 p3
  replace p4 := hu.keepF nb1 p4
  replace UA := Lib.hid (UA.out.trans (hu.mono (by intro c hc; simp [hc])))
  clear hu
  have M2 := Lib.hid (mark_Me1 v2 x.meets (k0 + mkF_De1 x.defs + mkF_Co1 x.comps) w1 f2 (by omega) (by omega) h2 o2)
  clear h2 o2
  go_wp2_with fail
  refine M2.out.mono ?_
  rintro e w2 ⟨rfl, h2, o2, hu⟩
  clear M2
  have ds : ∀ c ∈ f0, c ∉ f2 := fun c h1 h2 => dj0 c h1 (by simp [h2])
  replace h0 := R_De1k.upd h0 hu ds
  replace o0 := o0.upd hu ds
  clear ds
  have ds : ∀ c ∈ f1, c ∉ f2 := fun c h1 h2 => dj1 c h1 (by simp [h2])
  replace h1 := R_Co1k.upd h1 hu ds
  replace o1 := o1.upd hu ds
  clear ds
  have ds : ∀ c ∈ f3, c ∉ f2 := fun c h1 h2 => dj2 c h2 (by simp [h1])
  replace h3 := R_S1k.upd h3 hu ds
  replace o3 := o3.upd hu ds
  clear ds
  have ds : ∀ c ∈ f4, c ∉ f2 := fun c h1 h2 => dj2 c h2 (by simp [h1])
  replace h4 := R_S1k.upd h4 hu ds
  replace o4 := o4.upd hu ds
  clear ds
  replace p0 := hu.keepF nb2 p0
  replace p1 := hu.keepF nb2 p1
  replace p2 := hu.keepF nb2 p2
  replace p3 := hu.keepF nb2 p3
  replace p4 := hu.keepF nb2 p4
  replace UA := Lib.hid (UA.out.trans (hu.mono (by intro c hc; simp [hc])))
  clear hu
  have M3 := Lib.hid (mark_S1 v3 x.allow (k0 + mkF_De1 x.defs + mkF_Co1 x.comps + mkF_Me1 x.meets) w2 f3 (by omega) (by omega) h3 o3)
  clear h3 o3
  go_wp2_with fail
  refine M3.out.mono ?_
  rintro e w3 ⟨rfl, h3, o3, hu⟩
  clear M3
  have ds : ∀ c ∈ f0, c ∉ f3 := fun c h1 h2 => dj0 c h1 (by simp [h2])
  replace h0 := R_De1k.upd h0 hu ds
  replace o0 := o0.upd hu ds
  clear ds
  have ds : ∀ c ∈ f1, c ∉ f3 := fun c h1 h2 => dj1 c h1 (by simp [h2])
  replace h1 := R_Co1k.upd h1 hu ds
  replace o1 := o1.upd hu ds
  clear ds
  have ds : ∀ c ∈ f2, c ∉ f3 := fun c h1 h2 => dj2 c h1 (by simp [h2])
  replace h2 := R_Me1k.upd h2 hu ds
  replace o2 := o2.upd hu ds
  clear ds
  have ds : ∀ c ∈ f4, c ∉ f3 := fun c h1 h2 => dj3 c h2 (by simp [h1])
  replace h4 := R_S1k.upd h4 hu ds
  replace o4 := o4.upd hu ds
  clear ds
  replace p0 := hu.keepF nb3 p0
  replace p1 := hu.keepF nb3 p1
  replace p2 := hu.keepF nb3 p2
  replace p3 := hu.keepF nb3 p3
  replace p4 := hu.keepF nb3 p4
  replace UA := Lib.hid (UA.out.trans (hu.mono (by intro c hc; simp [hc])))
  clear hu
  have M4 := Lib.hid (mark_S1 v4 x.hide (k0 + mkF_De1 x.defs + mkF_Co1 x.comps + mkF_Me1 x.meets + mkF_S1 x.allow) w3 f4 (by omega) (by omega) h4 o4)
  clear h4 o4
  go_wp2_with fail
  refine M4.out.mono ?_
  rintro e w4 ⟨rfl, h4, o4, hu⟩
  clear M4
  have ds : ∀ c ∈ f0, c ∉ f4 := fun c h1 h2 => dj0 c h1 (by simp [h2])
  replace h0 := R_De1k.upd h0 hu ds
  replace o0 := o0.upd hu ds
  clear ds
  have ds : ∀ c ∈ f1, c ∉ f4 := fun c h1 h2 => dj1 c h1 (by simp [h2])
  replace h1 := R_Co1k.upd h1 hu ds
  replace o1 := o1.upd hu ds
  clear ds
  have ds : ∀ c ∈ f2, c ∉ f4 := fun c h1 h2 => dj2 c h1 (by simp [h2])
  replace h2 := R_Me1k.upd h2 hu ds
  replace o2 := o2.upd hu ds
  clear ds
  have ds : ∀ c ∈ f3, c ∉ f4 := fun c h1 h2 => dj3 c h1 (by simp [h2])
  replace h3 := R_S1k.upd h3 hu ds
  replace o3 := o3.upd hu ds
  clear ds
  replace p0 := hu.keepF nb4 p0
  replace p1 := hu.keepF nb4 p1
  replace p2 := hu.keepF nb4 p2
  replace p3 := hu.keepF nb4 p3
  replace p4 := hu.keepF nb4 p4
  replace UA := Lib.hid (UA.out.trans (hu.mono (by intro c hc; simp [hc])))
  clear hu
  have HE := Lib.hid (And.intro (show R_Sy (f0 ++ (f1 ++ (f2 ++ (f3 ++ (f4))))) w4 [v0, v1, v2, v3, v4] (up_Sy k0 x) from ⟨v0, v1, v2, v3, v4, f0, f1, f2, f3, f4, rfl, h0, h1, h2, h3, h4, rfl⟩) (And.intro (own_join o0 (own_join o1 (own_join o2 (own_join o3 (o4) dj3) dj2) dj1) dj0) UA.out))
  have hacc : k0 + mkF_De1 x.defs + mkF_Co1 x.comps + mkF_Me1 x.meets + mkF_S1 x.allow + mkF_S1 x.hide = k0 + mkF_Sy x := by rw [HMX.out]; omega
  clear h0 o0 p0 h1 o1 p1 h2 o2 p2 h3 o3 p3 h4 o4 p4
  rw [hacc]
  clear hacc
  go_wp2_with fail
  go_ret
  exact ⟨rfl, HE.out.1, HE.out.2.1, HE.out.2.2⟩

set_option maxRecDepth 20000 in
set_option maxHeartbeats 2000000 in
theorem held_Sy (cs : List Value) (x : Sy) (k0 : Int) (w : World) (fp : List Nat) (hk0 : 0 ≤ k0) (hk1 : k0 + mkF_Sy x ≤ 4611686018427387904) (hR : R_Sy fp w cs (up_Sy k0 x)) :
    Calls Tryz.prog 24 #[.agg cs.toArray, .int .i64 k0] w fun e w' => e = .returned (.int .i64 (k0 + mkF_Sy x)) ∧ Upd [] w w' := by
  obtain ⟨v0, v1, v2, v3, v4, f0, f1, f2, f3, f4, rfl, h0, h1, h2, h3, h4, rfl⟩ := hR
  have HMX := Lib.hid (show mkF_Sy x = mkF_De1 x.defs + mkF_Co1 x.comps + mkF_Me1 x.meets + mkF_S1 x.allow + mkF_S1 x.hide from rfl)
  unfold mkF_Sy at hk1
  have hn0 := mkF_De1_nonneg x.defs
  have hn1 := mkF_Co1_nonneg x.comps
  have hn2 := mkF_Me1_nonneg x.meets
  have hn3 := mkF_S1_nonneg x.allow
  have hn4 := mkF_S1_nonneg x.hide
  obtain ⟨wA, hwA⟩ : ∃ wA, wA = w.alloc (.cells #[v0, v1, v2, v3, v4] 29) := ⟨_, rfl⟩
  obtain ⟨BA, hBA⟩ : ∃ BA, BA = w.heap.size := ⟨_, rfl⟩
  have uA : Upd [] w wA := by rw [hwA]; exact (Upd.refl _ _).alloc _
  replace h0 := R_De1k.upd h0 uA (by simp)
  have p0 : wA.cell? ⟨BA, 0, none⟩ = some v0 := by rw [hwA, hBA]; exact cell_new w _ _ _ rfl 0 _ rfl
  replace h1 := R_Co1k.upd h1 uA (by simp)
  have p1 : wA.cell? ⟨BA, 1, none⟩ = some v1 := by rw [hwA, hBA]; exact cell_new w _ _ _ rfl 1 _ rfl
  replace h2 := R_Me1k.upd h2 uA (by simp)
  have p2 : wA.cell? ⟨BA, 2, none⟩ = some v2 := by rw [hwA, hBA]; exact cell_new w _ _ _ rfl 2 _ rfl
  replace h3 := R_S1k.upd h3 uA (by simp)
  have p3 : wA.cell? ⟨BA, 3, none⟩ = some v3 := by rw [hwA, hBA]; exact cell_new w _ _ _ rfl 3 _ rfl
  replace h4 := R_S1k.upd h4 uA (by simp)
  have p4 : wA.cell? ⟨BA, 4, none⟩ = some v4 := by rw [hwA, hBA]; exact cell_new w _ _ _ rfl 4 _ rfl
  have UA := Lib.hid uA
  clear uA
  show Calls Tryz.prog 24 #[.agg #[v0, v1, v2, v3, v4], .int .i64 k0] w _
  go_enter Tryz.func24, Tryz.ntmps24
  have M0 := Lib.hid (held_De1 v0 x.defs (k0) wA f0 (by omega) (by omega) h0)
  clear h0
  go_wp2_with fail
  rw [← hwA, ← hBA]
  clear hwA hBA
  refine M0.out.mono ?_
  rintro e w0 ⟨rfl, hu⟩
  clear M0
  replace h1 := R_Co1k.upd h1 hu (by simp)
  replace h2 := R_Me1k.upd h2 hu (by simp)
  replace h3 := R_S1k.upd h3 hu (by simp)
  replace h4 := R_S1k.upd h4 hu (by simp)
  replace p0 := hu.keep p0
  replace p1 := hu.keep p1
  replace p2 := hu.keep p2
  replace p3 := hu.keep p3
  replace p4 := hu.keep p4
  replace UA := Lib.hid (UA.out.trans hu)
  clear hu
  have M1 := Lib.hid (held_Co1 v1 x.comps (k0 + mkF_De1 x.defs) w0 f1 (by omega) (by omega) h1)
  clear h1
  go_wp2_with fail
  refine M1.out.mono ?_
  rintro e w1 ⟨rfl, hu⟩
  clear M1
  replace h2 := R_Me1k.upd h2 hu (by simp)
  replace h3 := R_S1k.upd h3 hu (by simp)
  replace h4 := R_S1k.upd h4 hu (by simp)
  replace p0 := hu.keep p0
  replace p1 := hu.keep p1
  replace p2 := hu.keep p2
  replace p3 := hu.keep p3
  replace p4 := hu.keep p4
  replace UA := Lib.hid (UA.out.trans hu)
  clear hu
  have M2 := Lib.hid (held_Me1 v2 x.meets (k0 + mkF_De1 x.defs + mkF_Co1 x.comps) w1 f2 (by omega) (by omega) h2)
  clear h2
  go_wp2_with fail
  refine M2.out.mono ?_
  rintro e w2 ⟨rfl, hu⟩
  clear M2
  replace h3 := R_S1k.upd h3 hu (by simp)
  replace h4 := R_S1k.upd h4 hu (by simp)
  replace p0 := hu.keep p0
  replace p1 := hu.keep p1
  replace p2 := hu.keep p2
  replace p3 := hu.keep p3
  replace p4 := hu.keep p4
  replace UA := Lib.hid (UA.out.trans hu)
  clear hu
  have M3 := Lib.hid (held_S1 v3 x.allow (k0 + mkF_De1 x.defs + mkF_Co1 x.comps + mkF_Me1 x.meets) w2 f3 (by omega) (by omega) h3)
  clear h3
  go_wp2_with fail
  refine M3.out.mono ?_
  rintro e w3 ⟨rfl, hu⟩
  clear M3
  replace h4 := R_S1k.upd h4 hu (by simp)
  replace p0 := hu.keep p0
  replace p1 := hu.keep p1
  replace p2 := hu.keep p2
  replace p3 := hu.keep p3
  replace p4 := hu.keep p4
  replace UA := Lib.hid (UA.out.trans hu)
  clear hu
  have M4 := Lib.hid (held_S1 v4 x.hide (k0 + mkF_De1 x.defs + mkF_Co1 x.comps + mkF_Me1 x.meets + mkF_S1 x.allow) w3 f4 (by omega) (by omega) h4)
  clear h4
  go_wp2_with fail
  refine M4.out.mono ?_
  rintro e w4 ⟨rfl, hu⟩
  clear M4
  replace p0 := hu.keep p0
  replace p1 := hu.keep p1
  replace p2 := hu.keep p2
  replace p3 := hu.keep p3
  replace p4 := hu.keep p4
  replace UA := Lib.hid (UA.out.trans hu)
  clear hu
  have hacc : k0 + mkF_De1 x.defs + mkF_Co1 x.comps + mkF_Me1 x.meets + mkF_S1 x.allow + mkF_S1 x.hide = k0 + mkF_Sy x := by rw [HMX.out]; omega
  go_wp2_with fail
  go_ret
  exact ⟨by first | rfl | (rw [← hacc]; rfl), UA.out⟩

end Go.Proofs.YtnchmnjkmhfleaaGreat

/-
  The form of a system that a call has made.
-/
namespace Go.Proofs.YtnchmnjkmhfleaaGreat
open Go.RowKit

theorem sy_form {w w' : World} {us : List Value} {x : Sy} (h : NewQ R_Sy w w' us x) : ∃ p0 q0 p1 q1 p2 q2 p3 q3 p4 q4, us = [.slice p0 x.defs.length q0, .slice p1 x.comps.length q1, .slice p2 x.meets.length q2, .slice p3 x.allow.length q3, .slice p4 x.hide.length q4] := by
  obtain ⟨fp, ⟨v0, v1, v2, v3, v4, f0, f1, f2, f3, f4, rfl, h0, h1, h2, h3, h4, -⟩, -, -⟩ := h
  obtain ⟨a0, q0, rfl, -, -, -⟩ := slQ_open h0
  obtain ⟨a1, q1, rfl, -, -, -⟩ := slQ_open h1
  obtain ⟨a2, q2, rfl, -, -, -⟩ := slQ_open h2
  obtain ⟨a3, q3, rfl, -, -, -⟩ := slF1_open h3
  obtain ⟨a4, q4, rfl, -, -, -⟩ := slF1_open h4
  exact ⟨a0, q0, a1, q1, a2, q2, a3, q3, a4, q4, rfl⟩

end Go.Proofs.YtnchmnjkmhfleaaGreat
