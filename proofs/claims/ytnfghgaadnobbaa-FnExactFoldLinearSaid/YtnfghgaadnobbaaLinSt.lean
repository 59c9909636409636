/-
  StartLinear: what the program's and the reference's calls return and make.
-/
import Derived.Test.YtnfghgaadnobbaaLinR
namespace Go.Proofs.Ytnfghgaadnobbaa
open Go.RowKit

def startF (x : Ln) (s : List Int) : Ln × Int := if lnOk x then (if stP s x.pars then (⟨x.pars, s, x.sms⟩, 0) else (zeroLn, 2)) else (zeroLn, 1)
theorem start_b (x : Ln) (s : List Int) (h : 1 + mkF_Ln x ≤ 100000000) (hs : s.length ≤ 1048576) : 1 + mkF_Ln (startF x s).1 ≤ 4611686018427387904 := by
  have h1 := mkF_I1_nonneg x.start
  have h2 : mkF_I1 s = s.length := rfl
  unfold startF
  split
  · split
    · show 1 + (mkF_I1 s + mkF_Sm1 x.sms) ≤ _
      unfold mkF_Ln at h
      omega
    · show (1 : Int) + 0 ≤ _; omega
  · show (1 : Int) + 0 ≤ _; omega
/-- what a call returns and makes that gives a process and a number. -/
def GaveLn (w : World) (F : Ln × Int) (e : Ending) (w' : World) : Prop := (∃ us, e = .returned (.tuple #[.agg us.toArray, .int .i64 F.2]) ∧ us.length = 3 ∧ us.toArray.all (·.oneCell') = true ∧ NewQ R_Ln w w' us F.1) ∧ Upd [] w w'
theorem gaveLn_zero (w w' : World) (c : Int) (hu : Upd [] w w') : GaveLn w (zeroLn, c) (.returned (.tuple #[.agg #[.int .i64 0, .slice none 0 0, .slice none 0 0], .int .i64 c])) w' :=
  ⟨⟨[.int .i64 0, .slice none 0 0, .slice none 0 0], rfl, rfl, by simp [Value.oneCell'], ln_zero w w'⟩, hu⟩
theorem gaveLn {w W wo : World} {B : Nat} {us : List Value} {x : Ln} (h1 : NewQ R_Ln W wo us x) (hl : us.length = 3) (hc : us.toArray.all (·.oneCell') = true) (hu : Upd [] w wo) (hB : w.heap.size ≤ B) (hBW : B < W.heap.size) (hW : w.heap.size ≤ W.heap.size) :
    GaveLn w (x, 0) (.returned (.tuple #[.agg us.toArray, .int .i64 0])) (wo.setRow B us.toArray) := by
  have D : Upd [B] wo (wo.setRow B us.toArray) := (Upd.refl _ _).row (Or.inr (by simp)) _
  exact ⟨⟨us, rfl, hl, hc, lnq_mono (lnq_upd h1 D (fun b hb => by simp at hb; left; omega)) hW⟩, hu.row (Or.inl hB) _⟩
/-- a process out of summands and a newer start, a block between them written. -/
theorem ln_join2 {w w1 wB w2 w3 : World} {v1 v2 : Value} {p : Int} {s : List Int} {m : List Sm} {C : Nat} (h2 : New R_Sm1 w w1 v2 m) (hw : w.heap.size ≤ w1.heap.size) (hu : Upd [] w1 wB) (hC : w1.heap.size ≤ C) (hC2 : C < wB.heap.size) (h1 : New R_I1 wB w2 v1 s) (h12 : Upd [] wB w2) (h3 : Upd [C] w2 w3) : NewQ R_Ln w w3 [ei p, v1, v2] ⟨p, s, m⟩ := by
  obtain ⟨f1, r1, o1, b1⟩ := h1
  obtain ⟨f2, r2, o2, b2⟩ := h2
  have l2 := R_Sm1k.lt r2
  have hu' := hu.trans h12
  have d1 : ∀ c ∈ f1, c ∉ [C] := fun c hc hm => by have := b1 c hc; simp at hm; omega
  have d2 : ∀ c ∈ f2, c ∉ [C] := fun c hc hm => by have := l2 c hc; simp at hm; omega
  have hs := hu.size
  refine ⟨f1 ++ f2, ⟨v1, v2, f1, f2, rfl, R_I1k.upd r1 h3 d1, R_Sm1k.upd (R_Sm1k.upd r2 hu' (by simp)) h3 d2, rfl⟩, own_join (o1.upd h3 d1) ((o2.upd hu' (by simp)).upd h3 d2) (fun c h1 h2 => by have := b1 c h1; have := l2 c h2; omega), fun c hc => ?_⟩
  rcases List.mem_append.1 hc with h | h
  · have := b1 c h; omega
  · exact b2 c h

set_option maxRecDepth 20000 in
set_option maxHeartbeats 2000000 in
theorem startI (cs : List Value) (x : Ln) (v : Value) (s : List Int) (w : World) (fp fs : List Nat) (hR : R_Ln fp w cs x) (hS : R_I1 fs w [v] s) (hF : LnFit x) (hs : s.length ≤ 2000000) :
    Calls Try.prog 18 #[.agg cs.toArray, v] w (GaveLn w (startF x s)) := by
  have hR' := hR
  obtain ⟨v1, v2, f1, f2, rfl, r1, r2, rfl⟩ := hR
  obtain ⟨B, hB⟩ : ∃ B, B = w.heap.size := ⟨_, rfl⟩
  obtain ⟨wA, hwA⟩ : ∃ wA, wA = (w.alloc (.cells #[ei x.pars, v1, v2] 29)).alloc (.cells #[.int .i64 0, .slice none 0 0, .slice none 0 0] 29) := ⟨_, rfl⟩
  have s1 : (w.alloc (.cells #[ei x.pars, v1, v2] 29)).heap.size = B + 1 := by rw [hB]; simp
  have uA : Upd [] w wA := by rw [hwA]; exact ((Upd.refl _ _).alloc _).alloc _
  have HA := Lib.hid (show RowAt wA (B + 1) 29 zerosLn from by rw [hwA, ← s1]; exact RowAt.new _ _ _)
  have hL : RowAt wA B 29 [ei x.pars, v1, v2] := by rw [hwA, hB]; exact (RowAt.new _ _ _).upd ((Upd.refl [] _).alloc _) (by simp)
  have HL := Lib.hid hL
  have S1 := Lib.hid (validLnI _ x wA _ (R_Lnk.upd hR' uA (by simp)) hF)
  have S2 := Lib.hid (fun W (hu : Upd [] w W) => lnStateI _ x v s W _ fs (R_Lnk.upd hR' hu (by simp)) (R_I1k.upd hS hu (by simp)))
  have S3 := Lib.hid (fun W (hu : Upd [] w W) (hk : lnOk x = true) => cloneLnI _ x W _ (R_Lnk.upd hR' hu (by simp)) (ln_fits hk hF))
  have S4 := Lib.hid (fun W (hu : Upd [] w W) => cloneII v s W fs hs (R_I1k.upd hS hu (by simp)))
  have UA := Lib.hid uA
  have hszA : B + 2 ≤ wA.heap.size := by rw [hwA, hB]; simp
  have HMS := Lib.hid (show startF x s = if lnOk x then (if stP s x.pars then (⟨x.pars, s, x.sms⟩, 0) else (zeroLn, 2)) else (zeroLn, 1) from rfl)
  have hLu := hL
  unfold RowAt at hLu
  obtain ⟨a9, c9, rfl, hl9, hm9, -⟩ := slF1_open hS
  clear r1 r2 hR' uA s1 hF hL hS
  generalize startF x s = Z at *
  generalize hok : lnOk x = ok at *
  generalize stP s x.pars = st at *
  go_enter Try.func18, Try.ntmps18
  go_upto_region 1 with (fail)
  rw [← hwA, ← hB]
  have HBB := Lib.hid hB
  clear hwA hB
  go_wp2_with (first
    | (refine wpList_load_row rfl 29 _ rfl B rfl 29 #[ei x.pars, v1, v2] (0, 0) _ hLu Try.underlying29 rfl Ln_size ?_)
    | fail)
  refine S1.out.mono ?_
  rintro e w1 ⟨rfl, hu1⟩
  have HU1 := Lib.hid (UA.out.trans hu1)
  have hL1 := HL.out.upd hu1 (by simp)
  have hA1 := HA.out.upd hu1 (by simp)
  have HL1 := Lib.hid hL1
  have HA1 := Lib.hid hA1
  unfold RowAt at hL1 hA1
  clear S1 hu1 hLu HL HA
  cases ok with
  | false =>
    have HZ := Lib.hid (show Z = (zeroLn, 1) by rw [HMS.out]; rfl)
    clear S2 S3 S4 HMS
    go_wp2_with (first
      | (refine wpList_store_row rfl 29 _ _ rfl (B + 1) #[.int .i64 0, .slice none 0 0, .slice none 0 0] rfl rfl 29 _ hA1 Ln_size rfl (by simp [Value.oneCell']) ?_)
      | fail)
    have hr : RowAt (w1.setRow (B + 1) #[.int .i64 0, .slice none 0 0, .slice none 0 0]) (B + 1) 29 [.int .i64 0, .slice none 0 0, .slice none 0 0] := HA1.out.row [.int .i64 0, .slice none 0 0, .slice none 0 0]
    have n0 := hr.cell 0 _ rfl
    have n1 := hr.cell 1 _ rfl
    have n2 := hr.cell 2 _ rfl
    refine bodyPost_ret (v := .tuple #[.agg #[.int .i64 0, .slice none 0 0, .slice none 0 0], .int .i64 1]) (by simp [results, Try.results18, go_sem, n0, n1, n2]) rfl ?_
    rw [HZ.out]
    exact gaveLn_zero _ _ _ (HU1.out.row (Or.inl (by have := HBB.out; omega)) _)
  | true =>
    have T2 := Lib.hid (S2.out w1 HU1.out)
    clear S2
    go_wp2_with (first
      | (refine wpList_load_row rfl 29 _ rfl B rfl 29 #[ei x.pars, v1, v2] (0, 0) _ hL1 Try.underlying29 rfl Ln_size ?_)
      | fail)
    refine T2.out.mono ?_
    rintro e w2 ⟨rfl, hu2⟩
    have HU2 := Lib.hid (HU1.out.trans hu2)
    have hL2 := HL1.out.upd hu2 (by simp)
    have hA2 := HA1.out.upd hu2 (by simp)
    have HA2 := Lib.hid hA2
    unfold RowAt at hL2 hA2
    clear T2 hu2 hL1 hA1 HL1 HA1
    cases st with
    | false =>
      have HZ := Lib.hid (show Z = (zeroLn, 2) by rw [HMS.out]; rfl)
      clear S3 S4 HMS
      go_wp2_with (first
        | (refine wpList_store_row rfl 29 _ _ rfl (B + 1) #[.int .i64 0, .slice none 0 0, .slice none 0 0] rfl rfl 29 _ hA2 Ln_size rfl (by simp [Value.oneCell']) ?_)
        | fail)
      have hr : RowAt (w2.setRow (B + 1) #[.int .i64 0, .slice none 0 0, .slice none 0 0]) (B + 1) 29 [.int .i64 0, .slice none 0 0, .slice none 0 0] := HA2.out.row [.int .i64 0, .slice none 0 0, .slice none 0 0]
      have n0 := hr.cell 0 _ rfl
      have n1 := hr.cell 1 _ rfl
      have n2 := hr.cell 2 _ rfl
      refine bodyPost_ret (v := .tuple #[.agg #[.int .i64 0, .slice none 0 0, .slice none 0 0], .int .i64 2]) (by simp [results, Try.results18, go_sem, n0, n1, n2]) rfl ?_
      rw [HZ.out]
      exact gaveLn_zero _ _ _ (HU2.out.row (Or.inl (by have := HBB.out; omega)) _)
    | true =>
      have HZ := Lib.hid (show Z = (⟨x.pars, s, x.sms⟩, 0) by rw [HMS.out]; rfl)
      have T3 := Lib.hid (S3.out w2 HU2.out trivial)
      clear S3 HMS
      go_wp2_with (first
        | (refine wpList_load_row rfl 29 _ rfl B rfl 29 #[ei x.pars, v1, v2] (0, 0) _ hL2 Try.underlying29 rfl Ln_size ?_)
        | fail)
      refine T3.out.mono ?_
      rintro e w3 ⟨⟨us, rfl, hl, hc, hn⟩, hu3⟩
      obtain ⟨u1, u2, rfl, hn1, hn2⟩ := ln_split hn
      obtain ⟨p1, q1, rfl⟩ := hn1.form
      obtain ⟨p2, q2, rfl⟩ := hn2.formQ
      clear hn1
      obtain ⟨wB, hwB⟩ : ∃ wB, wB = w3.alloc (.cells #[ei x.pars, .slice p1 x.start.length q1, .slice p2 x.sms.length q2] 29) := ⟨_, rfl⟩
      have uB : Upd [] w3 wB := by rw [hwB]; exact (Upd.refl _ _).alloc _
      obtain ⟨C, hC⟩ : ∃ C, C = w3.heap.size := ⟨_, rfl⟩
      have hrC : RowAt wB C 29 [ei x.pars, .slice p1 x.start.length q1, .slice p2 x.sms.length q2] := by rw [hwB, hC]; exact RowAt.new _ _ _
      have HUB := Lib.hid ((HU2.out.trans hu3).trans uB)
      have HRC := Lib.hid hrC
      have HCB := Lib.hid (show C < wB.heap.size from hrC.lt)
      have HBW := Lib.hid (show B + 1 < w2.heap.size from HA2.out.lt)
      have HN2 := Lib.hid (And.intro hn2 (And.intro hu3 uB))
      have HAB := Lib.hid ((HA2.out.upd hu3 (by simp)).upd uB (by simp))
      have T4 := Lib.hid (S4.out wB HUB.out)
      have hCB : B + 2 ≤ C := by have := HU2.out.size; have := hu3.size; have := HA2.out.lt; omega
      clear T3 hn hn2 hu3 uB hrC hA2 hL2 HA2 S4 hc
      go_upto_region 6 with (fail)
      rw [← hwB, ← hC]
      have HCC := Lib.hid hC
      clear hwB hC
      go_wp2_with fail
      refine T4.out.mono ?_
      rintro e w4 ⟨⟨v4, rfl, hn4⟩, hu4⟩
      obtain ⟨xa, ya, rfl⟩ := hn4.form
      have hr4 := HRC.out.upd hu4 (by simp)
      have y1 := hr4.fz 1
      have d1 := hr4.cell 1 _ rfl
      have hr5 : RowAt (w4.setCell ⟨C, 1, none⟩ (.slice xa s.length ya)) C 29 [ei x.pars, .slice xa s.length ya, .slice p2 x.sms.length q2] := hr4.store 1 _
      have hA5 : RowAt (w4.setCell ⟨C, 1, none⟩ (.slice xa s.length ya)) (B + 1) 29 zerosLn := (HAB.out.upd hu4 (by simp)).other C 1 _ (by omega)
      have HP := Lib.hid (And.intro hn4 hu4)
      have HA5 := Lib.hid hA5
      unfold RowAt at hr5 hA5
      clear hr4 hn4 hu4 HRC HAB T4
      go_wp2_with (first
        | (refine wpList_load_row rfl 29 _ rfl C rfl 29 #[ei x.pars, .slice xa s.length ya, .slice p2 x.sms.length q2] (0, 0) _ hr5 Try.underlying29 rfl Ln_size ?_)
        | (refine wpList_store_row rfl 29 _ _ rfl (B + 1) #[ei x.pars, .slice xa s.length ya, .slice p2 x.sms.length q2] rfl rfl 29 _ hA5 Ln_size rfl (by simp [Value.oneCell']) ?_)
        | fail)
      have hr : RowAt ((w4.setCell ⟨C, 1, none⟩ (.slice xa s.length ya)).setRow (B + 1) #[ei x.pars, .slice xa s.length ya, .slice p2 x.sms.length q2]) (B + 1) 29 [ei x.pars, .slice xa s.length ya, .slice p2 x.sms.length q2] := HA5.out.row [ei x.pars, .slice xa s.length ya, .slice p2 x.sms.length q2]
      have n0 := hr.cell 0 _ rfl
      have n1 := hr.cell 1 _ rfl
      have n2 := hr.cell 2 _ rfl
      refine bodyPost_ret (v := .tuple #[.agg #[ei x.pars, .slice xa s.length ya, .slice p2 x.sms.length q2], .int .i64 0]) (by simp [results, Try.results18, go_sem, n0, n1, n2]) rfl ?_
      rw [HZ.out]
      have hB := HBB.out
      have hC := HCC.out
      have z2 := HU2.out.size
      have zB := HUB.out.size
      have zA := UA.out.size
      have z3 := HN2.out.2.1.size
      refine gaveLn (us := [ei x.pars, .slice xa s.length ya, .slice p2 x.sms.length q2]) (W := w2) (ln_join2 (w1 := w3) (C := C) HN2.out.1 z3 HN2.out.2.2 (by omega) HCB.out HP.out.1 HP.out.2 ((Upd.refl _ _).setCell (Or.inr (by simp)) _)) rfl (by simp [Value.oneCell']) ((HUB.out.trans HP.out.2).setCell (Or.inl (show w.heap.size ≤ C by omega)) _) (by omega) HBW.out z2

set_option maxRecDepth 20000 in
set_option maxHeartbeats 2000000 in
theorem startS (cs : List Value) (x : Ln) (v : Value) (s : List Int) (w : World) (fp fs : List Nat) (hR : R_Ln fp w cs x) (hS : R_I1 fs w [v] s) (hF : LnFit x) (hs : s.length ≤ 2000000) :
    Calls Try.prog 16 #[.agg cs.toArray, v] w (GaveLn w (startF x s)) := by
  have hR' := hR
  obtain ⟨v1, v2, f1, f2, rfl, r1, r2, rfl⟩ := hR
  obtain ⟨B, hB⟩ : ∃ B, B = w.heap.size := ⟨_, rfl⟩
  obtain ⟨wA, hwA⟩ : ∃ wA, wA = (w.alloc (.cells #[ei x.pars, v1, v2] 29)).alloc (.cells #[.int .i64 0, .slice none 0 0, .slice none 0 0] 29) := ⟨_, rfl⟩
  have s1 : (w.alloc (.cells #[ei x.pars, v1, v2] 29)).heap.size = B + 1 := by rw [hB]; simp
  have uA : Upd [] w wA := by rw [hwA]; exact ((Upd.refl _ _).alloc _).alloc _
  have HA := Lib.hid (show RowAt wA (B + 1) 29 zerosLn from by rw [hwA, ← s1]; exact RowAt.new _ _ _)
  have hL : RowAt wA B 29 [ei x.pars, v1, v2] := by rw [hwA, hB]; exact (RowAt.new _ _ _).upd ((Upd.refl [] _).alloc _) (by simp)
  have HL := Lib.hid hL
  have hAt : LnAt wA B v1 v2 f1 f2 x := by rw [hwA, hB]; exact (LnAt.new w _ v1 v2 f1 f2 x r1 r2).upd ((Upd.refl [] _).alloc _)
  have S1 := Lib.hid (isLnS B v1 v2 x wA f1 f2 hAt (fun s hs => (hF s hs).1))
  have S2 := Lib.hid (fun W (hu : Upd [] w W) => l08DataS v s x.pars W fs (R_I1k.upd hS hu (by simp)))
  have S3 := Lib.hid (fun W (hu : Upd [] wA W) (hk : lnOk x = true) => ownLnS B v1 v2 x W f1 f2 (hAt.upd hu) (ln_fits hk hF).sf (ln_fits hk hF).st (ln_fits hk hF).sm)
  have S4 := Lib.hid (fun W (hu : Upd [] w W) => ownIS v s W fs hs (R_I1k.upd hS hu (by simp)))
  have UA := Lib.hid uA
  have hszA : B + 2 ≤ wA.heap.size := by rw [hwA, hB]; simp
  have HMS := Lib.hid (show startF x s = if lnOk x then (if stP s x.pars then (⟨x.pars, s, x.sms⟩, 0) else (zeroLn, 2)) else (zeroLn, 1) from rfl)
  have hLu := hL
  unfold RowAt at hLu
  obtain ⟨a9, c9, rfl, hl9, hm9, -⟩ := slF1_open hS
  clear r1 r2 hR' uA s1 hF hL hS hAt
  generalize startF x s = Z at *
  generalize hok : lnOk x = ok at *
  generalize stP s x.pars = st at *
  go_enter Try.func16, Try.ntmps16
  go_upto_region 1 with (fail)
  rw [← hwA, ← hB]
  have HBB := Lib.hid hB
  clear hwA hB
  go_wp2_with fail
  refine S1.out.mono ?_
  rintro e w1 ⟨rfl, nq, rfl⟩
  have hu1 : Upd [] wA (wA.drewN nq) := (Upd.refl _ _).drewN nq
  obtain ⟨w1, hw1⟩ : ∃ w1, w1 = wA.drewN nq := ⟨_, rfl⟩
  rw [← hw1] at hu1
  rw [← hw1]
  clear hw1
  have HA1' := Lib.hid hu1
  have HU1 := Lib.hid (UA.out.trans hu1)
  have hL1 := HL.out.upd hu1 (by simp)
  have hA1 := HA.out.upd hu1 (by simp)
  have HL1 := Lib.hid hL1
  have HA1 := Lib.hid hA1
  unfold RowAt at hL1 hA1
  clear S1 hu1 hLu HL HA
  cases ok with
  | false =>
    have HZ := Lib.hid (show Z = (zeroLn, 1) by rw [HMS.out]; rfl)
    clear S2 S3 S4 HMS
    go_wp2_with (first
      | (refine wpList_store_row rfl 29 _ _ rfl (B + 1) #[.int .i64 0, .slice none 0 0, .slice none 0 0] rfl rfl 29 _ hA1 Ln_size rfl (by simp [Value.oneCell']) ?_)
      | fail)
    have hr : RowAt (w1.setRow (B + 1) #[.int .i64 0, .slice none 0 0, .slice none 0 0]) (B + 1) 29 [.int .i64 0, .slice none 0 0, .slice none 0 0] := HA1.out.row [.int .i64 0, .slice none 0 0, .slice none 0 0]
    have n0 := hr.cell 0 _ rfl
    have n1 := hr.cell 1 _ rfl
    have n2 := hr.cell 2 _ rfl
    refine bodyPost_ret (v := .tuple #[.agg #[.int .i64 0, .slice none 0 0, .slice none 0 0], .int .i64 1]) (by simp [results, Try.results16, go_sem, n0, n1, n2]) rfl ?_
    rw [HZ.out]
    exact gaveLn_zero _ _ _ (HU1.out.row (Or.inl (by have := HBB.out; omega)) _)
  | true =>
    have T2 := Lib.hid (S2.out w1 HU1.out)
    have k0 := HL1.out.cell 0 _ rfl
    clear S2
    go_wp2_with fail
    refine T2.out.mono ?_
    rintro e w2 ⟨rfl, hw2⟩
    have hu2 : Upd [] w1 w2 := by rw [hw2]; exact Upd.refl [] _
    have HA1' := Lib.hid (HA1'.out.trans hu2)
    clear hw2 k0
    have HU2 := Lib.hid (HU1.out.trans hu2)
    have hL2 := HL1.out.upd hu2 (by simp)
    have hA2 := HA1.out.upd hu2 (by simp)
    have HA2 := Lib.hid hA2
    unfold RowAt at hL2 hA2
    clear T2 hu2 hL1 hA1 HL1 HA1
    cases st with
    | false =>
      have HZ := Lib.hid (show Z = (zeroLn, 2) by rw [HMS.out]; rfl)
      clear S3 S4 HMS
      go_wp2_with (first
        | (refine wpList_store_row rfl 29 _ _ rfl (B + 1) #[.int .i64 0, .slice none 0 0, .slice none 0 0] rfl rfl 29 _ hA2 Ln_size rfl (by simp [Value.oneCell']) ?_)
        | fail)
      have hr : RowAt (w2.setRow (B + 1) #[.int .i64 0, .slice none 0 0, .slice none 0 0]) (B + 1) 29 [.int .i64 0, .slice none 0 0, .slice none 0 0] := HA2.out.row [.int .i64 0, .slice none 0 0, .slice none 0 0]
      have n0 := hr.cell 0 _ rfl
      have n1 := hr.cell 1 _ rfl
      have n2 := hr.cell 2 _ rfl
      refine bodyPost_ret (v := .tuple #[.agg #[.int .i64 0, .slice none 0 0, .slice none 0 0], .int .i64 2]) (by simp [results, Try.results16, go_sem, n0, n1, n2]) rfl ?_
      rw [HZ.out]
      exact gaveLn_zero _ _ _ (HU2.out.row (Or.inl (by have := HBB.out; omega)) _)
    | true =>
      have HZ := Lib.hid (show Z = (⟨x.pars, s, x.sms⟩, 0) by rw [HMS.out]; rfl)
      have T3 := Lib.hid (S3.out w2 HA1'.out trivial)
      clear S3 HMS
      go_wp2_with fail
      refine T3.out.mono ?_
      rintro e w3 ⟨⟨us, rfl, hl, hc, hn⟩, hu3⟩
      obtain ⟨u1, u2, rfl, hn1, hn2⟩ := ln_split hn
      obtain ⟨p1, q1, rfl⟩ := hn1.form
      obtain ⟨p2, q2, rfl⟩ := hn2.formQ
      clear hn1
      obtain ⟨wB, hwB⟩ : ∃ wB, wB = w3.alloc (.cells #[ei x.pars, .slice p1 x.start.length q1, .slice p2 x.sms.length q2] 29) := ⟨_, rfl⟩
      have uB : Upd [] w3 wB := by rw [hwB]; exact (Upd.refl _ _).alloc _
      obtain ⟨C, hC⟩ : ∃ C, C = w3.heap.size := ⟨_, rfl⟩
      have hrC : RowAt wB C 29 [ei x.pars, .slice p1 x.start.length q1, .slice p2 x.sms.length q2] := by rw [hwB, hC]; exact RowAt.new _ _ _
      have HUB := Lib.hid ((HU2.out.trans hu3).trans uB)
      have HRC := Lib.hid hrC
      have HCB := Lib.hid (show C < wB.heap.size from hrC.lt)
      have HBW := Lib.hid (show B + 1 < w2.heap.size from HA2.out.lt)
      have HN2 := Lib.hid (And.intro hn2 (And.intro hu3 uB))
      have HAB := Lib.hid ((HA2.out.upd hu3 (by simp)).upd uB (by simp))
      have T4 := Lib.hid (S4.out wB HUB.out)
      have hCB : B + 2 ≤ C := by have := HU2.out.size; have := hu3.size; have := HA2.out.lt; omega
      clear T3 hn hn2 hu3 uB hrC hA2 hL2 HA2 S4 hc
      go_upto_region 6 with (fail)
      rw [← hwB, ← hC]
      have HCC := Lib.hid hC
      clear hwB hC
      go_wp2_with fail
      refine T4.out.mono ?_
      rintro e w4 ⟨⟨v4, rfl, hn4⟩, hu4⟩
      obtain ⟨xa, ya, rfl⟩ := hn4.form
      have hr4 := HRC.out.upd hu4 (by simp)
      have y1 := hr4.fz 1
      have d1 := hr4.cell 1 _ rfl
      have hr5 : RowAt (w4.setCell ⟨C, 1, none⟩ (.slice xa s.length ya)) C 29 [ei x.pars, .slice xa s.length ya, .slice p2 x.sms.length q2] := hr4.store 1 _
      have hA5 : RowAt (w4.setCell ⟨C, 1, none⟩ (.slice xa s.length ya)) (B + 1) 29 zerosLn := (HAB.out.upd hu4 (by simp)).other C 1 _ (by omega)
      have HP := Lib.hid (And.intro hn4 hu4)
      have HA5 := Lib.hid hA5
      unfold RowAt at hr5 hA5
      clear hr4 hn4 hu4 HRC HAB T4
      go_wp2_with (first
        | (refine wpList_load_row rfl 29 _ rfl C rfl 29 #[ei x.pars, .slice xa s.length ya, .slice p2 x.sms.length q2] (0, 0) _ hr5 Try.underlying29 rfl Ln_size ?_)
        | (refine wpList_store_row rfl 29 _ _ rfl (B + 1) #[ei x.pars, .slice xa s.length ya, .slice p2 x.sms.length q2] rfl rfl 29 _ hA5 Ln_size rfl (by simp [Value.oneCell']) ?_)
        | fail)
      have hr : RowAt ((w4.setCell ⟨C, 1, none⟩ (.slice xa s.length ya)).setRow (B + 1) #[ei x.pars, .slice xa s.length ya, .slice p2 x.sms.length q2]) (B + 1) 29 [ei x.pars, .slice xa s.length ya, .slice p2 x.sms.length q2] := HA5.out.row [ei x.pars, .slice xa s.length ya, .slice p2 x.sms.length q2]
      have n0 := hr.cell 0 _ rfl
      have n1 := hr.cell 1 _ rfl
      have n2 := hr.cell 2 _ rfl
      refine bodyPost_ret (v := .tuple #[.agg #[ei x.pars, .slice xa s.length ya, .slice p2 x.sms.length q2], .int .i64 0]) (by simp [results, Try.results16, go_sem, n0, n1, n2]) rfl ?_
      rw [HZ.out]
      have hB := HBB.out
      have hC := HCC.out
      have z2 := HU2.out.size
      have zB := HUB.out.size
      have zA := UA.out.size
      have z3 := HN2.out.2.1.size
      refine gaveLn (us := [ei x.pars, .slice xa s.length ya, .slice p2 x.sms.length q2]) (W := w2) (ln_join2 (w1 := w3) (C := C) HN2.out.1 z3 HN2.out.2.2 (by omega) HCB.out HP.out.1 HP.out.2 ((Upd.refl _ _).setCell (Or.inr (by simp)) _)) rfl (by simp [Value.oneCell']) ((HUB.out.trans HP.out.2).setCell (Or.inl (show w.heap.size ≤ C by omega)) _) (by omega) HBW.out z2

end Go.Proofs.Ytnfghgaadnobbaa
