/-
  HideLinear: what the program's and the reference's outer calls return and make.
-/
import Derived.Test.YtnfghgaadnobbaaLinH
namespace Go.Proofs.Ytnfghgaadnobbaa
open Go.RowKit

def hidF (x : Ln) (ns : List (List UInt8)) : Ln × Int := if lnOk x then (if namesF ns then (hidP ns x, 0) else (zeroLn, 2)) else (zeroLn, 1)
theorem hidF_b (x : Ln) (ns : List (List UInt8)) (h : 1 + mkF_Ln x ≤ 100000000) : 1 + mkF_Ln (hidF x ns).1 ≤ 4611686018427387904 := by
  have h1 := hid_p ns x
  unfold hidF
  split
  · split
    · show 1 + mkF_Ln (hidP ns x) ≤ _; omega
    · show (1 : Int) + 0 ≤ _; omega
  · show (1 : Int) + 0 ≤ _; omega

set_option maxRecDepth 20000 in
set_option maxHeartbeats 4000000 in
theorem hidFI (cs : List Value) (x : Ln) (v : Value) (ns : List (List UInt8)) (w : World) (fp fs : List Nat) (hR : R_Ln fp w cs x) (hS : R_S1 fs w [v] ns) (hF : LnFit x) (hl : ns.length ≤ 2000000) (ht : ∀ s ∈ ns, s.length ≤ 2000000) :
    Calls Try.prog 30 #[.agg cs.toArray, v] w (GaveLn w (hidF x ns)) := by
  have hR' := hR
  obtain ⟨v1, v2, f1, f2, rfl, r1, r2, rfl⟩ := hR
  obtain ⟨B, hB⟩ : ∃ B, B = w.heap.size := ⟨_, rfl⟩
  obtain ⟨wA, hwA⟩ : ∃ wA, wA = (w.alloc (.cells #[ei x.pars, v1, v2] 29)).alloc (.cells #[.int .i64 0, .slice none 0 0, .slice none 0 0] 29) := ⟨_, rfl⟩
  have s1 : (w.alloc (.cells #[ei x.pars, v1, v2] 29)).heap.size = B + 1 := by rw [hB]; simp
  have uA : Upd [] w wA := by rw [hwA]; exact ((Upd.refl _ _).alloc _).alloc _
  have hA1 : RowAt wA (B + 1) 29 zerosLn := by rw [hwA, ← s1]; exact RowAt.new _ _ _
  have hL : RowAt wA B 29 [ei x.pars, v1, v2] := by rw [hwA, hB]; exact (RowAt.new _ _ _).upd ((Upd.refl [] _).alloc _) (by simp)
  have HL := Lib.hid hL
  have HA := Lib.hid hA1
  have S1 := Lib.hid (validLnI _ x wA _ (R_Lnk.upd hR' uA (by simp)) hF)
  have QA := Lib.hid (fun W (hu : Upd [] wA W) => namesOkI v ns W fs (R_S1k.upd hS (uA.trans hu) (by simp)) hl ht)
  have S3 := Lib.hid (fun W (hu : Upd [] wA W) (hk : lnOk x = true) => hideI _ x v ns W _ fs (R_Lnk.upd hR' (uA.trans hu) (by simp)) (R_S1k.upd hS (uA.trans hu) (by simp)) (ln_fits hk hF))
  have UA := Lib.hid uA
  have HMS := Lib.hid (show hidF x ns = if lnOk x then (if namesF ns then (hidP ns x, 0) else (zeroLn, 2)) else (zeroLn, 1) from rfl)
  have hL1 := hL
  unfold RowAt at hL1
  clear r1 r2 hR' uA s1 hF hL hA1 hS ht
  generalize hidF x ns = Z at *
  generalize hok : lnOk x = ok at *
  generalize namesF ns = qa at *
  generalize hidP ns x = Y at *
  go_enter Try.func30, Try.ntmps30
  go_upto_region 1 with (fail)
  rw [← hwA, ← hB]
  have HBB := Lib.hid hB
  clear hwA hB
  go_wp2_with (first
    | (refine wpList_load_row rfl 29 _ rfl B rfl 29 #[ei x.pars, v1, v2] (0, 0) _ hL1 Try.underlying29 rfl Ln_size ?_)
    | fail)
  refine S1.out.mono ?_
  rintro e w1 ⟨rfl, hu1⟩
  have HU1 := Lib.hid (UA.out.trans hu1)
  have HV1 := Lib.hid hu1
  have ha1 := HA.out.upd hu1 (by simp)
  have HL1 := Lib.hid (HL.out.upd hu1 (by simp))
  have HA1 := Lib.hid ha1
  unfold RowAt at ha1
  clear S1 hu1 HL HA hL1
  cases ok with
  | false =>
    have HZ := Lib.hid (show Z = (zeroLn, 1) by rw [HMS.out]; rfl)
    clear QA S3 HMS
    go_wp2_with (first
      | (refine wpList_store_row rfl 29 _ _ rfl (B + 1) #[.int .i64 0, .slice none 0 0, .slice none 0 0] rfl rfl 29 _ ha1 Ln_size rfl (by simp [Value.oneCell']) ?_)
      | fail)
    have hr : RowAt (w1.setRow (B + 1) #[.int .i64 0, .slice none 0 0, .slice none 0 0]) (B + 1) 29 [.int .i64 0, .slice none 0 0, .slice none 0 0] := HA1.out.row [.int .i64 0, .slice none 0 0, .slice none 0 0]
    have n0 := hr.cell 0 _ rfl
    have n1 := hr.cell 1 _ rfl
    have n2 := hr.cell 2 _ rfl
    refine bodyPost_ret (v := .tuple #[.agg #[.int .i64 0, .slice none 0 0, .slice none 0 0], .int .i64 1]) (by simp [results, Try.results30, go_sem, n0, n1, n2]) rfl ?_
    rw [HZ.out]
    exact gaveLn_zero _ _ _ (HU1.out.row (Or.inl (by have := HBB.out; omega)) _)
  | true =>
    have Q1 := Lib.hid (QA.out w1 HV1.out)
    clear QA ha1
    go_wp2_with fail
    refine Q1.out.mono ?_
    rintro e w2 ⟨rfl, hu2⟩
    have HU2 := Lib.hid (HU1.out.trans hu2)
    have HV2 := Lib.hid (HV1.out.trans hu2)
    have ha2 := HA1.out.upd hu2 (by simp)
    have hL2 := HL1.out.upd hu2 (by simp)
    have HA2 := Lib.hid ha2
    unfold RowAt at ha2 hL2
    clear Q1 hu2 HL1 HA1 HU1 HV1
    cases qa with
    | false =>
      have HZ := Lib.hid (show Z = (zeroLn, 2) by rw [HMS.out]; rfl)
      clear S3 HMS hL2
      go_wp2_with (first
        | (refine wpList_store_row rfl 29 _ _ rfl (B + 1) #[.int .i64 0, .slice none 0 0, .slice none 0 0] rfl rfl 29 _ ha2 Ln_size rfl (by simp [Value.oneCell']) ?_)
        | fail)
      have hr : RowAt (w2.setRow (B + 1) #[.int .i64 0, .slice none 0 0, .slice none 0 0]) (B + 1) 29 [.int .i64 0, .slice none 0 0, .slice none 0 0] := HA2.out.row [.int .i64 0, .slice none 0 0, .slice none 0 0]
      have n0 := hr.cell 0 _ rfl
      have n1 := hr.cell 1 _ rfl
      have n2 := hr.cell 2 _ rfl
      refine bodyPost_ret (v := .tuple #[.agg #[.int .i64 0, .slice none 0 0, .slice none 0 0], .int .i64 2]) (by simp [results, Try.results30, go_sem, n0, n1, n2]) rfl ?_
      rw [HZ.out]
      exact gaveLn_zero _ _ _ (HU2.out.row (Or.inl (by have := HBB.out; omega)) _)
    | true =>
      have HZ := Lib.hid (show Z = (Y, 0) by rw [HMS.out]; rfl)
      have T3 := Lib.hid (S3.out w2 HV2.out (by first | trivial | rfl))
      clear S3 HMS ha2
      go_wp2_with (first
        | (refine wpList_load_row rfl 29 _ rfl B rfl 29 #[ei x.pars, v1, v2] (0, 0) _ hL2 Try.underlying29 rfl Ln_size ?_)
        | fail)
      refine T3.out.mono ?_
      rintro e w3 ⟨⟨us, rfl, hl3, hc3, hn⟩, hu3⟩
      obtain ⟨p1, q1, p2, q2, rfl⟩ := ln_form hn
      have HN := Lib.hid hn
      have HU3 := Lib.hid (HU2.out.trans hu3)
      have ha3 := HA2.out.upd hu3 (by simp)
      have HA3 := Lib.hid ha3
      have HBW := Lib.hid HA2.out.lt
      unfold RowAt at ha3
      clear T3 hu3 hn hc3
      go_wp2_with (first
        | (refine wpList_store_row rfl 29 _ _ rfl (B + 1) #[ei Y.pars, .slice p1 Y.start.length q1, .slice p2 Y.sms.length q2] rfl rfl 29 _ ha3 Ln_size rfl (by simp [Value.oneCell']) ?_)
        | fail)
      have hr : RowAt (w3.setRow (B + 1) #[ei Y.pars, .slice p1 Y.start.length q1, .slice p2 Y.sms.length q2]) (B + 1) 29 [ei Y.pars, .slice p1 Y.start.length q1, .slice p2 Y.sms.length q2] := HA3.out.row [ei Y.pars, .slice p1 Y.start.length q1, .slice p2 Y.sms.length q2]
      have n0 := hr.cell 0 _ rfl
      have n1 := hr.cell 1 _ rfl
      have n2 := hr.cell 2 _ rfl
      refine bodyPost_ret (v := .tuple #[.agg #[ei Y.pars, .slice p1 Y.start.length q1, .slice p2 Y.sms.length q2], .int .i64 0]) (by simp [results, Try.results30, go_sem, n0, n1, n2]) rfl ?_
      rw [HZ.out]
      exact gaveLn (us := [ei Y.pars, .slice p1 Y.start.length q1, .slice p2 Y.sms.length q2]) (W := w2) HN.out rfl (by simp [Value.oneCell']) HU3.out (by have := HBB.out; omega) HBW.out HU2.out.size

set_option maxRecDepth 20000 in
set_option maxHeartbeats 4000000 in
theorem hidFS (cs : List Value) (x : Ln) (v : Value) (ns : List (List UInt8)) (w : World) (fp fs : List Nat) (hR : R_Ln fp w cs x) (hS : R_S1 fs w [v] ns) (hF : LnFit x) (hl : ns.length ≤ 2000000) (ht : ∀ s ∈ ns, s.length ≤ 2000000) :
    Calls Try.prog 29 #[.agg cs.toArray, v] w (GaveLn w (hidF x ns)) := by
  obtain ⟨v1, v2, f1, f2, rfl, r1, r2, rfl⟩ := hR
  obtain ⟨B, hB⟩ : ∃ B, B = w.heap.size := ⟨_, rfl⟩
  obtain ⟨wA, hwA⟩ : ∃ wA, wA = (w.alloc (.cells #[ei x.pars, v1, v2] 29)).alloc (.cells #[.int .i64 0, .slice none 0 0, .slice none 0 0] 29) := ⟨_, rfl⟩
  have s1 : (w.alloc (.cells #[ei x.pars, v1, v2] 29)).heap.size = B + 1 := by rw [hB]; simp
  have uA : Upd [] w wA := by rw [hwA]; exact ((Upd.refl _ _).alloc _).alloc _
  have hA1 : RowAt wA (B + 1) 29 zerosLn := by rw [hwA, ← s1]; exact RowAt.new _ _ _
  have HA := Lib.hid hA1
  have hAt : LnAt wA B v1 v2 f1 f2 x := by rw [hwA, hB]; exact (LnAt.new w _ v1 v2 f1 f2 x r1 r2).upd ((Upd.refl [] _).alloc _)
  have S1 := Lib.hid (isLnS B v1 v2 x wA f1 f2 hAt (fun s hs => (hF s hs).1))
  have QA := Lib.hid (fun W (hu : Upd [] wA W) => nameListS v ns W fs (R_S1k.upd hS (uA.trans hu) (by simp)) hl ht)
  have S3 := Lib.hid (fun W (hu : Upd [] wA W) (hk : lnOk x = true) => hideS B v1 v2 x v ns W f1 f2 fs (hAt.upd hu) (R_S1k.upd hS (uA.trans hu) (by simp)) (ln_fits hk hF))
  have UA := Lib.hid uA
  have HMS := Lib.hid (show hidF x ns = if lnOk x then (if namesF ns then (hidP ns x, 0) else (zeroLn, 2)) else (zeroLn, 1) from rfl)
  clear r1 r2 uA s1 hF hA1 hS ht hAt
  generalize hidF x ns = Z at *
  generalize hok : lnOk x = ok at *
  generalize namesF ns = qa at *
  generalize hidP ns x = Y at *
  go_enter Try.func29, Try.ntmps29
  go_upto_region 1 with (fail)
  rw [← hwA, ← hB]
  have HBB := Lib.hid hB
  clear hwA hB
  go_wp2_with fail
  refine S1.out.mono ?_
  rintro e w1 ⟨rfl, nq, hw1⟩
  have hu1 : Upd [] wA w1 := by rw [hw1]; exact (Upd.refl _ _).drewN nq
  clear hw1
  have HU1 := Lib.hid (UA.out.trans hu1)
  have HV1 := Lib.hid hu1
  have ha1 := HA.out.upd hu1 (by simp)
  have HA1 := Lib.hid ha1
  unfold RowAt at ha1
  clear S1 hu1 HA
  cases ok with
  | false =>
    have HZ := Lib.hid (show Z = (zeroLn, 1) by rw [HMS.out]; rfl)
    clear QA S3 HMS
    go_wp2_with (first
      | (refine wpList_store_row rfl 29 _ _ rfl (B + 1) #[.int .i64 0, .slice none 0 0, .slice none 0 0] rfl rfl 29 _ ha1 Ln_size rfl (by simp [Value.oneCell']) ?_)
      | fail)
    have hr : RowAt (w1.setRow (B + 1) #[.int .i64 0, .slice none 0 0, .slice none 0 0]) (B + 1) 29 [.int .i64 0, .slice none 0 0, .slice none 0 0] := HA1.out.row [.int .i64 0, .slice none 0 0, .slice none 0 0]
    have n0 := hr.cell 0 _ rfl
    have n1 := hr.cell 1 _ rfl
    have n2 := hr.cell 2 _ rfl
    refine bodyPost_ret (v := .tuple #[.agg #[.int .i64 0, .slice none 0 0, .slice none 0 0], .int .i64 1]) (by simp [results, Try.results29, go_sem, n0, n1, n2]) rfl ?_
    rw [HZ.out]
    exact gaveLn_zero _ _ _ (HU1.out.row (Or.inl (by have := HBB.out; omega)) _)
  | true =>
    have Q1 := Lib.hid (QA.out w1 HV1.out)
    clear QA ha1
    go_wp2_with fail
    refine Q1.out.mono ?_
    rintro e w2 ⟨rfl, hu2⟩
    have HU2 := Lib.hid (HU1.out.trans hu2)
    have HV2 := Lib.hid (HV1.out.trans hu2)
    have ha2 := HA1.out.upd hu2 (by simp)
    have HA2 := Lib.hid ha2
    unfold RowAt at ha2
    clear Q1 hu2 HA1 HU1 HV1
    cases qa with
    | false =>
      have HZ := Lib.hid (show Z = (zeroLn, 2) by rw [HMS.out]; rfl)
      clear S3 HMS
      go_wp2_with (first
        | (refine wpList_store_row rfl 29 _ _ rfl (B + 1) #[.int .i64 0, .slice none 0 0, .slice none 0 0] rfl rfl 29 _ ha2 Ln_size rfl (by simp [Value.oneCell']) ?_)
        | fail)
      have hr : RowAt (w2.setRow (B + 1) #[.int .i64 0, .slice none 0 0, .slice none 0 0]) (B + 1) 29 [.int .i64 0, .slice none 0 0, .slice none 0 0] := HA2.out.row [.int .i64 0, .slice none 0 0, .slice none 0 0]
      have n0 := hr.cell 0 _ rfl
      have n1 := hr.cell 1 _ rfl
      have n2 := hr.cell 2 _ rfl
      refine bodyPost_ret (v := .tuple #[.agg #[.int .i64 0, .slice none 0 0, .slice none 0 0], .int .i64 2]) (by simp [results, Try.results29, go_sem, n0, n1, n2]) rfl ?_
      rw [HZ.out]
      exact gaveLn_zero _ _ _ (HU2.out.row (Or.inl (by have := HBB.out; omega)) _)
    | true =>
      have HZ := Lib.hid (show Z = (Y, 0) by rw [HMS.out]; rfl)
      have T3 := Lib.hid (S3.out w2 HV2.out (by first | trivial | rfl))
      clear S3 HMS ha2
      go_wp2_with fail
      refine T3.out.mono ?_
      rintro e w3 ⟨⟨us, rfl, hl3, hc3, hn⟩, hu3⟩
      obtain ⟨p1, q1, p2, q2, rfl⟩ := ln_form hn
      have HN := Lib.hid hn
      have HU3 := Lib.hid (HU2.out.trans hu3)
      have ha3 := HA2.out.upd hu3 (by simp)
      have HA3 := Lib.hid ha3
      have HBW := Lib.hid HA2.out.lt
      unfold RowAt at ha3
      clear T3 hu3 hn hc3
      go_wp2_with (first
        | (refine wpList_store_row rfl 29 _ _ rfl (B + 1) #[ei Y.pars, .slice p1 Y.start.length q1, .slice p2 Y.sms.length q2] rfl rfl 29 _ ha3 Ln_size rfl (by simp [Value.oneCell']) ?_)
        | fail)
      have hr : RowAt (w3.setRow (B + 1) #[ei Y.pars, .slice p1 Y.start.length q1, .slice p2 Y.sms.length q2]) (B + 1) 29 [ei Y.pars, .slice p1 Y.start.length q1, .slice p2 Y.sms.length q2] := HA3.out.row [ei Y.pars, .slice p1 Y.start.length q1, .slice p2 Y.sms.length q2]
      have n0 := hr.cell 0 _ rfl
      have n1 := hr.cell 1 _ rfl
      have n2 := hr.cell 2 _ rfl
      refine bodyPost_ret (v := .tuple #[.agg #[ei Y.pars, .slice p1 Y.start.length q1, .slice p2 Y.sms.length q2], .int .i64 0]) (by simp [results, Try.results29, go_sem, n0, n1, n2]) rfl ?_
      rw [HZ.out]
      exact gaveLn (us := [ei Y.pars, .slice p1 Y.start.length q1, .slice p2 Y.sms.length q2]) (W := w2) HN.out rfl (by simp [Value.oneCell']) HU3.out (by have := HBB.out; omega) HBW.out HU2.out.size

end Go.Proofs.Ytnfghgaadnobbaa
