/-
  RenameLinear: what the program's and the reference's calls return and make.
-/
import Derived.Test.YtnfghgaadnobbaaLinSt
namespace Go.Proofs.Ytnfghgaadnobbaa
open Go.RowKit

def renSm (a b : List UInt8) (s : Sm) : Sm := if s.name = a then ⟨s.sums, s.guard, b, s.args, s.next⟩ else s
def renF (x : Ln) (a b : List UInt8) : Ln × Int := if lnOk x then (if actF a && actF b then (⟨x.pars, x.start, x.sms.map (renSm a b)⟩, 0) else (zeroLn, 2)) else (zeroLn, 1)
theorem sm1_map (f : Sm → Sm) (h : ∀ s, mkF_Sm (f s) ≤ mkF_Sm s) : ∀ xs : List Sm, mkF_Sm1 (xs.map f) ≤ mkF_Sm1 xs := by
  intro xs
  induction xs with
  | nil => exact Int.le_refl _
  | cons s xs ih =>
    have e1 : mkF_Sm1 ((s :: xs).map f) = mkF_Sm (f s) + mkF_Sm1 (xs.map f) := by simp [mkF_Sm1]
    have e2 : mkF_Sm1 (s :: xs) = mkF_Sm s + mkF_Sm1 xs := by simp [mkF_Sm1]
    have := h s
    omega
theorem ren_b (x : Ln) (a b : List UInt8) (h : 1 + mkF_Ln x ≤ 100000000) : 1 + mkF_Ln (renF x a b).1 ≤ 4611686018427387904 := by
  have h1 := sm1_map (renSm a b) (fun s => by unfold renSm; split <;> exact Int.le_refl _) x.sms
  unfold renF
  split
  · split
    · show 1 + (mkF_I1 x.start + mkF_Sm1 (x.sms.map (renSm a b))) ≤ _
      unfold mkF_Ln at h
      omega
    · show (1 : Int) + 0 ≤ _; omega
  · show (1 : Int) + 0 ≤ _; omega

theorem so_far {α : Type} (f : α → α) (xs : List α) (k : Nat) (h : k < xs.length) : (xs.take (k + 1)).map f ++ xs.drop (k + 1) = (xs.take k).map f ++ (f xs[k] :: xs.drop (k + 1)) := by
  rw [List.take_succ_eq_append_getElem h, List.map_append, List.append_assoc]; rfl
theorem so_set {α : Type} (f : α → α) (xs : List α) (k : Nat) (h : k < xs.length) (y : α) : ((xs.take k).map f ++ xs.drop k).set k y = (xs.take k).map f ++ (y :: xs.drop (k + 1)) := by
  have hl : ((xs.take k).map f).length = k := by rw [List.length_map, List.length_take]; omega
  rw [List.drop_eq_getElem_cons h, List.set_append_right _ _ (by omega), hl, Nat.sub_self]; rfl
theorem so_at {α : Type} (f : α → α) (xs : List α) (k : Nat) (h : k < xs.length) : ((xs.take k).map f ++ xs.drop k)[k]'(by simp; omega) = xs[k] := by
  have hl : ((xs.take k).map f).length = k := by rw [List.length_map, List.length_take]; omega
  rw [List.getElem_append_right (by omega)]
  simp only [List.getElem_drop]
  congr 1; omega
/-- the name of one summand of an owned slice is written. -/
theorem sm_put {fp : List Nat} {w : World} {b off cap n : Nat} {xs : List Sm} (h : R_Sm1 fp w [.slice (some ⟨b, off, none⟩) n cap] xs) (hO : Own fp w) (i : Nat) (hi : i < xs.length) (nm : List UInt8) :
    b ∈ fp ∧ w.cell? ⟨b, off + i * 5 + 2, none⟩ = some (es xs[i].name) ∧ w.frozen? ⟨b, off + i * 5 + 2, none⟩ = false ∧
      R_Sm1 fp (w.setCell ⟨b, off + i * 5 + 2, none⟩ (es nm)) [.slice (some ⟨b, off, none⟩) n cap] (xs.set i ⟨xs[i].sums, xs[i].guard, nm, xs[i].args, xs[i].next⟩) ∧ Own fp (w.setCell ⟨b, off + i * 5 + 2, none⟩ (es nm)) := by
  obtain ⟨a', cap', b', off', u, f, hv, -, -, ha, hb, hbl, hul, hcell, hsub, hbf, hr, hof, hob, hput⟩ := slQ_set R_Smk h hO i hi
  simp only [Value.slice.injEq] at hv
  obtain ⟨rfl, rfl, rfl⟩ := hv
  cases ha
  obtain ⟨v0, v1, v3, v4, f0, f1, f3, f4, rfl, h0, h1, h3, h4, rfl⟩ := hr
  have hU : Upd [b] w (w.setCell ⟨b, off + i * 5 + 2, none⟩ (es nm)) := (Upd.refl _ _).setCell (Or.inr (by simp)) _
  have hfz := hO.frozen hb (off + i * 5 + 2)
  have d : ∀ c ∈ f0 ++ (f1 ++ (f3 ++ f4)), c ∉ [b] := fun c hc hm => by simp only [List.mem_singleton] at hm; subst hm; exact hbf hc
  have hcell' : ∀ o, o ≠ off + i * 5 + 2 → (w.setCell ⟨b, off + i * 5 + 2, none⟩ (es nm)).cell? ⟨b, o, none⟩ = w.cell? ⟨b, o, none⟩ := fun o ho => World.cell?_setCell_other _ _ _ _ (by intro h; simp only [Addr.mk.injEq] at h; omega)
  have hself : (w.setCell ⟨b, off + i * 5 + 2, none⟩ (es nm)).cell? ⟨b, off + i * 5 + 2, none⟩ = some (es nm) := World.cell?_setCell_same _ _ _ (hcell 2 _ rfl)
  refine ⟨hb, hcell 2 _ rfl, hfz, hput _ _ [v0, v1, es nm, v3, v4] (hU.mono (by simp)) (fun o ho => hcell' o (by omega)) rfl (fun j c hj => ?_) ⟨v0, v1, v3, v4, f0, f1, f3, f4, rfl, R_I1k.upd h0 hU (fun c hc => d c (by simp [hc])), R_T1k.upd h1 hU (fun c hc => d c (by simp [hc])), R_T2k.upd h3 hU (fun c hc => d c (by simp [hc])), R_T2k.upd h4 hU (fun c hc => d c (by simp [hc])), rfl⟩ (hof.upd hU d) (hob.setCell _ _)⟩
  match j, hj with
  | 0, hj => cases hj; rw [hcell' _ (by omega)]; exact hcell 0 _ rfl
  | 1, hj => cases hj; rw [hcell' _ (by omega)]; exact hcell 1 _ rfl
  | 2, hj => cases hj; exact hself
  | 3, hj => cases hj; rw [hcell' _ (by omega)]; exact hcell 3 _ rfl
  | 4, hj => cases hj; rw [hcell' _ (by omega)]; exact hcell 4 _ rfl

set_option maxRecDepth 20000 in
set_option maxHeartbeats 4000000 in
theorem renI (cs : List Value) (x : Ln) (a b : List UInt8) (w : World) (fp : List Nat) (hR : R_Ln fp w cs x) (hF : LnFit x) (ha : a.length ≤ 2000000) (hb : b.length ≤ 2000000) :
    Calls Try.prog 22 #[.agg cs.toArray, es a, es b] w (GaveLn w (renF x a b)) := by
  have hR' := hR
  obtain ⟨v1, v2, f1, f2, rfl, r1, r2, rfl⟩ := hR
  obtain ⟨B, hB⟩ : ∃ B, B = w.heap.size := ⟨_, rfl⟩
  obtain ⟨wA, hwA⟩ : ∃ wA, wA = (w.alloc (.cells #[ei x.pars, v1, v2] 29)).alloc (.cells #[.int .i64 0, .slice none 0 0, .slice none 0 0] 29) := ⟨_, rfl⟩
  have s1 : (w.alloc (.cells #[ei x.pars, v1, v2] 29)).heap.size = B + 1 := by rw [hB]; simp
  have uA : Upd [] w wA := by rw [hwA]; exact ((Upd.refl _ _).alloc _).alloc _
  have hA1 : RowAt wA (B + 1) 29 zerosLn := by rw [hwA, ← s1]; exact RowAt.new _ _ _
  have hL : RowAt wA B 29 [ei x.pars, v1, v2] := by rw [hwA, hB]; exact (RowAt.new _ _ _).upd ((Upd.refl [] _).alloc _) (by simp)
  have HL := Lib.hid hL
  have HA := Lib.hid hA1
  have S1 := Lib.hid (validLnI _ x wA _ (R_Lnk.upd hR' uA (by simp)) hF)
  have QA := Lib.hid (fun W => isActionI a W ha)
  have QB := Lib.hid (fun W => isActionI b W hb)
  have S3 := Lib.hid (fun W (hu : Upd [] wA W) (hk : lnOk x = true) => cloneLnI _ x W _ (R_Lnk.upd hR' (uA.trans hu) (by simp)) (ln_fits hk hF))
  have UA := Lib.hid uA
  have hszA : B + 2 ≤ wA.heap.size := by rw [hwA, hB]; simp
  have HMS := Lib.hid (show renF x a b = if lnOk x then (if actF a && actF b then (⟨x.pars, x.start, x.sms.map (renSm a b)⟩, 0) else (zeroLn, 2)) else (zeroLn, 1) from rfl)
  have HNE := Lib.hid (fun s (hs : s ∈ x.sms) => (hF s hs).1)
  have hL1 := hL
  unfold RowAt at hL1
  clear r1 r2 hR' uA s1 hF hL hA1
  generalize renF x a b = Z at *
  generalize hok : lnOk x = ok at *
  generalize actF a = qa at *
  generalize actF b = qb at *
  go_enter Try.func22, Try.ntmps22
  go_upto_region 1 with (fail)
  rw [← hwA, ← hB]
  have HBB := Lib.hid hB
  clear hwA hB
  go_wp2_with (first
    | (refine wpList_load_row rfl 29 _ rfl B rfl 29 #[ei x.pars, v1, v2] (0, 0) _ hL1 Try.underlying29 rfl Ln_size ?_)
    | fail)
  refine S1.out.mono ?_
  rintro e w1 ⟨rfl, hu1⟩
  have HU1 := Lib.hid (UA.out.trans hu1)
  have HV1 := Lib.hid hu1
  have hL1 := HL.out.upd hu1 (by simp)
  have ha1 := HA.out.upd hu1 (by simp)
  have HL1 := Lib.hid hL1
  have HA1 := Lib.hid ha1
  unfold RowAt at hL1 ha1
  clear S1 hu1 HL HA
  cases ok with
  | false =>
    have HZ := Lib.hid (show Z = (zeroLn, 1) by rw [HMS.out]; rfl)
    clear QA QB S3 HMS
    go_wp2_with (first
      | (refine wpList_store_row rfl 29 _ _ rfl (B + 1) #[.int .i64 0, .slice none 0 0, .slice none 0 0] rfl rfl 29 _ ha1 Ln_size rfl (by simp [Value.oneCell']) ?_)
      | fail)
    have hr : RowAt (w1.setRow (B + 1) #[.int .i64 0, .slice none 0 0, .slice none 0 0]) (B + 1) 29 [.int .i64 0, .slice none 0 0, .slice none 0 0] := HA1.out.row [.int .i64 0, .slice none 0 0, .slice none 0 0]
    have n0 := hr.cell 0 _ rfl
    have n1 := hr.cell 1 _ rfl
    have n2 := hr.cell 2 _ rfl
    refine bodyPost_ret (v := .tuple #[.agg #[.int .i64 0, .slice none 0 0, .slice none 0 0], .int .i64 1]) (by simp [results, Try.results22, go_sem, n0, n1, n2]) rfl ?_
    rw [HZ.out]
    exact gaveLn_zero _ _ _ (HU1.out.row (Or.inl (by have := HBB.out; omega)) _)
  | true =>
    by_cases hq : (qa && qb) = true
    · obtain ⟨rfl, rfl⟩ : qa = true ∧ qb = true := by simpa using hq
      have HZ := Lib.hid (show Z = (⟨x.pars, x.start, x.sms.map (renSm a b)⟩, 0) by rw [HMS.out]; rfl)
      have T3 := Lib.hid (S3.out w1 HV1.out rfl)
      clear S3 HMS hq
      go_wp2_with fail
      refine (QA.out _).mono ?_
      rintro e w2 ⟨rfl, rfl⟩
      go_wp2_with fail
      refine (QB.out _).mono ?_
      rintro e w2 ⟨rfl, rfl⟩
      clear QA QB
      go_wp2_with (first
        | (refine wpList_load_row rfl 29 _ rfl B rfl 29 #[ei x.pars, v1, v2] (0, 0) _ hL1 Try.underlying29 rfl Ln_size ?_)
        | fail)
      refine T3.out.mono ?_
      rintro e w3 ⟨⟨us, rfl, hl, hc, hn⟩, hu3⟩
      obtain ⟨p1, q1, p2, q2, rfl⟩ := ln_form hn
      obtain ⟨fx, ⟨vv1, vv2, g1, g2, hvv, rr1, rr2, rfl⟩, oo, ge⟩ := hn
      simp only [List.cons.injEq, and_true] at hvv
      obtain ⟨-, rfl, rfl⟩ := hvv
      obtain ⟨oo1, oo2, dd⟩ := own_split oo
      have lt1 := R_I1k.lt rr1
      have lt2 := R_Sm1k.lt rr2
      obtain ⟨wB, hwB⟩ : ∃ wB, wB = w3.alloc (.cells #[ei x.pars, .slice p1 x.start.length q1, .slice p2 x.sms.length q2] 29) := ⟨_, rfl⟩
      have uB : Upd [] w3 wB := by rw [hwB]; exact (Upd.refl _ _).alloc _
      obtain ⟨C, hC⟩ : ∃ C, C = w3.heap.size := ⟨_, rfl⟩
      have hrC : RowAt wB C 29 [ei x.pars, .slice p1 x.start.length q1, .slice p2 x.sms.length q2] := by rw [hwB, hC]; exact RowAt.new _ _ _
      have HUB := Lib.hid ((HU1.out.trans hu3).trans uB)
      have HRC := Lib.hid hrC
      have HAB := Lib.hid ((HA1.out.upd hu3 (by simp)).upd uB (by simp))
      have HG1 := Lib.hid (show R_I1 g1 wB [.slice p1 x.start.length q1] x.start ∧ Own g1 wB from ⟨R_I1k.upd rr1 uB (by simp), oo1.upd uB (by simp)⟩)
      have HG2 := Lib.hid (show R_Sm1 g2 wB [.slice p2 x.sms.length q2] ((x.sms.take 0).map (renSm a b) ++ x.sms.drop 0) ∧ Own g2 wB from ⟨by simpa using R_Sm1k.upd rr2 uB (by simp), oo2.upd uB (by simp)⟩)
      have HD := Lib.hid (show (∀ c ∈ g1, w1.heap.size ≤ c ∧ c ∉ g2) ∧ (∀ c ∈ g2, w1.heap.size ≤ c ∧ c < C) from ⟨fun c hc => ⟨ge c (by simp [hc]), dd c hc⟩, fun c hc => ⟨ge c (by simp [hc]), by have := lt2 c hc; omega⟩⟩)
      have HBW := Lib.hid (show B + 1 < w1.heap.size from HA1.out.lt)
      have hCB : w1.heap.size ≤ C := by have := hu3.size; omega
      have hC2 := hrC.cell 2 _ rfl
      clear T3 hu3 uB ha1 hL1 HL1 HA1 hc rr1 rr2 oo ge oo1 oo2 dd lt1 lt2 hrC
      go_upto_region 6 with (fail)
      rw [← hwB, ← hC]
      clear hwB hC
      go_wp2_with fail
      go_loopw [31] (fun iv wr => ∃ k : Nat, k ≤ x.sms.length ∧ iv = .int .i64 k ∧ Hid (Upd [] w wr) ∧ Hid (RowAt wr C 29 [ei x.pars, .slice p1 x.start.length q1, .slice p2 x.sms.length q2]) ∧ Hid (RowAt wr (B + 1) 29 zerosLn) ∧ Hid (R_I1 g1 wr [.slice p1 x.start.length q1] x.start ∧ Own g1 wr) ∧
        Hid (R_Sm1 g2 wr [.slice p2 x.sms.length q2] ((x.sms.take k).map (renSm a b) ++ x.sms.drop k) ∧ Own g2 wr)) (fun iv _ => x.sms.length - (intOf iv).toNat)
      case atStart => exact ⟨0, Nat.zero_le _, rfl, HUB, HRC, HAB, HG1, HG2⟩
      case round =>
        clear HUB HRC HAB HG1 HG2 hC2
        obtain ⟨wo, rfl⟩ : ∃ wo : World, wo = wr := ⟨_, rfl⟩
        obtain ⟨k, hk, rfl, HU, HR, HA, HG1, HG2⟩ := hrel
        have z2 := HR.out.cell 2 _ rfl
        by_cases hlt : k < x.sms.length
        · obtain ⟨a', cap', hv, l9, m9, hcx⟩ := slQ_open HG2.out.1
          simp only [Value.slice.injEq] at hv
          obtain ⟨rfl, hlen, rfl⟩ := hv
          obtain ⟨bb, off, u, f, rfl, hbg, -, -, hcell, -, hr⟩ := hcx k (by rw [← hlen]; exact hlt)
          unfold maxLen at m9
          rw [← hlen] at l9
          have e : ((x.sms.take k).map (renSm a b) ++ x.sms.drop k)[k]'(by rw [← hlen]; exact hlt) = x.sms[k] := so_at _ _ _ hlt
          rw [e] at hr
          have HTK := Lib.hid (show ((x.sms.take k).map (renSm a b) ++ x.sms.drop k).set k (renSm a b x.sms[k]) = (x.sms.take (k + 1)).map (renSm a b) ++ x.sms.drop (k + 1) by
            rw [so_far _ _ _ hlt, so_set _ _ _ hlt])
          have HTI := Lib.hid (show x.sms[k].name ≠ a → ((x.sms.take k).map (renSm a b) ++ x.sms.drop k) = (x.sms.take (k + 1)).map (renSm a b) ++ x.sms.drop (k + 1) from fun h => by
            rw [so_far _ _ _ hlt, List.drop_eq_getElem_cons hlt]; simp [renSm, h])
          have HNM := Lib.hid (HNE.out _ (List.getElem_mem hlt))
          obtain ⟨e0, e1, e3, e4, f0, f1', f3, f4, rfl, r0, r1, r3, r4, rfl⟩ := hr
          obtain ⟨d0, o0, rfl, -⟩ := slF1_open r0
          obtain ⟨d1, o1, rfl, -⟩ := slF2_open r1
          obtain ⟨d3, o3, rfl, -⟩ := slP_open r3
          obtain ⟨d4, o4, rfl, -⟩ := slP_open r4
          have s0 := hcell 0 _ rfl
          have s1 := hcell 1 _ rfl
          have s2 := hcell 2 _ rfl
          have s3 := hcell 3 _ rfl
          have s4 := hcell 4 _ rfl
          simp only [Nat.add_zero] at s0
          have hkl : (k : Int) < (x.sms.length : Int) := by omega
          obtain ⟨wq, hwq⟩ : ∃ wq, wq = wo.alloc (.cells #[.slice d0 x.sms[k].sums.length o0, .slice d1 x.sms[k].guard.length o1, es x.sms[k].name, .slice d3 x.sms[k].args.length o3, .slice d4 x.sms[k].next.length o4] 56) := ⟨_, rfl⟩
          have uq : Upd [] wo wq := by rw [hwq]; exact (Upd.refl _ _).alloc _
          obtain ⟨T, hT⟩ : ∃ T, T = wo.heap.size := ⟨_, rfl⟩
          have hrT : RowAt wq T 56 [.slice d0 x.sms[k].sums.length o0, .slice d1 x.sms[k].guard.length o1, es x.sms[k].name, .slice d3 x.sms[k].args.length o3, .slice d4 x.sms[k].next.length o4] := by rw [hwq, hT]; exact RowAt.new _ _ _
          have t2 := hrT.cell 2 _ rfl
          have HUQ := Lib.hid (HU.out.trans uq)
          have HRQ := Lib.hid (HR.out.upd uq (by simp))
          have HAQ := Lib.hid (HA.out.upd uq (by simp))
          have HGQ1 := Lib.hid (show R_I1 g1 wq [.slice p1 x.start.length q1] x.start ∧ Own g1 wq from ⟨R_I1k.upd HG1.out.1 uq (by simp), HG1.out.2.upd uq (by simp)⟩)
          have hg2 := R_Sm1k.upd HG2.out.1 uq (by simp)
          have ho2 := HG2.out.2.upd uq (by simp)
          obtain ⟨-, y2, yf, hg3, ho3⟩ := sm_put hg2 ho2 k (by rw [← hlen]; exact hlt) b
          rw [e] at y2 hg3
          have hz2 := HRQ.out.cell 2 _ rfl
          have HP := Lib.hid (And.intro (And.intro hg2 ho2) (And.intro hg3 ho3))
          have HE := Lib.hid (show x.sms[k].name = a → renSm a b x.sms[k] = ⟨x.sms[k].sums, x.sms[k].guard, b, x.sms[k].args, x.sms[k].next⟩ from fun h => by unfold renSm; rw [if_pos h])
          have HBG := Lib.hid hbg
          clear hg2 ho2 hg3 ho3 r0 r1 r3 r4 hcell hcx HG1 HG2 HA HU HR uq hlen e HNE hbg
          generalize x.sms[k] = s at *
          go_upto_region 9 with (fail)
          rw [← hwq, ← hT]
          have HTT := Lib.hid hT
          clear hwq hT s0 s1 s2 s3 s4 z2 hrT
          by_cases hna : s.name = a
          · have hb1 : (s.name == a) = true := by simpa using hna
            have HF := Lib.hid (HE.out hna)
            clear hna HTI HE
            go_wp2_with fail
            have HX := Lib.hid (And.intro HTK.out HF.out)
            go_roundw
            case rel =>
              refine ⟨k + 1, by omega, by go_num, Lib.hid (HUQ.out.setCell (Or.inl (by have := HD.out.2 bb HBG.out; have := HU1.out.size; show w.heap.size ≤ bb; omega)) _), Lib.hid (HRQ.out.other bb _ _ (by have := HD.out.2 bb HBG.out; omega)), Lib.hid (HAQ.out.other bb _ _ (by have := HD.out.2 bb HBG.out; have := HBW.out; omega)), Lib.hid ?_, Lib.hid ?_⟩
              · have hub : ∀ v, Upd [bb] wq (wq.setCell ⟨bb, off + k * 5 + 2, none⟩ v) := fun v => (Upd.refl _ _).setCell (Or.inr (by simp)) v
                have hdd : ∀ c ∈ g1, c ∉ [bb] := fun c hc hm => by simp at hm; subst hm; exact (HD.out.1 c hc).2 HBG.out
                exact ⟨R_I1k.upd HGQ1.out.1 (hub _) hdd, HGQ1.out.2.upd (hub _) hdd⟩
              · rw [← HTK.out, HF.out]; exact HP.out.2
            case measure => simp [intOf]; omega
          · have hb1 : (s.name == a) = false := by simpa using hna
            have HF := Lib.hid (HTI.out hna)
            clear hna HTI HE
            go_wp2_with fail
            go_roundw
            case rel => exact ⟨k + 1, by omega, by go_num, HUQ, HRQ, HAQ, HGQ1, Lib.hid (by rw [← HF.out]; exact HP.out.1)⟩
            case measure => simp [intOf]; omega
        · obtain rfl : k = x.sms.length := by omega
          have hg2 := HG2.out
          rw [List.take_length, List.drop_length, List.append_nil] at hg2
          have HG3 := Lib.hid hg2
          have hR5 := HR.out
          have hA5 := HA.out
          unfold RowAt at hR5 hA5
          clear HG2 hg2
          go_wp2_with (first
            | (refine wpList_load_row rfl 29 _ rfl C rfl 29 #[ei x.pars, .slice p1 x.start.length q1, .slice p2 x.sms.length q2] (0, 0) _ hR5 Try.underlying29 rfl Ln_size ?_)
            | (refine wpList_store_row rfl 29 _ _ rfl (B + 1) #[ei x.pars, .slice p1 x.start.length q1, .slice p2 x.sms.length q2] rfl rfl 29 _ hA5 Ln_size rfl (by simp [Value.oneCell']) ?_)
            | fail)
          have hr : RowAt (wo.setRow (B + 1) #[ei x.pars, .slice p1 x.start.length q1, .slice p2 x.sms.length q2]) (B + 1) 29 [ei x.pars, .slice p1 x.start.length q1, .slice p2 x.sms.length q2] := HA.out.row [ei x.pars, .slice p1 x.start.length q1, .slice p2 x.sms.length q2]
          have n0 := hr.cell 0 _ rfl
          have n1 := hr.cell 1 _ rfl
          have n2 := hr.cell 2 _ rfl
          refine bodyPost_ret (v := .tuple #[.agg #[ei x.pars, .slice p1 x.start.length q1, .slice p2 x.sms.length q2], .int .i64 0]) (by simp [results, Try.results22, go_sem, n0, n1, n2]) rfl ?_
          rw [HZ.out]
          have hB := HBB.out
          refine gaveLn (us := [ei x.pars, .slice p1 x.start.length q1, .slice p2 x.sms.length q2]) (W := w1) (x := ⟨x.pars, x.start, x.sms.map (renSm a b)⟩) ⟨g1 ++ g2, ⟨_, _, g1, g2, rfl, HG1.out.1, HG3.out.1, rfl⟩, own_join HG1.out.2 HG3.out.2 (fun c h => (HD.out.1 c h).2), fun c hc => ?_⟩ rfl (by simp [Value.oneCell']) HU.out (by omega) HBW.out HU1.out.size
          rcases List.mem_append.1 hc with h | h
          · exact (HD.out.1 c h).1
          · exact (HD.out.2 c h).1
    · have HZ := Lib.hid (show Z = (zeroLn, 2) by rw [HMS.out]; simp [hq])
      clear S3 HMS
      cases qa with
      | false =>
        clear QB
        go_wp2_with fail
        refine (QA.out _).mono ?_
        rintro e w2 ⟨rfl, rfl⟩
        go_wp2_with (first
          | (refine wpList_store_row rfl 29 _ _ rfl (B + 1) #[.int .i64 0, .slice none 0 0, .slice none 0 0] rfl rfl 29 _ ha1 Ln_size rfl (by simp [Value.oneCell']) ?_)
          | fail)
        have hr : RowAt (w1.setRow (B + 1) #[.int .i64 0, .slice none 0 0, .slice none 0 0]) (B + 1) 29 [.int .i64 0, .slice none 0 0, .slice none 0 0] := HA1.out.row [.int .i64 0, .slice none 0 0, .slice none 0 0]
        have n0 := hr.cell 0 _ rfl
        have n1 := hr.cell 1 _ rfl
        have n2 := hr.cell 2 _ rfl
        refine bodyPost_ret (v := .tuple #[.agg #[.int .i64 0, .slice none 0 0, .slice none 0 0], .int .i64 2]) (by simp [results, Try.results22, go_sem, n0, n1, n2]) rfl ?_
        rw [HZ.out]
        exact gaveLn_zero _ _ _ (HU1.out.row (Or.inl (by have := HBB.out; omega)) _)
      | true =>
        obtain rfl : qb = false := by simpa using hq
        go_wp2_with fail
        refine (QA.out _).mono ?_
        rintro e w2 ⟨rfl, rfl⟩
        go_wp2_with fail
        refine (QB.out _).mono ?_
        rintro e w2 ⟨rfl, rfl⟩
        go_wp2_with (first
          | (refine wpList_store_row rfl 29 _ _ rfl (B + 1) #[.int .i64 0, .slice none 0 0, .slice none 0 0] rfl rfl 29 _ ha1 Ln_size rfl (by simp [Value.oneCell']) ?_)
          | fail)
        have hr : RowAt (w1.setRow (B + 1) #[.int .i64 0, .slice none 0 0, .slice none 0 0]) (B + 1) 29 [.int .i64 0, .slice none 0 0, .slice none 0 0] := HA1.out.row [.int .i64 0, .slice none 0 0, .slice none 0 0]
        have n0 := hr.cell 0 _ rfl
        have n1 := hr.cell 1 _ rfl
        have n2 := hr.cell 2 _ rfl
        refine bodyPost_ret (v := .tuple #[.agg #[.int .i64 0, .slice none 0 0, .slice none 0 0], .int .i64 2]) (by simp [results, Try.results22, go_sem, n0, n1, n2]) rfl ?_
        rw [HZ.out]
        exact gaveLn_zero _ _ _ (HU1.out.row (Or.inl (by have := HBB.out; omega)) _)

set_option maxRecDepth 20000 in
set_option maxHeartbeats 4000000 in
theorem renS (cs : List Value) (x : Ln) (a b : List UInt8) (w : World) (fp : List Nat) (hR : R_Ln fp w cs x) (hF : LnFit x) (ha : a.length ≤ 2000000) (hb : b.length ≤ 2000000) :
    Calls Try.prog 21 #[.agg cs.toArray, es a, es b] w (GaveLn w (renF x a b)) := by
  have hR' := hR
  obtain ⟨v1, v2, f1, f2, rfl, r1, r2, rfl⟩ := hR
  obtain ⟨B, hB⟩ : ∃ B, B = w.heap.size := ⟨_, rfl⟩
  obtain ⟨wA, hwA⟩ : ∃ wA, wA = (w.alloc (.cells #[ei x.pars, v1, v2] 29)).alloc (.cells #[.int .i64 0, .slice none 0 0, .slice none 0 0] 29) := ⟨_, rfl⟩
  have s1 : (w.alloc (.cells #[ei x.pars, v1, v2] 29)).heap.size = B + 1 := by rw [hB]; simp
  have uA : Upd [] w wA := by rw [hwA]; exact ((Upd.refl _ _).alloc _).alloc _
  have hA1 : RowAt wA (B + 1) 29 zerosLn := by rw [hwA, ← s1]; exact RowAt.new _ _ _
  have hL : RowAt wA B 29 [ei x.pars, v1, v2] := by rw [hwA, hB]; exact (RowAt.new _ _ _).upd ((Upd.refl [] _).alloc _) (by simp)
  have HL := Lib.hid hL
  have HA := Lib.hid hA1
  have hAt : LnAt wA B v1 v2 f1 f2 x := by rw [hwA, hB]; exact (LnAt.new w _ v1 v2 f1 f2 x r1 r2).upd ((Upd.refl [] _).alloc _)
  have S1 := Lib.hid (isLnS B v1 v2 x wA f1 f2 hAt (fun s hs => (hF s hs).1))
  have QA := Lib.hid (fun W => actionS a W ha)
  have QB := Lib.hid (fun W => actionS b W hb)
  have S3 := Lib.hid (fun W (hu : Upd [] wA W) (hk : lnOk x = true) => ownLnS B v1 v2 x W f1 f2 (hAt.upd hu) (ln_fits hk hF).sf (ln_fits hk hF).st (ln_fits hk hF).sm)
  have UA := Lib.hid uA
  have hszA : B + 2 ≤ wA.heap.size := by rw [hwA, hB]; simp
  have HMS := Lib.hid (show renF x a b = if lnOk x then (if actF a && actF b then (⟨x.pars, x.start, x.sms.map (renSm a b)⟩, 0) else (zeroLn, 2)) else (zeroLn, 1) from rfl)
  have HNE := Lib.hid (fun s (hs : s ∈ x.sms) => (hF s hs).1)
  have hL1 := hL
  unfold RowAt at hL1
  clear r1 r2 hR' uA s1 hF hL hA1 hAt
  generalize renF x a b = Z at *
  generalize hok : lnOk x = ok at *
  generalize actF a = qa at *
  generalize actF b = qb at *
  go_enter Try.func21, Try.ntmps21
  go_upto_region 1 with (fail)
  rw [← hwA, ← hB]
  have HBB := Lib.hid hB
  clear hwA hB
  go_wp2_with fail
  refine S1.out.mono ?_
  rintro e w1 ⟨rfl, nq, hw1⟩
  have hu1 : Upd [] wA w1 := by rw [hw1]; exact (Upd.refl _ _).drewN nq
  clear hw1
  have HU1 := Lib.hid (UA.out.trans hu1)
  have HV1 := Lib.hid hu1
  have hL1 := HL.out.upd hu1 (by simp)
  have ha1 := HA.out.upd hu1 (by simp)
  have HL1 := Lib.hid hL1
  have HA1 := Lib.hid ha1
  unfold RowAt at hL1 ha1
  clear S1 hu1 HL HA
  cases ok with
  | false =>
    have HZ := Lib.hid (show Z = (zeroLn, 1) by rw [HMS.out]; rfl)
    clear QA QB S3 HMS
    go_wp2_with (first
      | (refine wpList_store_row rfl 29 _ _ rfl (B + 1) #[.int .i64 0, .slice none 0 0, .slice none 0 0] rfl rfl 29 _ ha1 Ln_size rfl (by simp [Value.oneCell']) ?_)
      | fail)
    have hr : RowAt (w1.setRow (B + 1) #[.int .i64 0, .slice none 0 0, .slice none 0 0]) (B + 1) 29 [.int .i64 0, .slice none 0 0, .slice none 0 0] := HA1.out.row [.int .i64 0, .slice none 0 0, .slice none 0 0]
    have n0 := hr.cell 0 _ rfl
    have n1 := hr.cell 1 _ rfl
    have n2 := hr.cell 2 _ rfl
    refine bodyPost_ret (v := .tuple #[.agg #[.int .i64 0, .slice none 0 0, .slice none 0 0], .int .i64 1]) (by simp [results, Try.results21, go_sem, n0, n1, n2]) rfl ?_
    rw [HZ.out]
    exact gaveLn_zero _ _ _ (HU1.out.row (Or.inl (by have := HBB.out; omega)) _)
  | true =>
    by_cases hq : (qa && qb) = true
    · obtain ⟨rfl, rfl⟩ : qa = true ∧ qb = true := by simpa using hq
      have HZ := Lib.hid (show Z = (⟨x.pars, x.start, x.sms.map (renSm a b)⟩, 0) by rw [HMS.out]; rfl)
      have T3 := Lib.hid (S3.out w1 HV1.out rfl)
      clear S3 HMS hq
      go_wp2_with fail
      refine (QA.out _).mono ?_
      rintro e w2 ⟨rfl, rfl⟩
      go_wp2_with fail
      refine (QB.out _).mono ?_
      rintro e w2 ⟨rfl, rfl⟩
      clear QA QB
      go_wp2_with fail
      refine T3.out.mono ?_
      rintro e w3 ⟨⟨us, rfl, hl, hc, hn⟩, hu3⟩
      obtain ⟨p1, q1, p2, q2, rfl⟩ := ln_form hn
      obtain ⟨fx, ⟨vv1, vv2, g1, g2, hvv, rr1, rr2, rfl⟩, oo, ge⟩ := hn
      simp only [List.cons.injEq, and_true] at hvv
      obtain ⟨-, rfl, rfl⟩ := hvv
      obtain ⟨oo1, oo2, dd⟩ := own_split oo
      have lt1 := R_I1k.lt rr1
      have lt2 := R_Sm1k.lt rr2
      obtain ⟨wB, hwB⟩ : ∃ wB, wB = w3.alloc (.cells #[ei x.pars, .slice p1 x.start.length q1, .slice p2 x.sms.length q2] 29) := ⟨_, rfl⟩
      have uB : Upd [] w3 wB := by rw [hwB]; exact (Upd.refl _ _).alloc _
      obtain ⟨C, hC⟩ : ∃ C, C = w3.heap.size := ⟨_, rfl⟩
      have hrC : RowAt wB C 29 [ei x.pars, .slice p1 x.start.length q1, .slice p2 x.sms.length q2] := by rw [hwB, hC]; exact RowAt.new _ _ _
      have HUB := Lib.hid ((HU1.out.trans hu3).trans uB)
      have HRC := Lib.hid hrC
      have HAB := Lib.hid ((HA1.out.upd hu3 (by simp)).upd uB (by simp))
      have HG1 := Lib.hid (show R_I1 g1 wB [.slice p1 x.start.length q1] x.start ∧ Own g1 wB from ⟨R_I1k.upd rr1 uB (by simp), oo1.upd uB (by simp)⟩)
      have HG2 := Lib.hid (show R_Sm1 g2 wB [.slice p2 x.sms.length q2] ((x.sms.take 0).map (renSm a b) ++ x.sms.drop 0) ∧ Own g2 wB from ⟨by simpa using R_Sm1k.upd rr2 uB (by simp), oo2.upd uB (by simp)⟩)
      have HD := Lib.hid (show (∀ c ∈ g1, w1.heap.size ≤ c ∧ c ∉ g2) ∧ (∀ c ∈ g2, w1.heap.size ≤ c ∧ c < C) from ⟨fun c hc => ⟨ge c (by simp [hc]), dd c hc⟩, fun c hc => ⟨ge c (by simp [hc]), by have := lt2 c hc; omega⟩⟩)
      have HBW := Lib.hid (show B + 1 < w1.heap.size from HA1.out.lt)
      have hCB : w1.heap.size ≤ C := by have := hu3.size; omega
      have hC2 := hrC.cell 2 _ rfl
      clear T3 hu3 uB ha1 hL1 HL1 HA1 hc rr1 rr2 oo ge oo1 oo2 dd lt1 lt2 hrC
      go_upto_region 6 with (fail)
      rw [← hwB, ← hC]
      clear hwB hC
      go_wp2_with fail
      go_loopw [9] (fun iv wr => ∃ k : Nat, k ≤ x.sms.length ∧ iv = .int .i64 k ∧ Hid (Upd [] w wr) ∧ Hid (RowAt wr C 29 [ei x.pars, .slice p1 x.start.length q1, .slice p2 x.sms.length q2]) ∧ Hid (RowAt wr (B + 1) 29 zerosLn) ∧ Hid (R_I1 g1 wr [.slice p1 x.start.length q1] x.start ∧ Own g1 wr) ∧
        Hid (R_Sm1 g2 wr [.slice p2 x.sms.length q2] ((x.sms.take k).map (renSm a b) ++ x.sms.drop k) ∧ Own g2 wr)) (fun iv _ => x.sms.length - (intOf iv).toNat)
      case atStart => exact ⟨0, Nat.zero_le _, rfl, HUB, HRC, HAB, HG1, HG2⟩
      case round =>
        clear HUB HRC HAB HG1 HG2 hC2
        obtain ⟨wo, rfl⟩ : ∃ wo : World, wo = wr := ⟨_, rfl⟩
        obtain ⟨k, hk, rfl, HU, HR, HA, HG1, HG2⟩ := hrel
        have z2 := HR.out.cell 2 _ rfl
        by_cases hlt : k < x.sms.length
        · obtain ⟨a', cap', hv, l9, m9, hcx⟩ := slQ_open HG2.out.1
          simp only [Value.slice.injEq] at hv
          obtain ⟨rfl, hlen, rfl⟩ := hv
          obtain ⟨bb, off, u, f, rfl, hbg, -, -, hcell, -, hr⟩ := hcx k (by rw [← hlen]; exact hlt)
          unfold maxLen at m9
          rw [← hlen] at l9
          have e : ((x.sms.take k).map (renSm a b) ++ x.sms.drop k)[k]'(by rw [← hlen]; exact hlt) = x.sms[k] := so_at _ _ _ hlt
          rw [e] at hr
          have HTK := Lib.hid (show ((x.sms.take k).map (renSm a b) ++ x.sms.drop k).set k (renSm a b x.sms[k]) = (x.sms.take (k + 1)).map (renSm a b) ++ x.sms.drop (k + 1) by
            rw [so_far _ _ _ hlt, so_set _ _ _ hlt])
          have HTI := Lib.hid (show x.sms[k].name ≠ a → ((x.sms.take k).map (renSm a b) ++ x.sms.drop k) = (x.sms.take (k + 1)).map (renSm a b) ++ x.sms.drop (k + 1) from fun h => by
            rw [so_far _ _ _ hlt, List.drop_eq_getElem_cons hlt]; simp [renSm, h])
          have HNM := Lib.hid (HNE.out _ (List.getElem_mem hlt))
          obtain ⟨e0, e1, e3, e4, f0, f1', f3, f4, rfl, r0, r1, r3, r4, rfl⟩ := hr
          obtain ⟨d0, o0, rfl, -⟩ := slF1_open r0
          obtain ⟨d1, o1, rfl, -⟩ := slF2_open r1
          obtain ⟨d3, o3, rfl, -⟩ := slP_open r3
          obtain ⟨d4, o4, rfl, -⟩ := slP_open r4
          have s0 := hcell 0 _ rfl
          have s1 := hcell 1 _ rfl
          have s2 := hcell 2 _ rfl
          have s3 := hcell 3 _ rfl
          have s4 := hcell 4 _ rfl
          simp only [Nat.add_zero] at s0
          have hkl : (k : Int) < (x.sms.length : Int) := by omega
          obtain ⟨wq, hwq⟩ : ∃ wq, wq = wo := ⟨_, rfl⟩
          have uq : Upd [] wo wq := by rw [hwq]; exact Upd.refl _ _
          have HUQ := Lib.hid (HU.out.trans uq)
          have HRQ := Lib.hid (HR.out.upd uq (by simp))
          have HAQ := Lib.hid (HA.out.upd uq (by simp))
          have HGQ1 := Lib.hid (show R_I1 g1 wq [.slice p1 x.start.length q1] x.start ∧ Own g1 wq from ⟨R_I1k.upd HG1.out.1 uq (by simp), HG1.out.2.upd uq (by simp)⟩)
          have hg2 := R_Sm1k.upd HG2.out.1 uq (by simp)
          have ho2 := HG2.out.2.upd uq (by simp)
          obtain ⟨-, y2, yf, hg3, ho3⟩ := sm_put hg2 ho2 k (by rw [← hlen]; exact hlt) b
          rw [e] at y2 hg3
          have hz2 := HRQ.out.cell 2 _ rfl
          have HP := Lib.hid (And.intro (And.intro hg2 ho2) (And.intro hg3 ho3))
          have HE := Lib.hid (show x.sms[k].name = a → renSm a b x.sms[k] = ⟨x.sms[k].sums, x.sms[k].guard, b, x.sms[k].args, x.sms[k].next⟩ from fun h => by unfold renSm; rw [if_pos h])
          have HBG := Lib.hid hbg
          clear hg2 ho2 hg3 ho3 r0 r1 r3 r4 hcell hcx HG1 HG2 HA HU HR uq hlen e HNE hbg
          generalize x.sms[k] = s at *
          rw [← hwq]
          clear hwq s0 s1 s2 s3 s4 z2
          by_cases hna : s.name = a
          · have hb1 : (s.name == a) = true := by simpa using hna
            have HF := Lib.hid (HE.out hna)
            clear hna HTI HE
            go_wp2_with fail
            have HX := Lib.hid (And.intro HTK.out HF.out)
            go_roundw
            case rel =>
              refine ⟨k + 1, by omega, by go_num, Lib.hid (HUQ.out.setCell (Or.inl (by have := HD.out.2 bb HBG.out; have := HU1.out.size; show w.heap.size ≤ bb; omega)) _), Lib.hid (HRQ.out.other bb _ _ (by have := HD.out.2 bb HBG.out; omega)), Lib.hid (HAQ.out.other bb _ _ (by have := HD.out.2 bb HBG.out; have := HBW.out; omega)), Lib.hid ?_, Lib.hid ?_⟩
              · have hub : ∀ v, Upd [bb] wq (wq.setCell ⟨bb, off + k * 5 + 2, none⟩ v) := fun v => (Upd.refl _ _).setCell (Or.inr (by simp)) v
                have hdd : ∀ c ∈ g1, c ∉ [bb] := fun c hc hm => by simp at hm; subst hm; exact (HD.out.1 c hc).2 HBG.out
                exact ⟨R_I1k.upd HGQ1.out.1 (hub _) hdd, HGQ1.out.2.upd (hub _) hdd⟩
              · rw [← HTK.out, HF.out]; exact HP.out.2
            case measure => simp [intOf]; omega
          · have hb1 : (s.name == a) = false := by simpa using hna
            have HF := Lib.hid (HTI.out hna)
            clear hna HTI HE
            go_wp2_with fail
            go_roundw
            case rel => exact ⟨k + 1, by omega, by go_num, HUQ, HRQ, HAQ, HGQ1, Lib.hid (by rw [← HF.out]; exact HP.out.1)⟩
            case measure => simp [intOf]; omega
        · obtain rfl : k = x.sms.length := by omega
          have hg2 := HG2.out
          rw [List.take_length, List.drop_length, List.append_nil] at hg2
          have HG3 := Lib.hid hg2
          have hR5 := HR.out
          have hA5 := HA.out
          unfold RowAt at hR5 hA5
          clear HG2 hg2
          go_wp2_with (first
            | (refine wpList_load_row rfl 29 _ rfl C rfl 29 #[ei x.pars, .slice p1 x.start.length q1, .slice p2 x.sms.length q2] (0, 0) _ hR5 Try.underlying29 rfl Ln_size ?_)
            | (refine wpList_store_row rfl 29 _ _ rfl (B + 1) #[ei x.pars, .slice p1 x.start.length q1, .slice p2 x.sms.length q2] rfl rfl 29 _ hA5 Ln_size rfl (by simp [Value.oneCell']) ?_)
            | fail)
          have hr : RowAt (wo.setRow (B + 1) #[ei x.pars, .slice p1 x.start.length q1, .slice p2 x.sms.length q2]) (B + 1) 29 [ei x.pars, .slice p1 x.start.length q1, .slice p2 x.sms.length q2] := HA.out.row [ei x.pars, .slice p1 x.start.length q1, .slice p2 x.sms.length q2]
          have n0 := hr.cell 0 _ rfl
          have n1 := hr.cell 1 _ rfl
          have n2 := hr.cell 2 _ rfl
          refine bodyPost_ret (v := .tuple #[.agg #[ei x.pars, .slice p1 x.start.length q1, .slice p2 x.sms.length q2], .int .i64 0]) (by simp [results, Try.results21, go_sem, n0, n1, n2]) rfl ?_
          rw [HZ.out]
          have hB := HBB.out
          refine gaveLn (us := [ei x.pars, .slice p1 x.start.length q1, .slice p2 x.sms.length q2]) (W := w1) (x := ⟨x.pars, x.start, x.sms.map (renSm a b)⟩) ⟨g1 ++ g2, ⟨_, _, g1, g2, rfl, HG1.out.1, HG3.out.1, rfl⟩, own_join HG1.out.2 HG3.out.2 (fun c h => (HD.out.1 c h).2), fun c hc => ?_⟩ rfl (by simp [Value.oneCell']) HU.out (by omega) HBW.out HU1.out.size
          rcases List.mem_append.1 hc with h | h
          · exact (HD.out.1 c h).1
          · exact (HD.out.2 c h).1
    · have HZ := Lib.hid (show Z = (zeroLn, 2) by rw [HMS.out]; simp [hq])
      clear S3 HMS
      cases qa with
      | false =>
        clear QB
        go_wp2_with fail
        refine (QA.out _).mono ?_
        rintro e w2 ⟨rfl, rfl⟩
        go_wp2_with (first
          | (refine wpList_store_row rfl 29 _ _ rfl (B + 1) #[.int .i64 0, .slice none 0 0, .slice none 0 0] rfl rfl 29 _ ha1 Ln_size rfl (by simp [Value.oneCell']) ?_)
          | fail)
        have hr : RowAt (w1.setRow (B + 1) #[.int .i64 0, .slice none 0 0, .slice none 0 0]) (B + 1) 29 [.int .i64 0, .slice none 0 0, .slice none 0 0] := HA1.out.row [.int .i64 0, .slice none 0 0, .slice none 0 0]
        have n0 := hr.cell 0 _ rfl
        have n1 := hr.cell 1 _ rfl
        have n2 := hr.cell 2 _ rfl
        refine bodyPost_ret (v := .tuple #[.agg #[.int .i64 0, .slice none 0 0, .slice none 0 0], .int .i64 2]) (by simp [results, Try.results21, go_sem, n0, n1, n2]) rfl ?_
        rw [HZ.out]
        exact gaveLn_zero _ _ _ (HU1.out.row (Or.inl (by have := HBB.out; omega)) _)
      | true =>
        obtain rfl : qb = false := by simpa using hq
        go_wp2_with fail
        refine (QA.out _).mono ?_
        rintro e w2 ⟨rfl, rfl⟩
        go_wp2_with fail
        refine (QB.out _).mono ?_
        rintro e w2 ⟨rfl, rfl⟩
        go_wp2_with (first
          | (refine wpList_store_row rfl 29 _ _ rfl (B + 1) #[.int .i64 0, .slice none 0 0, .slice none 0 0] rfl rfl 29 _ ha1 Ln_size rfl (by simp [Value.oneCell']) ?_)
          | fail)
        have hr : RowAt (w1.setRow (B + 1) #[.int .i64 0, .slice none 0 0, .slice none 0 0]) (B + 1) 29 [.int .i64 0, .slice none 0 0, .slice none 0 0] := HA1.out.row [.int .i64 0, .slice none 0 0, .slice none 0 0]
        have n0 := hr.cell 0 _ rfl
        have n1 := hr.cell 1 _ rfl
        have n2 := hr.cell 2 _ rfl
        refine bodyPost_ret (v := .tuple #[.agg #[.int .i64 0, .slice none 0 0, .slice none 0 0], .int .i64 2]) (by simp [results, Try.results21, go_sem, n0, n1, n2]) rfl ?_
        rw [HZ.out]
        exact gaveLn_zero _ _ _ (HU1.out.row (Or.inl (by have := HBB.out; omega)) _)

end Go.Proofs.Ytnfghgaadnobbaa
