/-
  The text of a list of labels, and a list of labels read: both sides, and the laws' walks.
-/
import Derived.Test.YtkhifpgpkklokaaGreatDoorTrT
namespace Go.Proofs.YtkhifpgpkklokaaGreatDoor
open Go.RowKit

theorem joinI (c : UInt8) (v : Value) (ps : List (List UInt8)) (w : World) (fp : List Nat) (hR : RS fp w [v] ps) (h0 : 0 < ps.length) (hz : szF_S1 ps ≤ 2097152) :
    Calls Tryz.prog 41 #[v, .string ⟨#[c]⟩] w fun e w' => e = .returned (es (joinC c ps)) ∧ Upd [] w w' := by
  obtain ⟨a, cap, rfl, h1, h2, hc⟩ := slF1_open hR
  obtain ⟨b, off, rfl, hf, hbl, -⟩ := hc 0 h0
  have hmm : (ps.map (fun p => (⟨p.toArray⟩ : ByteArray))).map (fun b => b.data.toList) = ps := by
    rw [List.map_map]; exact (List.map_congr_left (fun p _ => rfl)).trans (List.map_id _)
  have hj : Lib.join ((ps.map (fun p => (⟨p.toArray⟩ : ByteArray))).map (fun b => b.data.toList)) (⟨#[c]⟩ : ByteArray).data.toList = joinC c ps := by
    rw [hmm]; exact join_lib c ps
  have ht := joinC_tot c ps
  have hn := totS_nonneg ps
  unfold szF_S1 at hz
  have S0 := Tryz.strings_Join b off cap (ps.map (fun p => (⟨p.toArray⟩ : ByteArray))) ⟨#[c]⟩ w (fun j x hx => by
    obtain ⟨hj1, rfl⟩ := List.getElem?_eq_some_iff.1 hx
    have hj2 : j < ps.length := by simpa using hj1
    obtain ⟨b', off', hb, -, -, hcl⟩ := hc j hj2
    cases hb
    rw [hcl]
    simp [es]) hbl (by simp; omega) (by simp; omega) (by rw [hj]; omega)
  rw [hj] at S0
  simp only [List.length_map] at S0
  refine S0.mono ?_
  rintro e w3 ⟨rfl, hb3⟩
  exact ⟨rfl, Upd.ofBelow hb3⟩

theorem splitI46 (l : List UInt8) (w : World) (hl : l.length ≤ 2000000) (he : Env w) :
    Calls Tryz.prog 43 #[es l, .string ⟨#[46]⟩] w fun e w' => (∃ v', e = .returned v' ∧ New RS w w' v' (splitC 46 l)) ∧ Upd [] w w' := by
  obtain ⟨m, hm⟩ := he.m
  have hsz : (⟨l.toArray⟩ : ByteArray).size = l.length := rfl
  have hlen := Lib.splitB_all ⟨#[46]⟩ (by decide) 0 (Lib.countB ⟨l.toArray⟩ ⟨#[46]⟩) ⟨l.toArray⟩ rfl
  have hdat : (Lib.splitB ⟨#[46]⟩ 0 (Lib.countB ⟨l.toArray⟩ ⟨#[46]⟩) ⟨l.toArray⟩).map (·.data.toList) = splitC 46 l := by
    rw [Lib.splitB_data]; exact split_lib 46 l
  refine (Tryz.strings_Split ⟨l.toArray⟩ ⟨#[46]⟩ m w (by rw [hsz]; omega) hm (by decide)).mono ?_
  rintro e w1 ⟨rfl, rfl⟩
  generalize Lib.splitB ⟨#[46]⟩ 0 (Lib.countB ⟨l.toArray⟩ ⟨#[46]⟩) ⟨l.toArray⟩ = bs at *
  generalize Lib.countB ⟨l.toArray⟩ ⟨#[46]⟩ = n at *
  have hsp := (splitC_len 46 l).1
  have hmap : bs.map Value.string = (splitC 46 l).map es := by
    rw [← hdat, List.map_map]
    exact List.map_congr_left (fun b _ => (es_bytes b).symm)
  have hn : n + 1 = (splitC 46 l).length := by rw [← hdat, List.length_map, hlen]
  rw [hmap, hn]
  exact ⟨⟨_, rfl, new_lit (enc := es) w 9 (splitC 46 l) (by unfold maxLen; omega)⟩, (Upd.refl _ _).alloc _⟩

/-- the text of a list of labels. -/
def trRes (xs : List (List UInt8)) : List UInt8 := if xs.all isLab then (if xs = [] then [45] else joinC 46 xs) else []

theorem sz_mem {xs : List (List UInt8)} (h : szF_S1 xs ≤ 1048576) : ∀ p ∈ xs, p.length ≤ 2000000 := fun p hp => by
  have := totS_mem xs p hp
  unfold szF_S1 at h
  omega

set_option maxRecDepth 20000 in
set_option maxHeartbeats 1000000 in
theorem trace_i (v : Value) (xs : List (List UInt8)) (w : World) (fp : List Nat) (he : Env w) (hz : szF_S1 xs ≤ 1048576) (hR : RS fp w [v] xs) :
    Calls Tryz.prog 16 #[v] w fun e w' => e = .returned (es (trRes xs)) ∧ Upd [] w w' := by
  obtain ⟨a, cap, rfl, h1, h2, -⟩ := slF1_open hR
  unfold maxLen at h2
  have S1 := Lib.hid (areLabelsI _ xs w fp hR (sz_mem hz) he)
  have HR := Lib.hid hR
  have HZ := Lib.hid (show trRes xs = if xs.all isLab then (if xs = [] then [45] else joinC 46 xs) else [] from rfl)
  cases hb : xs.all isLab with
  | false =>
    rw [hb] at S1 HZ
    clear hR hz hb he
    go_enter Tryz.func16, Tryz.ntmps16
    go_wp2_with fail
    refine S1.out.mono ?_
    rintro e w1 ⟨rfl, hu⟩
    have HU := Lib.hid hu
    clear S1 hu
    go_wp2_with fail
    go_ret
    exact ⟨by rw [HZ.out]; rfl, HU.out⟩
  | true =>
    rw [hb] at S1 HZ
    by_cases h0 : xs = []
    · have HZ2 := Lib.hid (HZ.out.trans ((if_pos rfl).trans (if_pos h0)))
      have g0 : ((xs.length : Int) == 0) = true := by rw [h0]; rfl
      clear hR hz hb he h0 HZ
      go_enter Tryz.func16, Tryz.ntmps16
      go_wp2_with fail
      refine S1.out.mono ?_
      rintro e w1 ⟨rfl, hu⟩
      have HU := Lib.hid hu
      clear S1 hu
      go_wp2_with fail
      go_ret
      exact ⟨by rw [HZ2.out]; rfl, HU.out⟩
    · have HZ2 := Lib.hid (HZ.out.trans ((if_pos rfl).trans (if_neg h0)))
      have hpos : 0 < xs.length := List.length_pos_iff.2 h0
      have g0 : ((xs.length : Int) == 0) = false := by rw [beq_eq_false_iff_ne]; omega
      have S2 := Lib.hid (fun (w1 : World) (hu : Upd [] w w1) => joinI 46 _ xs w1 fp (RSk.upd HR.out hu (by simp)) hpos (by omega))
      clear hR hz hb he h0 HZ
      go_enter Tryz.func16, Tryz.ntmps16
      go_wp2_with fail
      refine S1.out.mono ?_
      rintro e w1 ⟨rfl, hu⟩
      have HU := Lib.hid hu
      have S3 := Lib.hid (S2.out w1 hu)
      clear S1 hu S2
      go_wp2_with fail
      refine S3.out.mono ?_
      rintro e w2 ⟨rfl, hu2⟩
      have HU2 := Lib.hid (HU.out.trans hu2)
      clear S3 hu2 HU
      go_wp2_with fail
      go_ret
      exact ⟨by rw [HZ2.out]; rfl, HU2.out⟩

set_option maxRecDepth 20000 in
set_option maxHeartbeats 1000000 in
theorem trace_s (v : Value) (xs : List (List UInt8)) (w : World) (fp : List Nat) (hz : szF_S1 xs ≤ 1048576) (hR : RS fp w [v] xs) :
    Calls Tryz.prog 14 #[v] w fun e w' => e = .returned (es (trRes xs)) ∧ Upd [] w w' := by
  have S1 := Lib.hid (textsS _ xs w fp hR (sz_mem hz))
  have HZ := Lib.hid (show trRes xs = if xs.all isLab then (if xs = [] then [45] else joinC 46 xs) else [] from rfl)
  have S2 := Lib.hid (fun (w1 : World) (hu : Upd [] w w1) => traceS v xs w1 fp (RSk.upd hR hu (by simp)) (by omega))
  cases hb : xs.all isLab with
  | false =>
    rw [hb] at S1 HZ
    clear hR hz hb S2
    go_enter Tryz.func14, Tryz.ntmps14
    go_wp2_with fail
    refine S1.out.mono ?_
    rintro e w1 ⟨rfl, hu⟩
    have HU := Lib.hid hu
    clear S1 hu
    go_wp2_with fail
    go_ret
    exact ⟨by rw [HZ.out]; rfl, HU.out⟩
  | true =>
    rw [hb] at S1 HZ
    have HZ2 := Lib.hid (HZ.out.trans (if_pos rfl))
    generalize (if xs = [] then [45] else joinC 46 xs) = J at *
    clear hR hz hb HZ
    go_enter Tryz.func14, Tryz.ntmps14
    go_wp2_with fail
    refine S1.out.mono ?_
    rintro e w1 ⟨rfl, hu⟩
    have HU := Lib.hid hu
    have S3 := Lib.hid (S2.out w1 hu)
    clear S1 hu S2
    go_wp2_with fail
    refine S3.out.mono ?_
    rintro e w2 ⟨rfl, rfl⟩
    clear S3
    go_wp2_with fail
    go_ret
    exact ⟨by rw [HZ2.out]; rfl, HU.out⟩

set_option maxRecDepth 20000 in
set_option maxHeartbeats 2000000 in
theorem lawTrace (e : List (List UInt8)) (v_e : Value) (f_e : List Nat) (w : World) (hG : Env w) (hS : strsOk e) (hR_e : R_S1 f_e w [v_e] e) :
    Calls Tryz.prog 4 #[v_e] w fun e w' => e = .returned (.bool true) ∧ Upd [] w w' := by
  have tn_e := mkF_S1_nonneg e
  have HG := Lib.hid hG
  have HR := Lib.hid hR_e
  have SZ := Lib.hid (fun w1 : World => fun (h : R_S1 f_e w1 [v_e] e) => sz_S1 v_e e 1048576 w1 f_e (by omega) (by omega) h hS)
  clear hG hS
  go_enter Tryz.func4, Tryz.ntmps4
  go_wp2_with fail
  refine (SZ.out _ HR.out).mono ?_
  clear SZ
  rintro e w' ⟨⟨r_e, rfl, hr_e⟩, rfl⟩
  rcases hr_e with rfl | ⟨hp_e, hq_e⟩
  · clear hR_e
    go_wp2_with fail
    go_ret
    exact ⟨rfl, Upd.refl _ _⟩
  · have hz_e : szF_S1 e ≤ 1048576 := by have := szF_S1_nonneg e; omega
    have hx_e : r_e ≤ 1048576 := by have := szF_S1_nonneg e; omega
    have S1 := Lib.hid (to_S1 v_e e w f_e hz_e HR.out)
    clear hq_e hR_e
    go_wp2_with fail
    refine S1.out.mono ?_
    rintro e w1 ⟨⟨v1, rfl, f1, r1, -, -⟩, u1⟩
    have S2 := Lib.hid (trace_s v1 e w1 f1 hz_e r1)
    have U1 := Lib.hid u1
    clear S1 u1 r1
    have TI := Lib.hid (fun v w fp he hR => trace_i v e w fp he hz_e hR)
    generalize trRes e = T at *
    go_wp2_with fail
    refine S2.out.mono ?_
    rintro e w2 ⟨rfl, u2⟩
    have U2 := Lib.hid (U1.out.trans u2)
    have S3 := Lib.hid (to_S1 v_e _ w2 f_e hz_e (R_S1k.upd HR.out U2.out (by simp)))
    clear S2 u2 U1
    go_wp2_with fail
    refine S3.out.mono ?_
    rintro e w3 ⟨⟨v3, rfl, f3, r3, -, -⟩, u3⟩
    have U3 := Lib.hid (U2.out.trans u3)
    have S4 := Lib.hid (TI.out v3 w3 f3 (HG.out.upd U3.out) r3)
    have R3 := Lib.hid r3
    clear S3 u3 U2 r3
    go_wp2_with fail
    refine S4.out.mono ?_
    rintro e w4 ⟨rfl, u4⟩
    have U4 := Lib.hid (U3.out.trans u4)
    have R4 := Lib.hid (R_S1k.upd R3.out u4 (by simp))
    have S5 := Lib.hid (to_S1 v_e _ w4 f_e hz_e (R_S1k.upd HR.out U4.out (by simp)))
    clear S4 u4 U3 R3
    go_wp2_with fail
    refine S5.out.mono ?_
    rintro e w5 ⟨⟨v5, rfl, f5, r5, -, -⟩, u5⟩
    have U5 := Lib.hid (U4.out.trans u5)
    have S6 := eq_S1 v3 v5 _ _ w5 f3 f5 (R_S1k.upd R4.out u5 (by simp)) r5
    rw [beq_self_eq_true] at S6
    have HS6 := Lib.hid S6
    clear S5 u5 U4 R4 r5 S6
    go_wp2_with fail
    refine HS6.out.mono ?_
    rintro e w6 ⟨rfl, u6⟩
    have U6 := Lib.hid (U5.out.trans u6)
    clear HS6 u6 U5
    go_wp2_with fail
    go_ret
    exact ⟨rfl, U6.out⟩

/-- the labels of a text. -/
def rdRes (s : List UInt8) : Option (List (List UInt8)) := if s = [45] then some [] else if (splitC 46 s).all isLab then some (splitC 46 s) else none
def RdV (s : List UInt8) (w : World) (e : Ending) (w' : World) : Prop := (∃ v', e = .returned (.tuple #[v', .bool (rdRes s).isSome]) ∧ New RS w w' v' ((rdRes s).getD [])) ∧ Upd [] w w'
theorem newS_nil (w w' : World) : New RS w w' (.slice none 0 0) [] :=
  ⟨[], ⟨_, rfl, none, 0, rfl, Nat.le_refl _, by simp [maxLen], by simp, Or.inl ⟨rfl, rfl⟩⟩, Own.nil _, by simp⟩

set_option maxRecDepth 20000 in
set_option maxHeartbeats 1000000 in
theorem rd_i (s : List UInt8) (w : World) (he : Env w) (hl : s.length ≤ 1048576) : Calls Tryz.prog 19 #[es s] w (RdV s w) := by
  have HZ := Lib.hid (show rdRes s = if s = [45] then some [] else if (splitC 46 s).all isLab then some (splitC 46 s) else none from rfl)
  by_cases h0 : s = [45]
  · have HZ2 := Lib.hid (HZ.out.trans (if_pos h0))
    have g0 : (s == [45]) = true := by simpa using h0
    clear HZ he h0
    go_enter Tryz.func19, Tryz.ntmps19
    go_wp2_with fail
    go_ret2
    exact ⟨⟨_, by rw [HZ2.out]; rfl, by rw [HZ2.out]; exact newS_nil _ _⟩, Upd.refl _ _⟩
  · have HZ2 := Lib.hid (HZ.out.trans (if_neg h0))
    have g0 : (s == [45]) = false := by simpa using h0
    have S1 := Lib.hid (splitI46 s w (by omega) he)
    obtain ⟨hp1, hp2⟩ := splitC_len 46 s
    have HP := Lib.hid (show ∀ p ∈ splitC 46 s, p.length ≤ 2000000 from fun p hp => by have := hp2 p hp; omega)
    have HE := Lib.hid he
    generalize splitC 46 s = ps at *
    clear HZ he h0 hp2
    go_enter Tryz.func19, Tryz.ntmps19
    go_wp2_with fail
    refine S1.out.mono ?_
    rintro e w1 ⟨⟨v1, rfl, hn⟩, hu1⟩
    obtain ⟨f1, r1, -, -⟩ := id hn
    have S2 := Lib.hid (areLabelsI v1 ps w1 f1 r1 HP.out (HE.out.upd hu1))
    have HN := Lib.hid (And.intro hn hu1)
    clear S1 r1 hn hu1
    cases hb : ps.all isLab with
    | false =>
      rw [hb] at S2 HZ2
      clear hb
      go_wp2_with fail
      refine S2.out.mono ?_
      rintro e w2 ⟨rfl, hu2⟩
      have HU := Lib.hid (HN.out.2.trans hu2)
      clear S2 hu2
      go_wp2_with fail
      go_ret2
      exact ⟨⟨_, by rw [HZ2.out]; rfl, by rw [HZ2.out]; exact newS_nil _ _⟩, HU.out⟩
    | true =>
      rw [hb] at S2 HZ2
      clear hb
      go_wp2_with fail
      refine S2.out.mono ?_
      rintro e w2 ⟨rfl, hu2⟩
      have HU := Lib.hid (And.intro (RSk.new HN.out.1 hu2 (by simp)) (HN.out.2.trans hu2))
      clear S2 hu2
      go_wp2_with fail
      go_ret2
      exact ⟨⟨_, by rw [HZ2.out]; rfl, by rw [HZ2.out]; exact HU.out.1⟩, HU.out.2⟩

set_option maxRecDepth 20000 in
set_option maxHeartbeats 1000000 in
theorem rd_s (s : List UInt8) (w : World) (hl : s.length ≤ 1048576) : Calls Tryz.prog 18 #[es s] w (RdV s w) := by
  have key : Calls Tryz.prog 42 #[es s] w (RdV s w) := by
    have HZ := Lib.hid (show rdRes s = if s = [45] then some [] else if (splitC 46 s).all isLab then some (splitC 46 s) else none from rfl)
    by_cases h0 : s = [45]
    · have HZ2 := Lib.hid (HZ.out.trans (if_pos h0))
      have g0 : (s == [45]) = true := by simpa using h0
      have HN := Lib.hid (show New RS w (w.alloc (.cells #[] 9)) (.slice (some ⟨w.heap.size, 0, none⟩) 0 0) [] from by simpa using new_lit (enc := es) w 9 [] (by simp [maxLen]))
      clear HZ h0
      go_enter Tryz.func42, Tryz.ntmps42
      go_wp2_with fail
      go_ret2
      exact ⟨⟨_, by rw [HZ2.out]; rfl, by rw [HZ2.out]; exact HN.out⟩, (Upd.refl _ _).alloc _⟩
    · have HZ2 := Lib.hid (HZ.out.trans (if_neg h0))
      have g0 : (s == [45]) = false := by simpa using h0
      have S1 := Lib.hid (show Calls Tryz.prog 76 #[es s, .int .u8 ((46 : UInt8).toNat : Int)] w (fun e w' => (∃ v', e = .returned v' ∧ New RS w w' v' (splitC 46 s)) ∧ Upd [] w w') from splitS s 46 w (by omega))
      obtain ⟨hp1, hp2⟩ := splitC_len' 46 s
      have HP := Lib.hid (show ∀ p ∈ splitC 46 s, p.length ≤ 2000000 from fun p hp => by have := hp2 p hp; omega)
      generalize splitC 46 s = ps at *
      clear HZ h0 hp2
      go_enter Tryz.func42, Tryz.ntmps42
      go_wp2_with fail
      refine S1.out.mono ?_
      rintro e w1 ⟨⟨v1, rfl, hn⟩, hu1⟩
      obtain ⟨f1, r1, -, -⟩ := id hn
      have S2 := Lib.hid (textsS v1 ps w1 f1 r1 HP.out)
      have HN := Lib.hid (And.intro hn hu1)
      clear S1 r1 hn hu1
      cases hb : ps.all isLab with
      | false =>
        rw [hb] at S2 HZ2
        clear hb
        go_wp2_with fail
        refine S2.out.mono ?_
        rintro e w2 ⟨rfl, hu2⟩
        have HU := Lib.hid (HN.out.2.trans hu2)
        clear S2 hu2
        go_wp2_with fail
        go_ret2
        exact ⟨⟨_, by rw [HZ2.out]; rfl, by rw [HZ2.out]; exact newS_nil _ _⟩, HU.out⟩
      | true =>
        rw [hb] at S2 HZ2
        clear hb
        go_wp2_with fail
        refine S2.out.mono ?_
        rintro e w2 ⟨rfl, hu2⟩
        have HU := Lib.hid (And.intro (RSk.new HN.out.1 hu2 (by simp)) (HN.out.2.trans hu2))
        clear S2 hu2
        go_wp2_with fail
        go_ret2
        exact ⟨⟨_, by rw [HZ2.out]; rfl, by rw [HZ2.out]; exact HU.out.1⟩, HU.out.2⟩
  have S1 := Lib.hid key
  clear key
  go_enter Tryz.func18, Tryz.ntmps18
  go_wp2_with fail
  refine S1.out.mono ?_
  rintro e w1 ⟨⟨v1, rfl, hn⟩, hu1⟩
  have HN := Lib.hid (And.intro hn hu1)
  clear S1 hn hu1
  go_wp2_with fail
  go_ret2
  exact ⟨⟨_, rfl, HN.out.1⟩, HN.out.2⟩

/-- the labels of a text, as the laws' walks have them. -/
def rdPair (s : List UInt8) : List (List UInt8) × Bool := ((rdRes s).getD [], (rdRes s).isSome)
theorem rd_b (s : List UInt8) (h : s.length ≤ 1048576) : mkF_S1 (rdPair s).1 ≤ 1000000000 := by
  have hs := (splitC_len 46 s).1
  unfold mkF_S1 rdPair rdRes
  split
  · simp
  · split
    · simp only [Option.getD_some]; omega
    · simp
theorem rdt_i (s : List UInt8) (w : World) (hl : s.length ≤ 1048576) (he : Env w) : Calls Tryz.prog 19 #[es s] w fun e w' => (∃ v', e = .returned (.tuple #[v', .bool (rdPair s).2]) ∧ New RS w w' v' (rdPair s).1) ∧ Upd [] w w' := rd_i s w he hl
theorem rdt_s (s : List UInt8) (w : World) (hl : s.length ≤ 1048576) : Calls Tryz.prog 18 #[es s] w fun e w' => (∃ v', e = .returned (.tuple #[v', .bool (rdPair s).2]) ∧ New RS w w' v' (rdPair s).1) ∧ Upd [] w w' := rd_s s w hl

end Go.Proofs.YtkhifpgpkklokaaGreatDoor
