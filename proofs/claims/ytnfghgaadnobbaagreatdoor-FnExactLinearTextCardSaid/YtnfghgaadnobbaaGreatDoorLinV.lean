/-
  The checks of sums, of states: what the program's calls and the reference's calls return.
-/
import Derived.Test.YtnfghgaadnobbaaGreatDoorLinP
import Derived.Test.YtnfghgaadnobbaaGreatDoorAreV
import Derived.Deep.DeepCutAuto
namespace Go.Proofs.YtnfghgaadnobbaaGreatDoor
open Go.RowKit

theorem all_take_snoc (l : List Int) (p : Int → Bool) (k : Nat) (h : k < l.length) : (l.take (k + 1)).all p = ((l.take k).all p && p l[k]) := by
  rw [List.take_succ_eq_append_getElem h, List.all_append]; simp
theorem all_take_no (l : List Int) (p : Int → Bool) (k : Nat) (h : k < l.length) (hp : p l[k] = false) : l.all p = false := by
  cases e : l.all p
  · rfl
  · rw [List.all_eq_true] at e
    have := e l[k] (List.getElem_mem h)
    rw [hp] at this; cases this

set_option maxRecDepth 20000 in
set_option maxHeartbeats 1600000 in
theorem sumsOkI (cs : List Value) (x : Sm) (w : World) (fp : List Nat) (hR : R_Sm fp w cs x) :
    Calls Tryz.prog 62 #[.agg cs.toArray] w fun e w' => e = .returned (.bool (sumsP x.sums)) ∧ Upd [] w w' := by
  obtain ⟨v0, v1, v3, v4, f0, f1, f3, f4, rfl, h0, -, -, -, rfl⟩ := hR
  obtain ⟨wA, hwA⟩ : ∃ wA, wA = w.alloc (.cells #[v0, v1, es x.name, v3, v4] 48) := ⟨_, rfl⟩
  obtain ⟨BA, hBA⟩ : ∃ BA, BA = w.heap.size := ⟨_, rfl⟩
  have uA : Upd [] w wA := by rw [hwA]; exact (Upd.refl _ _).alloc _
  have c0 : wA.cell? ⟨BA, 0, none⟩ = some v0 := by rw [hwA, hBA]; exact cell_new w _ _ _ rfl 0 _ rfl
  have h0' := R_I1k.upd h0 uA (by simp)
  have UA := Lib.hid uA
  generalize hxs : x.sums = xs at *
  generalize x.name = t2 at *
  obtain ⟨a, cap, rfl, hl, hm, hc⟩ := slF1_open h0'
  unfold maxLen at hm
  have HC := Lib.hid hc
  have HP := Lib.hid (show sumsP xs = ((xs.all fun n => inB n 1 7) && decide (xs.length ≤ 8) && decide (prodP xs ≤ 4096)) from rfl)
  have HB := Lib.hid (fun k (hk : k < xs.length) (h8 : xs.length ≤ 8) (ha : ((xs.take (k + 1)).all fun n => inB n 1 7) = true) => prodP_small (xs.take (k + 1)) ha (by rw [List.length_take]; omega))
  clear h0 h0' uA hc hxs x
  by_cases h8 : xs.length ≤ 8
  · have h8' : (xs.length : Int) ≤ 8 := by omega
    go_enter Tryz.func62, Tryz.ntmps62
    go_wp2_with fail
    rw [← hwA, ← hBA]
    clear hwA hBA
    go_loopw [3, 9] (fun pv iv wr => ∃ (k : Nat) (q : Int), k ≤ xs.length ∧ iv = .int .i64 k ∧ pv = .int .i64 q ∧ 1 ≤ q ∧ q ≤ 16777216 ∧ Hid (q = prodP (xs.take k)) ∧ Hid (((xs.take k).all fun n => inB n 1 7) = true) ∧ wr = wA) (fun _ iv _ => xs.length - (intOf iv).toNat)
    case atStart => exact ⟨0, 1, Nat.zero_le _, rfl, rfl, by omega, by omega, Lib.hid (by simp [prodP]), Lib.hid (by simp), rfl⟩
    case round =>
      obtain ⟨k, q, hk, rfl, rfl, hq0, hq1, HQ, HA, rfl⟩ := hrel
      by_cases hlt : k < xs.length
      · obtain ⟨b, off, rfl, -, -, p0⟩ := HC.out k hlt
        have hkl : (k : Int) < (xs.length : Int) := by omega
        have HS := Lib.hid (prodP_snoc xs k hlt)
        have HT := Lib.hid (all_take_snoc xs (fun n => inB n 1 7) k hlt)
        have HN := Lib.hid (fun h => all_take_no xs (fun n => inB n 1 7) k hlt h)
        have HB1 := Lib.hid (fun h => HB.out k hlt h8 h)
        generalize xs[k] = y at *
        have S1 := Lib.hid (fun W => within y 1 7 W)
        cases hin : inB y 1 7 with
        | false =>
          rw [hin] at S1
          have HZ := Lib.hid (show sumsP xs = false by rw [HP.out, HN.out hin]; rfl)
          clear hin
          go_wp2_with fail
          refine (S1.out _).mono ?_
          rintro e w1 ⟨rfl, rfl⟩
          go_wp2_with fail
          go_ret
          exact ⟨by rw [HZ.out]; rfl, UA.out⟩
        | true =>
          rw [hin] at S1
          have ha : ((xs.take (k + 1)).all fun n => inB n 1 7) = true := by rw [HT.out, HA.out, hin]; rfl
          obtain ⟨q2, hq2⟩ : ∃ q2, q2 = prodP (xs.take (k + 1)) := ⟨_, rfl⟩
          have hb := HB1.out ha
          rw [← hq2] at hb
          obtain ⟨hb0, hb1⟩ := hb
          have hmul : q * (y + 1) = q2 := by rw [hq2, HS.out, HQ.out]
          have hy := inB_true hin
          have HA2 := Lib.hid ha
          have HQ2 := Lib.hid hq2
          clear hin ha hq2
          go_wp2_with fail
          refine (S1.out _).mono ?_
          rintro e w1 ⟨rfl, rfl⟩
          go_wp2_with fail
          go_roundw
          case rel => exact ⟨k + 1, q2, by omega, by go_num, rfl, hb0, hb1, HQ2, HA2, by first | rfl | trivial⟩
          case measure => simp [intOf]; omega
      · obtain rfl : k = xs.length := by omega
        have hq := HQ.out
        have ha := HA.out
        rw [List.take_length] at hq ha
        have HZ := Lib.hid (show sumsP xs = decide (q ≤ 4096) by rw [HP.out, ha, decide_eq_true h8, hq]; rfl)
        clear hq ha HQ HA
        go_wp2_with fail
        go_ret
        exact ⟨by rw [HZ.out]; rfl, UA.out⟩
  · have h8' : ¬ (xs.length : Int) ≤ 8 := by omega
    have HZ := Lib.hid (show sumsP xs = false by rw [HP.out, decide_eq_false h8]; simp)
    clear HP HB
    go_enter Tryz.func62, Tryz.ntmps62
    go_wp2_with fail
    rw [← hwA, ← hBA]
    clear hwA hBA
    go_loopw [3, 9] (fun pv iv wr => ∃ (k : Nat) (q : Int), k ≤ xs.length ∧ iv = .int .i64 k ∧ pv = .int .i64 q ∧ wr = wA) (fun _ iv _ => xs.length - (intOf iv).toNat)
    case atStart => exact ⟨0, 1, Nat.zero_le _, rfl, rfl, rfl⟩
    case round =>
      obtain ⟨k, q, hk, rfl, rfl, rfl⟩ := hrel
      by_cases hlt : k < xs.length
      · obtain ⟨b, off, rfl, -, -, p0⟩ := HC.out k hlt
        have hkl : (k : Int) < (xs.length : Int) := by omega
        generalize xs[k] = y at *
        have S1 := Lib.hid (fun W => within y 1 7 W)
        cases hin : inB y 1 7 with
        | false =>
          rw [hin] at S1
          clear hin
          go_wp2_with fail
          refine (S1.out _).mono ?_
          rintro e w1 ⟨rfl, rfl⟩
          go_wp2_with fail
          go_ret
          exact ⟨by rw [HZ.out]; rfl, UA.out⟩
        | true =>
          rw [hin] at S1
          have hy := inB_true hin
          obtain ⟨q2, hq2⟩ : ∃ q2, q2 = q * (y + 1) := ⟨_, rfl⟩
          have hmul : q * (y + 1) = q2 := hq2.symm
          clear hin hq2
          go_wp2_with fail
          refine (S1.out _).mono ?_
          rintro e w1 ⟨rfl, rfl⟩
          go_wp2_with fail
          go_roundw
          case rel => exact ⟨k + 1, _, by omega, by go_num, rfl, by first | rfl | trivial⟩
          case measure => simp [intOf]; omega
      · obtain rfl : k = xs.length := by omega
        go_wp2_with fail
        go_ret
        exact ⟨by rw [HZ.out]; rfl, UA.out⟩

def triesP (l : List Int) : Int := if sumsP l then prodP l else 0
set_option maxRecDepth 20000 in
set_option maxHeartbeats 1600000 in
theorem triesS (v : Value) (xs : List Int) (w : World) (fp : List Nat) (hR : R_I1 fp w [v] xs) :
    Calls Tryz.prog 52 #[v] w fun e w' => e = .returned (.int .i64 (triesP xs)) ∧ w = w' := by
  obtain ⟨a, cap, rfl, hl, hm, hc⟩ := slF1_open hR
  unfold maxLen at hm
  have HC := Lib.hid hc
  have HP := Lib.hid (show sumsP xs = ((xs.all fun n => inB n 1 7) && decide (xs.length ≤ 8) && decide (prodP xs ≤ 4096)) from rfl)
  have HT0 := Lib.hid (fun (h : sumsP xs = false) => show triesP xs = 0 by unfold triesP; rw [h]; rfl)
  have HT1 := Lib.hid (fun (h : sumsP xs = true) => show triesP xs = prodP xs by unfold triesP; rw [h]; rfl)
  have HB := Lib.hid (fun k (hk : k < xs.length) (h8 : xs.length ≤ 8) (ha : ((xs.take (k + 1)).all fun n => inB n 1 7) = true) => prodP_small (xs.take (k + 1)) ha (by rw [List.length_take]; omega))
  clear hR hc
  by_cases h8 : xs.length ≤ 8
  · have h8' : ¬ (8 : Int) < (xs.length : Int) := by omega
    go_enter Tryz.func52, Tryz.ntmps52
    go_wp2_with fail
    go_loop [3, 4] (fun pv iv => ∃ (k : Nat) (q : Int), k ≤ xs.length ∧ iv = .int .i64 k ∧ pv = .int .i64 q ∧ 1 ≤ q ∧ q ≤ 16777216 ∧ Hid (q = prodP (xs.take k)) ∧ Hid (((xs.take k).all fun n => inB n 1 7) = true)) (fun _ iv => xs.length - (intOf iv).toNat)
    case atStart => exact ⟨0, 1, Nat.zero_le _, rfl, rfl, by omega, by omega, Lib.hid (by simp [prodP]), Lib.hid (by simp)⟩
    case round =>
      obtain ⟨k, q, hk, rfl, rfl, hq0, hq1, HQ, HA⟩ := hrel
      by_cases hlt : k < xs.length
      · obtain ⟨b, off, rfl, -, -, p0⟩ := HC.out k hlt
        have hkl : (k : Int) < (xs.length : Int) := by omega
        have HS := Lib.hid (prodP_snoc xs k hlt)
        have HT := Lib.hid (all_take_snoc xs (fun n => inB n 1 7) k hlt)
        have HN := Lib.hid (fun h => all_take_no xs (fun n => inB n 1 7) k hlt h)
        have HB1 := Lib.hid (fun h => HB.out k hlt h8 h)
        generalize xs[k] = y at *
        have S1 := Lib.hid (fun W => l00In y 1 7 W)
        cases hin : inB y 1 7 with
        | false =>
          rw [hin] at S1
          have HZ := Lib.hid (HT0.out (by rw [HP.out, HN.out hin]; rfl))
          clear hin
          go_wp2_with fail
          refine (S1.out _).mono ?_
          rintro e w1 ⟨rfl, rfl⟩
          go_wp2_with fail
          go_ret
          exact ⟨by rw [HZ.out]; rfl, rfl⟩
        | true =>
          rw [hin] at S1
          have ha : ((xs.take (k + 1)).all fun n => inB n 1 7) = true := by rw [HT.out, HA.out, hin]; rfl
          obtain ⟨q2, hq2⟩ : ∃ q2, q2 = prodP (xs.take (k + 1)) := ⟨_, rfl⟩
          have hb := HB1.out ha
          rw [← hq2] at hb
          obtain ⟨hb0, hb1⟩ := hb
          have hmul : q * (y + 1) = q2 := by rw [hq2, HS.out, HQ.out]
          have hy := inB_true hin
          have HA2 := Lib.hid ha
          have HQ2 := Lib.hid hq2
          clear hin ha hq2
          go_wp2_with fail
          refine (S1.out _).mono ?_
          rintro e w1 ⟨rfl, rfl⟩
          go_wp2_with fail
          go_round
          case rel => exact ⟨k + 1, q2, by omega, by go_num, rfl, hb0, hb1, HQ2, HA2⟩
          case measure => simp [intOf]; omega
      · obtain rfl : k = xs.length := by omega
        have hq := HQ.out
        have ha := HA.out
        rw [List.take_length] at hq ha
        by_cases h4 : q ≤ 4096
        · have HZ := Lib.hid (show triesP xs = q by rw [HT1.out (by rw [HP.out, ha, decide_eq_true h8, ← hq, decide_eq_true h4]; rfl), hq])
          have h4' : ¬ 4096 < q := by omega
          clear hq ha HQ HA
          go_wp2_with fail
          go_ret
          exact ⟨by rw [HZ.out]; rfl, rfl⟩
        · have HZ := Lib.hid (show triesP xs = 0 from HT0.out (by rw [HP.out, ← hq, decide_eq_false h4]; simp))
          have h4' : 4096 < q := by omega
          clear hq ha HQ HA
          go_wp2_with fail
          go_ret
          exact ⟨by rw [HZ.out]; rfl, rfl⟩
  · have h8' : (8 : Int) < (xs.length : Int) := by omega
    have HZ := Lib.hid (HT0.out (show sumsP xs = false by rw [HP.out, decide_eq_false h8]; simp))
    clear HP HB
    go_enter Tryz.func52, Tryz.ntmps52
    go_wp2_with fail
    go_ret
    exact ⟨by rw [HZ.out]; rfl, rfl⟩

theorem isV_in : isV = fun n => inB n 0 63 := rfl
set_option maxRecDepth 20000 in
theorem dataS (v : Value) (xs : List Int) (w : World) (fp : List Nat) (hR : R_I1 fp w [v] xs) :
    Calls Tryz.prog 51 #[v] w fun e w' => e = .returned (.bool (xs.all isV)) ∧ w = w' := by
  obtain ⟨a1, c1, rfl, hl1, hm1, hc1⟩ := slF1_open hR
  unfold maxLen at hm1
  have HC := Lib.hid hc1
  clear hR hc1
  go_enter Tryz.func51, Tryz.ntmps51
  go_wp2_with fail
  go_loop [3] (fun i => ∃ k : Nat, k ≤ xs.length ∧ i = .int .i64 k ∧ Hid ((xs.drop k).all isV = xs.all isV)) (fun i => xs.length - (intOf i).toNat)
  case atStart => exact ⟨0, Nat.zero_le _, rfl, Lib.hid rfl⟩
  case round =>
    obtain ⟨k, hk, rfl, HF⟩ := hrel
    by_cases hlt : k < xs.length
    · obtain ⟨b1, o1, rfl, -, -, p1⟩ := HC.out k hlt
      have hf := HF.out
      rw [List.drop_eq_getElem_cons hlt, List.all_cons] at hf
      have HD := Lib.hid hf
      have hkl : (k : Int) < (xs.length : Int) := by omega
      clear hf
      generalize xs[k] = x at *
      have S1 := Lib.hid (fun W => show Calls Tryz.prog 26 #[.int .i64 x, .int .i64 0, .int .i64 63] W (fun e w' => e = .returned (.bool (isV x)) ∧ W = w') from l00In x 0 63 W)
      generalize isV x = q at *
      cases q with
      | false =>
        have HZ := Lib.hid (show xs.all isV = false by rw [← HD.out]; rfl)
        go_wp2_with fail
        refine (S1.out _).mono ?_
        rintro e w1 ⟨rfl, rfl⟩
        go_wp2_with fail
        go_ret
        exact ⟨by rw [HZ.out]; rfl, rfl⟩
      | true =>
        go_wp2_with fail
        refine (S1.out _).mono ?_
        rintro e w1 ⟨rfl, rfl⟩
        go_wp2_with fail
        go_round
        case rel => exact ⟨k + 1, by omega, by go_num, Lib.hid (by rw [← HD.out]; rfl)⟩
        case measure => simp [intOf]; omega
    · have hf := HF.out
      rw [List.drop_of_length_le (by omega)] at hf
      have HZ := Lib.hid (show xs.all isV = true by rw [← hf]; rfl)
      clear hf
      go_wp2_with fail
      go_ret
      exact ⟨by rw [HZ.out]; rfl, rfl⟩

/-- the values of a state. -/
def stP (l : List Int) (n : Int) : Bool := decide ((l.length : Int) = n) && l.all isV
set_option maxRecDepth 20000 in
theorem l08DataS (v : Value) (xs : List Int) (n : Int) (w : World) (fp : List Nat) (hR : R_I1 fp w [v] xs) :
    Calls Tryz.prog 27 #[v, .int .i64 n] w fun e w' => e = .returned (.bool (stP xs n)) ∧ w = w' := by
  have S1 := Lib.hid (dataS v xs w fp hR)
  obtain ⟨a1, c1, rfl, hl1, hm1, -⟩ := slF1_open hR
  unfold maxLen at hm1
  clear hR
  by_cases h : (xs.length : Int) = n
  · have HZ := Lib.hid (show stP xs n = xs.all isV by unfold stP; rw [decide_eq_true h]; rfl)
    have hb : ((xs.length : Int) == n) = true := by simpa using h
    generalize xs.all isV = q at *
    clear h
    go_enter Tryz.func27, Tryz.ntmps27
    go_wp2_with fail
    refine S1.out.mono ?_
    rintro e w1 ⟨rfl, rfl⟩
    go_wp2_with fail
    go_ret
    exact ⟨by rw [HZ.out]; rfl, rfl⟩
  · have HZ := Lib.hid (show stP xs n = false by unfold stP; rw [decide_eq_false h]; rfl)
    have hb : ((xs.length : Int) == n) = false := by simpa using h
    clear h S1
    go_enter Tryz.func27, Tryz.ntmps27
    go_wp2_with fail
    go_ret
    exact ⟨by rw [HZ.out]; rfl, rfl⟩

set_option maxRecDepth 20000 in
theorem lnStateI (cs : List Value) (x : Ln) (v : Value) (xs : List Int) (w : World) (fp fp2 : List Nat) (hL : R_Ln fp w cs x) (hR : R_I1 fp2 w [v] xs) :
    Calls Tryz.prog 35 #[.agg cs.toArray, v] w fun e w' => e = .returned (.bool (stP xs x.pars)) ∧ Upd [] w w' := by
  obtain ⟨v1, v2, f1, f2, rfl, -, -, -⟩ := hL
  have S1 := Lib.hid (fun W (hu : Upd [] w W) => areValues v xs W fp2 (R_I1k.upd hR hu (by simp)))
  have HU := Lib.hid ((Upd.refl [] w).alloc (.cells #[ei x.pars, v1, v2] 30))
  obtain ⟨a1, c1, rfl, hl1, hm1, -⟩ := slF1_open hR
  unfold maxLen at hm1
  clear hR
  generalize x.pars = n at *
  by_cases h : (xs.length : Int) = n
  · have HZ := Lib.hid (show stP xs n = xs.all isV by unfold stP; rw [decide_eq_true h]; rfl)
    have hb : ((xs.length : Int) == n) = true := by simpa using h
    generalize xs.all isV = q at *
    clear h
    go_enter Tryz.func35, Tryz.ntmps35
    go_wp2_with fail
    refine (S1.out _ HU.out).mono ?_
    rintro e w1 ⟨rfl, rfl⟩
    go_wp2_with fail
    go_ret
    exact ⟨by rw [HZ.out]; rfl, HU.out⟩
  · have HZ := Lib.hid (show stP xs n = false by unfold stP; rw [decide_eq_false h]; rfl)
    have hb : ((xs.length : Int) == n) = false := by simpa using h
    clear h S1
    go_enter Tryz.func35, Tryz.ntmps35
    go_wp2_with fail
    go_ret
    exact ⟨by rw [HZ.out]; rfl, HU.out⟩

end Go.Proofs.YtnfghgaadnobbaaGreatDoor
