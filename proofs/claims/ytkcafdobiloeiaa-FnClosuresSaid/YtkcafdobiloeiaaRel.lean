/-
  The functions over relations: what each call returns and makes.
-/
import Derived.Test.YtkcafdobiloeiaaHarn
namespace Go.Proofs.Ytkcafdobiloeiaa
open Go.RowKit

def inB (a lo hi : Int) : Bool := decide (lo ≤ a) && decide (a ≤ hi)
theorem inB_true {a lo hi : Int} (h : inB a lo hi = true) : lo ≤ a ∧ a ≤ hi := by simpa [inB] using h
theorem inB_false {a lo hi : Int} (h : inB a lo hi = false) : ¬ (lo ≤ a ∧ a ≤ hi) := by simpa [inB, Decidable.imp_iff_not_or] using h
theorem inB_mk {a lo hi : Int} (h : lo ≤ a ∧ a ≤ hi) : inB a lo hi = true := by simpa [inB] using h
theorem inB_no {a lo hi : Int} (h : ¬ (lo ≤ a ∧ a ≤ hi)) : inB a lo hi = false := by
  cases e : inB a lo hi
  · rfl
  · exact absurd (inB_true e) h

set_option maxHeartbeats 400000 in
theorem within (a b c : Int) (w : World) :
    Calls Try.prog 69 #[.int .i64 a, .int .i64 b, .int .i64 c] w fun e w' => e = .returned (.bool (inB a b c)) ∧ w = w' := by
  by_cases h1 : b ≤ a
  · go_enter Try.func69, Try.ntmps69
    go_wp2
    go_ret
    exact ⟨by simp [inB, h1], rfl⟩
  · have e : inB a b c = false := inB_no (by omega)
    go_enter Try.func69, Try.ntmps69
    go_wp2
    go_ret
    exact ⟨rfl, rfl⟩

set_option maxHeartbeats 400000 in
theorem l00In (a b c : Int) (w : World) :
    Calls Try.prog 66 #[.int .i64 a, .int .i64 b, .int .i64 c] w fun e w' => e = .returned (.bool (inB a b c)) ∧ w = w' := by
  by_cases h1 : b ≤ a
  · go_enter Try.func66, Try.ntmps66
    go_wp2
    go_ret
    exact ⟨by simp [inB, h1], rfl⟩
  · have e : inB a b c = false := inB_no (by omega)
    go_enter Try.func66, Try.ntmps66
    go_wp2
    go_ret
    exact ⟨rfl, rfl⟩

set_option maxHeartbeats 400000 in
theorem itemsOk (n : Int) (w : World) :
    Calls Try.prog 71 #[.int .i64 n] w fun e w' => e = .returned (.bool (inB n 1 40)) ∧ w = w' := by
  go_enter Try.func71, Try.ntmps71
  go_wp2_with (go_at_call 69; refine (within _ _ _ _).mono ?_; rintro e w' ⟨rfl, rfl⟩)
  go_ret
  exact ⟨rfl, rfl⟩

def cmpI (a b : Int) : Int := if a < b then -1 else if b < a then 1 else 0
def cmpL : List Int → List Int → Int
  | [], [] => 0
  | [], _ :: _ => -1
  | _ :: _, [] => 1
  | x :: xs, y :: ys => if x < y then -1 else if y < x then 1 else cmpL xs ys

set_option maxHeartbeats 400000 in
theorem isNaN (a : Int) (w : World) : Calls Try.prog 79 #[.int .i64 a] w fun e w' => e = .returned (.bool false) ∧ w = w' := by
  go_enter Try.func79, Try.ntmps79
  go_wp2
  go_ret
  exact ⟨by simp, rfl⟩

set_option maxHeartbeats 400000 in
theorem compareI (a b : Int) (w : World) : Calls Try.prog 77 #[.int .i64 a, .int .i64 b] w fun e w' => e = .returned (.int .i64 (cmpI a b)) ∧ w = w' := by
  rcases Int.lt_trichotomy a b with h | h | h
  · have e : cmpI a b = -1 := by simp [cmpI, h]
    go_enter Try.func77, Try.ntmps77
    go_wp2_with (go_at_call 79; refine (isNaN _ _).mono ?_; rintro e w' ⟨rfl, rfl⟩)
    go_ret
    exact ⟨by simp [e], rfl⟩
  · have e : cmpI a b = 0 := by simp [cmpI, h]
    have h1 : ¬ a < b := by omega
    have h2 : ¬ b < a := by omega
    clear h
    go_enter Try.func77, Try.ntmps77
    go_wp2_with (go_at_call 79; refine (isNaN _ _).mono ?_; rintro e w' ⟨rfl, rfl⟩)
    go_ret
    exact ⟨by simp [e], rfl⟩
  · have h1 : ¬ a < b := by omega
    have e : cmpI a b = 1 := by simp [cmpI, h, h1]
    go_enter Try.func77, Try.ntmps77
    go_wp2_with (go_at_call 79; refine (isNaN _ _).mono ?_; rintro e w' ⟨rfl, rfl⟩)
    go_ret
    exact ⟨by simp [e], rfl⟩

theorem cmpL_step (xs ys : List Int) (k : Nat) (h1 : k < xs.length) (h2 : k < ys.length) :
    cmpL (xs.drop k) (ys.drop k) = if cmpI xs[k] ys[k] = 0 then cmpL (xs.drop (k + 1)) (ys.drop (k + 1)) else cmpI xs[k] ys[k] := by
  rw [List.drop_eq_getElem_cons h1, List.drop_eq_getElem_cons h2, cmpL, cmpI]
  split
  · simp
  · split <;> simp

set_option maxHeartbeats 400000 in
theorem compareL (v1 v2 : Value) (xs ys : List Int) (w : World) (f1 f2 : List Nat) (h1 : R1 f1 w [v1] xs) (h2 : R1 f2 w [v2] ys) :
    Calls Try.prog 70 #[v1, v2] w fun e w' => e = .returned (.int .i64 (cmpL xs ys)) ∧ w = w' := by
  obtain ⟨a1, c1, rfl, hl1, hm1, hc1⟩ := slF1_open h1
  obtain ⟨a2, c2, rfl, hl2, hm2, hc2⟩ := slF1_open h2
  unfold maxLen at hm1 hm2
  clear h1 h2
  go_enter Try.func70, Try.ntmps70
  go_wp2
  go_loop [11] (fun i => ∃ k : Nat, k ≤ xs.length ∧ k ≤ ys.length ∧ i = .int .i64 k ∧ cmpL (xs.drop k) (ys.drop k) = cmpL xs ys) (fun i => xs.length - (intOf i).toNat)
  case atStart => exact ⟨0, Nat.zero_le _, Nat.zero_le _, rfl, rfl⟩
  case round =>
    obtain ⟨k, hk1, hk2, rfl, hF⟩ := hrel
    have HF := Lib.hid hF
    clear hF
    by_cases hlt : k < xs.length
    · obtain ⟨b1, o1, rfl, -, -, hcell1⟩ := hc1 k hlt
      by_cases hlt2 : k < ys.length
      · obtain ⟨b2, o2, rfl, -, -, hcell2⟩ := hc2 k hlt2
        have hs := cmpL_step xs ys k hlt hlt2
        have HS := Lib.hid hs
        clear hs hc1 hc2
        by_cases hz : cmpI xs[k] ys[k] = 0
        · have HZ := Lib.hid hz
          have hz' : (cmpI xs[k] ys[k] != 0) = false := by simp [hz]
          clear hz
          go_wp2_with (go_at_call 77; refine (compareI _ _ _).mono ?_; rintro e w' ⟨rfl, rfl⟩)
          go_round
          case rel => exact ⟨k + 1, by omega, by omega, by go_num, by rw [← HF.out, HS.out, if_pos HZ.out]⟩
          case measure => simp [intOf]; omega
        · have HZ := Lib.hid hz
          have hz' : ¬ (cmpI xs[k] ys[k] != 0) = false := by simp [hz]
          clear hz
          go_wp2_with (go_at_call 77; refine (compareI _ _ _).mono ?_; rintro e w' ⟨rfl, rfl⟩)
          go_ret
          exact ⟨by rw [← HF.out, HS.out, if_neg HZ.out]; rfl, rfl⟩
      · have e : cmpL xs ys = 1 := by
          rw [← HF.out, List.drop_eq_getElem_cons hlt, List.drop_of_length_le (l := ys) (by omega)]; rfl
        have HE := Lib.hid e
        clear e hc1 hc2
        go_wp2_with fail
        go_ret
        exact ⟨by rw [HE.out]; rfl, rfl⟩
    · by_cases hlt2 : xs.length < ys.length
      · have e : cmpL xs ys = -1 := by
          rw [← HF.out, List.drop_of_length_le (l := xs) (by omega), List.drop_eq_getElem_cons (by omega : k < ys.length)]; rfl
        have HE := Lib.hid e
        clear e hc1 hc2
        go_wp2_with fail
        go_ret
        exact ⟨by rw [HE.out]; rfl, rfl⟩
      · have e : cmpL xs ys = 0 := by
          rw [← HF.out, List.drop_of_length_le (l := xs) (by omega), List.drop_of_length_le (l := ys) (by omega)]; rfl
        have HE := Lib.hid e
        clear e hc1 hc2
        go_wp2_with fail
        go_ret
        exact ⟨by rw [HE.out]; rfl, rfl⟩

/-- a relation on n items: pairs of items, each less than the next. -/
def pairOk (n : Int) (p : List Int) : Bool := p.length == 2 && inB (p.getD 0 0) 0 (n - 1) && inB (p.getD 1 0) 0 (n - 1)
def relOk (n : Int) (r : List (List Int)) (i : Nat) : Bool := pairOk n (r.getD i []) && (i == 0 || decide (cmpL (r.getD (i - 1) []) (r.getD i []) < 0))
def relTo (n : Int) (r : List (List Int)) (k : Nat) : Bool := (List.range k).all (relOk n r)
def relB (n : Int) (r : List (List Int)) : Bool := inB n 1 40 && relTo n r r.length

theorem relTo_succ (n : Int) (r : List (List Int)) (k : Nat) : relTo n r (k + 1) = (relTo n r k && relOk n r k) := by
  simp [relTo, List.range_succ]
theorem relTo_no {n : Int} {r : List (List Int)} {k : Nat} (hk : k < r.length) (h : relOk n r k = false) : relTo n r r.length = false := by
  unfold relTo; rw [List.all_eq_false]; exact ⟨k, by simpa using hk, by simp [h]⟩

set_option maxHeartbeats 1000000 in
theorem isRelation (n : Int) (v : Value) (r : List (List Int)) (w : World) (fp : List Nat) (hn1 : -9223372036854775808 ≤ n) (hn2 : n ≤ 9223372036854775807) (hR : R2 fp w [v] r) :
    Calls Try.prog 49 #[.int .i64 n, v] w fun e w' => e = .returned (.bool (relB n r)) ∧ w = w' := by
  obtain ⟨a, cap, rfl, h1, h2, hc⟩ := slP_open hR
  unfold maxLen at h2
  clear hR
  by_cases hn : inB n 1 40 = true
  · have hn' := inB_true hn
    go_enter Try.func49, Try.ntmps49
    go_wp2_with fail
    go_loop [9] (fun i => ∃ k : Nat, k ≤ r.length ∧ i = .int .i64 k ∧ relTo n r k = true) (fun i => r.length - (intOf i).toNat)
    case atStart => exact ⟨0, Nat.zero_le _, rfl, rfl⟩
    case round =>
      obtain ⟨k, hk, rfl, hF⟩ := hrel
      have HF := Lib.hid hF
      clear hF
      by_cases hlt : k < r.length
      · obtain ⟨b, o, u, f, rfl, -, -, hcell, -, hr⟩ := hc k hlt
        obtain ⟨a2, c2, rfl, g1, g2, g3⟩ := slF1_open hr
        unfold maxLen at g2
        have eg : r.getD k [] = r[k] := by simp [List.getD, hlt]
        by_cases hl2 : r[k].length = 2
        · obtain ⟨b2, o2, rfl, -, -, q0⟩ := g3 0 (by omega)
          have q1 : w.cell? ⟨b2, o2 + 1, none⟩ = some (ei (r[k].getD 1 0)) := by
            obtain ⟨b3, o3, e3, -, -, q1⟩ := g3 1 (by omega)
            cases e3
            rw [q1]; simp [List.getD, hl2]
          have q0' : w.cell? ⟨b2, o2, none⟩ = some (ei (r[k].getD 0 0)) := by
            rw [Nat.add_zero] at q0; rw [q0]; simp [List.getD, hl2]
          have hne : ((r[k].length : Int) != 2) = false := by rw [hl2]; rfl
          have hp0 : 0 < r[k].length := by omega
          have hp1 : 1 < r[k].length := by omega
          have hw1 : 0 ≤ n - 1 := by omega
          have hw2 : n - 1 ≤ 39 := by omega
          generalize hx0 : r[k].getD 0 0 = x0 at *
          generalize hx1 : r[k].getD 1 0 = x1 at *
          have HX0 := Lib.hid hx0
          have HX1 := Lib.hid hx1
          have HL2 := Lib.hid hl2
          have HG := Lib.hid eg
          clear hx0 hx1 hl2 eg g3 q0 hn
          cases hb0 : inB x0 0 (n - 1)
          · go_wp2_with (first | (go_at_call 69; refine (within _ _ _ _).mono ?_; rintro e w' ⟨rfl, rfl⟩))
            go_ret
            exact ⟨by rw [relB, relTo_no hlt (by simp only [relOk, pairOk, HG.out, HX0.out, hb0]; simp)]; simp, rfl⟩
          · cases hb1 : inB x1 0 (n - 1)
            · go_wp2_with (first | (go_at_call 69; refine (within _ _ _ _).mono ?_; rintro e w' ⟨rfl, rfl⟩))
              go_ret
              exact ⟨by rw [relB, relTo_no hlt (by simp only [relOk, pairOk, HG.out, HX1.out, hb1]; simp)]; simp, rfl⟩
            · by_cases hk0 : 0 < k
              · obtain ⟨b4, o4, u4, f4, e4, -, -, hcell4, -, hr4⟩ := hc (k - 1) (by omega)
                cases e4
                have eg4 : r.getD (k - 1) [] = r[k - 1] := by simp [List.getD, show k - 1 < r.length from by omega]
                have hne0 : (k == 0) = false := by simp; omega
                have HG4 := Lib.hid eg4
                have HN0 := Lib.hid hne0
                have hk1 : 1 ≤ k := hk0
                clear eg4 hne0 hc
                cases hlt2 : decide (cmpL r[k - 1] r[k] < 0)
                · have hge : 0 ≤ cmpL r[k - 1] r[k] := by simpa using hlt2
                  have HL3 := Lib.hid hlt2
                  clear hlt2
                  go_wp2_with (first | (go_at_call 69; refine (within _ _ _ _).mono ?_; rintro e w' ⟨rfl, rfl⟩) | (go_at_call 70; refine (compareL _ _ _ _ _ _ _ hr4 hr).mono ?_; rintro e w' ⟨rfl, rfl⟩))
                  go_ret
                  exact ⟨by rw [relB, relTo_no hlt (by simp only [relOk, HG.out, HG4.out, HN0.out, HL3.out]; simp)]; simp, rfl⟩
                · have hge : cmpL r[k - 1] r[k] < 0 := by simpa using hlt2
                  have HL3 := Lib.hid hlt2
                  clear hlt2
                  go_wp2_with (first | (go_at_call 69; refine (within _ _ _ _).mono ?_; rintro e w' ⟨rfl, rfl⟩) | (go_at_call 70; refine (compareL _ _ _ _ _ _ _ hr4 hr).mono ?_; rintro e w' ⟨rfl, rfl⟩))
                  go_round
                  case rel => exact ⟨k + 1, by omega, by go_num, by rw [relTo_succ, HF.out]; simp only [relOk, pairOk, HG.out, HG4.out, HL3.out, HX0.out, HX1.out, hb0, hb1, HL2.out]; simp⟩
                  case measure => simp [intOf]; omega
              · obtain rfl : k = 0 := by omega
                rw [Nat.add_zero] at hcell
                clear hc
                go_wp2_with (first | (go_at_call 69; refine (within _ _ _ _).mono ?_; rintro e w' ⟨rfl, rfl⟩))
                go_round
                case rel => exact ⟨1, by omega, rfl, by rw [relTo_succ, HF.out]; simp only [relOk, pairOk, HG.out, HX0.out, HX1.out, hb0, hb1, HL2.out]; simp⟩
                case measure => simp [intOf]; omega
        · have hne : ¬ ((r[k].length : Int) != 2) = false := by simp; omega
          have HL2 := Lib.hid hl2
          have HG := Lib.hid eg
          clear hl2 eg hc g3
          go_wp2_with fail
          go_ret
          exact ⟨by rw [relB, relTo_no hlt (by simp only [relOk, pairOk, HG.out]; simp [HL2.out])]; simp, rfl⟩
      · have hkl : k = r.length := by omega
        have HK := Lib.hid hkl
        clear hkl hc
        go_wp2_with (first | (go_at_call 71; refine (itemsOk _ _).mono ?_; rintro e w' ⟨rfl, rfl⟩))
        go_ret
        exact ⟨by rw [relB, ← HK.out, HF.out]; simp [hn], rfl⟩
  · have hn' : inB n 1 40 = false := by simpa using hn
    have hB : relB n r = false := by rw [relB, hn']; rfl
    have HB := Lib.hid hB
    clear hn hB
    go_enter Try.func49, Try.ntmps49
    go_wp2_with fail
    go_loop [9] (fun i => ∃ k : Nat, k ≤ r.length ∧ i = .int .i64 k) (fun i => r.length - (intOf i).toNat)
    case atStart => exact ⟨0, Nat.zero_le _, rfl⟩
    case round =>
      obtain ⟨k, hk, rfl⟩ := hrel
      by_cases hlt : k < r.length
      · obtain ⟨b, o, u, f, rfl, -, -, hcell, -, hr⟩ := hc k hlt
        obtain ⟨a2, c2, rfl, g1, g2, g3⟩ := slF1_open hr
        unfold maxLen at g2
        by_cases hl2 : r[k].length = 2
        · obtain ⟨b2, o2, rfl, -, -, q0⟩ := g3 0 (by omega)
          obtain ⟨b3, o3, e3, -, -, q1⟩ := g3 1 (by omega)
          cases e3
          have hne : ((r[k].length : Int) != 2) = false := by rw [hl2]; rfl
          have hp0 : 0 < r[k].length := by omega
          have hp1 : 1 < r[k].length := by omega
          rw [Nat.add_zero] at q0
          generalize r[k][0]'(by omega) = x0 at *
          generalize r[k][1]'(by omega) = x1 at *
          clear hl2 g3
          cases hb0 : inB x0 0 (wrap64 (n - 1))
          · go_wp2_with (first | (go_at_call 69; refine (within _ _ _ _).mono ?_; rintro e w' ⟨rfl, rfl⟩))
            go_ret
            exact ⟨by rw [HB.out]; rfl, rfl⟩
          · cases hb1 : inB x1 0 (wrap64 (n - 1))
            · go_wp2_with (first | (go_at_call 69; refine (within _ _ _ _).mono ?_; rintro e w' ⟨rfl, rfl⟩))
              go_ret
              exact ⟨by rw [HB.out]; rfl, rfl⟩
            · by_cases hk0 : 0 < k
              · obtain ⟨b4, o4, u4, f4, e4, -, -, hcell4, -, hr4⟩ := hc (k - 1) (by omega)
                cases e4
                have hk1 : 1 ≤ k := hk0
                clear hc
                by_cases hge : 0 ≤ cmpL r[k - 1] r[k]
                · go_wp2_with (first | (go_at_call 69; refine (within _ _ _ _).mono ?_; rintro e w' ⟨rfl, rfl⟩) | (go_at_call 70; refine (compareL _ _ _ _ _ _ _ hr4 hr).mono ?_; rintro e w' ⟨rfl, rfl⟩))
                  go_ret
                  exact ⟨by rw [HB.out]; rfl, rfl⟩
                · go_wp2_with (first | (go_at_call 69; refine (within _ _ _ _).mono ?_; rintro e w' ⟨rfl, rfl⟩) | (go_at_call 70; refine (compareL _ _ _ _ _ _ _ hr4 hr).mono ?_; rintro e w' ⟨rfl, rfl⟩))
                  go_round
                  case rel => exact ⟨k + 1, by omega, by go_num⟩
                  case measure => simp [intOf]; omega
              · obtain rfl : k = 0 := by omega
                rw [Nat.add_zero] at hcell
                clear hc
                go_wp2_with (first | (go_at_call 69; refine (within _ _ _ _).mono ?_; rintro e w' ⟨rfl, rfl⟩))
                go_round
                case rel => exact ⟨1, by omega, rfl⟩
                case measure => simp [intOf]; omega
        · have hne : ¬ ((r[k].length : Int) != 2) = false := by simp; omega
          clear hl2 hc g3
          go_wp2_with fail
          go_ret
          exact ⟨by rw [HB.out]; rfl, rfl⟩
      · clear hc
        go_wp2_with (first | (go_at_call 71; refine (itemsOk _ _).mono ?_; rintro e w' ⟨rfl, rfl⟩))
        go_ret
        exact ⟨by rw [HB.out]; simp, rfl⟩

theorem pair_get {n : Int} {p : List Int} (h : pairOk n p = true) : ∃ a b, p = [a, b] ∧ 0 ≤ a ∧ a ≤ n - 1 ∧ 0 ≤ b ∧ b ≤ n - 1 := by
  simp only [pairOk, Bool.and_eq_true, beq_iff_eq] at h
  obtain ⟨⟨h1, h2⟩, h3⟩ := h
  match p, h1 with
  | [a, b], _ =>
    have h2 := inB_true h2
    have h3 := inB_true h3
    exact ⟨a, b, rfl, h2.1, h2.2, h3.1, h3.2⟩

theorem cmp_num {a b c d : Int} (hb : 0 ≤ b) (hb' : b ≤ 39) (hd : 0 ≤ d) (hd' : d ≤ 39) : decide (cmpL [a, b] [c, d] < 0) = decide (a * 40 + b < c * 40 + d) := by
  have : (cmpL [a, b] [c, d] < 0) ↔ (a * 40 + b < c * 40 + d) := by
    simp only [cmpL]
    split
    · constructor <;> intro <;> omega
    · split
      · constructor <;> intro <;> omega
      · split
        · constructor <;> intro <;> omega
        · split
          · constructor <;> intro <;> omega
          · constructor <;> intro <;> omega
  exact decide_eq_decide.2 this

theorem relTo_at {n : Int} {r : List (List Int)} {k i : Nat} (h : relTo n r k = true) (hi : i < k) : relOk n r i = true := by
  unfold relTo at h; rw [List.all_eq_true] at h; exact h i (by simpa using hi)

set_option maxHeartbeats 1000000 in
theorem l02Relation (n : Int) (v : Value) (r : List (List Int)) (w : World) (fp : List Nat) (hR : R2 fp w [v] r) :
    Calls Try.prog 46 #[.int .i64 n, v] w fun e w' => e = .returned (.bool (relB n r)) ∧ ∃ m, w' = w.drewN m := by
  obtain ⟨a, cap, rfl, h1, h2, hc⟩ := slP_open hR
  unfold maxLen at h2
  clear hR
  cases hn : inB n 1 40
  · go_enter Try.func46, Try.ntmps46
    go_wp2_with (go_at_call 66; refine (l00In _ _ _ _).mono ?_; rintro e w' ⟨rfl, rfl⟩)
    go_ret
    exact ⟨by rw [relB, hn]; rfl, 0, rfl⟩
  · have hn' := inB_true hn
    go_enter Try.func46, Try.ntmps46
    go_wp2_with (go_at_call 66; refine (l00In _ _ _ _).mono ?_; rintro e w' ⟨rfl, rfl⟩)
    go_loopw [5] (fun i wr => ∃ k m : Nat, k ≤ r.length ∧ i = .int .i64 k ∧ relTo n r k = true ∧ wr = w.drewN m) (fun i _ => r.length - (intOf i).toNat)
    case atStart => exact ⟨0, 0, Nat.zero_le _, rfl, rfl, rfl⟩
    case round =>
      obtain ⟨k, m, hk, rfl, hF, hW⟩ := hrel
      have HF := Lib.hid hF
      have HW := Lib.hid hW
      have HCW := Lib.hid (show ∀ p, wr.cell? p = w.cell? p from by intro p; rw [hW]; rfl)
      clear hF hW
      by_cases hlt : k < r.length
      · obtain ⟨b, o, u, f, rfl, -, -, hcell, -, hr⟩ := hc k hlt
        obtain ⟨a2, c2, rfl, g1, g2, g3⟩ := slF1_open hr
        unfold maxLen at g2
        rw [← HCW.out] at hcell
        have eg : r.getD k [] = r[k] := by simp [List.getD, hlt]
        by_cases hl2 : r[k].length = 2
        · obtain ⟨b2, o2, rfl, -, -, q0⟩ := g3 0 (by omega)
          have q1 : wr.cell? ⟨b2, o2 + 1, none⟩ = some (ei (r[k].getD 1 0)) := by
            obtain ⟨b3, o3, e3, -, -, q1⟩ := g3 1 (by omega)
            cases e3
            rw [HCW.out, q1]; simp [List.getD, hl2]
          have q0' : wr.cell? ⟨b2, o2, none⟩ = some (ei (r[k].getD 0 0)) := by
            rw [Nat.add_zero] at q0; rw [HCW.out, q0]; simp [List.getD, hl2]
          have hne : ((r[k].length : Int) != 2) = false := by rw [hl2]; rfl
          have hp0 : 0 < r[k].length := by omega
          have hp1 : 1 < r[k].length := by omega
          have hw1 : 0 ≤ n - 1 := by omega
          have hw2 : n - 1 ≤ 39 := by omega
          generalize hx0 : r[k].getD 0 0 = x0 at *
          generalize hx1 : r[k].getD 1 0 = x1 at *
          have hcur : r[k] = [x0, x1] := by
            match hrk : r[k], hl2 with
            | [c, d], _ => rw [hrk] at hx0 hx1; simp at hx0 hx1; rw [hx0, hx1]
          have HX0 := Lib.hid hx0
          have HX1 := Lib.hid hx1
          have HL2 := Lib.hid hl2
          have HG := Lib.hid eg
          have HC := Lib.hid hcur
          clear hx0 hx1 hl2 eg g3 q0 hn hcur
          cases hb0 : inB x0 0 (n - 1)
          · go_wp2_with (first | (go_at_call 66; refine (l00In _ _ _ _).mono ?_; rintro e w' ⟨rfl, rfl⟩))
            go_ret
            exact ⟨by rw [relB, relTo_no hlt (by simp only [relOk, pairOk, HG.out, HX0.out, hb0]; simp)]; simp, _, HW.out⟩
          · cases hb1 : inB x1 0 (n - 1)
            · go_wp2_with (first | (go_at_call 66; refine (l00In _ _ _ _).mono ?_; rintro e w' ⟨rfl, rfl⟩))
              go_ret
              exact ⟨by rw [relB, relTo_no hlt (by simp only [relOk, pairOk, HG.out, HX1.out, hb1]; simp)]; simp, _, HW.out⟩
            · have hb0' := inB_true hb0
              have hb1' := inB_true hb1
              by_cases hk0 : 0 < k
              · obtain ⟨b4, o4, u4, f4, e4, -, -, hcell4, -, hr4⟩ := hc (k - 1) (by omega)
                cases e4
                rw [← HCW.out] at hcell4
                obtain ⟨a5, c5, rfl, -, g5, g6⟩ := slF1_open hr4
                unfold maxLen at g5
                have eg4 : r.getD (k - 1) [] = r[k - 1] := by simp [List.getD, show k - 1 < r.length from by omega]
                have hpk := relTo_at HF.out (i := k - 1) (by omega)
                rw [relOk, eg4, Bool.and_eq_true] at hpk
                obtain ⟨y0, y1, hy, y2, y3, y4, y5⟩ := pair_get hpk.1
                have hyl : r[k - 1].length = 2 := by rw [hy]; rfl
                obtain ⟨b6, o6, rfl, -, -, q6⟩ := g6 0 (by omega)
                have q7 : wr.cell? ⟨b6, o6 + 1, none⟩ = some (ei y1) := by
                  obtain ⟨b3, o3, e3, -, -, q1⟩ := g6 1 (by omega)
                  cases e3
                  rw [HCW.out, q1]; simp [hy]
                have q8 : wr.cell? ⟨b6, o6, none⟩ = some (ei y0) := by
                  rw [Nat.add_zero] at q6; rw [HCW.out, q6]; simp [hy]
                have hyl0 : 0 < r[k - 1].length := by omega
                have hyl1 : 1 < r[k - 1].length := by omega
                have hne0 : (k == 0) = false := by simp; omega
                have hcm : decide (cmpL (r.getD (k - 1) []) (r.getD k []) < 0) = decide (y0 * 40 + y1 < x0 * 40 + x1) := by
                  rw [HG.out, eg4, hy, HC.out]; exact cmp_num (by omega) (by omega) (by omega) (by omega)
                have HCM := Lib.hid hcm
                have HG4 := Lib.hid eg4
                have HN0 := Lib.hid hne0
                have hk1 : 1 ≤ k := hk0
                clear eg4 hne0 hc  hcm hpk hy hyl q6 g6 hr hr4
                by_cases hlt2 : y0 * 40 + y1 < x0 * 40 + x1
                · go_wp2_with (first | (go_at_call 66; refine (l00In _ _ _ _).mono ?_; rintro e w' ⟨rfl, rfl⟩))
                  go_quiet (fail)
                  go_wp2
                  go_roundw
                  case rel => exact ⟨k + 1, _, by omega, by go_num, by rw [relTo_succ, HF.out]; simp only [relOk, HCM.out]; simp only [pairOk, HG.out, HX0.out, HX1.out, hb0, hb1, HL2.out]; simp [hlt2], by rw [HW.out, drewN_add]⟩
                  case measure => simp [intOf]; omega
                · have hge : x0 * 40 + x1 ≤ y0 * 40 + y1 := by omega
                  go_wp2_with (first | (go_at_call 66; refine (l00In _ _ _ _).mono ?_; rintro e w' ⟨rfl, rfl⟩))
                  go_quiet (fail)
                  go_wp2
                  go_ret
                  exact ⟨by rw [relB, relTo_no hlt (by simp only [relOk, HCM.out, HN0.out]; simp [hlt2])]; simp, _, by rw [HW.out, drewN_add]⟩
              · obtain rfl : k = 0 := by omega
                rw [Nat.add_zero] at hcell
                clear hc  hr
                go_wp2_with (first | (go_at_call 66; refine (l00In _ _ _ _).mono ?_; rintro e w' ⟨rfl, rfl⟩))
                go_quiet (fail)
                go_wp2
                go_roundw
                case rel => exact ⟨1, _, by omega, rfl, by rw [relTo_succ, HF.out]; simp only [relOk, pairOk, HG.out, HX0.out, HX1.out, hb0, hb1, HL2.out]; simp, by rw [HW.out, drewN_add]⟩
                case measure => simp [intOf]; omega
        · have hne : ¬ ((r[k].length : Int) != 2) = false := by simp; omega
          have HL2 := Lib.hid hl2
          have HG := Lib.hid eg
          clear hl2 eg hc g3
          go_wp2_with fail
          go_ret
          exact ⟨by rw [relB, relTo_no hlt (by simp only [relOk, pairOk, HG.out]; simp [HL2.out])]; simp, _, HW.out⟩
      · have hkl : k = r.length := by omega
        have HK := Lib.hid hkl
        have HN := Lib.hid hn
        clear hkl hc hn
        go_wp2_with fail
        go_ret
        exact ⟨by rw [relB, ← HK.out, HF.out, HN.out]; rfl, _, HW.out⟩

end Go.Proofs.Ytkcafdobiloeiaa
