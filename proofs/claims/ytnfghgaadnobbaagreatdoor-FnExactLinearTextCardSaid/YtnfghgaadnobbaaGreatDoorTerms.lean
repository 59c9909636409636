/-
  Terms: arity, validity, the count of operands still wanted; both sides' functions on them.
-/
import Derived.Test.YtnfghgaadnobbaaGreatDoorHarnT2
import Derived.Test.YtnfghgaadnobbaaGreatDoorRel
namespace Go.Proofs.YtnfghgaadnobbaaGreatDoor
open Go.RowKit

def arity (t : Tm) : Int := if t.1 = 2 then 2 else if t.1 = 3 then 1 else 0
def tOk (t : Tm) (nv : Int) : Bool :=
  if t.1 = 0 then inB t.2 0 63 else if t.1 = 1 then inB t.2 0 (nv - 1) else if t.1 = 2 then inB t.2 0 8 else if t.1 = 3 then t.2 == 0 else false
/-- how many operands are wanted behind terms, n before them; none where a term is out of place or wrong. -/
def run (nv : Int) : List Tm → Int → Option Int
  | [], n => some n
  | t :: ts, n => if n = 0 then none else if tOk t nv then run nv ts (n + (arity t - 1)) else none
def isE (e : List Tm) (nv most : Int) : Bool := decide ((e.length : Int) ≤ most) && (run nv e 1 == some 0)
def validE (e : List Tm) (nv most : Int) : Bool := inB nv 0 29 && inB most 1 60 && isE e nv most

theorem arity_bd (t : Tm) : 0 ≤ arity t ∧ arity t ≤ 2 := by unfold arity; split <;> (try split) <;> omega

set_option maxHeartbeats 400000 in
theorem operands (a b : Int) (w : World) : Calls Tryz.prog 71 #[.agg #[ei a, ei b]] w fun e w' => e = .returned (.int .i64 (arity (a, b))) ∧ Upd [] w w' := by
  by_cases h2 : a = 2
  · subst h2
    go_enter Tryz.func71, Tryz.ntmps71
    go_wp2
    go_ret
    exact ⟨rfl, (Upd.refl _ _).alloc _⟩
  · by_cases h3 : a = 3
    · subst h3
      go_enter Tryz.func71, Tryz.ntmps71
      go_wp2
      go_ret
      exact ⟨rfl, (Upd.refl _ _).alloc _⟩
    · have e : arity (a, b) = 0 := by simp [arity, h2, h3]
      have HE := Lib.hid e
      have g2 : (a == 2) = false := by simp [h2]
      have g3 : (a == 3) = false := by simp [h3]
      clear e h2 h3
      go_enter Tryz.func71, Tryz.ntmps71
      go_wp2
      go_ret
      exact ⟨by rw [HE.out]; rfl, (Upd.refl _ _).alloc _⟩

set_option maxHeartbeats 400000 in
theorem isValue (a : Int) (w : World) : Calls Tryz.prog 81 #[.int .i64 a] w fun e w' => e = .returned (.bool (inB a 0 63)) ∧ w = w' := by
  go_enter Tryz.func81, Tryz.ntmps81
  go_wp2_with (go_at_call 34; refine (within _ _ _ _).mono ?_; rintro e w' ⟨rfl, rfl⟩)
  go_ret
  exact ⟨rfl, rfl⟩

set_option maxHeartbeats 800000 in
theorem termValid (a b nv : Int) (w : World) (h0 : 0 ≤ nv) (h1 : nv ≤ 29) : Calls Tryz.prog 85 #[.agg #[ei a, ei b], .int .i64 nv] w fun e w' => e = .returned (.bool (tOk (a, b) nv)) ∧ Upd [] w w' := by
  have hU : ∀ o, Upd [] w (w.alloc o) := fun o => (Upd.refl _ _).alloc _
  have HU := Lib.hid hU
  clear hU
  by_cases h2 : a = 0
  · subst h2
    go_enter Tryz.func85, Tryz.ntmps85
    go_wp2_with (go_at_call 81; refine (isValue _ _).mono ?_; rintro e w' ⟨rfl, rfl⟩)
    go_ret
    exact ⟨rfl, HU.out _⟩
  · by_cases h3 : a = 1
    · subst h3
      go_enter Tryz.func85, Tryz.ntmps85
      go_wp2_with (go_at_call 34; refine (within _ _ _ _).mono ?_; rintro e w' ⟨rfl, rfl⟩)
      go_ret
      exact ⟨rfl, HU.out _⟩
    · by_cases h4 : a = 2
      · subst h4
        go_enter Tryz.func85, Tryz.ntmps85
        go_wp2_with (go_at_call 34; refine (within _ _ _ _).mono ?_; rintro e w' ⟨rfl, rfl⟩)
        go_ret
        exact ⟨rfl, HU.out _⟩
      · by_cases h5 : a = 3
        · subst h5
          have e : tOk (3, b) nv = (b == 0) := rfl
          have HE := Lib.hid e
          clear e
          go_enter Tryz.func85, Tryz.ntmps85
          go_wp2
          go_ret
          exact ⟨by rw [HE.out]; rfl, HU.out _⟩
        · have e : tOk (a, b) nv = false := by simp [tOk, h2, h3, h4, h5]
          have HE := Lib.hid e
          have g2 : (a == 0) = false := by simp [h2]
          have g3 : (a == 1) = false := by simp [h3]
          have g4 : (a == 2) = false := by simp [h4]
          have g5 : (a == 3) = false := by simp [h5]
          clear e h2 h3 h4 h5
          go_enter Tryz.func85, Tryz.ntmps85
          go_wp2
          go_ret
          exact ⟨by rw [HE.out]; rfl, HU.out _⟩

set_option maxHeartbeats 400000 in
theorem l03Arity (a c : Int) (b off : Nat) (w : World) (hc : w.cell? ⟨b, off, none⟩ = some (ei a)) :
    Calls Tryz.prog 77 #[.pointer (some ⟨b, off, none⟩)] w fun e w' => e = .returned (.int .i64 (arity (a, c))) ∧ w = w' := by
  by_cases h2 : a = 2
  · subst h2
    go_enter Tryz.func77, Tryz.ntmps77
    go_wp2
    go_ret
    exact ⟨rfl, rfl⟩
  · by_cases h3 : a = 3
    · subst h3
      go_enter Tryz.func77, Tryz.ntmps77
      go_wp2
      go_ret
      exact ⟨rfl, rfl⟩
    · have e : arity (a, c) = 0 := by simp [arity, h2, h3]
      have HE := Lib.hid e
      have g2 : (a == 2) = false := by simp [h2]
      have g3 : (a == 3) = false := by simp [h3]
      clear e h2 h3
      go_enter Tryz.func77, Tryz.ntmps77
      go_wp2
      go_ret
      exact ⟨by rw [HE.out]; rfl, rfl⟩

set_option maxHeartbeats 800000 in
theorem l03Term (a c nv : Int) (b off : Nat) (w : World) (h0 : 0 ≤ nv) (h1 : nv ≤ 29) (hc : w.cell? ⟨b, off, none⟩ = some (ei a)) (hc2 : w.cell? ⟨b, off + 1, none⟩ = some (ei c)) :
    Calls Tryz.prog 76 #[.pointer (some ⟨b, off, none⟩), .int .i64 nv] w fun e w' => e = .returned (.bool (tOk (a, c) nv)) ∧ w = w' := by
  by_cases h2 : a = 0
  · subst h2
    go_enter Tryz.func76, Tryz.ntmps76
    go_wp2_with (go_at_call 26; refine (l00In _ _ _ _).mono ?_; rintro e w' ⟨rfl, rfl⟩)
    go_ret
    exact ⟨rfl, rfl⟩
  · by_cases h3 : a = 1
    · subst h3
      go_enter Tryz.func76, Tryz.ntmps76
      go_wp2_with (go_at_call 26; refine (l00In _ _ _ _).mono ?_; rintro e w' ⟨rfl, rfl⟩)
      go_ret
      exact ⟨rfl, rfl⟩
    · by_cases h4 : a = 2
      · subst h4
        go_enter Tryz.func76, Tryz.ntmps76
        go_wp2_with (go_at_call 26; refine (l00In _ _ _ _).mono ?_; rintro e w' ⟨rfl, rfl⟩)
        go_ret
        exact ⟨rfl, rfl⟩
      · by_cases h5 : a = 3
        · subst h5
          have e : tOk (3, c) nv = (c == 0) := rfl
          have HE := Lib.hid e
          clear e
          go_enter Tryz.func76, Tryz.ntmps76
          go_wp2
          go_ret
          exact ⟨by rw [HE.out]; rfl, rfl⟩
        · have e : tOk (a, c) nv = false := by simp [tOk, h2, h3, h4, h5]
          have HE := Lib.hid e
          have g2 : (a == 0) = false := by simp [h2]
          have g3 : (a == 1) = false := by simp [h3]
          have g4 : (a == 2) = false := by simp [h4]
          have g5 : (a == 3) = false := by simp [h5]
          clear e h2 h3 h4 h5
          go_enter Tryz.func76, Tryz.ntmps76
          go_wp2
          go_ret
          exact ⟨by rw [HE.out]; rfl, rfl⟩

theorem run_step (nv : Int) (e : List Tm) (k : Nat) (n : Int) (hk : k < e.length) :
    run nv (e.drop k) n = if n = 0 then none else if tOk e[k] nv then run nv (e.drop (k + 1)) (n + (arity e[k] - 1)) else none := by
  rw [List.drop_eq_getElem_cons hk, run]

set_option maxHeartbeats 1000000 in
theorem l03Is (v : Value) (e : List Tm) (nv most : Int) (w : World) (fp : List Nat) (h0 : 0 ≤ nv) (h1 : nv ≤ 29) (hm : most ≤ 1000000) (hR : R_T1 fp w [v] e) :
    Calls Tryz.prog 53 #[v, .int .i64 nv, .int .i64 most] w fun r w' => r = .returned (.bool (isE e nv most)) ∧ w = w' := by
  obtain ⟨a, cap, rfl, g1, g2, hc⟩ := slF2_open hR
  unfold maxLen at g2
  clear hR
  by_cases hl : (e.length : Int) ≤ most
  · have hE : isE e nv most = (run nv e 1 == some 0) := by simp [isE, hl]
    have HE := Lib.hid hE
    clear hE
    go_enter Tryz.func53, Tryz.ntmps53
    go_wp2
    go_loop [7, 8] (fun nn i => ∃ (k : Nat) (n : Int), k ≤ e.length ∧ i = .int .i64 k ∧ nn = .int .i64 n ∧ 0 ≤ n ∧ n ≤ 1 + k ∧ run nv (e.drop k) n = run nv e 1) (fun _ i => e.length - (intOf i).toNat)
    case atStart => exact ⟨0, 1, Nat.zero_le _, rfl, rfl, by omega, by omega, rfl⟩
    case round =>
      obtain ⟨k, n, hk, rfl, rfl, hn0, hn1, hrun⟩ := hrel
      have HRUN := Lib.hid hrun
      clear hrun
      by_cases hlt : k < e.length
      · obtain ⟨b, off, rfl, -, hb, q1, q2⟩ := hc k hlt
        have hs := run_step nv e k n hlt
        have HS := Lib.hid hs
        have har := arity_bd e[k]
        rw [show e[k] = (e[k].1, e[k].2) from rfl] at HS har
        generalize e[k].1 = x at *
        generalize e[k].2 = y at *
        clear hc hs
        by_cases hz : n = 0
        · subst hz
          have hres : isE e nv most = false := by rw [HE.out, ← HRUN.out, HS.out]; rfl
          have HRES := Lib.hid hres
          clear hres
          go_wp2_with fail
          go_ret
          exact ⟨by rw [HRES.out]; rfl, rfl⟩
        · have hz' : (n == 0) = false := by simp [hz]
          have HZ := Lib.hid hz
          have hz1 : 1 ≤ n := by omega
          clear hz
          cases ht : tOk (x, y) nv
          · have hres : isE e nv most = false := by rw [HE.out, ← HRUN.out, HS.out, if_neg HZ.out, ht]; rfl
            have HRES := Lib.hid hres
            clear hres
            go_wp2_with (go_at_call 76; refine (l03Term x y nv _ _ _ h0 h1 q1 q2).mono ?_; rintro e w' ⟨rfl, rfl⟩)
            go_ret
            exact ⟨by rw [HRES.out]; rfl, rfl⟩
          · have hrun2 := HRUN.out
            rw [HS.out, if_neg HZ.out, ht, if_pos rfl] at hrun2
            have HR2 := Lib.hid hrun2
            clear hrun2
            generalize hA : arity (x, y) = A at *
            have HA := Lib.hid hA
            clear hA
            go_wp2_with (first | (go_at_call 76; refine (l03Term x y nv _ _ _ h0 h1 q1 q2).mono ?_; rintro e w' ⟨rfl, rfl⟩) | (go_at_call 77; refine (l03Arity x y _ _ _ q1).mono ?_; rintro e w' ⟨rfl, rfl⟩; rw [HA.out]))
            go_round
            case rel => exact ⟨k + 1, n + (A - 1), by omega, by go_num, rfl, by omega, by omega, HR2.out⟩
            case measure => simp [intOf]; omega
      · obtain rfl : k = e.length := by omega
        have hrun := HRUN.out
        rw [List.drop_length, run] at hrun
        have hres : isE e nv most = (n == 0) := by rw [HE.out, ← hrun]; rfl
        have HRES := Lib.hid hres
        clear hres hrun hc
        go_wp2_with fail
        go_ret
        exact ⟨by rw [HRES.out]; rfl, rfl⟩
  · have hE : isE e nv most = false := by simp [isE, hl]
    have HE := Lib.hid hE
    clear hE hc
    go_enter Tryz.func53, Tryz.ntmps53
    go_wp2
    go_ret
    exact ⟨by rw [HE.out]; rfl, rfl⟩

theorem isE_len {e : List Tm} {nv most : Int} (h : isE e nv most = true) : 1 ≤ e.length ∧ (e.length : Int) ≤ most := by
  unfold isE at h
  rw [Bool.and_eq_true] at h
  refine ⟨?_, by simpa using h.1⟩
  match e, h.2 with
  | [], h => simp [run] at h
  | _ :: _, _ => simp

set_option maxHeartbeats 1000000 in
theorem validTerms (v : Value) (e : List Tm) (nv most : Int) (w : World) (fp : List Nat) (hR : R_T1 fp w [v] e) :
    Calls Tryz.prog 67 #[v, .int .i64 nv, .int .i64 most] w fun r w' => r = .returned (.bool (validE e nv most)) ∧ Upd [] w w' := by
  obtain ⟨a, cap, rfl, g1, g2, hc⟩ := slF2_open hR
  unfold maxLen at g2
  clear hR
  cases h1 : inB nv 0 29
  · have hE : validE e nv most = false := by simp [validE, h1]
    have HE := Lib.hid hE
    clear hE hc
    go_enter Tryz.func67, Tryz.ntmps67
    go_wp2_with (go_at_call 34; refine (within _ _ _ _).mono ?_; rintro e w' ⟨rfl, rfl⟩)
    go_ret
    exact ⟨by rw [HE.out]; rfl, Upd.refl _ _⟩
  · cases h2 : inB most 1 60
    · have hE : validE e nv most = false := by simp [validE, h2]
      have HE := Lib.hid hE
      clear hE hc
      go_enter Tryz.func67, Tryz.ntmps67
      go_wp2_with (go_at_call 34; refine (within _ _ _ _).mono ?_; rintro e w' ⟨rfl, rfl⟩)
      go_ret
      exact ⟨by rw [HE.out]; rfl, Upd.refl _ _⟩
    · have h1' := inB_true h1
      have h2' := inB_true h2
      cases h3 : inB (e.length : Int) 1 most
      · have hE : validE e nv most = false := by
          have h3' := inB_false h3
          cases hi : isE e nv most
          · simp [validE, hi]
          · have := isE_len hi; exfalso; apply h3'; omega
        have HE := Lib.hid hE
        clear hE hc
        go_enter Tryz.func67, Tryz.ntmps67
        go_wp2_with (go_at_call 34; refine (within _ _ _ _).mono ?_; rintro e w' ⟨rfl, rfl⟩)
        go_ret
        exact ⟨by rw [HE.out]; rfl, Upd.refl _ _⟩
      · have h3' := inB_true h3
        have hE : validE e nv most = (run nv e 1 == some 0) := by
          unfold validE isE; rw [h1, h2, decide_eq_true h3'.2]; rfl
        have HE := Lib.hid hE
        clear hE
        go_enter Tryz.func67, Tryz.ntmps67
        go_wp2_with (go_at_call 34; refine (within _ _ _ _).mono ?_; rintro e w' ⟨rfl, rfl⟩)
        go_loopw [7, 27] (fun nn i wr => ∃ (k : Nat) (n : Int), k ≤ e.length ∧ i = .int .i64 k ∧ nn = .int .i64 n ∧ 0 ≤ n ∧ n ≤ 1 + k ∧ run nv (e.drop k) n = run nv e 1 ∧ Upd [] w wr) (fun _ i _ => e.length - (intOf i).toNat)
        case atStart => exact ⟨0, 1, Nat.zero_le _, rfl, rfl, by omega, by omega, rfl, Upd.refl _ _⟩
        case round =>
          obtain ⟨k, n, hk, rfl, rfl, hn0, hn1, hrun, hU⟩ := hrel
          have HRUN := Lib.hid hrun
          clear hrun
          by_cases hlt : k < e.length
          · obtain ⟨b, off, rfl, -, hb, q1, q2⟩ := hc k hlt
            have t1 : wr.cell? ⟨b, off + k * 2, none⟩ = some (ei e[k].1) := (hU.below.cell hb).trans q1
            have t2 : wr.cell? ⟨b, off + k * 2 + 1, none⟩ = some (ei e[k].2) := (hU.below.cell hb).trans q2
            have hs := run_step nv e k n hlt
            have HS := Lib.hid hs
            have har := arity_bd e[k]
            rw [show e[k] = (e[k].1, e[k].2) from rfl] at HS har
            generalize e[k].1 = x at *
            generalize e[k].2 = y at *
            clear hc hs q1 q2
            have hUa := hU.alloc (.cells #[.int .i64 x, .int .i64 y] 78)
            by_cases hz : n = 0
            · subst hz
              have hres : validE e nv most = false := by rw [HE.out, ← HRUN.out, HS.out]; rfl
              have HRES := Lib.hid hres
              clear hres
              go_wp2_with fail
              go_ret
              exact ⟨by rw [HRES.out]; rfl, hUa⟩
            · have hz' : (n == 0) = false := by simp [hz]
              have HZ := Lib.hid hz
              have hz1 : 1 ≤ n := by omega
              clear hz
              cases ht : tOk (x, y) nv
              · have hres : validE e nv most = false := by rw [HE.out, ← HRUN.out, HS.out, if_neg HZ.out, ht]; rfl
                have HRES := Lib.hid hres
                clear hres
                go_wp2_with fail
                refine (termValid x y nv _ h1'.1 h1'.2).mono ?_
                rintro r w1 ⟨rfl, hu1⟩
                have hU1 := hUa.trans hu1
                go_wp2_with fail
                go_ret
                exact ⟨by rw [HRES.out]; rfl, hU1⟩
              · have hrun2 := HRUN.out
                rw [HS.out, if_neg HZ.out, ht, if_pos rfl] at hrun2
                have HR2 := Lib.hid hrun2
                clear hrun2
                go_wp2_with fail
                refine (termValid x y nv _ h1'.1 h1'.2).mono ?_
                rintro r w1 ⟨rfl, hu1⟩
                have hU1 := hUa.trans hu1
                have s1 : w1.cell? ⟨wr.heap.size, 0, none⟩ = some (ei x) := hu1.keep (by simp)
                have s2 : w1.cell? ⟨wr.heap.size, 1, none⟩ = some (ei y) := hu1.keep (by simp)
                clear hu1 hUa hU
                go_wp2_with fail
                refine (operands x y _).mono ?_
                rintro r w2 ⟨rfl, hu2⟩
                have hU2 := hU1.trans hu2
                clear hu2 hU1 s1 s2 t1 t2
                generalize arity (x, y) = A at *
                go_wp2_with fail
                go_roundw
                case rel => exact ⟨k + 1, n + (A - 1), by omega, by go_num, rfl, by omega, by omega, HR2.out, hU2⟩
                case measure => simp [intOf]; omega
          · obtain rfl : k = e.length := by omega
            have hrun := HRUN.out
            rw [List.drop_length, run] at hrun
            have hres : validE e nv most = (n == 0) := by rw [HE.out, ← hrun]; rfl
            have HRES := Lib.hid hres
            clear hres hrun hc
            go_wp2_with fail
            go_ret
            exact ⟨by rw [HRES.out]; rfl, hU⟩

def eOk (e : List Tm) : Bool := isE e 29 60

end Go.Proofs.YtnfghgaadnobbaaGreatDoor
