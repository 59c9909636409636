/-
  Lists compared; lists drawn.
-/
import Derived.Test.YtkhifpgpkklokaaDoorLabJ
import Derived.Test.YtkhifpgpkklokaaDoorR8V
namespace Go.Proofs.YtkhifpgpkklokaaDoor
open Go.RowKit

def cmp1 (x y : Int) : Int := if x < y then -1 else if y < x then 1 else 0
def cmpQ : List Int → List Int → Int
  | [], [] => 0
  | [], _ :: _ => -1
  | _ :: _, [] => 1
  | a :: al, b :: bl => if cmp1 a b = 0 then cmpQ al bl else cmp1 a b

theorem cmp1_neg (x y : Int) : cmp1 y x = - cmp1 x y := by unfold cmp1; repeat' split <;> omega
theorem cmp1_zero {x y : Int} (h : cmp1 x y = 0) : x = y := by unfold cmp1 at h; by_cases h1 : x < y <;> by_cases h2 : y < x <;> simp [h1, h2] at h <;> omega
theorem cmp1_self (x : Int) : cmp1 x x = 0 := by simp [cmp1]
theorem cmp1_bd (x y : Int) : -1 ≤ cmp1 x y ∧ cmp1 x y ≤ 1 := by unfold cmp1; repeat' split <;> omega

theorem cmpQ_neg : ∀ a b : List Int, cmpQ b a = - cmpQ a b
  | [], [] => rfl
  | [], _ :: _ => rfl
  | _ :: _, [] => rfl
  | a :: al, b :: bl => by
    simp only [cmpQ]
    rw [cmp1_neg a b, cmpQ_neg al bl]
    by_cases h : cmp1 a b = 0
    · rw [if_pos h, if_pos (by omega)]
    · rw [if_neg h, if_neg (by omega)]
theorem cmpQ_bd : ∀ a b : List Int, -1 ≤ cmpQ a b ∧ cmpQ a b ≤ 1
  | [], [] => by simp [cmpQ]
  | [], _ :: _ => by simp [cmpQ]
  | _ :: _, [] => by simp [cmpQ]
  | a :: al, b :: bl => by
    simp only [cmpQ]
    split
    · exact cmpQ_bd al bl
    · exact cmp1_bd a b
theorem cmpQ_zero : ∀ {a b : List Int}, cmpQ a b = 0 → a = b
  | [], [], _ => rfl
  | [], _ :: _, h => by simp [cmpQ] at h
  | _ :: _, [], h => by simp [cmpQ] at h
  | a :: al, b :: bl, h => by
    simp only [cmpQ] at h
    split at h
    · rename_i h1; rw [cmp1_zero h1, cmpQ_zero h]
    · rename_i h1; exact absurd h h1
theorem cmpQ_self : ∀ a : List Int, cmpQ a a = 0
  | [] => rfl
  | a :: al => by simp only [cmpQ]; rw [if_pos (cmp1_self a), cmpQ_self al]

theorem isNaNI (x : Int) (w : World) : Calls Tryd.prog 40 #[.int .i64 x] w fun e w' => e = .returned (.bool false) ∧ w = w' := by
  go_enter Tryd.func40, Tryd.ntmps40
  go_wp2_with fail
  go_ret
  exact ⟨by simp, rfl⟩

set_option maxRecDepth 20000 in
theorem cmpOne (x y : Int) (w : World) : Calls Tryd.prog 29 #[.int .i64 x, .int .i64 y] w fun e w' => e = .returned (.int .i64 (cmp1 x y)) ∧ w = w' := by
  have S1 := Lib.hid (isNaNI x w)
  have S2 := Lib.hid (isNaNI y w)
  rcases Int.lt_trichotomy x y with h | h | h
  · have HR := Lib.hid (show cmp1 x y = -1 by simp [cmp1, h])
    go_enter Tryd.func29, Tryd.ntmps29
    go_wp2_with fail
    refine S1.out.mono ?_
    rintro e w1 ⟨rfl, rfl⟩
    go_wp2_with fail
    refine S2.out.mono ?_
    rintro e w1 ⟨rfl, rfl⟩
    go_wp2_with fail
    go_ret
    exact ⟨by rw [HR.out]; rfl, rfl⟩
  · have HR := Lib.hid (show cmp1 x y = 0 by rw [h]; exact cmp1_self y)
    have g1 : ¬ x < y := by omega
    have g2 : ¬ y < x := by omega
    clear h
    go_enter Tryd.func29, Tryd.ntmps29
    go_wp2_with fail
    refine S1.out.mono ?_
    rintro e w1 ⟨rfl, rfl⟩
    go_wp2_with fail
    refine S2.out.mono ?_
    rintro e w1 ⟨rfl, rfl⟩
    go_wp2_with fail
    go_ret
    exact ⟨by rw [HR.out]; rfl, rfl⟩
  · have HR := Lib.hid (show cmp1 x y = 1 by simp [cmp1, h]; omega)
    have g1 : ¬ x < y := by omega
    go_enter Tryd.func29, Tryd.ntmps29
    go_wp2_with fail
    refine S1.out.mono ?_
    rintro e w1 ⟨rfl, rfl⟩
    go_wp2_with fail
    refine S2.out.mono ?_
    rintro e w1 ⟨rfl, rfl⟩
    go_wp2_with fail
    go_ret
    exact ⟨by rw [HR.out]; rfl, rfl⟩

set_option maxRecDepth 20000 in
set_option maxHeartbeats 2000000 in
theorem compareSl (v v2 : Value) (a b : List Int) (w : World) (fa fb : List Nat) (hR : R1 fa w [v] a) (hR2 : R1 fb w [v2] b) :
    Calls Tryd.prog 20 #[v, v2] w fun e w' => e = .returned (.int .i64 (cmpQ a b)) ∧ w = w' := by
  obtain ⟨a1, c1, rfl, h1, h2, hc⟩ := slF1_open hR
  obtain ⟨a2, c2, rfl, h3, h4, hd⟩ := slF1_open hR2
  unfold maxLen at h2 h4
  clear hR hR2
  go_enter Tryd.func20, Tryd.ntmps20
  go_wp2_with fail
  go_loop [11] (fun i => ∃ k : Nat, k ≤ a.length ∧ k ≤ b.length ∧ i = .int .i64 k ∧ Hid (cmpQ a b = cmpQ (a.drop k) (b.drop k))) (fun i => a.length - (intOf i).toNat)
  case atStart => exact ⟨0, Nat.zero_le _, Nat.zero_le _, rfl, Lib.hid rfl⟩
  case round =>
    obtain ⟨k, hk, hk2, rfl, HF⟩ := hrel
    by_cases hlt : k < a.length
    · obtain ⟨b1, o1, rfl, -, -, p1⟩ := hc k hlt
      by_cases hlt2 : k < b.length
      · obtain ⟨b2, o2, rfl, -, -, p2⟩ := hd k hlt2
        have hF := HF.out
        rw [List.drop_eq_getElem_cons hlt, List.drop_eq_getElem_cons hlt2, cmpQ] at hF
        have HG := Lib.hid hF
        clear hc hd hF HF
        generalize a[k] = x at *
        generalize b[k] = y at *
        have S1 := Lib.hid (cmpOne x y w)
        by_cases h0 : cmp1 x y = 0
        · have HR := Lib.hid (HG.out.trans (if_pos h0))
          rw [h0] at S1
          clear HG h0
          go_wp2_with fail
          refine S1.out.mono ?_
          rintro e w1 ⟨rfl, rfl⟩
          clear S1
          go_wp2_with fail
          go_round
          case rel => exact ⟨k + 1, by omega, by omega, by go_num, HR⟩
          case measure => simp [intOf]; omega
        · have HR := Lib.hid (HG.out.trans (if_neg h0))
          generalize cmp1 x y = z at *
          have h0' : (z == 0) = false := by simpa using h0
          clear HG
          go_wp2_with fail
          refine S1.out.mono ?_
          rintro e w1 ⟨rfl, rfl⟩
          clear S1
          go_wp2_with fail
          go_ret
          exact ⟨by rw [HR.out]; rfl, rfl⟩
      · have hF := HF.out
        rw [List.drop_eq_getElem_cons hlt, List.drop_of_length_le (by omega : b.length ≤ k), cmpQ] at hF
        have HR := Lib.hid hF
        clear hc hd hF HF
        have g1 : (b.length : Int) ≤ (k : Int) := by omega
        go_wp2_with fail
        go_ret
        exact ⟨by rw [HR.out]; rfl, rfl⟩
    · obtain rfl : k = a.length := by omega
      have hF := HF.out
      rw [List.drop_of_length_le (Nat.le_refl _)] at hF
      by_cases hlt2 : a.length < b.length
      · rw [List.drop_eq_getElem_cons hlt2, cmpQ] at hF
        have HR := Lib.hid hF
        have g1 : (a.length : Int) < (b.length : Int) := by omega
        clear hc hd hF HF
        go_wp2_with fail
        go_ret
        exact ⟨by rw [HR.out]; rfl, rfl⟩
      · rw [List.drop_of_length_le (by omega), cmpQ] at hF
        have HR := Lib.hid hF
        have g1 : ¬ (a.length : Int) < (b.length : Int) := by omega
        clear hc hd hF HF
        go_wp2_with fail
        go_ret
        exact ⟨by rw [HR.out]; rfl, rfl⟩

set_option maxRecDepth 20000 in
theorem compareListsI (v v2 : Value) (a b : List Int) (w : World) (fa fb : List Nat) (hR : R1 fa w [v] a) (hR2 : R1 fb w [v2] b) :
    Calls Tryd.prog 12 #[v, v2] w fun e w' => e = .returned (.int .i64 (cmpQ a b)) ∧ w = w' := by
  have S1 := Lib.hid (compareSl v v2 a b w fa fb hR hR2)
  clear hR hR2
  go_enter Tryd.func12, Tryd.ntmps12
  go_wp2_with fail
  refine S1.out.mono ?_
  rintro e w1 ⟨rfl, rfl⟩
  go_wp2_with fail
  go_ret
  exact ⟨rfl, rfl⟩

set_option maxRecDepth 20000 in
set_option maxHeartbeats 2000000 in
theorem r8Same (v v2 : Value) (a b : List Int) (w : World) (fa fb : List Nat) (hR : R1 fa w [v] a) (hR2 : R1 fb w [v2] b) :
    Calls Tryd.prog 10 #[v, v2] w fun e w' => e = .returned (.bool (decide (a = b))) ∧ ∃ n, w' = w.drewN n := by
  obtain ⟨a1, c1, rfl, h1, h2, -⟩ := slF1_open hR
  obtain ⟨a2, c2, rfl, h3, h4, -⟩ := slF1_open hR2
  unfold maxLen at h2 h4
  have HR := Lib.hid (And.intro hR hR2)
  clear hR hR2
  by_cases hlen : a.length = b.length
  · have g0 : ((a.length : Int) == (b.length : Int)) = true := by simp [hlen]
    have HL := Lib.hid hlen
    have hbl : (b.length : Int) = (a.length : Int) := by omega
    rw [hlen]
    clear hlen g0 hbl
    go_enter Tryd.func10, Tryd.ntmps10
    go_wp2_with fail
    go_loopw [5] (fun i wr => ∃ k n : Nat, k ≤ b.length ∧ i = .int .i64 k ∧ wr = w.drewN n ∧ Hid (decide (a = b) = decide (a.drop k = b.drop k))) (fun i _ => b.length - (intOf i).toNat)
    case atStart => exact ⟨0, 0, Nat.zero_le _, rfl, rfl, Lib.hid rfl⟩
    case round =>
      obtain ⟨k, n, hk, rfl, rfl, HF⟩ := hrel
      obtain ⟨wq, hwq⟩ : ∃ wq, w.drewN n = wq := ⟨_, rfl⟩
      have HWQ := Lib.hid hwq
      obtain ⟨_, _, hv1, -, -, hc⟩ := slF1_open (R1k.drewN HR.out.1 n)
      obtain ⟨_, _, hv2, -, -, hd⟩ := slF1_open (R1k.drewN HR.out.2 n)
      rw [HL.out] at hv1
      cases hv1
      cases hv2
      rw [hwq] at hc hd ⊢
      clear hwq
      by_cases hlt : k < b.length
      · have hlta : k < a.length := by rw [HL.out]; exact hlt
        obtain ⟨b1, o1, rfl, -, -, p1⟩ := hc k hlta
        obtain ⟨b2, o2, rfl, -, -, p2⟩ := hd k hlt
        have hF := HF.out
        rw [List.drop_eq_getElem_cons hlta, List.drop_eq_getElem_cons hlt] at hF
        have HG := Lib.hid hF
        clear hc hd hF HF
        generalize a[k] = x at *
        generalize b[k] = y at *
        by_cases hxy : x = y
        · have HQ := Lib.hid (show decide (a = b) = decide (a.drop (k + 1) = b.drop (k + 1)) by rw [HG.out, hxy]; simp)
          clear HG
          subst hxy
          go_wp2_with fail
          go_quiet (fail)
          go_wp2_with fail
          go_roundw
          case rel => exact ⟨k + 1, _, by omega, by go_num, by rw [← HWQ.out, drewN_add], HQ⟩
          case measure => simp [intOf]; omega
        · have HQ := Lib.hid (show decide (a = b) = false by rw [HG.out]; simp [hxy])
          have hxy' : (x == y) = false := by simpa using hxy
          clear HG
          go_wp2_with fail
          go_quiet (fail)
          go_wp2_with fail
          go_ret
          exact ⟨by rw [HQ.out]; rfl, _, by rw [← HWQ.out, drewN_add]⟩
      · have HQ := Lib.hid (show decide (a = b) = true by
          rw [HF.out, List.drop_of_length_le (by rw [HL.out]; omega), List.drop_of_length_le (by omega)]; rfl)
        obtain rfl : k = b.length := by omega
        clear hc hd HF
        go_wp2_with fail
        go_ret
        exact ⟨by rw [HQ.out]; rfl, n, HWQ.out.symm⟩
  · have g0 : ((a.length : Int) == (b.length : Int)) = false := by simp; omega
    have HQ := Lib.hid (show decide (a = b) = false by simp; intro h; exact hlen (by rw [h]))
    go_enter Tryd.func10, Tryd.ntmps10
    go_wp2_with fail
    go_ret
    exact ⟨by rw [HQ.out]; rfl, 0, rfl⟩

end Go.Proofs.YtkhifpgpkklokaaDoor
