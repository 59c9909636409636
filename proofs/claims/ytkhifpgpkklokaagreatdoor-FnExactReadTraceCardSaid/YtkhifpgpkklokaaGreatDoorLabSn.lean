/-
  A number in decimal, read by the reference. (Printed by gennum.py: the two signs alike.)
-/
import Derived.Test.YtkhifpgpkklokaaGreatDoorLabSp
namespace Go.Proofs.YtkhifpgpkklokaaGreatDoor
open Go.RowKit

def NumS (l : List UInt8) (w : World) (e : Ending) (w' : World) : Prop := e = .returned (.tuple #[.int .i64 ((numF l).getD 0), .bool (numF l).isSome]) ∧ w = w'

theorem valD_take (d : List UInt8) (q : Nat) (hq : q < d.length) : valD 0 (d.take (q + 1)) = valD 0 (d.take q) * 10 + (d[q].toNat - 48) := by
  rw [List.take_succ_eq_append_getElem hq, valD_append, valD_cons, valD_nil]
theorem valD_take_lt (d : List UInt8) (q : Nat) (h18 : d.length ≤ 18) (h : (d.take q).all isDig = true) : valD 0 (d.take q) < 1000000000000000000 := by
  have h1 := valD_lt 0 (d.take q) h
  have h2 : (d.take q).length ≤ 18 := by rw [List.length_take]; omega
  have h3 : 10 ^ (d.take q).length ≤ 10 ^ 18 := Nat.pow_le_pow_right (by omega) h2
  omega
theorem valD_take_lt17 (d : List UInt8) (q : Nat) (h18 : d.length ≤ 18) (hq : q < d.length) (h : (d.take q).all isDig = true) : valD 0 (d.take q) < 100000000000000000 := by
  have h1 := valD_lt 0 (d.take q) h
  have h2 : (d.take q).length ≤ 17 := by rw [List.length_take]; omega
  have h3 : 10 ^ (d.take q).length ≤ 10 ^ 17 := Nat.pow_le_pow_right (by omega) h2
  omega
theorem all_take_succ (d : List UInt8) (q : Nat) (hq : q < d.length) (h : (d.take q).all isDig = true) (h2 : isDig d[q] = true) : (d.take (q + 1)).all isDig = true := by
  rw [List.take_succ_eq_append_getElem hq, List.all_append, h]; simp [h2]
theorem all_bad (d : List UInt8) (q : Nat) (hq : q < d.length) (h2 : isDig d[q] = false) : d.all isDig = false := by
  cases h : d.all isDig with
  | false => rfl
  | true => rw [List.all_eq_true.1 h d[q] (List.getElem_mem hq)] at h2; cases h2
theorem byte_ne {b : UInt8} {n : Nat} (hn : n < 256) (h : b ≠ UInt8.ofNat n) : ((b.toNat : Int) == (n : Int)) = false := by
  simp; intro h2; apply h; apply UInt8.toNat_inj.1; simp; omega

set_option maxRecDepth 20000 in
set_option maxHeartbeats 4000000 in
theorem numberS0 (l d : List UInt8) (w : World) (hl : l.length ≤ 2000000) (hneg : negL l = false) (hd : digL l = d) (hlen : l.length = d.length + 0) (hpos : 0 < l.length)
    (hget : ∀ q (hq : q < d.length) (hq2 : q < l.length), l[q] = d[q]) (c : UInt8) (hc : l[0] = c) (hc45 : c ≠ 45) :
    Calls Tryz.prog 120 #[es l] w (NumS l w) := by
  have hix0 : (⟨l.toArray⟩ : ByteArray)[0]'(by simpa [ByteArray.size] using hpos) = c := by rw [← hc]; simp [ByteArray.getElem_eq_getElem_data]
  have gp : (0 : Int) < (l.length : Int) := by omega
  have HLEN := Lib.hid hlen
  have g45 := byte_ne (n := 45) (by omega) hc45
  clear hc
  by_cases hd0 : d = []
  · have HR := Lib.hid (show numF l = none by unfold numF; rw [hd, if_pos (Or.inl hd0)])
    have hl1 : l.length = 0 := by rw [hlen, hd0]; simp
    exact absurd hl1 (by omega)
  · have hdpos : 0 < d.length := List.length_pos_iff.2 hd0
    have g1 : ((l.length : Int) == 0) = false := by rw [beq_eq_false_iff_ne]; omega
    by_cases h18 : 18 < d.length
    · have HR := Lib.hid (show numF l = none by unfold numF; rw [hd, if_pos (Or.inr (Or.inl h18))])
      have g2 : (18 : Int) < (l.length : Int) := by omega
      clear hget hd0 hneg hd hlen h18 hdpos
      go_enter Tryz.func120, Tryz.ntmps120
      go_wp2_with fail
      go_ret2
      exact ⟨by rw [HR.out]; rfl, rfl⟩
    · have g2 : ¬ (18 : Int) < (l.length : Int) := by omega
      obtain ⟨x, hx⟩ : ∃ x, d[0] = x := ⟨_, rfl⟩
      have hat : 0 < l.length := by omega
      have hixa : (⟨l.toArray⟩ : ByteArray)[0]'(by simpa [ByteArray.size] using hat) = x := by
        rw [← hx, ← hget 0 hdpos (by omega)]; simp [ByteArray.getElem_eq_getElem_data]
      have hxc : x = c := hixa.symm.trans hix0
      subst hxc
      clear hix0
      have hhead : d.head? = some x := by rw [← hx]; cases d with
        | nil => simp at hdpos
        | cons y d => rfl
      by_cases hz : x = 48 ∧ 1 < l.length
      · have HR := Lib.hid (show numF l = none by unfold numF; rw [hd, if_pos (Or.inr (Or.inr (Or.inl ⟨by rw [hhead, hz.1], hz.2⟩)))])
        obtain ⟨hz1, hz2⟩ := hz
        subst hz1
        have g3 : (1 : Int) < (l.length : Int) := by omega
        clear hget hd0 hneg hd hx hhead hlen
        go_enter Tryz.func120, Tryz.ntmps120
        go_wp2_with fail
        go_ret2
        exact ⟨by rw [HR.out]; rfl, rfl⟩
      · have HF := Lib.hid (show numF l = if d.all isDig = false then none else some ((valD 0 d : Int)) by
          unfold numF
          rw [hd, hneg]
          by_cases ha : d.all isDig = false
          · rw [if_pos (Or.inr (Or.inr (Or.inr ha))), if_pos ha]
          · rw [if_neg, if_neg ha]
            · simp
            · rintro (h | h | h | h)
              · exact hd0 h
              · exact h18 h
              · rw [hhead] at h; exact hz ⟨by simpa using h.1, h.2⟩
              · exact ha h)
        have hcase : Hid (∀ K : Prop, (((x.toNat : Int) == 48) = false → K) → (x = 48 → ¬ (1 : Int) < (l.length : Int) → K) → K) := Lib.hid (fun K h1 h2 => by
          by_cases h : x = 48
          · exact h2 h (fun h3 => hz ⟨h, by omega⟩)
          · exact h1 (byte_ne (n := 48) (by omega) h))
        have HG := Lib.hid hget
        clear hget hd0 hneg hd hx hhead hz hlen
        refine hcase.out _ ?_ ?_
        · intro gz
          clear hcase
          go_enter Tryz.func120, Tryz.ntmps120
          go_wp2_with fail
          go_loop [5, 6] (fun n i => ∃ q : Nat, q ≤ d.length ∧ i = .int .i64 (q : Nat) ∧ n = .int .i64 (valD 0 (d.take q) : Nat) ∧ Hid ((d.take q).all isDig = true)) (fun n i => l.length - (intOf i).toNat)
          case atStart => exact ⟨0, Nat.zero_le _, rfl, rfl, Lib.hid rfl⟩
          case round =>
            try clear hixa
            try clear hix0
            obtain ⟨q, hq, rfl, rfl, HA⟩ := hrel
            have hql : q ≤ l.length := by have hlen := HLEN.out; omega
            have hvl := valD_take_lt d q (by omega) HA.out
            by_cases hlt : q < d.length
            · have hlt2 : q < l.length := by have hlen := HLEN.out; omega
              obtain ⟨b, hb⟩ : ∃ b, d[q] = b := ⟨_, rfl⟩
              have hixq : (⟨l.toArray⟩ : ByteArray)[q]'(by simpa [ByteArray.size] using hlt2) = b := by rw [← hb, ← HG.out q hlt hlt2]; simp [ByteArray.getElem_eq_getElem_data]
              have S1 := Lib.hid (digitS b w)
              cases hdg : isDig b with
              | false =>
                have HR := Lib.hid (show numF l = none by rw [HF.out, if_pos (all_bad d q hlt (by rw [hb]; exact hdg))])
                rw [hdg] at S1
                clear hdg hb
                go_wp2_with fail
                refine S1.out.mono ?_
                rintro e w1 ⟨rfl, rfl⟩
                clear S1
                go_wp2_with fail
                go_ret2
                exact ⟨by rw [HR.out]; rfl, rfl⟩
              | true =>
                have hd2 : 48 ≤ b.toNat ∧ b.toNat ≤ 57 := by simpa [isDig] using hdg
                have HV := Lib.hid (valD_take d q hlt)
                have hvl7 := valD_take_lt17 d q (by omega) hlt HA.out
                have HA2 := Lib.hid (all_take_succ d q hlt HA.out (by rw [hb]; exact hdg))
                rw [hb] at HV
                rw [hdg] at S1
                generalize valD 0 (d.take q) = V at *
                clear hdg hb HA
                go_wp2_with fail
                refine S1.out.mono ?_
                rintro e w1 ⟨rfl, rfl⟩
                clear S1
                go_wp2_with fail
                go_round
                case rel => exact ⟨q + 1, by omega, by go_num, by rw [HV.out]; exact congrArg _ (by omega), HA2⟩
                case measure => simp [intOf]; omega
            · have hend : ¬ ((q : Nat) : Int) < (l.length : Int) := by have hlen := HLEN.out; omega
              obtain rfl : q = d.length := by omega
              have hall := HA.out
              rw [List.take_of_length_le (Nat.le_refl _)] at hall
              have HR := Lib.hid (show numF l = some ((valD 0 d : Int)) by rw [HF.out, if_neg (by rw [hall]; simp)])
              rw [List.take_of_length_le (Nat.le_refl _)] at hvl ⊢
              generalize valD 0 d = V at *
              clear HA HF hall
              go_wp2_with fail
              go_ret2
              exact ⟨by rw [HR.out]; first | rfl | (simp; try omega), rfl⟩
        · intro gz1 gz2
          subst gz1
          clear hcase
          go_enter Tryz.func120, Tryz.ntmps120
          go_wp2_with fail
          go_loop [5, 6] (fun n i => ∃ q : Nat, q ≤ d.length ∧ i = .int .i64 (q : Nat) ∧ n = .int .i64 (valD 0 (d.take q) : Nat) ∧ Hid ((d.take q).all isDig = true)) (fun n i => l.length - (intOf i).toNat)
          case atStart => exact ⟨0, Nat.zero_le _, rfl, rfl, Lib.hid rfl⟩
          case round =>
            try clear hixa
            try clear hix0
            obtain ⟨q, hq, rfl, rfl, HA⟩ := hrel
            have hql : q ≤ l.length := by have hlen := HLEN.out; omega
            have hvl := valD_take_lt d q (by omega) HA.out
            by_cases hlt : q < d.length
            · have hlt2 : q < l.length := by have hlen := HLEN.out; omega
              obtain ⟨b, hb⟩ : ∃ b, d[q] = b := ⟨_, rfl⟩
              have hixq : (⟨l.toArray⟩ : ByteArray)[q]'(by simpa [ByteArray.size] using hlt2) = b := by rw [← hb, ← HG.out q hlt hlt2]; simp [ByteArray.getElem_eq_getElem_data]
              have S1 := Lib.hid (digitS b w)
              cases hdg : isDig b with
              | false =>
                have HR := Lib.hid (show numF l = none by rw [HF.out, if_pos (all_bad d q hlt (by rw [hb]; exact hdg))])
                rw [hdg] at S1
                clear hdg hb
                go_wp2_with fail
                refine S1.out.mono ?_
                rintro e w1 ⟨rfl, rfl⟩
                clear S1
                go_wp2_with fail
                go_ret2
                exact ⟨by rw [HR.out]; rfl, rfl⟩
              | true =>
                have hd2 : 48 ≤ b.toNat ∧ b.toNat ≤ 57 := by simpa [isDig] using hdg
                have HV := Lib.hid (valD_take d q hlt)
                have hvl7 := valD_take_lt17 d q (by omega) hlt HA.out
                have HA2 := Lib.hid (all_take_succ d q hlt HA.out (by rw [hb]; exact hdg))
                rw [hb] at HV
                rw [hdg] at S1
                generalize valD 0 (d.take q) = V at *
                clear hdg hb HA
                go_wp2_with fail
                refine S1.out.mono ?_
                rintro e w1 ⟨rfl, rfl⟩
                clear S1
                go_wp2_with fail
                go_round
                case rel => exact ⟨q + 1, by omega, by go_num, by rw [HV.out]; exact congrArg _ (by omega), HA2⟩
                case measure => simp [intOf]; omega
            · have hend : ¬ ((q : Nat) : Int) < (l.length : Int) := by have hlen := HLEN.out; omega
              obtain rfl : q = d.length := by omega
              have hall := HA.out
              rw [List.take_of_length_le (Nat.le_refl _)] at hall
              have HR := Lib.hid (show numF l = some ((valD 0 d : Int)) by rw [HF.out, if_neg (by rw [hall]; simp)])
              rw [List.take_of_length_le (Nat.le_refl _)] at hvl ⊢
              generalize valD 0 d = V at *
              clear HA HF hall
              go_wp2_with fail
              go_ret2
              exact ⟨by rw [HR.out]; first | rfl | (simp; try omega), rfl⟩

set_option maxRecDepth 20000 in
set_option maxHeartbeats 4000000 in
theorem numberS1 (l d : List UInt8) (w : World) (hl : l.length ≤ 2000000) (hneg : negL l = true) (hd : digL l = d) (hlen : l.length = d.length + 1) (hpos : 0 < l.length)
    (hget : ∀ q (hq : q < d.length) (hq2 : 1 + q < l.length), l[1 + q] = d[q]) (c : UInt8) (hc : l[0] = c) (hc45 : c = 45) :
    Calls Tryz.prog 120 #[es l] w (NumS l w) := by
  have hix0 : (⟨l.toArray⟩ : ByteArray)[0]'(by simpa [ByteArray.size] using hpos) = c := by rw [← hc]; simp [ByteArray.getElem_eq_getElem_data]
  have gp : (0 : Int) < (l.length : Int) := by omega
  have HLEN := Lib.hid hlen
  subst hc45
  clear hc
  by_cases hd0 : d = []
  · have HR := Lib.hid (show numF l = none by unfold numF; rw [hd, if_pos (Or.inl hd0)])
    have hl1 : l.length = 1 := by rw [hlen, hd0]; simp
    have gl1 : (l.length : Int) = 1 := by omega
    clear hget hd0 hneg hd hlen hl1
    go_enter Tryz.func120, Tryz.ntmps120
    go_wp2_with fail
    go_ret2
    exact ⟨by rw [HR.out]; rfl, rfl⟩
  · have hdpos : 0 < d.length := List.length_pos_iff.2 hd0
    have g1 : ((l.length : Int) == 1) = false := by rw [beq_eq_false_iff_ne]; omega
    by_cases h18 : 18 < d.length
    · have HR := Lib.hid (show numF l = none by unfold numF; rw [hd, if_pos (Or.inr (Or.inl h18))])
      have g2 : (18 : Int) < (l.length : Int) - 1 := by omega
      clear hget hd0 hneg hd hlen h18 hdpos
      go_enter Tryz.func120, Tryz.ntmps120
      go_wp2_with fail
      go_ret2
      exact ⟨by rw [HR.out]; rfl, rfl⟩
    · have g2 : ¬ (18 : Int) < (l.length : Int) - 1 := by omega
      obtain ⟨x, hx⟩ : ∃ x, d[0] = x := ⟨_, rfl⟩
      have hat : 1 < l.length := by omega
      have hixa : (⟨l.toArray⟩ : ByteArray)[1]'(by simpa [ByteArray.size] using hat) = x := by
        rw [← hx, ← hget 0 hdpos (by omega)]; simp [ByteArray.getElem_eq_getElem_data]
      skip
      have hhead : d.head? = some x := by rw [← hx]; cases d with
        | nil => simp at hdpos
        | cons y d => rfl
      by_cases hz : x = 48 ∧ 1 < l.length
      · have HR := Lib.hid (show numF l = none by unfold numF; rw [hd, if_pos (Or.inr (Or.inr (Or.inl ⟨by rw [hhead, hz.1], hz.2⟩)))])
        obtain ⟨hz1, hz2⟩ := hz
        subst hz1
        have g3 : (1 : Int) < (l.length : Int) := by omega
        clear hget hd0 hneg hd hx hhead hlen
        go_enter Tryz.func120, Tryz.ntmps120
        go_wp2_with fail
        go_ret2
        exact ⟨by rw [HR.out]; rfl, rfl⟩
      · have HF := Lib.hid (show numF l = if d.all isDig = false then none else some (-(valD 0 d : Int)) by
          unfold numF
          rw [hd, hneg]
          by_cases ha : d.all isDig = false
          · rw [if_pos (Or.inr (Or.inr (Or.inr ha))), if_pos ha]
          · rw [if_neg, if_neg ha]
            · simp
            · rintro (h | h | h | h)
              · exact hd0 h
              · exact h18 h
              · rw [hhead] at h; exact hz ⟨by simpa using h.1, h.2⟩
              · exact ha h)
        have hcase : Hid (∀ K : Prop, (((x.toNat : Int) == 48) = false → K) → (x = 48 → ¬ (1 : Int) < (l.length : Int) → K) → K) := Lib.hid (fun K h1 h2 => by
          by_cases h : x = 48
          · exact h2 h (fun h3 => hz ⟨h, by omega⟩)
          · exact h1 (byte_ne (n := 48) (by omega) h))
        have HG := Lib.hid hget
        clear hget hd0 hneg hd hx hhead hz hlen
        refine hcase.out _ ?_ ?_
        · intro gz
          clear hcase
          go_enter Tryz.func120, Tryz.ntmps120
          go_wp2_with fail
          go_loop [5, 6] (fun n i => ∃ q : Nat, q ≤ d.length ∧ i = .int .i64 (1 + q : Nat) ∧ n = .int .i64 (valD 0 (d.take q) : Nat) ∧ Hid ((d.take q).all isDig = true)) (fun n i => l.length - (intOf i).toNat)
          case atStart => exact ⟨0, Nat.zero_le _, rfl, rfl, Lib.hid rfl⟩
          case round =>
            try clear hixa
            try clear hix0
            obtain ⟨q, hq, rfl, rfl, HA⟩ := hrel
            have hql : 1 + q ≤ l.length := by have hlen := HLEN.out; omega
            have hvl := valD_take_lt d q (by omega) HA.out
            by_cases hlt : q < d.length
            · have hlt2 : 1 + q < l.length := by have hlen := HLEN.out; omega
              obtain ⟨b, hb⟩ : ∃ b, d[q] = b := ⟨_, rfl⟩
              have hixq : (⟨l.toArray⟩ : ByteArray)[1 + q]'(by simpa [ByteArray.size] using hlt2) = b := by rw [← hb, ← HG.out q hlt hlt2]; simp [ByteArray.getElem_eq_getElem_data]
              have S1 := Lib.hid (digitS b w)
              cases hdg : isDig b with
              | false =>
                have HR := Lib.hid (show numF l = none by rw [HF.out, if_pos (all_bad d q hlt (by rw [hb]; exact hdg))])
                rw [hdg] at S1
                clear hdg hb
                go_wp2_with fail
                refine S1.out.mono ?_
                rintro e w1 ⟨rfl, rfl⟩
                clear S1
                go_wp2_with fail
                go_ret2
                exact ⟨by rw [HR.out]; rfl, rfl⟩
              | true =>
                have hd2 : 48 ≤ b.toNat ∧ b.toNat ≤ 57 := by simpa [isDig] using hdg
                have HV := Lib.hid (valD_take d q hlt)
                have hvl7 := valD_take_lt17 d q (by omega) hlt HA.out
                have HA2 := Lib.hid (all_take_succ d q hlt HA.out (by rw [hb]; exact hdg))
                rw [hb] at HV
                rw [hdg] at S1
                generalize valD 0 (d.take q) = V at *
                clear hdg hb HA
                go_wp2_with fail
                refine S1.out.mono ?_
                rintro e w1 ⟨rfl, rfl⟩
                clear S1
                go_wp2_with fail
                go_round
                case rel => exact ⟨q + 1, by omega, by go_num, by rw [HV.out]; exact congrArg _ (by omega), HA2⟩
                case measure => simp [intOf]; omega
            · have hend : ¬ ((1 + q : Nat) : Int) < (l.length : Int) := by have hlen := HLEN.out; omega
              obtain rfl : q = d.length := by omega
              have hall := HA.out
              rw [List.take_of_length_le (Nat.le_refl _)] at hall
              have HR := Lib.hid (show numF l = some (-(valD 0 d : Int)) by rw [HF.out, if_neg (by rw [hall]; simp)])
              rw [List.take_of_length_le (Nat.le_refl _)] at hvl ⊢
              generalize valD 0 d = V at *
              clear HA HF hall
              go_wp2_with fail
              go_ret2
              exact ⟨by rw [HR.out]; first | rfl | (simp; try omega), rfl⟩
        · intro gz1 gz2
          exact absurd (show (1 : Int) < (l.length : Int) by have hlen := HLEN.out; omega) gz2

theorem numberS (l : List UInt8) (w : World) (hl : l.length ≤ 2000000) : Calls Tryz.prog 120 #[es l] w (NumS l w) := by
  cases l with
  | nil =>
    have HR := Lib.hid (show numF [] = none by rfl)
    go_enter Tryz.func120, Tryz.ntmps120
    go_wp2_with fail
    go_ret2
    exact ⟨by rw [HR.out]; rfl, rfl⟩
  | cons c r =>
    by_cases hc : c = 45
    · exact numberS1 (c :: r) r w hl (by simp [negL, hc]) (by simp [digL, negL, hc]) (by simp) (by simp) (fun q hq hq2 => by
        have e : (c :: r)[1 + q]? = r[q]? := by rw [Nat.add_comm]; rfl
        rw [List.getElem?_eq_getElem hq2, List.getElem?_eq_getElem hq] at e
        exact Option.some.inj e) c rfl hc
    · exact numberS0 (c :: r) (c :: r) w hl (by simp [negL, hc]) (by simp [digL, negL, hc]) (by simp) (by simp) (fun q hq hq2 => rfl) c rfl hc

end Go.Proofs.YtkhifpgpkklokaaGreatDoor
