/-
  Numbers in decimal, plainly: what is read back is what was written, and nothing else is read.
-/
import Derived.Test.YtnfghgaadnobbaaGreatDoorProg
import Derived.Lib.ItoaNum
import Derived.Lib.ItoaMem
import Derived.Lib.ParseIntB
namespace Go.Proofs.YtnfghgaadnobbaaGreatDoor

def isDig (b : UInt8) : Bool := decide (48 ≤ b.toNat ∧ b.toNat ≤ 57)
/-- the number that digits spell, behind others. -/
def valD (acc : Nat) (l : List UInt8) : Nat := l.foldl (fun a b => a * 10 + (b.toNat - 48)) acc
theorem valD_nil (acc : Nat) : valD acc [] = acc := by rw [valD, List.foldl_nil]
theorem valD_cons (acc : Nat) (b : UInt8) (r : List UInt8) : valD acc (b :: r) = valD (acc * 10 + (b.toNat - 48)) r := by rw [valD, List.foldl_cons, valD]

theorem valD_append (acc : Nat) (a b : List UInt8) : valD acc (a ++ b) = valD (valD acc a) b := by rw [valD, List.foldl_append, valD, valD]
theorem dig_nat {k : Nat} (h : k < 10) : (UInt8.ofNat (48 + k)).toNat = 48 + k := by
  rw [UInt8.toNat_ofNat', Nat.mod_eq_of_lt (by omega)]
theorem isDig_nat {k : Nat} (h : k < 10) : isDig (UInt8.ofNat (48 + k)) = true := by
  unfold isDig; rw [dig_nat h]; simp; omega

theorem valD_dec (u : Nat) : valD 0 (Lib.decDigits u) = u := by
  induction u using Nat.strongRecOn with
  | _ u ih =>
    rw [Lib.decDigits]
    split
    · rename_i h
      simp only [valD_cons, valD_nil]; rw [dig_nat h]; omega
    · rename_i h
      rw [valD_append, ih (u / 10) (by omega)]
      simp only [valD_cons, valD_nil]; rw [dig_nat (Nat.mod_lt _ (by omega))]; omega
theorem dec_digits (u : Nat) : (Lib.decDigits u).all isDig = true := by
  induction u using Nat.strongRecOn with
  | _ u ih =>
    rw [Lib.decDigits]
    split
    · rename_i h; simp only [List.all_cons, List.all_nil, Bool.and_true]; exact isDig_nat h
    · rename_i h
      rw [List.all_append, ih (u / 10) (by omega)]
      simp only [List.all_cons, List.all_nil, Bool.and_true, Bool.true_and]; exact isDig_nat (Nat.mod_lt u (by omega))
theorem dec_ne (u : Nat) : Lib.decDigits u ≠ [] := by
  intro h
  have := Lib.decDigits_length u
  rw [h] at this
  have := Lib.nDigits_pos u
  simp at *; omega
/-- no leading zero, but at 0 itself. -/
theorem dec_head (u : Nat) (h : 0 < u) : ∃ b r, Lib.decDigits u = b :: r ∧ b.toNat ≠ 48 := by
  induction u using Nat.strongRecOn with
  | _ u ih =>
    rw [Lib.decDigits]
    split
    · rename_i h1; exact ⟨_, [], rfl, by rw [dig_nat h1]; omega⟩
    · rename_i h1
      obtain ⟨b, r, e, hb⟩ := ih (u / 10) (by omega) (by omega)
      exact ⟨b, r ++ [UInt8.ofNat (48 + u % 10)], by rw [e]; rfl, hb⟩

theorem valD_ge (acc : Nat) (l : List UInt8) : acc ≤ valD acc l := by
  induction l generalizing acc with
  | nil => rw [valD_nil]; exact Nat.le_refl _
  | cons b l ih => rw [valD_cons]; have := ih (acc * 10 + (b.toNat - 48)); omega
theorem valD_lt (acc : Nat) (l : List UInt8) (h : l.all isDig = true) : valD acc l < (acc + 1) * 10 ^ l.length := by
  induction l generalizing acc with
  | nil => simp [valD_nil]
  | cons b l ih =>
    rw [List.all_cons, Bool.and_eq_true] at h
    have hb : 48 ≤ b.toNat ∧ b.toNat ≤ 57 := by have := h.1; unfold isDig at this; simpa using this
    have := ih (acc * 10 + (b.toNat - 48)) h.2
    simp only [valD_cons, List.length_cons, Nat.pow_succ]
    refine Nat.lt_of_lt_of_le this ?_
    rw [Nat.mul_comm (10 ^ l.length) 10, ← Nat.mul_assoc]
    exact Nat.mul_le_mul_right _ (by omega)

/-- digits behind a number are the digits of what they spell. -/
theorem dec_valD (acc : Nat) (h0 : 0 < acc) (l : List UInt8) (h : l.all isDig = true) : Lib.decDigits (valD acc l) = Lib.decDigits acc ++ l := by
  induction l generalizing acc with
  | nil => simp [valD_nil]
  | cons b l ih =>
    rw [List.all_cons, Bool.and_eq_true] at h
    have hb : 48 ≤ b.toNat ∧ b.toNat ≤ 57 := by have := h.1; unfold isDig at this; simpa using this
    rw [valD_cons, ih _ (by omega) h.2]
    have hd : Lib.decDigits (acc * 10 + (b.toNat - 48)) = Lib.decDigits acc ++ [b] := by
      conv => lhs; rw [Lib.decDigits]
      rw [dif_neg (by omega)]
      have e1 : (acc * 10 + (b.toNat - 48)) / 10 = acc := by omega
      have e2 : (acc * 10 + (b.toNat - 48)) % 10 = b.toNat - 48 := by omega
      have e3 : 48 + (b.toNat - 48) = b.toNat := by omega
      rw [e1, e2, e3, UInt8.ofNat_toNat]
    rw [hd, List.append_assoc]; rfl

theorem dec_of {b : UInt8} {l : List UInt8} (h : (b :: l).all isDig = true) (h0 : b.toNat ≠ 48 ∨ l = []) : Lib.decDigits (valD 0 (b :: l)) = b :: l := by
  rw [List.all_cons, Bool.and_eq_true] at h
  have hb : 48 ≤ b.toNat ∧ b.toNat ≤ 57 := by have := h.1; unfold isDig at this; simpa using this
  have hone : Lib.decDigits (b.toNat - 48) = [b] := by
    rw [Lib.decDigits_one (by omega)]
    have e3 : 48 + (b.toNat - 48) = b.toNat := by omega
    rw [e3, UInt8.ofNat_toNat]
  rw [valD_cons, Nat.zero_mul, Nat.zero_add]
  rcases h0 with h0 | rfl
  · rw [dec_valD _ (by omega) _ h.2, hone]; rfl
  · simpa [valD_nil] using hone

/-- the sign and the digits of a text. -/
def negL (l : List UInt8) : Bool := match l with | [] => false | b :: _ => b == 45
def digL (l : List UInt8) : List UInt8 := if negL l then l.tail else l
/-- the number with a decimal form of at most 18 digits. -/
def numF (l : List UInt8) : Option Int :=
  if digL l = [] ∨ 18 < (digL l).length ∨ ((digL l).head? = some 48 ∧ 1 < l.length) ∨ (digL l).all isDig = false then none
  else some (if negL l then -(valD 0 (digL l) : Int) else (valD 0 (digL l) : Int))

theorem itoa_shape (v : Int) : (0 ≤ v ∧ negL (Lib.itoa v) = false ∧ digL (Lib.itoa v) = Lib.decDigits v.toNat) ∨ (v < 0 ∧ negL (Lib.itoa v) = true ∧ digL (Lib.itoa v) = Lib.decDigits v.natAbs) := by
  by_cases h : v < 0
  · refine Or.inr ⟨h, ?_, ?_⟩ <;> simp [Lib.itoa, h, negL, digL]
  · refine Or.inl ⟨by omega, ?_⟩
    have hi : Lib.itoa v = Lib.decDigits v.toNat := by simp [Lib.itoa, h]
    rw [hi]
    have hn : negL (Lib.decDigits v.toNat) = false := by
      have := dec_digits v.toNat
      match hd : Lib.decDigits v.toNat with
      | [] => rfl
      | b :: r =>
        rw [hd, List.all_cons, Bool.and_eq_true] at this
        have hb : 48 ≤ b.toNat ∧ b.toNat ≤ 57 := by have := this.1; unfold isDig at this; simpa using this
        simp only [negL, beq_eq_false_iff_ne, ne_eq]
        intro e; rw [e] at hb; simp at hb
    exact ⟨hn, by simp [digL, hn]⟩

theorem numF_itoa (v : Int) (h : (digL (Lib.itoa v)).length ≤ 18) : numF (Lib.itoa v) = some v := by
  rcases itoa_shape v with ⟨h0, h1, h2⟩ | ⟨h0, h1, h2⟩
  · unfold numF
    rw [h2] at h ⊢
    rw [h1, if_neg]
    · rw [valD_dec]; simp; omega
    · rintro (h3 | h3 | ⟨h3, h4⟩ | h3)
      · exact dec_ne _ h3
      · omega
      · by_cases hz : v = 0
        · subst hz; simp [Lib.itoa, Lib.decDigits] at h4
        · obtain ⟨b, r, e, hb⟩ := dec_head v.toNat (by omega)
          rw [e] at h3
          simp at h3; rw [h3] at hb; simp at hb
      · rw [dec_digits] at h3; cases h3
  · unfold numF
    rw [h2] at h ⊢
    rw [h1, if_neg]
    · rw [valD_dec]; simp; omega
    · rintro (h3 | h3 | ⟨h3, h4⟩ | h3)
      · exact dec_ne _ h3
      · omega
      · obtain ⟨b, r, e, hb⟩ := dec_head v.natAbs (by omega)
        rw [e] at h3
        simp at h3; rw [h3] at hb; simp at hb
      · rw [dec_digits] at h3; cases h3

theorem numF_some {l : List UInt8} {n : Int} (h : numF l = some n) : l = Lib.itoa n ∧ (digL l).length ≤ 18 ∧ n.natAbs < 10 ^ 18 := by
  unfold numF at h
  split at h
  · cases h
  · rename_i hc
    simp only [not_or, Bool.not_eq_false] at hc
    obtain ⟨h1, h2, h3, h4⟩ := hc
    simp only [Option.some.injEq] at h
    have hlt : valD 0 (digL l) < 10 ^ 18 := by
      have := valD_lt 0 (digL l) h4
      have hp : 10 ^ (digL l).length ≤ 10 ^ 18 := Nat.pow_le_pow_right (by omega) (by omega)
      omega
    refine ⟨?_, by omega, by subst h; split <;> omega⟩
    cases l with
    | nil => simp [digL, negL] at h1
    | cons b r =>
      have hnb : negL (b :: r) = (b == 45) := rfl
      by_cases hb : b = 45
      · subst hb
        have hl : negL (45 :: r) = true := rfl
        have hd : digL (45 :: r) = r := by simp [digL, hl]
        rw [hd] at h h1 h3 h4 hlt
        rw [hl] at h
        simp only [if_true] at h
        subst h
        cases r with
        | nil => exact absurd rfl h1
        | cons c r' =>
          have hc : c.toNat ≠ 48 := by
            intro e
            refine h3 ⟨?_, by simp⟩
            have : c = 48 := UInt8.toNat_inj.1 (by rw [e]; rfl)
            simp [this]
          have hdec := dec_of (b := c) (l := r') h4 (Or.inl hc)
          have hpos : 1 ≤ valD 0 (c :: r') := by
            rw [List.all_cons, Bool.and_eq_true] at h4
            have hb : 48 ≤ c.toNat ∧ c.toNat ≤ 57 := by have := h4.1; unfold isDig at this; simpa using this
            have := valD_ge (0 * 10 + (c.toNat - 48)) r'
            rw [valD_cons]; omega
          rw [Lib.itoa_neg _ hpos, hdec]
      · have hl : negL (b :: r) = false := by rw [hnb]; simpa using hb
        have hd : digL (b :: r) = b :: r := by simp [digL, hl]
        rw [hd] at h h1 h3 h4 hlt
        rw [hl] at h
        simp only [Bool.false_eq_true, if_false] at h
        subst h
        have hc : b.toNat ≠ 48 ∨ r = [] := by
          by_cases hr : r = []
          · exact Or.inr hr
          · left
            intro e
            refine h3 ⟨?_, ?_⟩
            · have : b = 48 := UInt8.toNat_inj.1 (by rw [e]; rfl)
              simp [this]
            · cases r with
              | nil => exact absurd rfl hr
              | cons c r => simp
        rw [Lib.itoa_nonneg, dec_of h4 hc]

theorem parseUintM_dec (M acc : Nat) (l : List UInt8) (h : l.all isDig = true) (hM : valD acc l ≤ M) (hM2 : valD acc l < 10 ^ 18) : Lib.parseUintM M acc l = .ok (valD acc l) := by
  induction l generalizing acc with
  | nil => rw [valD_nil]; rfl
  | cons b l ih =>
    rw [List.all_cons, Bool.and_eq_true] at h
    have hb : 48 ≤ b.toNat ∧ b.toNat ≤ 57 := by have := h.1; unfold isDig at this; simpa using this
    rw [valD_cons] at hM hM2 ⊢
    have hge := valD_ge (acc * 10 + (b.toNat - 48)) l
    rw [Lib.parseUintM, if_pos hb, if_neg (by omega), if_neg (by omega)]
    exact ih _ h.2 hM hM2

theorem parse_itoa (v : Int) (h : v.natAbs < 10 ^ 18) : Lib.parseIntB 64 (Lib.itoa v) = .ok v := by
  by_cases hv : v < 0
  · have e : Lib.itoa v = 45 :: Lib.decDigits v.natAbs := by simp [Lib.itoa, hv]
    rw [e]
    have hp := parseUintM_dec (2 ^ 64 - 1) 0 (Lib.decDigits v.natAbs) (dec_digits _) (by rw [valD_dec]; omega) (by rw [valD_dec]; exact h)
    rw [valD_dec] at hp
    have e45 : UInt8.toNat 45 = 45 := rfl
    simp only [Lib.parseIntB, Lib.parseUintB, e45, or_true, if_true, if_neg (dec_ne _), hp, not_true, false_and, if_false, true_and]
    rw [if_neg (by omega)]
    congr 1; omega
  · have e : Lib.itoa v = Lib.decDigits v.toNat := by simp [Lib.itoa, hv]
    rw [e]
    have hp := parseUintM_dec (2 ^ 64 - 1) 0 (Lib.decDigits v.toNat) (dec_digits _) (by rw [valD_dec]; omega) (by rw [valD_dec]; omega)
    rw [valD_dec] at hp
    have hd := dec_digits v.toNat
    have hne := dec_ne v.toNat
    match hl : Lib.decDigits v.toNat, hne with
    | b :: r, _ =>
      rw [hl] at hp hd
      rw [List.all_cons, Bool.and_eq_true] at hd
      have hb : 48 ≤ b.toNat ∧ b.toNat ≤ 57 := by have := hd.1; unfold isDig at this; simpa using this
      simp only [Lib.parseIntB, Lib.parseUintB]
      have h43 : ¬ (b.toNat = 43 ∨ b.toNat = 45) := by omega
      have h45 : ¬ b.toNat = 45 := by omega
      rw [if_neg h43, if_neg (by simp), hp]
      simp only [h45, not_false_eq_true, true_and, false_and, if_false]
      rw [if_neg (by omega)]
      congr 1; omega

end Go.Proofs.YtnfghgaadnobbaaGreatDoor
