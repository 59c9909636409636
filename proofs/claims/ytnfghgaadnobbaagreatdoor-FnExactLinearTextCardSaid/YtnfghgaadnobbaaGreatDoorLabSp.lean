/-
  Names and labels by the reference: what its calls return.
-/
import Derived.Test.YtnfghgaadnobbaaGreatDoorLabP
import Derived.Test.YtnfghgaadnobbaaGreatDoorDec
namespace Go.Proofs.YtnfghgaadnobbaaGreatDoor
open Go.RowKit

theorem smallS (b : UInt8) (w : World) : Calls Tryz.prog 94 #[.int .u8 (b.toNat : Int)] w fun e w' => e = .returned (.bool (sml b)) ∧ w = w' := by
  by_cases h1 : 97 ≤ b.toNat
  · by_cases h2 : b.toNat ≤ 122
    · have HR := Lib.hid (show sml b = true by simp [sml]; omega)
      have g1 : (97 : Int) ≤ (b.toNat : Int) := by omega
      have g2 : (b.toNat : Int) ≤ 122 := by omega
      go_enter Tryz.func94, Tryz.ntmps94
      go_wp2_with fail
      go_ret
      exact ⟨by rw [HR.out]; rfl, rfl⟩
    · have HR := Lib.hid (show sml b = false by simp [sml]; omega)
      have g1 : (97 : Int) ≤ (b.toNat : Int) := by omega
      have g2 : ¬ (b.toNat : Int) ≤ 122 := by omega
      go_enter Tryz.func94, Tryz.ntmps94
      go_wp2_with fail
      go_ret
      exact ⟨by rw [HR.out]; rfl, rfl⟩
  · have HR := Lib.hid (show sml b = false by simp [sml]; omega)
    have g1 : ¬ (97 : Int) ≤ (b.toNat : Int) := by omega
    go_enter Tryz.func94, Tryz.ntmps94
    go_wp2_with fail
    go_ret
    exact ⟨by rw [HR.out]; rfl, rfl⟩

theorem digitS (b : UInt8) (w : World) : Calls Tryz.prog 95 #[.int .u8 (b.toNat : Int)] w fun e w' => e = .returned (.bool (isDig b)) ∧ w = w' := by
  by_cases h1 : 48 ≤ b.toNat
  · by_cases h2 : b.toNat ≤ 57
    · have HR := Lib.hid (show isDig b = true by simp [isDig]; omega)
      have g1 : (48 : Int) ≤ (b.toNat : Int) := by omega
      have g2 : (b.toNat : Int) ≤ 57 := by omega
      go_enter Tryz.func95, Tryz.ntmps95
      go_wp2_with fail
      go_ret
      exact ⟨by rw [HR.out]; rfl, rfl⟩
    · have HR := Lib.hid (show isDig b = false by simp [isDig]; omega)
      have g1 : (48 : Int) ≤ (b.toNat : Int) := by omega
      have g2 : ¬ (b.toNat : Int) ≤ 57 := by omega
      go_enter Tryz.func95, Tryz.ntmps95
      go_wp2_with fail
      go_ret
      exact ⟨by rw [HR.out]; rfl, rfl⟩
  · have HR := Lib.hid (show isDig b = false by simp [isDig]; omega)
    have g1 : ¬ (48 : Int) ≤ (b.toNat : Int) := by omega
    go_enter Tryz.func95, Tryz.ntmps95
    go_wp2_with fail
    go_ret
    exact ⟨by rw [HR.out]; rfl, rfl⟩

set_option maxRecDepth 20000 in
set_option maxHeartbeats 2000000 in
theorem nameS (l : List UInt8) (w : World) (hl : l.length ≤ 2000000) : Calls Tryz.prog 78 #[es l] w fun e w' => e = .returned (.bool (nameF l)) ∧ w = w' := by
  cases hcase : l with
  | nil =>
    have HR := Lib.hid (show nameF [] = false by rfl)
    go_enter Tryz.func78, Tryz.ntmps78
    go_wp2_with fail
    go_ret
    exact ⟨by rw [HR.out]; rfl, rfl⟩
  | cons c r =>
    rw [← hcase]
    have hne : (l == []) = false := by rw [hcase]; rfl
    have hpos : 0 < l.length := by rw [hcase]; simp
    by_cases hlen : l.length ≤ 10
    · have hix : (⟨l.toArray⟩ : ByteArray)[0]'(by simpa [ByteArray.size] using hpos) = c := by
        simp [ByteArray.getElem_eq_getElem_data, hcase]
      have HN := Lib.hid (show nameF l = (sml c && l.all (fun c => sml c || isDig c)) by
        unfold nameF; rw [decide_eq_true (show 1 ≤ l.length from hpos), decide_eq_true hlen, hcase]; simp)
      have g1 : ¬ (10 : Int) < (l.length : Int) := by omega
      have S1 := Lib.hid (smallS c w)
      clear hcase
      cases hs : sml c with
      | false =>
        have HR := Lib.hid (show nameF l = false by rw [HN.out, hs]; rfl)
        rw [hs] at S1
        clear HN hs
        go_enter Tryz.func78, Tryz.ntmps78
        go_wp2_with fail
        refine S1.out.mono ?_
        rintro e w1 ⟨rfl, rfl⟩
        clear S1
        go_wp2_with fail
        go_ret
        exact ⟨by rw [HR.out]; rfl, rfl⟩
      | true =>
        have HA := Lib.hid (show nameF l = l.all (fun c => sml c || isDig c) by rw [HN.out, hs]; rfl)
        rw [hs] at S1
        clear HN hs
        go_enter Tryz.func78, Tryz.ntmps78
        go_wp2_with fail
        refine S1.out.mono ?_
        rintro e w1 ⟨rfl, rfl⟩
        clear S1 hix
        go_wp2_with fail
        go_loop [3] (fun i => ∃ k : Nat, k ≤ l.length ∧ i = .int .i64 k ∧ Hid (l.all (fun c => sml c || isDig c) = (l.drop k).all (fun c => sml c || isDig c))) (fun i => l.length - (intOf i).toNat)
        case atStart => exact ⟨0, Nat.zero_le _, rfl, Lib.hid rfl⟩
        case round =>
          obtain ⟨k, hk, rfl, HF⟩ := hrel
          by_cases hlt : k < l.length
          · obtain ⟨b, hb⟩ : ∃ b, l[k] = b := ⟨_, rfl⟩
            have hix : (⟨l.toArray⟩ : ByteArray)[k]'(by simpa [ByteArray.size] using hlt) = b := by rw [← hb]; simp [ByteArray.getElem_eq_getElem_data]
            have hF := HF.out
            rw [List.drop_eq_getElem_cons hlt, hb, List.all_cons] at hF
            have HG := Lib.hid hF
            have S2 := Lib.hid (smallS b w)
            have S3 := Lib.hid (digitS b w)
            clear hF HF hb
            cases hs : sml b with
            | true =>
              have HQ := Lib.hid (HG.out.trans (by rw [hs]; rfl) : l.all (fun c => sml c || isDig c) = (l.drop (k + 1)).all (fun c => sml c || isDig c))
              rw [hs] at S2
              clear HG hs S3
              go_wp2_with fail
              refine S2.out.mono ?_
              rintro e w1 ⟨rfl, rfl⟩
              clear S2
              go_wp2_with fail
              go_round
              case rel => exact ⟨k + 1, by omega, by go_num, HQ⟩
              case measure => simp [intOf]; omega
            | false =>
              rw [hs] at S2
              cases hd : isDig b with
              | true =>
                have HQ := Lib.hid (HG.out.trans (by rw [hs, hd]; rfl) : l.all (fun c => sml c || isDig c) = (l.drop (k + 1)).all (fun c => sml c || isDig c))
                rw [hd] at S3
                clear HG hs hd
                go_wp2_with fail
                refine S2.out.mono ?_
                rintro e w1 ⟨rfl, rfl⟩
                clear S2
                go_wp2_with fail
                refine S3.out.mono ?_
                rintro e w1 ⟨rfl, rfl⟩
                clear S3
                go_wp2_with fail
                go_round
                case rel => exact ⟨k + 1, by omega, by go_num, HQ⟩
                case measure => simp [intOf]; omega
              | false =>
                have HR := Lib.hid (show nameF l = false by rw [HA.out, HG.out, hs, hd]; rfl)
                rw [hd] at S3
                clear HG hs hd HA
                go_wp2_with fail
                refine S2.out.mono ?_
                rintro e w1 ⟨rfl, rfl⟩
                clear S2
                go_wp2_with fail
                refine S3.out.mono ?_
                rintro e w1 ⟨rfl, rfl⟩
                clear S3
                go_wp2_with fail
                go_ret
                exact ⟨by rw [HR.out]; rfl, rfl⟩
          · obtain rfl : k = l.length := by omega
            have HR := Lib.hid (show nameF l = true by rw [HA.out, HF.out, List.drop_of_length_le (Nat.le_refl _)]; rfl)
            clear HF HA
            go_wp2_with fail
            go_ret
            exact ⟨by rw [HR.out]; rfl, rfl⟩
    · have HR := Lib.hid (show nameF l = false by unfold nameF; rw [decide_eq_false hlen]; simp)
      have g1 : (10 : Int) < (l.length : Int) := by omega
      clear hcase hlen
      go_enter Tryz.func78, Tryz.ntmps78
      go_wp2_with fail
      go_ret
      exact ⟨by rw [HR.out]; rfl, rfl⟩

theorem actionS (l : List UInt8) (w : World) (hl : l.length ≤ 2000000) :
    Calls Tryz.prog 54 #[es l] w fun e w' => e = .returned (.bool (actF l)) ∧ w = w' := by
  have S1 := Lib.hid (nameS l w hl)
  cases hn : nameF l with
  | false =>
    have HR := Lib.hid (show actF l = false by simp [actF, hn])
    rw [hn] at S1
    clear hn
    go_enter Tryz.func54, Tryz.ntmps54
    go_wp2_with fail
    refine S1.out.mono ?_
    rintro e w1 ⟨rfl, rfl⟩
    clear S1
    go_wp2_with fail
    go_ret
    exact ⟨by rw [HR.out]; rfl, rfl⟩
  | true =>
    have HR := Lib.hid (show actF l = (l != tauL) by simp [actF, hn])
    rw [hn] at S1
    clear hn
    go_enter Tryz.func54, Tryz.ntmps54
    go_wp2_with fail
    refine S1.out.mono ?_
    rintro e w1 ⟨rfl, rfl⟩
    clear S1
    go_wp2_with fail
    go_ret
    refine ⟨?_, rfl⟩
    rw [HR.out]
    simp [tauL, bne]

/-- the place of the first "(" of a text, or its length. -/
def openAt (s : List UInt8) : Nat := (s.takeWhile (fun b => b != 40)).length

theorem tw_all : ∀ s : List UInt8, (∀ x ∈ s, x ≠ 40) → s.takeWhile (fun b => b != 40) = s
  | [], _ => rfl
  | b :: s, h => by
    have h1 : b ≠ 40 := h b (by simp)
    rw [List.takeWhile_cons, if_pos (by simpa using h1), tw_all s (fun x hx => h x (List.mem_cons_of_mem _ hx))]

theorem openAt_none {s : List UInt8} : ∀ k, (∀ j (_ : j < k) (hj2 : j < s.length), s[j] ≠ 40) → k = s.length → openAt s = s.length := by
  intro k h hk
  unfold openAt
  rw [tw_all]
  intro x hx
  obtain ⟨j, hj, rfl⟩ := List.mem_iff_getElem.1 hx
  exact h j (by omega) hj
theorem openAt_at : ∀ {s : List UInt8} (k : Nat) (hk : k < s.length), (∀ j (_ : j < k) (hj2 : j < s.length), s[j] ≠ 40) → s[k] = 40 → openAt s = k
  | [], k, hk, _, _ => by simp at hk
  | b :: s, 0, hk, _, h0 => by
    have : b = 40 := by simpa using h0
    simp [openAt, this]
  | b :: s, k + 1, hk, h, h0 => by
    have h1 : b ≠ 40 := h 0 (by omega) (by omega)
    have h2 := openAt_at (s := s) k (by simpa using hk) (fun j hj hj2 => h (j + 1) (by omega) (by simpa using hj2)) (by simpa using h0)
    unfold openAt at h2 ⊢
    rw [List.takeWhile_cons, if_pos (by simpa using h1), List.length_cons, h2]

end Go.Proofs.YtnfghgaadnobbaaGreatDoor
