/-
  Texts joined in one file: EncC, DecK, DecK2, ForQ, EncW, EncX, ForE, DecR, HarnL, DecL, DecN, DecT, ForS, ForT, ForU, ForW, DecO, LawDecodeFormula, LabZ, OpenC.
-/
import Derived.Test.YthoacpecfmfeiaaGreatDoorZG1
import Derived.Test.YthoacpecfmfeiaaGreatDoorZG2
import Derived.IntWalk
import Derived.Laws.Bits64b
import Derived.Lib.AppendStr
import Derived.Deep.DeepCutAuto
import Derived.Deep.QuietTactic
import Derived.BigQuiet
import Derived.Lib.LaidTab
import Derived.Stop.LaidErr
import Derived.HandedShaped
import Derived.Handed
import Derived.Shelf.Vars
/-
  The check value: what both sides' calls return.
-/
namespace Go.Proofs.YthoacpecfmfeiaaGreatDoor
open Go.RowKit

theorem bits_xor_i64_nat (a b : Nat) (ha : a < 4294967296) (hb : b < 4294967296) : bits .xor .i64 (a : Int) (b : Int) = ((a ^^^ b : Nat) : Int) := by
  have hx : a ^^^ b < 2 ^ 32 := Nat.xor_lt_two_pow (by omega) (by omega)
  have h1 : (BitVec.ofInt 64 (a : Int)).toNat = a := by
    rw [BitVec.ofInt_natCast, BitVec.toNat_ofNat]; exact Nat.mod_eq_of_lt (by omega)
  have h2 : (BitVec.ofInt 64 (b : Int)).toNat = b := by
    rw [BitVec.ofInt_natCast, BitVec.toNat_ofNat]; exact Nat.mod_eq_of_lt (by omega)
  show IntKind.i64.wrap ((BitVec.ofInt 64 (a : Int) ^^^ BitVec.ofInt 64 (b : Int)).toNat : Int) = _
  rw [BitVec.toNat_xor, h1, h2]
  exact IntWalk.i64_in _ (by omega)
theorem bits_and_i64_nat (a b : Nat) (ha : a < 4294967296) (hb : b < 4294967296) : bits .and .i64 (a : Int) (b : Int) = ((a &&& b : Nat) : Int) := by
  have hx : a &&& b < 2 ^ 32 := Nat.and_lt_two_pow _ (by omega)
  have h1 : (BitVec.ofInt 64 (a : Int)).toNat = a := by
    rw [BitVec.ofInt_natCast, BitVec.toNat_ofNat]; exact Nat.mod_eq_of_lt (by omega)
  have h2 : (BitVec.ofInt 64 (b : Int)).toNat = b := by
    rw [BitVec.ofInt_natCast, BitVec.toNat_ofNat]; exact Nat.mod_eq_of_lt (by omega)
  show IntKind.i64.wrap ((BitVec.ofInt 64 (a : Int) &&& BitVec.ofInt 64 (b : Int)).toNat : Int) = _
  rw [BitVec.toNat_and, h1, h2]
  exact IntWalk.i64_in _ (by omega)

set_option maxRecDepth 20000 in
set_option maxHeartbeats 2000000 in
theorem crcS (l : List UInt8) (c0 : Nat) (w : World) (hl : l.length ≤ 2000000) (hc : c0 < 65536) : Calls Tryz.prog 51 #[es l, .int .i64 c0] w fun e w' => e = .returned (.int .i64 (crcL l c0 : Nat)) ∧ w = w' := by
  go_enter Tryz.func51, Tryz.ntmps51
  go_wp2_with fail
  go_loop [1, 5] (fun cv iv => ∃ k c : Nat, k ≤ l.length ∧ iv = .int .i64 k ∧ cv = .int .i64 c ∧ c < 65536 ∧ Hid (crcL (l.drop k) c = crcL l c0)) (fun _ iv => l.length - (intOf iv).toNat)
  case atStart => exact ⟨0, c0, Nat.zero_le _, rfl, rfl, hc, Lib.hid rfl⟩
  case round =>
    obtain ⟨k, c, hk, rfl, rfl, hc1, HC⟩ := hrel
    by_cases hlt : k < l.length
    · obtain ⟨b, hb⟩ : ∃ b, l[k] = b := ⟨_, rfl⟩
      have hix : (⟨l.toArray⟩ : ByteArray)[k]'(by simpa [ByteArray.size] using hlt) = b := by rw [← hb]; simp [ByteArray.getElem_eq_getElem_data]
      have hb1 : (b.toNat : Int) ≤ 255 := by have := b.toNat_lt; omega
      have hb0 : (0 : Int) ≤ (b.toNat : Int) := by omega
      obtain ⟨X, hX⟩ : ∃ X, c ^^^ (b.toNat * 256) = X := ⟨_, rfl⟩
      have hXl : X < 65536 := by rw [← hX]; exact crcX_lt b hc1
      have hxor : bits BinOp.xor IntKind.i64 (c : Int) ((b.toNat : Int) * 256) = (X : Int) := by
        rw [← hX]
        have := bits_xor_i64_nat c (b.toNat * 256) (by omega) (by have := b.toNat_lt; omega)
        rw [← this]; congr 1
      have HC2 := Lib.hid (show crcL (l.drop (k + 1)) (crcN 8 X) = crcL l c0 by
        rw [← HC.out, List.drop_eq_getElem_cons hlt, hb, crcL, crcY, hX])
      clear hb hX HC
      go_wp2_with fail
      clear hxor hix
      go_loop [1, 6] (fun cv iv => ∃ j d : Nat, j ≤ 8 ∧ iv = .int .i64 j ∧ cv = .int .i64 d ∧ d < 65536 ∧ Hid (crcN (8 - j) d = crcN 8 X)) (fun _ iv => 8 - (intOf iv).toNat)
      case atStart => exact ⟨0, X, by omega, rfl, rfl, hXl, Lib.hid rfl⟩
      case round =>
        obtain ⟨j, d, hj, rfl, rfl, hd, HD⟩ := hrel
        by_cases hj8 : j < 8
        · have HD2 := Lib.hid (show crcN (8 - (j + 1)) (crcB d) = crcN 8 X by
            rw [← HD.out, show 8 - j = (8 - (j + 1)) + 1 by omega]; rfl)
          have HBL := Lib.hid (crcB_lt hd)
          clear HD
          by_cases hbig : 65535 < d * 2
          · obtain ⟨Y, hY⟩ : ∃ Y, (d * 2) &&& 65535 = Y := ⟨_, rfl⟩
            obtain ⟨Z, hZ⟩ : ∃ Z, Y ^^^ 4129 = Z := ⟨_, rfl⟩
            have hYl : Y ≤ 65535 := by rw [← hY]; exact Nat.and_le_right
            have f1 : bits BinOp.and IntKind.i64 ((d : Int) * 2) 65535 = (Y : Int) := by
              rw [← hY]; exact bits_and_i64_nat (d * 2) 65535 (by omega) (by omega)
            have f2 : bits BinOp.xor IntKind.i64 (Y : Int) 4129 = (Z : Int) := by
              rw [← hZ]; exact bits_xor_i64_nat Y 4129 (by omega) (by omega)
            have HB := Lib.hid (show crcB d = Z by unfold crcB; rw [if_pos hbig, hY, hZ])
            have hg : (65535 : Int) < (d : Int) * 2 := by omega
            clear hY hZ hbig
            go_wp2_with fail
            clear f1 f2
            go_round
            case rel => exact ⟨j + 1, Z, by omega, by go_num, rfl, by rw [← HB.out]; exact HBL.out, Lib.hid (by rw [← HB.out]; exact HD2.out)⟩
            case measure => simp [intOf]; omega
          · have HB := Lib.hid (show crcB d = d * 2 by unfold crcB; rw [if_neg hbig])
            have hg : ¬ (65535 : Int) < (d : Int) * 2 := by omega
            go_wp2_with fail
            go_round
            case rel => exact ⟨j + 1, d * 2, by omega, by go_num, by go_num, by omega, Lib.hid (by rw [← HB.out]; exact HD2.out)⟩
            case measure => simp [intOf]; omega
        · obtain rfl : j = 8 := by omega
          have HQ := Lib.hid (show d = crcN 8 X by rw [← HD.out]; rfl)
          clear HD
          go_wp2_with fail
          go_round
          case rel => exact ⟨k + 1, d, by omega, by go_num, rfl, hd, Lib.hid (by rw [HQ.out]; exact HC2.out)⟩
          case measure => simp [intOf]; omega
    · obtain rfl : k = l.length := by omega
      have HE := Lib.hid (show c = crcL l c0 by rw [← HC.out, List.drop_of_length_le (Nat.le_refl _)]; rfl)
      clear HC
      go_wp2_with fail
      go_ret
      exact ⟨by rw [← HE.out]; rfl, rfl⟩

set_option maxRecDepth 20000 in
set_option maxHeartbeats 2000000 in
theorem crcI (l : List UInt8) (c0 : Nat) (w : World) (hl : l.length ≤ 2000000) (hc : c0 < 65536) : Calls Tryz.prog 44 #[es l, .int .i64 c0] w fun e w' => e = .returned (.int .i64 (crcL l c0 : Nat)) ∧ w = w' := by
  have S0 := within (c0 : Int) 0 65535 w
  rw [inB_mk (show 0 ≤ (c0 : Int) ∧ (c0 : Int) ≤ 65535 by omega)] at S0
  have HS0 := Lib.hid S0
  clear S0
  go_enter Tryz.func44, Tryz.ntmps44
  go_wp2_with fail
  refine HS0.out.mono ?_
  rintro e w1 ⟨rfl, rfl⟩
  clear HS0
  go_wp2_with fail
  go_loop [5, 13] (fun cv iv => ∃ k c : Nat, k ≤ l.length ∧ iv = .int .i64 k ∧ cv = .int .i64 c ∧ c < 65536 ∧ Hid (crcL (l.drop k) c = crcL l c0)) (fun _ iv => l.length - (intOf iv).toNat)
  case atStart => exact ⟨0, c0, Nat.zero_le _, rfl, rfl, hc, Lib.hid rfl⟩
  case round =>
    obtain ⟨k, c, hk, rfl, rfl, hc1, HC⟩ := hrel
    by_cases hlt : k < l.length
    · obtain ⟨b, hb⟩ : ∃ b, l[k] = b := ⟨_, rfl⟩
      have hix : (⟨l.toArray⟩ : ByteArray)[k]'(by simpa [ByteArray.size] using hlt) = b := by rw [← hb]; simp [ByteArray.getElem_eq_getElem_data]
      have hb1 : (b.toNat : Int) ≤ 255 := by have := b.toNat_lt; omega
      have hb0 : (0 : Int) ≤ (b.toNat : Int) := by omega
      obtain ⟨X, hX⟩ : ∃ X, c ^^^ (b.toNat * 256) = X := ⟨_, rfl⟩
      have hXl : X < 65536 := by rw [← hX]; exact crcX_lt b hc1
      have hxor : bits BinOp.xor IntKind.i64 (c : Int) ((b.toNat : Int) * 256) = (X : Int) := by
        rw [← hX]
        have := bits_xor_i64_nat c (b.toNat * 256) (by omega) (by have := b.toNat_lt; omega)
        rw [← this]; congr 1
      have HC2 := Lib.hid (show crcL (l.drop (k + 1)) (crcN 8 X) = crcL l c0 by
        rw [← HC.out, List.drop_eq_getElem_cons hlt, hb, crcL, crcY, hX])
      clear hb hX HC
      go_wp2_with fail
      clear hxor hix
      go_loop [5, 23] (fun cv iv => ∃ j d : Nat, j ≤ 8 ∧ iv = .int .i64 j ∧ cv = .int .i64 d ∧ d < 65536 ∧ Hid (crcN (8 - j) d = crcN 8 X)) (fun _ iv => 8 - (intOf iv).toNat)
      case atStart => exact ⟨0, X, by omega, rfl, rfl, hXl, Lib.hid rfl⟩
      case round =>
        obtain ⟨j, d, hj, rfl, rfl, hd, HD⟩ := hrel
        by_cases hj8 : j < 8
        · have HD2 := Lib.hid (show crcN (8 - (j + 1)) (crcB d) = crcN 8 X by
            rw [← HD.out, show 8 - j = (8 - (j + 1)) + 1 by omega]; rfl)
          have HBL := Lib.hid (crcB_lt hd)
          clear HD
          by_cases hbig : 65535 < d * 2
          · obtain ⟨Y, hY⟩ : ∃ Y, (d * 2) &&& 65535 = Y := ⟨_, rfl⟩
            obtain ⟨Z, hZ⟩ : ∃ Z, Y ^^^ 4129 = Z := ⟨_, rfl⟩
            have hYl : Y ≤ 65535 := by rw [← hY]; exact Nat.and_le_right
            have f1 : bits BinOp.and IntKind.i64 ((d : Int) * 2) 65535 = (Y : Int) := by
              rw [← hY]; exact bits_and_i64_nat (d * 2) 65535 (by omega) (by omega)
            have f2 : bits BinOp.xor IntKind.i64 (Y : Int) 4129 = (Z : Int) := by
              rw [← hZ]; exact bits_xor_i64_nat Y 4129 (by omega) (by omega)
            have HB := Lib.hid (show crcB d = Z by unfold crcB; rw [if_pos hbig, hY, hZ])
            have hg : (65535 : Int) < (d : Int) * 2 := by omega
            clear hY hZ hbig
            go_wp2_with fail
            clear f1 f2
            go_round
            case rel => exact ⟨j + 1, Z, by omega, by go_num, rfl, by rw [← HB.out]; exact HBL.out, Lib.hid (by rw [← HB.out]; exact HD2.out)⟩
            case measure => simp [intOf]; omega
          · have HB := Lib.hid (show crcB d = d * 2 by unfold crcB; rw [if_neg hbig])
            have hg : ¬ (65535 : Int) < (d : Int) * 2 := by omega
            go_wp2_with fail
            go_round
            case rel => exact ⟨j + 1, d * 2, by omega, by go_num, by go_num, by omega, Lib.hid (by rw [← HB.out]; exact HD2.out)⟩
            case measure => simp [intOf]; omega
        · obtain rfl : j = 8 := by omega
          have HQ := Lib.hid (show d = crcN 8 X by rw [← HD.out]; rfl)
          clear HD
          go_wp2_with fail
          go_round
          case rel => exact ⟨k + 1, d, by omega, by go_num, rfl, hd, Lib.hid (by rw [HQ.out]; exact HC2.out)⟩
          case measure => simp [intOf]; omega
    · obtain rfl : k = l.length := by omega
      have HE := Lib.hid (show c = crcL l c0 by rw [← HC.out, List.drop_of_length_le (Nat.le_refl _)]; rfl)
      clear HC
      go_wp2_with fail
      go_ret
      exact ⟨by rw [← HE.out]; rfl, rfl⟩

end Go.Proofs.YthoacpecfmfeiaaGreatDoor

/-
  The kind of an image, and the reader of its contents: what both sides' calls return.
-/
namespace Go.Proofs.YthoacpecfmfeiaaGreatDoor
open Go.RowKit

theorem kindF_short {s : List UInt8} (h : s.length < 3) : kindF s = (0, 11) := by unfold kindF; rw [if_pos h]
theorem kindF_bad {s : List UInt8} (h : ¬ s.length < 3) (h1 : chkF s ≠ crcL (s.take (s.length - 2)) 65535) : kindF s = (0, 10) := by unfold kindF; rw [if_neg h, if_pos h1]
theorem kindF_form {s : List UInt8} (h : ¬ s.length < 3) (h1 : chkF s = crcL (s.take (s.length - 2)) 65535) (h2 : inB (k0F s : Int) 1 3 = false ∨ 6000 < s.length) : kindF s = (0, 9) := by
  unfold kindF; rw [if_neg h, if_neg (by simpa using h1), if_pos h2]
theorem kindF_ok {s : List UInt8} (h : ¬ s.length < 3) (h1 : chkF s = crcL (s.take (s.length - 2)) 65535) (h2 : inB (k0F s : Int) 1 3 = true) (h3 : ¬ 6000 < s.length) : kindF s = (k0F s, 0) := by
  unfold kindF; rw [if_neg h, if_neg (by simpa using h1), if_neg (by rw [h2]; simpa using h3)]
theorem at_byte {s : List UInt8} {i : Nat} (h : i < s.length) : ∃ hs, (⟨s.toArray⟩ : ByteArray)[i]'hs = s.getD i 0 := by
  refine ⟨by simpa [ByteArray.size] using h, ?_⟩
  simp [ByteArray.getElem_eq_getElem_data, List.getElem?_eq_getElem h]

set_option maxRecDepth 20000 in
set_option maxHeartbeats 4000000 in
theorem kindI (s : List UInt8) (w : World) (hs : s.length ≤ 2000000) : Calls Tryz.prog 46 #[es s] w fun e w' => e = .returned (.tuple #[.int .i64 (kindF s).1, .int .i64 (kindF s).2]) ∧ Upd [] w w' := by
  by_cases h3 : s.length < 3
  · have HK := Lib.hid (kindF_short h3)
    have h3' : (s.length : Int) < 3 := by omega
    go_enter Tryz.func46, Tryz.ntmps46
    go_wp2_with fail
    go_ret2
    exact ⟨by rw [HK.out]; rfl, Upd.refl _ _⟩
  · obtain ⟨M, hM⟩ : ∃ M : Nat, s.length = M + 2 := ⟨s.length - 2, by omega⟩
    have e1 : s.length - 2 = M := by omega
    have e2 : s.length - 1 = M + 1 := by omega
    have HKB := Lib.hid (kindF_bad h3)
    have HKF := Lib.hid (kindF_form h3)
    have HKO := Lib.hid (kindF_ok h3)
    have hch : chkF s = (s.getD M 0).toNat * 256 + (s.getD (M + 1) 0).toNat := by unfold chkF; rw [e1, e2]
    rw [e1] at HKB HKF HKO
    have hext := extract_list s 0 M
    rw [List.drop_zero, Nat.sub_zero] at hext
    obtain ⟨z0, b0⟩ := at_byte (s := s) (i := 0) (by omega)
    obtain ⟨z1, b1⟩ := at_byte (s := s) (i := M) (by omega)
    obtain ⟨z2, b2⟩ := at_byte (s := s) (i := M + 1) (by omega)
    have S1 := Lib.hid (fun W => crcI (s.take M) 65535 W (by simp; omega) (by omega))
    have S2 := Lib.hid (fun W : World => within (k0F s : Int) 1 3 W)
    have hk0 : (k0F s : Int) ≤ 255 := by unfold k0F; have := (s.getD 0 0).toNat_lt; omega
    have hcc : (chkF s : Int) ≤ 65535 := by rw [hch]; have := (s.getD M 0).toNat_lt; have := (s.getD (M + 1) 0).toNat_lt; omega
    have hchk : ((s.getD M 0).toNat : Int) * 256 + ((s.getD (M + 1) 0).toNat : Int) = (chkF s : Int) := by rw [hch]; omega
    have hkk : ((s.getD 0 0).toNat : Int) = (k0F s : Int) := rfl
    generalize (s.getD M 0) = x1 at *
    generalize (s.getD (M + 1) 0) = x2 at *
    generalize (s.getD 0 0) = x0 at *
    generalize s.take M = body at *
    generalize crcL body 65535 = c at *
    have hx1 : (x1.toNat : Int) ≤ 255 := by have := x1.toNat_lt; omega
    have hx2 : (x2.toNat : Int) ≤ 255 := by have := x2.toNat_lt; omega
    have hMl : M ≤ 2000000 := by omega
    have hMi : ¬ (M : Int) + 2 < 3 := by omega
    have hm1 : (M : Int) + 2 - 1 = (M : Int) + 1 := by omega
    have hm2 : 0 ≤ (M : Int) + 1 := by omega
    have hm4 : (M : Int) ≤ (M : Int) + 2 := by omega
    have hm3 : ((M : Int) + 1).toNat = M + 1 := by omega
    clear e1 e2 hch hs
    by_cases hc : chkF s = c
    · have hc1 : ((chkF s : Int) != (c : Int)) = false := by simp [hc]
      cases hin : inB (k0F s : Int) 1 3 with
      | false =>
        have HR := Lib.hid (HKF.out hc (Or.inl hin))
        rw [hin] at S2
        clear HKB HKF HKO hin hc
        go_enter Tryz.func46, Tryz.ntmps46
        go_wp2_with fail
        refine (S1.out _).mono ?_
        rintro e w1 ⟨rfl, rfl⟩
        clear S1
        go_wp2_with fail
        go_quiet (fail)
        go_wp2_with fail
        refine (S2.out _).mono ?_
        rintro e w1 ⟨rfl, rfl⟩
        clear S2
        go_wp2_with fail
        go_ret2
        exact ⟨by rw [HR.out]; rfl, (Upd.refl _ _).drewN _⟩
      | true =>
        by_cases hbig : 6000 < s.length
        · have HR := Lib.hid (HKF.out hc (Or.inr hbig))
          have hb2 : (6000 : Int) < (M : Int) + 2 := by omega
          rw [hin] at S2
          clear HKB HKF HKO hin hc hbig
          go_enter Tryz.func46, Tryz.ntmps46
          go_wp2_with fail
          refine (S1.out _).mono ?_
          rintro e w1 ⟨rfl, rfl⟩
          clear S1
          go_wp2_with fail
          go_quiet (fail)
          go_wp2_with fail
          refine (S2.out _).mono ?_
          rintro e w1 ⟨rfl, rfl⟩
          have hb3 : (6000 : Int) < (s.length : Int) := by omega
          clear S2 hMi hm1 hm2 hm3 hm4 hMl hext b0 b1 b2 hchk hkk hb2 hM
          go_wp2_with fail
          go_ret2
          exact ⟨by rw [HR.out]; rfl, (Upd.refl _ _).drewN _⟩
        · have HR := Lib.hid (HKO.out hc hin hbig)
          have hb2 : ¬ (6000 : Int) < (M : Int) + 2 := by omega
          rw [hin] at S2
          clear HKB HKF HKO hin hc hbig
          go_enter Tryz.func46, Tryz.ntmps46
          go_wp2_with fail
          refine (S1.out _).mono ?_
          rintro e w1 ⟨rfl, rfl⟩
          clear S1
          go_wp2_with fail
          go_quiet (fail)
          go_wp2_with fail
          refine (S2.out _).mono ?_
          rintro e w1 ⟨rfl, rfl⟩
          have hb3 : ¬ (6000 : Int) < (s.length : Int) := by omega
          clear S2 hMi hm1 hm2 hm3 hm4 hMl hext b0 b1 b2 hchk hkk hb2 hM
          go_wp2_with fail
          go_ret2
          exact ⟨by rw [HR.out]; rfl, (Upd.refl _ _).drewN _⟩
    · have hc1 : ((chkF s : Int) != (c : Int)) = true := by simp; omega
      have HR := Lib.hid (HKB.out hc)
      clear HKB HKF HKO S2
      go_enter Tryz.func46, Tryz.ntmps46
      go_wp2_with fail
      refine (S1.out _).mono ?_
      rintro e w1 ⟨rfl, rfl⟩
      clear S1
      go_wp2_with fail
      go_quiet (fail)
      go_wp2_with fail
      go_ret2
      exact ⟨by rw [HR.out]; rfl, (Upd.refl _ _).drewN _⟩

set_option maxRecDepth 20000 in
set_option maxHeartbeats 4000000 in
theorem kindS (s : List UInt8) (w : World) (hs : s.length ≤ 2000000) : Calls Tryz.prog 45 #[es s] w fun e w' => e = .returned (.tuple #[.int .i64 (kindF s).1, .int .i64 (kindF s).2]) ∧ Upd [] w w' := by
  by_cases h3 : s.length < 3
  · have HK := Lib.hid (kindF_short h3)
    have h3' : (s.length : Int) < 3 := by omega
    go_enter Tryz.func45, Tryz.ntmps45
    go_wp2_with fail
    go_ret2
    exact ⟨by rw [HK.out]; rfl, Upd.refl _ _⟩
  · obtain ⟨M, hM⟩ : ∃ M : Nat, s.length = M + 2 := ⟨s.length - 2, by omega⟩
    have e1 : s.length - 2 = M := by omega
    have e2 : s.length - 1 = M + 1 := by omega
    have HKB := Lib.hid (kindF_bad h3)
    have HKF := Lib.hid (kindF_form h3)
    have HKO := Lib.hid (kindF_ok h3)
    have hch : chkF s = (s.getD M 0).toNat * 256 + (s.getD (M + 1) 0).toNat := by unfold chkF; rw [e1, e2]
    rw [e1] at HKB HKF HKO
    have hext := extract_list s 0 M
    rw [List.drop_zero, Nat.sub_zero] at hext
    obtain ⟨z0, b0⟩ := at_byte (s := s) (i := 0) (by omega)
    obtain ⟨z1, b1⟩ := at_byte (s := s) (i := M) (by omega)
    obtain ⟨z2, b2⟩ := at_byte (s := s) (i := M + 1) (by omega)
    have S1 := Lib.hid (fun (W : World) (n : Nat) => (crcS (s.take M) 65535 (W.drewN n) (by simp; omega) (by omega)).mono (fun e w' h => (⟨h.1, n, h.2.symm⟩ : _ ∧ ∃ m, w' = W.drewN m)))
    have S2 := Lib.hid (fun W : World => l00In (k0F s : Int) 1 3 W)
    have hk0 : (k0F s : Int) ≤ 255 := by unfold k0F; have := (s.getD 0 0).toNat_lt; omega
    have hcc : (chkF s : Int) ≤ 65535 := by rw [hch]; have := (s.getD M 0).toNat_lt; have := (s.getD (M + 1) 0).toNat_lt; omega
    have hchk : ((s.getD M 0).toNat : Int) * 256 + ((s.getD (M + 1) 0).toNat : Int) = (chkF s : Int) := by rw [hch]; omega
    have hkk : ((s.getD 0 0).toNat : Int) = (k0F s : Int) := rfl
    generalize (s.getD M 0) = x1 at *
    generalize (s.getD (M + 1) 0) = x2 at *
    generalize (s.getD 0 0) = x0 at *
    generalize s.take M = body at *
    generalize crcL body 65535 = c at *
    have hx1 : (x1.toNat : Int) ≤ 255 := by have := x1.toNat_lt; omega
    have hx2 : (x2.toNat : Int) ≤ 255 := by have := x2.toNat_lt; omega
    have hMl : M ≤ 2000000 := by omega
    have hMi : ¬ (M : Int) + 2 < 3 := by omega
    have hm1 : (M : Int) + 2 - 1 = (M : Int) + 1 := by omega
    have hm2 : 0 ≤ (M : Int) + 1 := by omega
    have hm4 : (M : Int) ≤ (M : Int) + 2 := by omega
    have hm3 : ((M : Int) + 1).toNat = M + 1 := by omega
    clear e1 e2 hch hs
    by_cases hc : chkF s = c
    · have hc1 : ((c : Int) != (chkF s : Int)) = false := by simp [hc]
      cases hin : inB (k0F s : Int) 1 3 with
      | false =>
        have HR := Lib.hid (HKF.out hc (Or.inl hin))
        rw [hin] at S2
        clear HKB HKF HKO hin hc
        go_enter Tryz.func45, Tryz.ntmps45
        go_wp2_with fail
        go_quiet ((go_at_call 51; exact S1.out _ _))
        clear S1
        go_wp2_with fail
        refine (S2.out _).mono ?_
        rintro e w1 ⟨rfl, rfl⟩
        clear S2
        go_wp2_with fail
        go_ret2
        exact ⟨by rw [HR.out]; rfl, (Upd.refl _ _).drewN _⟩
      | true =>
        by_cases hbig : 6000 < s.length
        · have HR := Lib.hid (HKF.out hc (Or.inr hbig))
          have hb2 : (6000 : Int) < (M : Int) + 2 := by omega
          rw [hin] at S2
          clear HKB HKF HKO hin hc hbig
          go_enter Tryz.func45, Tryz.ntmps45
          go_wp2_with fail
          go_quiet ((go_at_call 51; exact S1.out _ _))
          clear S1
          go_wp2_with fail
          refine (S2.out _).mono ?_
          rintro e w1 ⟨rfl, rfl⟩
          obtain ⟨Z, hZ⟩ : ∃ Z : Int, (M : Int) + 2 = Z := ⟨_, rfl⟩
          rw [hZ]
          have hb3 : (6000 : Int) < Z := by omega
          clear hZ
          clear S2 hMi hm1 hm2 hm3 hm4 hMl hext b0 b1 b2 hchk hkk hb2 hM
          go_wp2_with fail
          go_ret2
          exact ⟨by rw [HR.out]; rfl, (Upd.refl _ _).drewN _⟩
        · have HR := Lib.hid (HKO.out hc hin hbig)
          have hb2 : ¬ (6000 : Int) < (M : Int) + 2 := by omega
          rw [hin] at S2
          clear HKB HKF HKO hin hc hbig
          go_enter Tryz.func45, Tryz.ntmps45
          go_wp2_with fail
          go_quiet ((go_at_call 51; exact S1.out _ _))
          clear S1
          go_wp2_with fail
          refine (S2.out _).mono ?_
          rintro e w1 ⟨rfl, rfl⟩
          obtain ⟨Z, hZ⟩ : ∃ Z : Int, (M : Int) + 2 = Z := ⟨_, rfl⟩
          rw [hZ]
          have hb3 : ¬ (6000 : Int) < Z := by omega
          clear hZ
          clear S2 hMi hm1 hm2 hm3 hm4 hMl hext b0 b1 b2 hchk hkk hb2 hM
          go_wp2_with fail
          go_ret2
          exact ⟨by rw [HR.out]; rfl, (Upd.refl _ _).drewN _⟩
    · have hc1 : ((c : Int) != (chkF s : Int)) = true := by simp; omega
      have HR := Lib.hid (HKB.out hc)
      clear HKB HKF HKO S2
      go_enter Tryz.func45, Tryz.ntmps45
      go_wp2_with fail
      go_quiet ((go_at_call 51; exact S1.out _ _))
      clear S1
      go_wp2_with fail
      go_ret2
      exact ⟨by rw [HR.out]; rfl, (Upd.refl _ _).drewN _⟩

theorem mid_ext {s : List UInt8} {M : Nat} (hM : s.length = M + 3) : (⟨s.toArray⟩ : ByteArray).extract 1 (M + 1) = ⟨(midL s).toArray⟩ := by
  rw [extract_list]
  unfold midL
  rw [hM, List.drop_take]
  simp

set_option maxRecDepth 20000 in
set_option maxHeartbeats 4000000 in
theorem contI (s : List UInt8) (w : World) (hs : s.length ≤ 2000000) : Calls Tryz.prog 27 #[es s, .int .i64 1] w fun e w' => Upd [] w w' ∧
    ((opF s ≠ 0 ∧ e = .returned (.tuple #[.pointer none, .int .i64 (opF s)])) ∨ (opF s = 0 ∧ ∃ p, w.heap.size ≤ p ∧ e = .returned (.tuple #[.pointer (some ⟨p, 0, none⟩), .int .i64 0]) ∧ w'.heap[p]? = some (.cells #[es (midL s), .bool false] 58 (0, 0)))) := by
  have S1 := Lib.hid (kindI s w hs)
  have HO := Lib.hid (show opF s = if (kindF s).2 ≠ 0 then (kindF s).2 else if (kindF s).1 ≠ 1 then 6 else 0 from rfl)
  obtain ⟨hk2, hk1⟩ := kind_code_le s
  have HL := Lib.hid (fun h => @opF_len s h)
  generalize opF s = o at *
  generalize (kindF s).1 = k1 at *
  generalize (kindF s).2 = k2 at *
  by_cases h2 : k2 = 0
  · subst h2
    have b2 : ((0 : Int) != 0) = false := by decide
    by_cases h1 : k1 = 1
    · subst h1
      have HO2 := Lib.hid (show o = 0 by rw [HO.out]; simp)
      have h3 := HL.out HO2.out
      obtain ⟨M, hM⟩ : ∃ M : Nat, s.length = M + 3 := ⟨s.length - 3, by omega⟩
      have hext := mid_ext hM
      have hm1 : (M : Int) + 3 - 2 = (M : Int) + 1 := by omega
      have hm2 : 0 ≤ (M : Int) + 1 := by omega
      have hm3 : ((M : Int) + 1).toNat = M + 1 := by omega
      have hMl : M ≤ 2000000 := by omega
      generalize midL s = R at *
      clear HO HL h3 hs hk1 hk2
      go_enter Tryz.func27, Tryz.ntmps27
      go_wp2_with fail
      refine S1.out.mono ?_
      rintro e w1 ⟨rfl, hu1⟩
      have HU := Lib.hid hu1
      have hsz := hu1.size
      clear S1 hu1
      go_wp2_with fail
      go_ret2
      exact ⟨HU.out.alloc _, Or.inr ⟨HO2.out, w1.heap.size, hsz, rfl, by simpa using heap_alloc_new w1 (.cells #[es R, .bool false] 58)⟩⟩
    · have HO2 := Lib.hid (show o = 6 by rw [HO.out]; simp [h1])
      have b1 : ((k1 : Int) != 1) = true := by simp; omega
      clear HO HL h1
      go_enter Tryz.func27, Tryz.ntmps27
      go_wp2_with fail
      refine S1.out.mono ?_
      rintro e w1 ⟨rfl, hu1⟩
      have HU := Lib.hid hu1
      clear S1 hu1
      go_wp2_with fail
      go_ret2
      exact ⟨HU.out, Or.inl ⟨by rw [HO2.out]; decide, by rw [HO2.out]; rfl⟩⟩
  · have HO2 := Lib.hid (show o = k2 by rw [HO.out, if_pos h2])
    have b2 : ((k2 : Int) != 0) = true := by simpa using h2
    have H2 := Lib.hid h2
    clear HO HL h2
    go_enter Tryz.func27, Tryz.ntmps27
    go_wp2_with fail
    refine S1.out.mono ?_
    rintro e w1 ⟨rfl, hu1⟩
    have HU := Lib.hid hu1
    clear S1 hu1
    go_wp2_with fail
    go_ret2
    exact ⟨HU.out, Or.inl ⟨by rw [HO2.out]; exact H2.out, by rw [HO2.out]; rfl⟩⟩

set_option maxRecDepth 20000 in
set_option maxHeartbeats 4000000 in
theorem contS (s : List UInt8) (w : World) (hs : s.length ≤ 2000000) : Calls Tryz.prog 24 #[es s, .int .i64 1] w fun e w' => Upd [] w w' ∧
    ((opF s ≠ 0 ∧ e = .returned (.tuple #[.pointer none, .int .i64 (opF s)])) ∨ (opF s = 0 ∧ ∃ p, w.heap.size ≤ p ∧ e = .returned (.tuple #[.pointer (some ⟨p, 0, none⟩), .int .i64 0]) ∧ w'.heap[p]? = some (.cells #[es (midL s), .int .i64 0, .bool false] 53 (0, 0)))) := by
  have S1 := Lib.hid (kindS s w hs)
  have HO := Lib.hid (show opF s = if (kindF s).2 ≠ 0 then (kindF s).2 else if (kindF s).1 ≠ 1 then 6 else 0 from rfl)
  obtain ⟨hk2, hk1⟩ := kind_code_le s
  have HL := Lib.hid (fun h => @opF_len s h)
  generalize opF s = o at *
  generalize (kindF s).1 = k1 at *
  generalize (kindF s).2 = k2 at *
  by_cases h2 : k2 = 0
  · subst h2
    have b2 : ((0 : Int) != 0) = false := by decide
    by_cases h1 : k1 = 1
    · subst h1
      have HO2 := Lib.hid (show o = 0 by rw [HO.out]; simp)
      have h3 := HL.out HO2.out
      obtain ⟨M, hM⟩ : ∃ M : Nat, s.length = M + 3 := ⟨s.length - 3, by omega⟩
      have hext := mid_ext hM
      have hm1 : (M : Int) + 3 - 2 = (M : Int) + 1 := by omega
      have hm2 : 0 ≤ (M : Int) + 1 := by omega
      have hm3 : ((M : Int) + 1).toNat = M + 1 := by omega
      have hMl : M ≤ 2000000 := by omega
      generalize midL s = R at *
      clear HO HL h3 hs hk1 hk2
      go_enter Tryz.func24, Tryz.ntmps24
      go_wp2_with fail
      refine S1.out.mono ?_
      rintro e w1 ⟨rfl, hu1⟩
      have HU := Lib.hid hu1
      have hsz := hu1.size
      clear S1 hu1
      go_wp2_with fail
      go_ret2
      exact ⟨HU.out.alloc _, Or.inr ⟨HO2.out, w1.heap.size, hsz, rfl, by simpa using heap_alloc_new w1 (.cells #[es R, .int .i64 0, .bool false] 53)⟩⟩
    · have HO2 := Lib.hid (show o = 6 by rw [HO.out]; simp [h1])
      have b1 : ((k1 : Int) != 1) = true := by simp; omega
      clear HO HL h1
      go_enter Tryz.func24, Tryz.ntmps24
      go_wp2_with fail
      refine S1.out.mono ?_
      rintro e w1 ⟨rfl, hu1⟩
      have HU := Lib.hid hu1
      clear S1 hu1
      go_wp2_with fail
      go_ret2
      exact ⟨HU.out, Or.inl ⟨by rw [HO2.out]; decide, by rw [HO2.out]; rfl⟩⟩
  · have HO2 := Lib.hid (show o = k2 by rw [HO.out, if_pos h2])
    have b2 : ((k2 : Int) != 0) = true := by simpa using h2
    have H2 := Lib.hid h2
    clear HO HL h2
    go_enter Tryz.func24, Tryz.ntmps24
    go_wp2_with fail
    refine S1.out.mono ?_
    rintro e w1 ⟨rfl, hu1⟩
    have HU := Lib.hid hu1
    clear S1 hu1
    go_wp2_with fail
    go_ret2
    exact ⟨HU.out, Or.inl ⟨by rw [HO2.out]; exact H2.out, by rw [HO2.out]; rfl⟩⟩

end Go.Proofs.YthoacpecfmfeiaaGreatDoor

/-
  The reader of the contents of a formula's image: what both sides' calls return.
-/
namespace Go.Proofs.YthoacpecfmfeiaaGreatDoor
open Go.RowKit

/-- what opening a formula's image gives: 0, or a code. -/
def opF2 (s : List UInt8) : Nat := if (kindF s).2 ≠ 0 then (kindF s).2 else if (kindF s).1 ≠ 2 then 6 else 0
theorem opF2_len {s : List UInt8} (h : opF2 s = 0) : 3 ≤ s.length := by
  rcases Nat.lt_or_ge s.length 3 with h3 | h3
  · unfold opF2 kindF at h
    rw [if_pos h3] at h
    simp at h
  · exact h3

set_option maxRecDepth 20000 in
set_option maxHeartbeats 4000000 in
theorem contI2 (s : List UInt8) (w : World) (hs : s.length ≤ 2000000) : Calls Tryz.prog 27 #[es s, .int .i64 2] w fun e w' => Upd [] w w' ∧
    ((opF2 s ≠ 0 ∧ e = .returned (.tuple #[.pointer none, .int .i64 (opF2 s)])) ∨ (opF2 s = 0 ∧ ∃ p, w.heap.size ≤ p ∧ e = .returned (.tuple #[.pointer (some ⟨p, 0, none⟩), .int .i64 0]) ∧ w'.heap[p]? = some (.cells #[es (midL s), .bool false] 58 (0, 0)))) := by
  have S1 := Lib.hid (kindI s w hs)
  have HO := Lib.hid (show opF2 s = if (kindF s).2 ≠ 0 then (kindF s).2 else if (kindF s).1 ≠ 2 then 6 else 0 from rfl)
  obtain ⟨hk2, hk1⟩ := kind_code_le s
  have HL := Lib.hid (fun h => @opF2_len s h)
  generalize opF2 s = o at *
  generalize (kindF s).1 = k1 at *
  generalize (kindF s).2 = k2 at *
  by_cases h2 : k2 = 0
  · subst h2
    have b2 : ((0 : Int) != 0) = false := by decide
    by_cases h1 : k1 = 2
    · subst h1
      have HO2 := Lib.hid (show o = 0 by rw [HO.out]; simp)
      have h3 := HL.out HO2.out
      obtain ⟨M, hM⟩ : ∃ M : Nat, s.length = M + 3 := ⟨s.length - 3, by omega⟩
      have hext := mid_ext hM
      have hm1 : (M : Int) + 3 - 2 = (M : Int) + 1 := by omega
      have hm2 : 0 ≤ (M : Int) + 1 := by omega
      have hm3 : ((M : Int) + 1).toNat = M + 1 := by omega
      have hMl : M ≤ 2000000 := by omega
      generalize midL s = R at *
      clear HO HL h3 hs hk1 hk2
      go_enter Tryz.func27, Tryz.ntmps27
      go_wp2_with fail
      refine S1.out.mono ?_
      rintro e w1 ⟨rfl, hu1⟩
      have HU := Lib.hid hu1
      have hsz := hu1.size
      clear S1 hu1
      go_wp2_with fail
      go_ret2
      exact ⟨HU.out.alloc _, Or.inr ⟨HO2.out, w1.heap.size, hsz, rfl, by simpa using heap_alloc_new w1 (.cells #[es R, .bool false] 58)⟩⟩
    · have HO2 := Lib.hid (show o = 6 by rw [HO.out]; simp [h1])
      have b1 : ((k1 : Int) != 2) = true := by simp; omega
      clear HO HL h1
      go_enter Tryz.func27, Tryz.ntmps27
      go_wp2_with fail
      refine S1.out.mono ?_
      rintro e w1 ⟨rfl, hu1⟩
      have HU := Lib.hid hu1
      clear S1 hu1
      go_wp2_with fail
      go_ret2
      exact ⟨HU.out, Or.inl ⟨by rw [HO2.out]; decide, by rw [HO2.out]; rfl⟩⟩
  · have HO2 := Lib.hid (show o = k2 by rw [HO.out, if_pos h2])
    have b2 : ((k2 : Int) != 0) = true := by simpa using h2
    have H2 := Lib.hid h2
    clear HO HL h2
    go_enter Tryz.func27, Tryz.ntmps27
    go_wp2_with fail
    refine S1.out.mono ?_
    rintro e w1 ⟨rfl, hu1⟩
    have HU := Lib.hid hu1
    clear S1 hu1
    go_wp2_with fail
    go_ret2
    exact ⟨HU.out, Or.inl ⟨by rw [HO2.out]; exact H2.out, by rw [HO2.out]; rfl⟩⟩

set_option maxRecDepth 20000 in
set_option maxHeartbeats 4000000 in
theorem contS2 (s : List UInt8) (w : World) (hs : s.length ≤ 2000000) : Calls Tryz.prog 24 #[es s, .int .i64 2] w fun e w' => Upd [] w w' ∧
    ((opF2 s ≠ 0 ∧ e = .returned (.tuple #[.pointer none, .int .i64 (opF2 s)])) ∨ (opF2 s = 0 ∧ ∃ p, w.heap.size ≤ p ∧ e = .returned (.tuple #[.pointer (some ⟨p, 0, none⟩), .int .i64 0]) ∧ w'.heap[p]? = some (.cells #[es (midL s), .int .i64 0, .bool false] 53 (0, 0)))) := by
  have S1 := Lib.hid (kindS s w hs)
  have HO := Lib.hid (show opF2 s = if (kindF s).2 ≠ 0 then (kindF s).2 else if (kindF s).1 ≠ 2 then 6 else 0 from rfl)
  obtain ⟨hk2, hk1⟩ := kind_code_le s
  have HL := Lib.hid (fun h => @opF2_len s h)
  generalize opF2 s = o at *
  generalize (kindF s).1 = k1 at *
  generalize (kindF s).2 = k2 at *
  by_cases h2 : k2 = 0
  · subst h2
    have b2 : ((0 : Int) != 0) = false := by decide
    by_cases h1 : k1 = 2
    · subst h1
      have HO2 := Lib.hid (show o = 0 by rw [HO.out]; simp)
      have h3 := HL.out HO2.out
      obtain ⟨M, hM⟩ : ∃ M : Nat, s.length = M + 3 := ⟨s.length - 3, by omega⟩
      have hext := mid_ext hM
      have hm1 : (M : Int) + 3 - 2 = (M : Int) + 1 := by omega
      have hm2 : 0 ≤ (M : Int) + 1 := by omega
      have hm3 : ((M : Int) + 1).toNat = M + 1 := by omega
      have hMl : M ≤ 2000000 := by omega
      generalize midL s = R at *
      clear HO HL h3 hs hk1 hk2
      go_enter Tryz.func24, Tryz.ntmps24
      go_wp2_with fail
      refine S1.out.mono ?_
      rintro e w1 ⟨rfl, hu1⟩
      have HU := Lib.hid hu1
      have hsz := hu1.size
      clear S1 hu1
      go_wp2_with fail
      go_ret2
      exact ⟨HU.out.alloc _, Or.inr ⟨HO2.out, w1.heap.size, hsz, rfl, by simpa using heap_alloc_new w1 (.cells #[es R, .int .i64 0, .bool false] 53)⟩⟩
    · have HO2 := Lib.hid (show o = 6 by rw [HO.out]; simp [h1])
      have b1 : ((k1 : Int) != 2) = true := by simp; omega
      clear HO HL h1
      go_enter Tryz.func24, Tryz.ntmps24
      go_wp2_with fail
      refine S1.out.mono ?_
      rintro e w1 ⟨rfl, hu1⟩
      have HU := Lib.hid hu1
      clear S1 hu1
      go_wp2_with fail
      go_ret2
      exact ⟨HU.out, Or.inl ⟨by rw [HO2.out]; decide, by rw [HO2.out]; rfl⟩⟩
  · have HO2 := Lib.hid (show o = k2 by rw [HO.out, if_pos h2])
    have b2 : ((k2 : Int) != 0) = true := by simpa using h2
    have H2 := Lib.hid h2
    clear HO HL h2
    go_enter Tryz.func24, Tryz.ntmps24
    go_wp2_with fail
    refine S1.out.mono ?_
    rintro e w1 ⟨rfl, hu1⟩
    have HU := Lib.hid hu1
    clear S1 hu1
    go_wp2_with fail
    go_ret2
    exact ⟨HU.out, Or.inl ⟨by rw [HO2.out]; exact H2.out, by rw [HO2.out]; rfl⟩⟩

end Go.Proofs.YthoacpecfmfeiaaGreatDoor

/-
  Images of formulas read back, plainly.
-/
namespace Go.Proofs.YthoacpecfmfeiaaGreatDoor
open Go.RowKit

theorem isLab_len {s : List UInt8} (h : isLab s = true) : s.length ≤ 100 := by
  obtain ⟨nm, vs, hl⟩ : ∃ nm vs, labT nm vs = some s := by
    unfold isLab readF at h
    split at h
    · split at h
      · simp at h
      · split at h
        · next hq => exact ⟨_, _, hq⟩
        · simp at h
    · split at h
      · next hq => exact ⟨_, _, hq⟩
      · simp at h
  unfold labT at hl
  split at hl
  · split at hl
    · cases hl; simp [tauL]
    · simp at hl
  · split at hl
    · next hc =>
      simp only [Bool.and_eq_true, decide_eq_true_eq] at hc
      obtain ⟨⟨ha, h2⟩, hv⟩ := hc
      have hn : nm.length ≤ 10 := by unfold actF nameF at ha; simp only [Bool.and_eq_true, decide_eq_true_eq] at ha; omega
      split at hl
      · cases hl; omega
      · cases hl
        have := joinC_le 44 30 (vs.map Lib.itoa) (by
          intro p hp
          obtain ⟨x, hx, rfl⟩ := List.mem_map.1 hp
          exact (isV_itoa (List.all_eq_true.1 hv x hx)).2)
        have h3 : (vs.map Lib.itoa).length * (30 + 1) ≤ 2 * 31 := Nat.mul_le_mul (by simpa using h2) (by omega)
        simp only [List.length_append, List.length_cons, List.length_nil, txtV]
        omega
    · simp at hl
theorem patF_len {s : List UInt8} (h : patF s = true) : s.length ≤ 100 := by
  unfold patF at h
  simp only [Bool.or_eq_true, Bool.and_eq_true, beq_iff_eq] at h
  rcases h with (h | h) | ⟨-, h⟩
  · rw [h]; simp
  · exact isLab_len h
  · unfold actF nameF at h; simp only [Bool.and_eq_true, decide_eq_true_eq, List.length_dropLast] at h; omega
theorem allF_at {P : Nat → Bool} : ∀ {k m : Nat}, allF P k m = true → ∀ i, k ≤ i → i < k + m → P i = true
  | _, 0, _, i, h1, h2 => by omega
  | k, m + 1, h, i, h1, h2 => by
    rw [allF, Bool.and_eq_true] at h
    by_cases hk : i = k
    · rw [hk]; exact h.1
    · exact allF_at h.2 i (by omega) (by omega)
/-- what a valid formula's nodes are. -/
def ndFit (n : Nd) : Prop := (0 ≤ n.kd ∧ n.kd ≤ 8) ∧ (0 ≤ n.vr ∧ n.vr ≤ 2) ∧ n.lb.length ≤ 100
theorem frm_parts {f : List Nd} (h : frmOk f = true) : (1 ≤ f.length ∧ f.length ≤ 30) ∧ ∀ n ∈ f, ndFit n := by
  unfold frmOk at h
  simp only [Bool.and_eq_true] at h
  obtain ⟨⟨h1, -⟩, h3⟩ := h
  have g1 := inB_true h1
  refine ⟨by omega, fun n hn => ?_⟩
  obtain ⟨i, hi, rfl⟩ := List.getElem_of_mem hn
  have := allF_at h3 i (by omega) (by omega)
  have hg : f.getD i nd0 = f[i] := by rw [List.getD_eq_getElem?_getD, List.getElem?_eq_getElem hi]; rfl
  unfold ndkI at this
  rw [hg] at this
  simp only [Bool.and_eq_true] at this
  obtain ⟨⟨⟨k1, k2⟩, k3⟩, -⟩ := this
  have r1 := inB_true k1
  refine ⟨r1, ?_, ?_⟩
  · unfold boundF at k3
    split at k3
    · exact inB_true k3
    · simp at k3; omega
  · unfold fieldsF at k2
    split at k2
    · exact patF_len k2
    · simp only [Bool.and_eq_true, beq_iff_eq] at k2; rw [k2.1]; simp

/-- the next node. -/
def rNd (K : Nat) (r : List UInt8) (b : Bool) : Nd × List UInt8 × Bool :=
  let A := rN K r b
  let B := rN K A.2.1 A.2.2
  let C := rN K B.2.1 B.2.2
  let T := rT K C.2.1 C.2.2
  (⟨A.1, B.1, T.1, C.1 == 1⟩, T.2)
def rNs (K : Nat) : Nat → List Nd → List UInt8 → Bool → List Nd × List UInt8 × Bool
  | 0, L, r, b => (L, r, b)
  | n + 1, L, r, b => if b then (L, r, b) else rNs K n (L ++ [(rNd K r b).1]) (rNd K r b).2.1 (rNd K r b).2.2
theorem rNs_go (K k : Nat) (L : List Nd) (r : List UInt8) (h : 0 < k) : rNs K k L r false = rNs K (k - 1) (L ++ [(rNd K r false).1]) (rNd K r false).2.1 (rNd K r false).2.2 := by
  obtain ⟨m, rfl⟩ : ∃ m, k = m + 1 := ⟨k - 1, by omega⟩
  simp [rNs]
theorem rNs_bad (K k : Nat) (L : List Nd) (r : List UInt8) : rNs K k L r true = (L, r, true) := by
  cases k <;> simp [rNs]
theorem rdN_num2 (z : Nat → Nat) : ∀ (k j n m t : Nat) (r : List UInt8) (b : Bool), m < 128 ^ (j + 1) → j < k → rdN z k n t (numL m ++ r) b = (n + m * t, r, b) := by
  intro k
  induction k with
  | zero => intro j n m t r b _ h; omega
  | succ k ih =>
    intro j n m t r b hm hj
    by_cases h : m < 128
    · rw [numL_small h, List.singleton_append, rdN]
      have h1 : (UInt8.ofNat m).toNat = m := UInt8.toNat_ofNat_of_lt' (by show m < 256; omega)
      rw [h1, if_pos h]
    · rw [numL_big h, List.cons_append, rdN]
      have h1 : (UInt8.ofNat (128 + m % 128)).toNat = 128 + m % 128 := UInt8.toNat_ofNat_of_lt' (by show 128 + m % 128 < 256; omega)
      rw [h1, if_neg (by omega)]
      obtain ⟨q, rfl⟩ : ∃ q, j = q + 1 := ⟨j - 1, by
        rcases Nat.eq_zero_or_pos j with h | h
        · subst h; simp at hm; omega
        · omega⟩
      rw [ih q _ _ _ _ _ (by rw [Nat.pow_succ] at hm; omega) (by omega)]
      congr 1
      have e1 : (128 + m % 128) % 128 = m % 128 := by omega
      have e2 : m = m % 128 + 128 * (m / 128) := by omega
      rw [e1]
      conv => rhs; rw [e2, Nat.add_mul]
      rw [Nat.mul_comm t 128, ← Nat.mul_assoc, Nat.mul_comm (m / 128) 128]; omega
theorem rN_num2 (K m : Nat) (r : List UInt8) (b : Bool) (hK : 2 < K) (hm : m < 2097152) : rN K (numL m ++ r) b = (m, r, b) := by
  unfold rN
  rw [rdN_num2 (zF K) K 2 0 m 1 r b (by omega) hK]; simp
theorem rT_text2 (K : Nat) (s r : List UInt8) (hK : 2 < K) (hs : s.length ≤ 100) : rT K (textL s ++ r) false = (s, r, false) := by
  unfold rT textL
  rw [List.append_assoc, rN_num2 K _ _ _ hK (by omega)]
  simp
theorem rNd_node (K : Nat) (n : Nd) (r : List UInt8) (hK : 2 < K) (h : ndFit n) : rNd K (ndB n ++ r) false = (n, r, false) := by
  obtain ⟨a, b, s, t⟩ := n
  obtain ⟨h1, h2, h3⟩ := h
  simp only at h1 h2 h3
  have ht : trN t < 2097152 := by unfold trN; split <;> omega
  unfold rNd ndB
  simp only [List.append_assoc]
  rw [rN_num2 K _ _ _ hK (by omega)]
  simp only
  rw [rN_num2 K _ _ _ hK (by omega)]
  simp only
  rw [rN_num2 K _ _ _ hK ht]
  simp only
  rw [rT_text2 K s r hK h3]
  have e : (trN t == 1) = t := by cases t <;> rfl
  simp only [e, Prod.mk.injEq, Nd.mk.injEq, and_true]
  omega
theorem rNs_nodes (K : Nat) (hK : 2 < K) : ∀ (es L : List Nd) (r : List UInt8), (∀ n ∈ es, ndFit n) → rNs K es.length L (es.flatMap ndB ++ r) false = (L ++ es, r, false)
  | [], L, r, _ => by simp [rNs]
  | s :: ls, L, r, h => by
    rw [List.length_cons, rNs, List.flatMap_cons, List.append_assoc, rNd_node K s _ hK (h s (by simp))]
    simp only [Bool.false_eq_true, if_false]
    rw [rNs_nodes K hK ls _ r (fun q hq => h q (by simp [hq]))]; simp
def rdFrm (K : Nat) (c : List UInt8) : List Nd × List UInt8 × Bool := rNs K (rN K c false).1 [] (rN K c false).2.1 (rN K c false).2.2
theorem rd_frm (K : Nat) (hK : 2 < K) (f : List Nd) (h : frmOk f = true) : rdFrm K (frmB f) = (f, [], false) := by
  obtain ⟨h1, h2⟩ := frm_parts h
  unfold rdFrm frmB
  have e : numL f.length ++ f.flatMap ndB = numL f.length ++ (f.flatMap ndB ++ []) := by simp
  rw [e, rN_num2 K _ _ _ hK (by omega)]
  simp only
  rw [rNs_nodes K hK f [] [] h2]; simp
theorem mid_frm {f : List Nd} {s : List UInt8} (h : frmImg f = s) (h0 : 0 < s.length) : midL s = frmB f := by
  unfold frmImg sealL at h
  split at h
  · rw [← h] at h0; simp at h0
  · unfold midL
    rw [← h]
    simp only [List.length_append, List.length_cons, List.length_nil, Nat.add_sub_cancel, Nat.zero_add, Nat.reduceAdd]
    have e : (2 :: frmB f ++ [UInt8.ofNat (crcL (2 :: frmB f) 65535 / 256), UInt8.ofNat (crcL (2 :: frmB f) 65535 % 256)]).take ((frmB f).length + 1) = 2 :: frmB f :=
      List.take_left' (by simp)
    rw [e]; rfl
/-- the formula that an image is of. -/
def imgFrm (s : List UInt8) : Option (List Nd) := if frmOk (rdFrm 4 (midL s)).1 && (frmImg (rdFrm 4 (midL s)).1 == s) then some (rdFrm 4 (midL s)).1 else none
theorem imgFrm_alt (s : List UInt8) (h0 : 0 < s.length) : imgFrm s = if !(rdFrm 3 (midL s)).2.2 && frmOk (rdFrm 3 (midL s)).1 && (frmImg (rdFrm 3 (midL s)).1 == s) then some (rdFrm 3 (midL s)).1 else none := by
  unfold imgFrm
  by_cases h1 : (frmOk (rdFrm 4 (midL s)).1 && (frmImg (rdFrm 4 (midL s)).1 == s)) = true
  · rw [if_pos h1]
    simp only [Bool.and_eq_true, beq_iff_eq] at h1
    have p := rd_frm 3 (by omega) _ h1.1
    have hm := mid_frm h1.2 h0
    generalize (rdFrm 4 (midL s)).1 = x at *
    rw [hm, p, h1.1, h1.2]
    simp
  · rw [if_neg h1]
    split
    · next h2 =>
      exfalso
      apply h1
      simp only [Bool.and_eq_true, beq_iff_eq, Bool.not_eq_true'] at h2
      have p := rd_frm 4 (by omega) _ h2.1.2
      have hm := mid_frm h2.2 h0
      rw [(congrArg (rdFrm 4) hm).trans p, h2.1.2, h2.2]
      simp
    · rfl
theorem frm_case {s : List UInt8} {X : List Nd} (h0 : 0 < s.length) (h : imgFrm s = if frmOk X && (frmImg X == s) then some X else none) :
    ((if frmOk X then frmImg X else []) = s ∧ imgFrm s = some X) ∨ ((if frmOk X then frmImg X else []) ≠ s ∧ imgFrm s = none) := by
  have hne : ([] : List UInt8) ≠ s := fun e => by rw [← e] at h0; simp at h0
  cases hok : frmOk X with
  | false => exact Or.inr ⟨by simpa using hne, by rw [h, hok]; simp⟩
  | true =>
    by_cases hs : frmImg X = s
    · exact Or.inl ⟨by simpa using hs, by rw [h, hok, hs]; simp⟩
    · exact Or.inr ⟨by simpa using hs, by rw [h, hok]; simp [hs]⟩
theorem frm_caseS {s : List UInt8} {X : List Nd} {bd : Bool} (h : imgFrm s = if !bd && frmOk X && (frmImg X == s) then some X else none) :
    (bd = true ∧ imgFrm s = none) ∨ (bd = false ∧ frmOk X = false ∧ imgFrm s = none) ∨ (bd = false ∧ frmOk X = true ∧ frmImg X = s ∧ imgFrm s = some X) ∨ (bd = false ∧ frmOk X = true ∧ frmImg X ≠ s ∧ imgFrm s = none) := by
  cases bd with
  | true => exact Or.inl ⟨rfl, by rw [h]; simp⟩
  | false =>
    cases hok : frmOk X with
    | false => exact Or.inr (Or.inl ⟨rfl, rfl, by rw [h, hok]; simp⟩)
    | true =>
      by_cases hs : frmImg X = s
      · exact Or.inr (Or.inr (Or.inl ⟨rfl, rfl, hs, by rw [h, hok, hs]; simp⟩))
      · exact Or.inr (Or.inr (Or.inr ⟨rfl, rfl, hs, by rw [h, hok]; simp [hs]⟩))
/-- what reading a formula's image returns: a formula and a code. -/
def decFF (s : List UInt8) : List Nd × Nat := if opF2 s ≠ 0 then ([], opF2 s) else match imgFrm s with
  | some x => (x, 0)
  | none => ([], 9)
theorem decFF_no {s : List UInt8} (h : opF2 s ≠ 0) : decFF s = ([], opF2 s) := by unfold decFF; rw [if_pos h]
theorem decFF_some {s : List UInt8} {x : List Nd} (h : opF2 s = 0) (hx : imgFrm s = some x) : decFF s = (x, 0) := by unfold decFF; rw [if_neg (by simpa using h), hx]
theorem decFF_none {s : List UInt8} (h : opF2 s = 0) (hx : imgFrm s = none) : decFF s = ([], 9) := by unfold decFF; rw [if_neg (by simpa using h), hx]
theorem decFF_small (s : List UInt8) : (decFF s).1.length ≤ 30 := by
  unfold decFF
  split
  · simp
  · split
    · next x hx =>
      unfold imgFrm at hx
      split at hx
      · next h =>
        simp only [Bool.and_eq_true] at h
        cases hx
        exact (frm_parts h.1).1.2
      · cases hx
    · simp

end Go.Proofs.YthoacpecfmfeiaaGreatDoor

/-
  The writer of images: what its calls leave.
-/
namespace Go.Proofs.YthoacpecfmfeiaaGreatDoor
open Go.RowKit

/-- the writer at block p with the bytes D; its row lies in block base or later. -/
def WrAt (base p : Nat) (w : World) (D : List UInt8) : Prop :=
  ∃ v, w.heap[p]? = some (.cells #[v] 42 (0, 0)) ∧ w.ownsRow base 5 1 v D.length (D.map eb) ∧ base ≤ p
/-- nothing older than base is written. -/
def Fresh (base : Nat) (w w' : World) : Prop := ∀ w0 : World, w0.heap.size ≤ base → Upd [] w0 w → Upd [] w0 w'
theorem Fresh.refl (base : Nat) (w : World) : Fresh base w w := fun _ _ h => h
theorem Fresh.trans {base : Nat} {w w1 w2 : World} (h : Fresh base w w1) (k : Fresh base w1 w2) : Fresh base w w2 := fun w0 h0 hu => k w0 h0 (h w0 h0 hu)
theorem Fresh.of {base : Nat} {w w1 : World} (h : Upd [] w w1) : Fresh base w w1 := fun _ _ hu => hu.trans h

theorem cell_of_box {w : World} {p : Nat} {v : Value} {T : TypeId} (h : w.heap[p]? = some (Obj.cells #[v] T (0, 0))) : w.cell? ⟨p, 0, none⟩ = some v ∧ w.frozen? ⟨p, 0, none⟩ = false := by
  refine ⟨?_, ?_⟩
  · simp [World.cell?, h]
  · simp [World.frozen?, h]

theorem row_not {w : World} {base p : Nat} {v u : Value} {n : Nat} {xs : List Value} {e T : TypeId} (h : w.ownsRow base e 1 v n xs) (hp : w.heap[p]? = some (.cells #[u] T (0, 0))) (hne : e ≠ T) : v.ownBlock ≠ some p := by
  intro hb
  rcases h.2 with ⟨rfl, -⟩ | ⟨g, cap, cur, rfl, -, hh, -⟩
  · simp [Value.ownBlock] at hb
  · simp [Value.ownBlock] at hb
    subst hb
    rw [hp] at hh
    simp only [Option.some.injEq, Obj.cells.injEq] at hh
    exact hne hh.2.1.symm

theorem row_notT {w : World} {base p : Nat} {v : Value} {n : Nat} {xs : List Value} {e T : TypeId} {c : Array Value} (h : w.ownsRow base e 1 v n xs) (hp : w.heap[p]? = some (.cells c T (0, 0))) (hne : e ≠ T) : v.ownBlock ≠ some p := by
  intro hb
  rcases h.2 with ⟨rfl, -⟩ | ⟨g, cap, cur, rfl, -, hh, -⟩
  · simp [Value.ownBlock] at hb
  · simp [Value.ownBlock] at hb
    subst hb
    rw [hp] at hh
    simp only [Option.some.injEq, Obj.cells.injEq] at hh
    exact hne hh.2.1.symm

theorem u8_ne_wr : (5 : TypeId) ≠ 42 := by decide
theorem u8_ne_i64 : (5 : TypeId) ≠ 2 := by decide

theorem ownsRow_set {w : World} {base p : Nat} {e : TypeId} {v u : Value} {n : Nat} {xs : List Value} (h : w.ownsRow base e 1 v n xs) (hp : v.ownBlock ≠ some p) : (w.setCell ⟨p, 0, none⟩ u).ownsRow base e 1 v n xs := by
  refine ⟨h.1, ?_⟩
  rcases h.2 with h2 | ⟨g, cap, cur, rfl, hb, hh, r⟩
  · exact Or.inl h2
  · refine Or.inr ⟨g, cap, cur, rfl, hb, ?_, r⟩
    rw [Below.heap_setCell _ _ _ _ (by simpa [Value.ownBlock] using hp)]; exact hh

/-- behind an append to the row and the store of the new row. -/
theorem wr_push {base p : Nat} {w w1 w4 : World} {v v4 : Value} {D E : List UInt8} (h0 : w.heap[p]? = some (.cells #[v] 42 (0, 0))) (hown : w.ownsRow base 5 1 v D.length (D.map eb)) (hbp : base ≤ p)
    (h1 : Upd [] w w1) (hown4 : w4.ownsRow base 5 1 v4 E.length (E.map eb)) (hg : w1.grownBy w4 v.ownBlock) :
    w4.cell? ⟨p, 0, none⟩ = some v ∧ w4.frozen? ⟨p, 0, none⟩ = false ∧ Hid (WrAt base p (w4.setCell ⟨p, 0, none⟩ v4) E ∧ Fresh base w (w4.setCell ⟨p, 0, none⟩ v4) ∧
      (∀ (b : Nat) (c : Array Value) (T : TypeId), b ≠ p → 5 ≠ T → w.heap[b]? = some (Obj.cells c T (0, 0)) → (w4.setCell ⟨p, 0, none⟩ v4).heap[b]? = w.heap[b]?) ∧ w.heap.size ≤ (w4.setCell ⟨p, 0, none⟩ v4).heap.size) := by
  have hpl : p < w.heap.size := (Array.getElem?_eq_some_iff.1 h0).1
  have hnp := row_not hown h0 u8_ne_wr
  have hkeep : ∀ b, b < w.heap.size → v.ownBlock ≠ some b → w4.heap[b]? = w.heap[b]? := fun b hb hne => (hg.block b (Nat.lt_of_lt_of_le hb h1.size) (fun e => hne e.symm)).trans (h1.block b hb (by simp))
  have h4 : w4.heap[p]? = some (.cells #[v] 42 (0, 0)) := (hkeep p hpl hnp).trans h0
  obtain ⟨q1, q2⟩ := cell_of_box h4
  have hn4 := row_not hown4 h4 u8_ne_wr
  have hset : (w4.setCell ⟨p, 0, none⟩ v4).heap[p]? = some (.cells #[v4] 42 (0, 0)) := by
    have := heap_setCell_same w4 p 0 #[v] 42 v4 h4
    simpa using this
  refine ⟨q1, q2, Lib.hid ⟨⟨v4, hset, ownsRow_set hown4 hn4, hbp⟩, ?_, ?_, ?_⟩⟩
  · intro w0 hw0 hu
    exact ((hu.trans h1).grown hg (fun b hb => Or.inl (by have := (hown.lt b hb).1; omega))).setCell (Or.inl (by show w0.heap.size ≤ p; omega)) _
  · intro b c T hbp hT hb
    have hbl : b < w.heap.size := (Array.getElem?_eq_some_iff.1 hb).1
    rw [Below.heap_setCell _ _ _ _ hbp]
    exact hkeep b hbl (row_notT hown hb hT)
  · have h5 := h1.size
    have h6 := hg.size
    simp [World.setCell]; omega
theorem byte_of {n : Nat} (h : n < 256) : (.int .u8 (n : Int) : Value) = eb (UInt8.ofNat n) := by
  simp only [Value.int.injEq, true_and]
  rw [UInt8.toNat_ofNat_of_lt' (by show n < 256; exact h)]

set_option maxRecDepth 20000 in
set_option maxHeartbeats 4000000 in
theorem numWk (base p : Nat) (v : Value) (ns : List Int) (D : List UInt8) (w : World) (fl : List Nat) (hW : WrAt base p w D) (hD : D.length ≤ 1000000) (hR : R1 fl w [v] ns) (hl : ns.length ≤ 10) (hn : ∀ n ∈ ns, 0 ≤ n ∧ n ≤ 2000000)
    (hty : ∀ b ∈ fl, ∃ c, w.heap[b]? = some (Obj.cells c 2 (0, 0))) :
    Calls Tryz.prog 19 #[.pointer (some ⟨p, 0, none⟩), v] w fun e w' => e = .returned (.tuple #[]) ∧ WrAt base p w' (D ++ ns.flatMap fun n => numL n.toNat) ∧ Fresh base w w' ∧ w.heap.size ≤ w'.heap.size ∧
      (∀ (b : Nat) (c : Array Value) (T : TypeId), b ≠ p → 5 ≠ T → w.heap[b]? = some (Obj.cells c T (0, 0)) → w'.heap[b]? = w.heap[b]?) := by
  have HNP := Lib.hid (show ∀ (b : Nat) (c : Array Value), w.heap[b]? = some (Obj.cells c 2 (0, 0)) → b ≠ p from fun b c hb e => by
    obtain ⟨v, h0, -, -⟩ := hW
    subst e
    rw [h0] at hb
    simp only [Option.some.injEq, Obj.cells.injEq] at hb
    exact absurd hb.2.1 (by decide))
  obtain ⟨i1, ki, kz0, kz1, kz2⟩ := info_parts Tryz.infoU8
  obtain ⟨a, cap, rfl, h1, h2, -⟩ := slF1_open hR
  unfold maxLen at h2
  have HR := Lib.hid hR
  have HN := Lib.hid hn
  have HTY := Lib.hid hty
  have HW := Lib.hid hW
  clear hR hn hty hW
  go_enter Tryz.func19, Tryz.ntmps19
  go_wp2_with fail
  go_loopw [8] (fun iv wr => ∃ (k : Nat) (E : List UInt8), iv = .int .i64 k ∧ k ≤ ns.length ∧ E.length ≤ D.length + 3 * k ∧ Hid (E = D ++ (ns.take k).flatMap fun n => numL n.toNat) ∧ WrAt base p wr E ∧ Fresh base w wr ∧ w.heap.size ≤ wr.heap.size ∧ Hid (∀ (b : Nat) (c : Array Value) (T : TypeId), b ≠ p → 5 ≠ T → w.heap[b]? = some (Obj.cells c T (0, 0)) → wr.heap[b]? = w.heap[b]?)) (fun iv _ => ns.length - (intOf iv).toNat)
  case atStart => exact ⟨0, D, rfl, Nat.zero_le _, by omega, Lib.hid (by simp), HW.out, Fresh.refl _ _, Nat.le_refl _, Lib.hid (fun _ _ _ _ _ _ => rfl)⟩
  case round =>
    clear HW
    obtain ⟨wo, rfl⟩ : ∃ wo : World, wo = wr := ⟨_, rfl⟩
    obtain ⟨k, E, rfl, hk, hEl, HE, hW, hF, hsz, HK⟩ := hrel
    by_cases hlt : k < ns.length
    · have hRo : R1 fl wo [.slice a ns.length cap] ns := R1k.frame HR.out hsz (fun b hb => by obtain ⟨c, hc⟩ := HTY.out b hb; exact HK.out b c 2 (HNP.out b c hc) u8_ne_i64 hc)
      obtain ⟨a', cap', hv, -, -, hc⟩ := slF1_open hRo
      cases hv
      obtain ⟨b1, o1, rfl, -, -, p1⟩ := hc k hlt
      obtain ⟨n0, n1⟩ := HN.out ns[k] (List.getElem_mem hlt)
      have HEX := Lib.hid (show D ++ (ns.take (k + 1)).flatMap (fun n => numL n.toNat) = E ++ numL ns[k].toNat by
        rw [List.take_succ_eq_append_getElem hlt, List.flatMap_append, ← List.append_assoc, ← HE.out]; simp)
      obtain ⟨N, hN⟩ : ∃ N : Nat, ns[k] = N := ⟨ns[k].toNat, by omega⟩
      rw [hN] at p1 n0 n1 HEX
      rw [Int.toNat_natCast] at HEX
      have HWF := Lib.hid (And.intro hW hF)
      have HN2 := Lib.hid (show N < 128 ^ (2 + 1) by omega)
      have HN3 := Lib.hid (show N ≤ 2000000 by omega)
      clear hRo hc hN hW hF HE n0 n1
      go_wp2_with fail
      go_loopw [5] (fun nv wr => ∃ (M j : Nat) (G : List UInt8), nv = .int .i64 M ∧ M ≤ N ∧ G.length + j = E.length + 2 ∧ M < 128 ^ (j + 1) ∧ Hid (G ++ numL M = E ++ numL N) ∧ WrAt base p wr G ∧ Fresh base w wr ∧ wo.heap.size ≤ wr.heap.size ∧ Hid (∀ (b : Nat) (c : Array Value) (T : TypeId), b ≠ p → 5 ≠ T → w.heap[b]? = some (Obj.cells c T (0, 0)) → wr.heap[b]? = w.heap[b]?)) (fun nv _ => (intOf nv).toNat)
      case atStart => exact ⟨N, 2, E, rfl, Nat.le_refl _, by omega, HN2.out, Lib.hid rfl, HWF.out.1, HWF.out.2, Nat.le_refl _, HK⟩
      case round =>
        clear HWF
        obtain ⟨M, j, G, rfl, hMN, hGj, hMj, HG, hW, hF, hsz2, HK2⟩ := hrel
        obtain ⟨v0, q0, hown, hbp⟩ := hW
        obtain ⟨cp, fp0⟩ := cell_of_box q0
        have HF := Lib.hid hF
        have hbs : base ≤ wr.heap.size := by have := (Array.getElem?_eq_some_iff.1 q0).1; omega
        have HJ := Lib.hid (And.intro hGj hMj)
        have hGl : G.length ≤ 1000100 := by omega
        have hMx : (M : Int) ≤ 2000000 := by have := HN3.out; omega
        clear hF hMj hGj
        by_cases hM : M < 128
        · have hb : (.int .u8 (M : Int) : Value) = eb (UInt8.ofNat M) := byte_of (by omega)
          have HB := Lib.hid hb
          have HGE := Lib.hid (show G ++ [UInt8.ofNat M] = E ++ numL N by rw [← HG.out, numL_small hM])
          have hown0 := hown
          have HQ0 := Lib.hid q0
          clear hb hown q0
          go_wp2_with (first
            | (at_builtin; refine wpList_append_tight _ rfl _ _ 40 rfl base 5 i1 (.int .u8 0) 1 1 Tryz.underlying40 ki kz0 kz1 kz2 rfl (by decide) _ _ _ rfl (hown0.alloc _) ⟨wr.heap.size, 0, none⟩ 1 1 [.int .u8 (M : Int)] rfl rfl (fun j u hj => by rw [addr_add]; exact cell_new wr #[.int .u8 (M : Int)] _ _ rfl _ _ (by simpa using hj)) (by simp [Value.oneCell']) (by unfold maxLen; omega) (by omega) (by simp; omega) ?_)
            | fail)
          intro v4 w4 hown4 hg4 ht4
          have hown5 : w4.ownsRow base 5 1 v4 (G ++ [UInt8.ofNat M]).length ((G ++ [UInt8.ofNat M]).map eb) := by
            rw [HB.out] at hown4; simpa using hown4
          obtain ⟨a4, c4, hv4⟩ := ownsRow_form hown5
          subst hv4
          obtain ⟨r1, r2, HP⟩ := wr_push HQ0.out hown0 hbp ((Upd.refl [] wr).alloc _) hown5 hg4
          simp only [List.length_append, List.length_cons, List.length_nil, Nat.zero_add] at HP
          have hszw := HP.out.2.2.2
          clear hown4 hg4 ht4 hown5 hown0 cp fp0
          go_wp2_with fail
          go_roundw
          case rel => exact ⟨k + 1, G ++ [UInt8.ofNat M], by go_num, by omega, by have := HJ.out.1; simp; omega, Lib.hid (by rw [HGE.out, ← HEX.out]), HP.out.1, HF.out.trans HP.out.2.1, by omega, Lib.hid (fun b c T hn hT hb => (HP.out.2.2.1 b c T hn hT (by rw [HK2.out b c T hn hT hb]; exact hb)).trans (HK2.out b c T hn hT hb))⟩
          case measure => simp [intOf]; omega
        · have hb : (.int .u8 (128 + (M : Int) % 128) : Value) = eb (UInt8.ofNat (128 + M % 128)) := by
            rw [← byte_of (by omega)]; simp
          have HB := Lib.hid hb
          have HGE := Lib.hid (show (G ++ [UInt8.ofNat (128 + M % 128)]) ++ numL (M / 128) = E ++ numL N by rw [← HG.out, numL_big hM]; simp)
          have hown0 := hown
          have HQ0 := Lib.hid q0
          clear hb hown q0
          go_wp2_with (first
            | (at_builtin; refine wpList_append_tight _ rfl _ _ 40 rfl base 5 i1 (.int .u8 0) 1 1 Tryz.underlying40 ki kz0 kz1 kz2 rfl (by decide) _ _ _ rfl (hown0.alloc _) ⟨wr.heap.size, 0, none⟩ 1 1 [.int .u8 (128 + (M : Int) % 128)] rfl rfl (fun j u hj => by rw [addr_add]; exact cell_new wr #[.int .u8 (128 + (M : Int) % 128)] _ _ rfl _ _ (by simpa using hj)) (by simp [Value.oneCell']) (by unfold maxLen; omega) (by omega) (by simp; omega) ?_)
            | fail)
          intro v4 w4 hown4 hg4 ht4
          have hown5 : w4.ownsRow base 5 1 v4 (G ++ [UInt8.ofNat (128 + M % 128)]).length ((G ++ [UInt8.ofNat (128 + M % 128)]).map eb) := by
            rw [HB.out] at hown4; simpa using hown4
          obtain ⟨a4, c4, hv4⟩ := ownsRow_form hown5
          subst hv4
          obtain ⟨r1, r2, HP⟩ := wr_push HQ0.out hown0 hbp ((Upd.refl [] wr).alloc _) hown5 hg4
          simp only [List.length_append, List.length_cons, List.length_nil, Nat.zero_add] at HP
          have hszw := HP.out.2.2.2
          clear hown4 hg4 ht4 hown5 hown0 cp fp0
          go_wp2_with fail
          go_roundw
          case rel =>
            obtain ⟨hq1, hq2⟩ := HJ.out
            obtain ⟨q, rfl⟩ : ∃ q, j = q + 1 := ⟨j - 1, by
              rcases Nat.eq_zero_or_pos j with h | h
              · subst h; simp at hq2; omega
              · omega⟩
            exact ⟨M / 128, q, G ++ [UInt8.ofNat (128 + M % 128)], by go_num, by omega, by simp; omega, by rw [Nat.pow_succ] at hq2; omega, Lib.hid HGE.out, HP.out.1, HF.out.trans HP.out.2.1, by omega, Lib.hid (fun b c T hn hT hb => (HP.out.2.2.1 b c T hn hT (by rw [HK2.out b c T hn hT hb]; exact hb)).trans (HK2.out b c T hn hT hb))⟩
          case measure => simp [intOf]; omega
    · obtain rfl : k = ns.length := by omega
      have HWF := Lib.hid (And.intro hW (And.intro hF (And.intro hsz HK.out)))
      have HEQ := Lib.hid (show E = D ++ ns.flatMap fun n => numL n.toNat by rw [HE.out, List.take_length])
      clear hW hF hsz HE HK
      go_wp2_with fail
      go_end0
      exact ⟨rfl, by rw [← HEQ.out]; exact HWF.out.1, HWF.out.2.1, HWF.out.2.2.1, HWF.out.2.2.2⟩

theorem numW (base p : Nat) (v : Value) (ns : List Int) (D : List UInt8) (w : World) (fl : List Nat) (hW : WrAt base p w D) (hD : D.length ≤ 1000000) (hR : R1 fl w [v] ns) (hl : ns.length ≤ 10) (hn : ∀ n ∈ ns, 0 ≤ n ∧ n ≤ 2000000)
    (hty : ∀ b ∈ fl, ∃ c, w.heap[b]? = some (Obj.cells c 2 (0, 0))) :
    Calls Tryz.prog 19 #[.pointer (some ⟨p, 0, none⟩), v] w fun e w' => e = .returned (.tuple #[]) ∧ WrAt base p w' (D ++ ns.flatMap fun n => numL n.toNat) ∧ Fresh base w w' ∧ w.heap.size ≤ w'.heap.size :=
  (numWk base p v ns D w fl hW hD hR hl hn hty).mono fun _ _ ⟨h1, h2, h3, h4, _⟩ => ⟨h1, h2, h3, h4⟩

end Go.Proofs.YthoacpecfmfeiaaGreatDoor

/-
  Texts and whole images written, by the program and by the reference.
-/
namespace Go.Proofs.YthoacpecfmfeiaaGreatDoor
open Go.RowKit

theorem WrAt.upd {base p : Nat} {w w1 : World} {D : List UInt8} (h : WrAt base p w D) (hu : Upd [] w w1) : WrAt base p w1 D := by
  obtain ⟨v, h1, h2, h3⟩ := h
  exact ⟨v, by rw [hu.block p (Array.getElem?_eq_some_iff.1 h1).1 (by simp)]; exact h1, ownsRow_upd h2 hu, h3⟩
theorem WrAt.lt {base p : Nat} {w : World} {D : List UInt8} (h : WrAt base p w D) : p < w.heap.size := by
  obtain ⟨v, h1, -⟩ := h; exact (Array.getElem?_eq_some_iff.1 h1).1

/-- a new list of numbers, its block's type with it. -/
theorem lit_int (w : World) (ns : List Int) (hl : ns.length ≤ 100) : ∃ fl, R1 fl (w.alloc (.cells (ns.map ei).toArray 2)) [.slice (some ⟨w.heap.size, 0, none⟩) ns.length ns.length] ns ∧
    ∀ b ∈ fl, ∃ c, (w.alloc (.cells (ns.map ei).toArray 2)).heap[b]? = some (Obj.cells c 2 (0, 0)) := by
  obtain ⟨fl, h1, -, h3⟩ := new_lit (enc := ei) w 2 ns (by simp [maxLen]; omega)
  refine ⟨fl, h1, fun b hb => ?_⟩
  have h4 := R1k.lt h1 b hb
  have h5 := h3 b hb
  simp at h4
  obtain rfl : b = w.heap.size := by omega
  exact ⟨_, heap_alloc_new w _⟩

theorem str_cells (s : List UInt8) : Go.Lib.strCells ⟨s.toArray⟩ = s.map eb := by simp [Go.Lib.strCells]

set_option maxRecDepth 20000 in
set_option maxHeartbeats 2000000 in
theorem textW (base p : Nat) (s D : List UInt8) (w : World) (hW : WrAt base p w D) (hD : D.length ≤ 900000) (hs : s.length ≤ 100000) :
    Calls Tryz.prog 21 #[.pointer (some ⟨p, 0, none⟩), es s] w fun e w' => e = .returned (.tuple #[]) ∧ WrAt base p w' (D ++ textL s) ∧ Fresh base w w' ∧ w.heap.size ≤ w'.heap.size := by
  obtain ⟨i1, ki, kz0, kz1, kz2⟩ := info_parts Tryz.infoU8
  obtain ⟨fl, r1, r2⟩ := lit_int w [(s.length : Int)] (by simp)
  have S1 := numW base p _ [(s.length : Int)] D _ fl (hW.upd ((Upd.refl [] w).alloc (.cells ([(s.length : Int)].map ei).toArray 2))) (by omega) r1 (by simp) (by simp; omega) r2
  simp only [List.flatMap_cons, List.flatMap_nil, List.append_nil, Int.toNat_natCast] at S1
  have HS1 := Lib.hid S1
  have hbw : base ≤ w.heap.size := by
    obtain ⟨v, h1, -, h3⟩ := hW
    have := (Array.getElem?_eq_some_iff.1 h1).1; omega
  have hnl := numL_len s.length 2 (by omega)
  have HT := Lib.hid (show D ++ textL s = (D ++ numL s.length) ++ s by unfold textL; simp)
  clear S1 r1 r2 hW
  generalize numL s.length = NL at *
  go_enter Tryz.func21, Tryz.ntmps21
  go_wp2_with fail
  refine HS1.out.mono ?_
  rintro e w1 ⟨rfl, hW1, hF1, hsz1⟩
  obtain ⟨v0, q0, hown, hbp⟩ := hW1
  obtain ⟨cp, fp0⟩ := cell_of_box q0
  have HF := Lib.hid hF1
  have HQ0 := Lib.hid q0
  have hown0 := hown
  have hDl : (D ++ NL).length ≤ 900010 := by simp; omega
  generalize D ++ NL = E at *
  simp at hsz1
  have hbs : base ≤ w1.heap.size := by omega
  have hsz : (⟨s.toArray⟩ : ByteArray).size = s.length := rfl
  clear HS1 hF1 hown q0
  go_wp2_with (first
    | (at_builtin; refine Go.Lib.wpList_append_own_string _ rfl _ _ 40 9 rfl base 5 i1 Tryz.underlying40 Tryz.underlying9 ki kz0 kz1 kz2 _ _ _ rfl hown0 ⟨s.toArray⟩ rfl (by rw [hsz]; unfold maxLen; omega) (by rw [hsz]; omega) hbs ?_)
    | fail)
  intro v4 w4 hown4 hg4 hnil
  have hown5 : w4.ownsRow base 5 1 v4 (E ++ s).length ((E ++ s).map eb) := by
    first | (rw [str_cells, hsz] at hown4; simpa using hown4) | (rw [str_cells] at hown4; simpa using hown4) | simpa using hown4
  obtain ⟨a4, c4, hv4⟩ := ownsRow_form hown5
  subst hv4
  obtain ⟨r1, r2, HP⟩ := wr_push HQ0.out hown0 hbp (Upd.refl [] w1) hown5 hg4
  simp only [List.length_append] at HP
  have hszw := HP.out.2.2.2
  clear hown4 hg4 hnil hown5 hown0 cp fp0
  go_wp2_with fail
  go_end0
  exact ⟨rfl, by rw [HT.out]; simpa using HP.out.1, (Fresh.of ((Upd.refl [] w).alloc _)).trans (HF.out.trans HP.out.2.1), by omega⟩

theorem crc_hi {c : Nat} (h : c < 65536) : (.int .u8 ((c : Int) / 256) : Value) = eb (UInt8.ofNat (c / 256)) := by rw [← byte_of (by omega)]; simp
theorem crc_lo (c : Nat) : (.int .u8 ((c : Int) % 256) : Value) = eb (UInt8.ofNat (c % 256)) := by rw [← byte_of (by omega)]; simp

set_option maxRecDepth 20000 in
set_option maxHeartbeats 2000000 in
theorem imageW (base p : Nat) (D : List UInt8) (w : World) (hW : WrAt base p w D) (hD : D.length ≤ 900000) (h0 : 0 < D.length) :
    Calls Tryz.prog 22 #[.pointer (some ⟨p, 0, none⟩)] w fun e w' => e = .returned (es (sealL D)) ∧ Fresh base w w' := by
  obtain ⟨i1, ki, kz0, kz1, kz2⟩ := info_parts Tryz.infoU8
  obtain ⟨v0, q0, hown, hbp⟩ := hW
  obtain ⟨cp, fp0⟩ := cell_of_box q0
  obtain ⟨g, cap, hv, hcv⟩ := str_own (P := Tryz.prog) 40 9 5 Tryz.underlying40 Tryz.underlying5 Tryz.underlying9 hown h0
  subst hv
  have hbs : base ≤ w.heap.size := by have := (Array.getElem?_eq_some_iff.1 q0).1; omega
  have S1 := Lib.hid (crcI D 65535 w (by omega) (by omega))
  have hcl := crcL_lt D (show 65535 < 65536 by omega)
  have HSEAL := Lib.hid (show sealL D = if 6000 < D.length + 2 then [] else D ++ [UInt8.ofNat (crcL D 65535 / 256), UInt8.ofNat (crcL D 65535 % 256)] from rfl)
  generalize crcL D 65535 = c at *
  have HHI := Lib.hid (crc_hi hcl)
  have HLO := Lib.hid (crc_lo c)
  have hown0 := hown
  clear hown q0
  go_enter Tryz.func22, Tryz.ntmps22
  go_wp2_with fail
  refine S1.out.mono ?_
  rintro e w1 ⟨rfl, rfl⟩
  clear S1 hcv
  go_wp2_with (first
    | (at_builtin; refine wpList_append_tight _ rfl _ _ 40 rfl base 5 i1 (.int .u8 0) 1 1 Tryz.underlying40 ki kz0 kz1 kz2 rfl (by decide) _ _ _ rfl (hown0.alloc _) ⟨w.heap.size, 0, none⟩ 2 2 [.int .u8 ((c : Int) / 256), .int .u8 ((c : Int) % 256)] rfl rfl (fun j u hj => by rw [addr_add]; exact cell_new w #[.int .u8 ((c : Int) / 256), .int .u8 ((c : Int) % 256)] _ _ rfl _ _ (by simpa using hj)) (by simp [Value.oneCell']) (by unfold maxLen; omega) (by omega) (by simp; omega) ?_)
    | fail)
  intro v4 w4 hown4 hg4 ht4
  have hown5 : w4.ownsRow base 5 1 v4 (D ++ [UInt8.ofNat (c / 256), UInt8.ofNat (c % 256)]).length ((D ++ [UInt8.ofNat (c / 256), UInt8.ofNat (c % 256)]).map eb) := by
    rw [HHI.out, HLO.out] at hown4; simpa using hown4
  obtain ⟨g4, c4, hv4, hcv4⟩ := str_own (P := Tryz.prog) 40 9 5 Tryz.underlying40 Tryz.underlying5 Tryz.underlying9 hown5 (by simp)
  subst hv4
  have HF := Lib.hid (show Fresh base w w4 from fun w0 hw0 hu => (hu.trans ((Upd.refl [] w).alloc _)).grown hg4 (fun b hb => Or.inl (by have := (hown0.lt b hb).1; omega)))
  simp only [List.length_append, List.length_cons, List.length_nil, Nat.zero_add, Nat.reduceAdd] at hcv4 ⊢
  clear hown4 hg4 ht4 hown5 hown0 cp fp0
  by_cases hbig : 6000 < D.length + 2
  · have HR := Lib.hid (HSEAL.out.trans (if_pos hbig))
    have hb2 : (6000 : Int) < (D.length : Int) + 2 := by omega
    clear HSEAL hcv4
    go_wp2_with fail
    go_ret
    exact ⟨by rw [HR.out]; rfl, HF.out⟩
  · have HR := Lib.hid (HSEAL.out.trans (if_neg hbig))
    have hb2 : ¬ (6000 : Int) < (D.length : Int) + 2 := by omega
    clear HSEAL
    go_wp2_with fail
    go_ret
    exact ⟨by rw [HR.out]; rfl, HF.out⟩

set_option maxRecDepth 20000 in
set_option maxHeartbeats 4000000 in
theorem numS (N : Nat) (w : World) (hN : N ≤ 2000000) : Calls Tryz.prog 35 #[.int .i64 N] w fun e w' => e = .returned (es (numL N)) ∧ Upd [] w w' := by
  obtain ⟨i1, ki, kz0, kz1, kz2⟩ := info_parts Tryz.infoU8
  have hlit := World.ownsRow_lit (base := w.heap.size) (e := 5) (size := 1) w #[] 0 (Nat.le_refl _) (by simp [maxLen]) (by simp)
  have HLIT := Lib.hid hlit
  have HN2 := Lib.hid (show N < 128 ^ (2 + 1) by omega)
  clear hlit
  go_enter Tryz.func35, Tryz.ntmps35
  go_wp2_with fail
  go_loopw [0, 3] (fun nv ov wr => ∃ (M j : Nat) (G : List UInt8), nv = .int .i64 M ∧ M ≤ N ∧ G.length + j = 2 ∧ M < 128 ^ (j + 1) ∧ Hid (G ++ numL M = numL N) ∧ Hid (wr.ownsRow w.heap.size 5 1 ov G.length (G.map eb)) ∧ Upd [] w wr) (fun nv _ _ => (intOf nv).toNat)
  case atStart => exact ⟨N, 2, [], rfl, Nat.le_refl _, rfl, HN2.out, Lib.hid rfl, HLIT, (Upd.refl _ _).alloc _⟩
  case round =>
    clear HLIT
    obtain ⟨M, j, G, rfl, hMN, hGj, hMj, HG, hown, hU⟩ := hrel
    have HJ := Lib.hid (And.intro hGj hMj)
    have hGl : G.length ≤ 2 := by omega
    have hMx : (M : Int) ≤ 2000000 := by omega
    have HU := Lib.hid hU
    have hszr := hU.size
    have hown0 := hown.out
    clear hMj hGj hU hown
    by_cases hM : M < 128
    · have hb : (.int .u8 (M : Int) : Value) = eb (UInt8.ofNat M) := byte_of (by omega)
      have HB := Lib.hid hb
      have HGE := Lib.hid (show G ++ [UInt8.ofNat M] = numL N by rw [← HG.out, numL_small hM])
      clear hb
      go_wp2_with (first
        | (at_builtin; refine wpList_append_tight _ rfl _ _ 40 rfl w.heap.size 5 i1 (.int .u8 0) 1 1 Tryz.underlying40 ki kz0 kz1 kz2 rfl (by decide) _ _ _ rfl (hown0.alloc _) ⟨wr.heap.size, 0, none⟩ 1 1 [.int .u8 (M : Int)] rfl rfl (fun j u hj => by rw [addr_add]; exact cell_new wr #[.int .u8 (M : Int)] _ _ rfl _ _ (by simpa using hj)) (by simp [Value.oneCell']) (by unfold maxLen; omega) (by omega) (by simp; omega) ?_)
        | fail)
      intro v4 w4 hown4 hg4 ht4
      have hown5 : w4.ownsRow w.heap.size 5 1 v4 (numL N).length ((numL N).map eb) := by
        rw [HB.out] at hown4; rw [← HGE.out]; simpa using hown4
      obtain ⟨g4, c4, hv4, hcv4⟩ := str_own (P := Tryz.prog) 40 9 5 Tryz.underlying40 Tryz.underlying5 Tryz.underlying9 hown5 (by rw [← HGE.out]; simp)
      subst hv4
      have HF := Lib.hid ((HU.out.alloc _).grown hg4 (fun b hb => Or.inl ((hown0.lt b hb).1)))
      clear hown4 hg4 ht4 hown5 hown0
      obtain ⟨NL, hNL⟩ : ∃ NL, numL N = NL := ⟨_, rfl⟩
      rw [hNL] at hcv4 ⊢
      have HNL := Lib.hid hNL
      clear hNL
      go_wp2_with fail
      go_ret
      exact ⟨by rw [HNL.out]; rfl, HF.out⟩
    · have hb : (.int .u8 (128 + (M : Int) % 128) : Value) = eb (UInt8.ofNat (128 + M % 128)) := by
        rw [← byte_of (by omega)]; simp
      have HB := Lib.hid hb
      have HGE := Lib.hid (show (G ++ [UInt8.ofNat (128 + M % 128)]) ++ numL (M / 128) = numL N by rw [← HG.out, numL_big hM]; simp)
      clear hb
      go_wp2_with (first
        | (at_builtin; refine wpList_append_tight _ rfl _ _ 40 rfl w.heap.size 5 i1 (.int .u8 0) 1 1 Tryz.underlying40 ki kz0 kz1 kz2 rfl (by decide) _ _ _ rfl (hown0.alloc _) ⟨wr.heap.size, 0, none⟩ 1 1 [.int .u8 (128 + (M : Int) % 128)] rfl rfl (fun j u hj => by rw [addr_add]; exact cell_new wr #[.int .u8 (128 + (M : Int) % 128)] _ _ rfl _ _ (by simpa using hj)) (by simp [Value.oneCell']) (by unfold maxLen; omega) (by omega) (by simp; omega) ?_)
        | fail)
      intro v4 w4 hown4 hg4 ht4
      have HO := Lib.hid (show w4.ownsRow w.heap.size 5 1 v4 (G ++ [UInt8.ofNat (128 + M % 128)]).length ((G ++ [UInt8.ofNat (128 + M % 128)]).map eb) by
        rw [HB.out] at hown4; simpa using hown4)
      have HF := Lib.hid ((HU.out.alloc _).grown hg4 (fun b hb => Or.inl ((hown0.lt b hb).1)))
      clear hown4 hg4 ht4 hown0
      go_wp2_with fail
      go_roundw
      case rel =>
        obtain ⟨hq1, hq2⟩ := HJ.out
        obtain ⟨q, rfl⟩ : ∃ q, j = q + 1 := ⟨j - 1, by
          rcases Nat.eq_zero_or_pos j with h | h
          · subst h; simp at hq2; omega
          · omega⟩
        exact ⟨M / 128, q, G ++ [UInt8.ofNat (128 + M % 128)], by go_num, by omega, by simp; omega, by rw [Nat.pow_succ] at hq2; omega, HGE, HO, HF.out⟩
      case measure => simp [intOf]; omega

set_option maxRecDepth 20000 in
theorem textS (s : List UInt8) (w : World) (hs : s.length ≤ 2000000) : Calls Tryz.prog 37 #[es s] w fun e w' => e = .returned (es (textL s)) ∧ Upd [] w w' := by
  have S1 := Lib.hid (numS s.length w hs)
  have hnl := numL_len s.length 2 (by omega)
  have HT := Lib.hid (show textL s = numL s.length ++ s from rfl)
  generalize numL s.length = NL at *
  obtain ⟨T, hT⟩ : ∃ T, T = NL ++ s := ⟨_, rfl⟩
  have hcat := str_cat NL s
  rw [← hT] at hcat HT
  clear hT
  go_enter Tryz.func37, Tryz.ntmps37
  go_wp2_with fail
  refine S1.out.mono ?_
  rintro e w1 ⟨rfl, hu⟩
  have HU := Lib.hid hu
  clear S1 hu
  go_wp2_with fail
  go_ret
  exact ⟨by rw [HT.out]; rfl, HU.out⟩

set_option maxRecDepth 20000 in
set_option maxHeartbeats 2000000 in
theorem sealS (k : Nat) (s : List UInt8) (w : World) (hk : k < 256) (hs : s.length ≤ 1900000) : Calls Tryz.prog 38 #[.int .i64 k, es s] w fun e w' => e = .returned (es (sealL (UInt8.ofNat k :: s))) ∧ Upd [] w w' := by
  have hcv := run_convert_bytes_back (P := Tryz.prog) (w.alloc (.cells #[.int .u8 (k : Int)] 5)) 40 9 5 ⟨w.heap.size, 0, none⟩ 1 [UInt8.ofNat k] Tryz.underlying40 Tryz.underlying5 Tryz.underlying9 (fun j hj => by
    obtain rfl : j = 0 := by simpa using hj
    rw [addr_add]
    exact cell_new w _ _ _ rfl _ _ (by simpa using (byte_of hk)))
  have hkk : (k : Int) ≤ 255 := by omega
  have hcat := str_cat [UInt8.ofNat k] s
  simp only [List.length_cons, List.length_nil, Nat.zero_add] at hcv
  obtain ⟨B, hB⟩ : ∃ B, B = [UInt8.ofNat k] ++ s := ⟨_, rfl⟩
  rw [← hB] at hcat
  have HSEAL := Lib.hid (show sealL (UInt8.ofNat k :: s) = if 6000 < B.length + 2 then [] else B ++ [UInt8.ofNat (crcL B 65535 / 256), UInt8.ofNat (crcL B 65535 % 256)] by rw [hB]; rfl)
  have hBl : B.length ≤ 1900001 := by rw [hB]; simp; omega
  have S1 := Lib.hid (fun W : World => crcS B 65535 W (by omega) (by omega))
  have hcl := crcL_lt B (show 65535 < 65536 by omega)
  generalize crcL B 65535 = c at *
  have HHI := Lib.hid (crc_hi hcl)
  have HLO := Lib.hid (crc_lo c)
  generalize UInt8.ofNat k = kb at *
  clear hB
  by_cases hbig : 6000 < B.length + 2
  · have HR := Lib.hid (HSEAL.out.trans (if_pos hbig))
    have hb2 : (6000 : Int) < (B.length : Int) + 2 := by omega
    clear HSEAL
    go_enter Tryz.func38, Tryz.ntmps38
    go_wp2_with fail
    go_ret
    exact ⟨by rw [HR.out]; rfl, (Upd.refl _ _).alloc _⟩
  · have HR := Lib.hid (HSEAL.out.trans (if_neg hbig))
    have hb2 : ¬ (6000 : Int) < (B.length : Int) + 2 := by omega
    have hcv2 := run_convert_bytes_back (P := Tryz.prog) ((w.alloc (.cells #[.int .u8 (k : Int)] 5)).alloc (.cells #[.int .u8 ((c : Int) / 256), .int .u8 ((c : Int) % 256)] 5)) 40 9 5 ⟨w.heap.size + 1, 0, none⟩ 2 [UInt8.ofNat (c / 256), UInt8.ofNat (c % 256)] Tryz.underlying40 Tryz.underlying5 Tryz.underlying9 (fun j hj => by
      rw [addr_add, Nat.zero_add]
      refine cell_new (w.alloc _) _ _ _ (by simp) _ _ ?_
      rw [HHI.out, HLO.out]
      have hj2 : j < 2 := by simpa using hj
      match j, hj2 with
      | 0, _ => rfl
      | 1, _ => rfl)
    simp only [List.length_cons, List.length_nil, Nat.zero_add, Nat.reduceAdd] at hcv2
    generalize UInt8.ofNat (c / 256) = x at *
    generalize UInt8.ofNat (c % 256) = y at *
    obtain ⟨T, hT⟩ : ∃ T, T = B ++ [x, y] := ⟨_, rfl⟩
    have hcat2 := str_cat B [x, y]
    rw [← hT] at hcat2 HR
    clear HSEAL hT
    go_enter Tryz.func38, Tryz.ntmps38
    go_wp2_with fail
    refine (S1.out _).mono ?_
    rintro e w1 ⟨rfl, rfl⟩
    clear S1
    go_wp2_with fail
    go_ret
    exact ⟨by rw [HR.out]; rfl, ((Upd.refl _ _).alloc _).alloc _⟩

end Go.Proofs.YthoacpecfmfeiaaGreatDoor

/-
  The image of a formula: what the program's call returns.
-/
namespace Go.Proofs.YthoacpecfmfeiaaGreatDoor
open Go.RowKit

/-- a node's four cells in a block of their own. -/
def NdAt (Q : Nat) (W : World) (n : Nd) : Prop := W.heap[Q]? = some (.cells #[ei n.kd, ei n.vr, es n.lb, .bool n.nt] 37 (0, 0))
theorem NdAt.facts {Q : Nat} {W : World} {n : Nd} (h : NdAt Q W n) : W.cell? ⟨Q, 0, none⟩ = some (ei n.kd) ∧ W.cell? ⟨Q, 1, none⟩ = some (ei n.vr) ∧ W.cell? ⟨Q, 2, none⟩ = some (es n.lb) ∧ W.cell? ⟨Q, 3, none⟩ = some (.bool n.nt) ∧ ∀ j, W.frozen? ⟨Q, j, none⟩ = false := by
  unfold NdAt at h
  refine ⟨?_, ?_, ?_, ?_, fun j => ?_⟩
  · simp [World.cell?, h]
  · simp [World.cell?, h]
  · simp [World.cell?, h]
  · simp [World.cell?, h]
  · simp [World.frozen?, h]
theorem NdAt.upd {Q : Nat} {w w1 : World} {n : Nd} (h : NdAt Q w n) {f : List Nat} (hu : Upd f w w1) (hf : Q ∉ f) : NdAt Q w1 n := by
  unfold NdAt at *
  rw [hu.block Q (Array.getElem?_eq_some_iff.1 h).1 hf]; exact h
theorem u8_ne_node : (5 : TypeId) ≠ 37 := by decide
theorem tr_same (b : Bool) : truthV b = (trN b : Int) := by cases b <;> rfl
theorem ndB_le {n : Nd} (h : ndFit n) : (ndB n).length ≤ 120 := by
  unfold ndB textL
  obtain ⟨h1, h2, h3⟩ := h
  have g1 := numL_len n.kd.toNat 2 (by omega)
  have g2 := numL_len n.vr.toNat 2 (by omega)
  have g3 := numL_len (trN n.nt) 2 (by unfold trN; split <;> omega)
  have g4 := numL_len n.lb.length 2 (by omega)
  simp only [List.length_append]; omega
theorem flatN_le (f : List Nd) (h : ∀ n ∈ f, ndFit n) : (f.flatMap ndB).length ≤ 120 * f.length := by
  induction f with
  | nil => simp
  | cons n l ih =>
    have h1 := ndB_le (h n (by simp))
    have h2 := ih (fun q hq => h q (by simp [hq]))
    rw [List.flatMap_cons, List.length_append, List.length_cons, Nat.mul_succ]
    omega

set_option maxRecDepth 20000 in
set_option maxHeartbeats 4000000 in
theorem encFI (v : Value) (f : List Nd) (w : World) (fp : List Nat) (hR : R_F1 fp w [v] f) (hlen : f.length ≤ 2000000) (hl : ∀ n ∈ f, n.lb.length ≤ 2000000) (he : Env w) :
    Calls Tryz.prog 8 #[v] w fun e w' => e = .returned (es (if frmOk f then frmImg f else [])) ∧ Upd [] w w' := by
  have S1 := Lib.hid (validFI v f w fp hR hlen hl he)
  have HR := Lib.hid (fun W (hu : Upd [] w W) => R_F1k.upd hR hu (by simp))
  obtain ⟨a, cap, rfl, h1, h2, -⟩ := slF4_open hR
  unfold maxLen at h2
  clear hR hl he
  cases hok : frmOk f with
  | false =>
    rw [hok] at S1
    clear hok HR
    go_enter Tryz.func8, Tryz.ntmps8
    go_wp2_with fail
    refine S1.out.mono ?_
    rintro e w1 ⟨rfl, hu⟩
    have HU := Lib.hid hu
    clear S1 hu
    go_wp2_with fail
    go_ret
    exact ⟨by simp, HU.out⟩
  | true =>
    obtain ⟨hln, hfit⟩ := frm_parts hok
    rw [hok] at S1
    have HFIT := Lib.hid hfit
    have HIMG := Lib.hid (show sealL ((([2] : List UInt8) ++ [(f.length : Int)].flatMap fun n => numL n.toNat) ++ f.flatMap ndB) = frmImg f by
      unfold frmImg frmB
      simp only [List.flatMap_cons, List.flatMap_nil, List.append_nil, List.cons_append, List.nil_append, Int.toNat_natCast])
    have hE1 : (([2] : List UInt8) ++ [(f.length : Int)].flatMap fun n => numL n.toNat).length ≤ 4 := by
      have g3 := numL_len f.length 2 (by omega)
      simp only [List.flatMap_cons, List.flatMap_nil, List.length_append, List.length_cons, List.length_nil, Int.toNat_natCast]
      omega
    have hE1p : 1 ≤ (([2] : List UInt8) ++ [(f.length : Int)].flatMap fun n => numL n.toNat).length := by simp
    clear hok hfit
    go_enter Tryz.func8, Tryz.ntmps8
    go_wp2_with fail
    refine S1.out.mono ?_
    rintro e w1 ⟨rfl, hu⟩
    obtain ⟨w3, hw3⟩ : ∃ w3, w3 = (w1.alloc (.cells #[.int .u8 2] 5)).alloc (.cells #[.slice (some ⟨w1.heap.size, 0, none⟩) 1 1] 42) := ⟨_, rfl⟩
    have hu3 : Upd [] w1 w3 := by rw [hw3]; exact ((Upd.refl _ _).alloc _).alloc _
    have hW3 : WrAt w1.heap.size (w1.heap.size + 1) w3 [2] := by
      have hlit := World.ownsRow_lit (base := w1.heap.size) (e := 5) (size := 1) w1 #[.int .u8 2] 1 (Nat.le_refl _) (by simp [maxLen]) (by simp)
      refine ⟨.slice (some ⟨w1.heap.size, 0, none⟩) 1 1, ?_, ?_, by omega⟩
      · rw [hw3]
        have := heap_alloc_new (w1.alloc (.cells #[.int .u8 2] 5)) (.cells #[.slice (some ⟨w1.heap.size, 0, none⟩) 1 1] 42)
        simpa using this
      · rw [hw3]; exact hlit.alloc _
    obtain ⟨fl, r1, r2⟩ := lit_int w3 [(f.length : Int)] (by simp)
    have S3 := Lib.hid (numW w1.heap.size (w1.heap.size + 1) _ [(f.length : Int)] [2] _ fl (hW3.upd ((Upd.refl [] w3).alloc (.cells ([(f.length : Int)].map ei).toArray 2))) (by simp) r1 (by simp)
      (by intro n hn; simp only [List.mem_cons, List.not_mem_nil, or_false] at hn; subst hn; omega) r2)
    have HF3 := Lib.hid (hu3.alloc (.cells ([(f.length : Int)].map ei).toArray 2))
    have hsz3 : w3.heap.size = w1.heap.size + 2 := by rw [hw3]; simp
    have HU1 := Lib.hid hu
    generalize (([2] : List UInt8) ++ [(f.length : Int)].flatMap fun n => numL n.toNat) = E1 at *
    clear S1 r1 r2 hW3 hu3 hu
    go_wp2_with fail
    rw [← hw3]
    rw [hsz3] at S3
    clear hsz3 hw3
    refine S3.out.mono ?_
    rintro e w5 ⟨rfl, hW5, hF5, hsz5⟩
    have HW := Lib.hid hW5
    have HU := Lib.hid (hF5 w1 (Nat.le_refl _) HF3.out)
    clear S3 HF3 hW5 hF5 hsz5
    go_wp2_with fail
    go_loopw [19] (fun iv wr => ∃ k : Nat, k ≤ f.length ∧ iv = .int .i64 k ∧ Hid (WrAt w1.heap.size (w1.heap.size + 1) wr (E1 ++ (f.take k).flatMap ndB)) ∧ Hid (Upd [] w1 wr)) (fun iv _ => f.length - (intOf iv).toNat)
    case atStart => exact ⟨0, Nat.zero_le _, rfl, Lib.hid (by simpa using HW.out), HU⟩
    case round =>
      clear HW HU
      obtain ⟨wo, rfl⟩ : ∃ wo : World, wo = wr := ⟨_, rfl⟩
      obtain ⟨k, hk, rfl, HW, HU⟩ := hrel
      by_cases hlt : k < f.length
      · obtain ⟨aa, cc, hv0, -, -, hc0⟩ := slF4_open (HR.out wo (HU1.out.trans HU.out))
        cases hv0
        obtain ⟨b2, o2, rfl, -, -, q1, q2, q3, q4⟩ := hc0 k hlt
        have hft := HFIT.out f[k] (List.getElem_mem hlt)
        have hDl : (E1 ++ (f.take k).flatMap ndB).length ≤ 10000 := by
          have := flatN_le (f.take k) (fun n hn => HFIT.out n (List.mem_of_mem_take hn))
          rw [List.length_append]; simp only [List.length_take] at this; omega
        have HD := Lib.hid (show E1 ++ (f.take (k + 1)).flatMap ndB = ((E1 ++ (f.take k).flatMap ndB) ++ [f[k].kd, f[k].vr, truthV f[k].nt].flatMap (fun n => numL n.toNat)) ++ textL f[k].lb by
          rw [List.take_succ_eq_append_getElem hlt, List.flatMap_append, ← List.append_assoc, tr_same]; simp [ndB])
        have hpo : w1.heap.size + 1 < wo.heap.size := HW.out.lt
        clear hc0
        generalize f[k] = x at *
        obtain ⟨x1, x2, x3, x4⟩ := x
        simp only at q1 q2 q3 q4 HD
        obtain ⟨hf1, hf2, hf3⟩ := hft
        simp only at hf1 hf2 hf3
        obtain ⟨w8, hw8⟩ : ∃ w8, w8 = wo.alloc (.cells #[.int .i64 x1, .int .i64 x2, es x3, .bool x4] 37) := ⟨_, rfl⟩
        have hu8 : Upd [] wo w8 := by rw [hw8]; exact (Upd.refl _ _).alloc _
        have hnd : NdAt wo.heap.size w8 ⟨x1, x2, x3, x4⟩ := by rw [hw8]; exact heap_alloc_new wo _
        have hz8 : w8.heap.size = wo.heap.size + 1 := by rw [hw8]; simp
        obtain ⟨TT, hTT⟩ : ∃ TT, TT = wo.heap.size := ⟨_, rfl⟩
        rw [← hTT] at hnd hz8 hpo
        obtain ⟨fl, r1, r2⟩ := lit_int w8.drew [x1, x2, truthV x4] (by simp)
        have htb : 0 ≤ truthV x4 ∧ truthV x4 ≤ 1 := by unfold truthV; split <;> omega
        have S5 := Lib.hid (numWk w1.heap.size (w1.heap.size + 1) _ [x1, x2, truthV x4] _ _ fl (HW.out.upd ((hu8.drew).alloc (.cells ([x1, x2, truthV x4].map ei).toArray 2))) (by omega) r1 (by simp)
          (by intro n hn; simp only [List.mem_cons, List.not_mem_nil, or_false] at hn; rcases hn with rfl | rfl | rfl <;> omega) r2)
        have HND := Lib.hid (hnd.upd (((Upd.refl [] w8).drew).alloc (.cells ([x1, x2, truthV x4].map ei).toArray 2)) (by simp))
        have HU8 := Lib.hid ((HU.out.trans hu8).drew.alloc (.cells ([x1, x2, truthV x4].map ei).toArray 2))
        obtain ⟨y0, y1, y2, y3, -⟩ := hnd.facts
        simp only at y0 y1 y2 y3
        have HDL := Lib.hid hDl
        generalize hDD : E1 ++ (f.take k).flatMap ndB = DD at *
        have hszw : w8.drew.heap.size = TT + 1 := hz8
        rw [hszw] at S5
        have hgl : (DD ++ [x1, x2, truthV x4].flatMap fun n => numL n.toNat).length ≤ 20000 := by
          have g1 := numL_len x1.toNat 2 (by omega)
          have g2 := numL_len x2.toNat 2 (by omega)
          have g3 := numL_len (truthV x4).toNat 2 (by omega)
          simp only [List.flatMap_cons, List.flatMap_nil, List.length_append, List.append_nil]; omega
        generalize (DD ++ [x1, x2, truthV x4].flatMap fun n => numL n.toNat) = D2 at *
        clear HW hu8 hnd r1 r2 hDD hDl htb HU
        go_upto_region 8 with (fail)
        rw [← hw8, ← hTT]
        clear hw8 hTT q1 q2 q3 q4
        have hpTT : TT ≠ w1.heap.size + 1 := by omega
        go_region_held3 (fun w' => w'.cell? ⟨TT, 0, none⟩ = some (ei x1) ∧ w'.cell? ⟨TT, 1, none⟩ = some (ei x2) ∧ w'.cell? ⟨TT, 3, none⟩ = some (.bool x4)) (go_keep)
          (first
            | ((go_at_call 20); (with_reducible refine (truthI _ _).mono ?_); rintro e wt ⟨rfl, rfl⟩)
            | ((go_at_call 19); (refine S5.out.mono ?_); rintro e w9 ⟨rfl, hW9, hF9, hsz9, hK9⟩; have hN9 : NdAt TT w9 ⟨x1, x2, x3, x4⟩ := (hK9 TT _ _ hpTT u8_ne_node HND.out).trans HND.out; have t0 := hN9.facts.1; have t1 := hN9.facts.2.1; have t3 := hN9.facts.2.2.2.1))
        have t2 := hN9.facts.2.2.1
        simp only at t0 t1 t2 t3
        have S7 := Lib.hid (textW w1.heap.size (w1.heap.size + 1) x3 D2 w9 hW9 (by omega) (by omega))
        have HU9 := Lib.hid (hF9 w1 (Nat.le_refl _) HU8.out)
        clear S5 HND HU8 hW9 hF9 hsz9 hK9 hN9 y0 y1 y2 y3
        go_wp2_with fail
        refine S7.out.mono ?_
        rintro e w10 ⟨rfl, hW10, hF10, hsz10⟩
        have HW10 := Lib.hid hW10
        have HU10 := Lib.hid (hF10 w1 (Nat.le_refl _) HU9.out)
        clear S7 HU9 hW10 hF10 hsz10
        go_wp2_with fail
        go_roundw
        case rel => exact ⟨k + 1, by omega, by go_num, Lib.hid (by rw [HD.out]; exact HW10.out), HU10⟩
        case measure => simp [intOf]; omega
      · obtain rfl : k = f.length := by omega
        have HW2 := HW.out
        rw [List.take_length] at HW2
        have hE5 : (E1 ++ f.flatMap ndB).length ≤ 900000 := by
          have := flatN_le f HFIT.out
          rw [List.length_append]; omega
        have hE6 : 0 < (E1 ++ f.flatMap ndB).length := by rw [List.length_append]; omega
        have S6 := Lib.hid (imageW w1.heap.size (w1.heap.size + 1) _ wo HW2 hE5 hE6)
        generalize E1 ++ f.flatMap ndB = E5 at *
        clear HW HW2 hlt hk hE5 hE6
        go_wp2_with fail
        refine S6.out.mono ?_
        rintro e w9 ⟨rfl, hF9⟩
        have HU9 := Lib.hid (HU1.out.trans (hF9 w1 (Nat.le_refl _) HU.out))
        rw [HIMG.out]
        clear S6 HU hF9 HIMG
        go_wp2_with fail
        go_ret
        exact ⟨by simp, HU9.out⟩

end Go.Proofs.YthoacpecfmfeiaaGreatDoor

/-
  The program's reader of images: what its calls return and leave.
-/
namespace Go.Proofs.YthoacpecfmfeiaaGreatDoor
open Go.RowKit

/-- the program's reader at block p: the rest of the text, and whether it is bad. -/
def RdI (p : Nat) (w : World) (r : List UInt8) (b : Bool) : Prop := w.heap[p]? = some (.cells #[es r, .bool b] 58 (0, 0))
theorem RdI.facts {p : Nat} {w : World} {r : List UInt8} {b : Bool} (h : RdI p w r b) : w.cell? ⟨p, 0, none⟩ = some (es r) ∧ w.cell? ⟨p, 1, none⟩ = some (.bool b) ∧ w.frozen? ⟨p, 0, none⟩ = false ∧ w.frozen? ⟨p, 1, none⟩ = false := by
  unfold RdI at h
  refine ⟨?_, ?_, ?_, ?_⟩
  · simp [World.cell?, h]
  · simp [World.cell?, h]
  · simp [World.frozen?, h]
  · simp [World.frozen?, h]
theorem RdI.set0 {p : Nat} {w : World} {r : List UInt8} {b : Bool} (h : RdI p w r b) (r' : List UInt8) : RdI p (w.setCell ⟨p, 0, none⟩ (es r')) r' b := by
  unfold RdI
  have := heap_setCell_same w p 0 _ _ (es r') h
  simpa using this
theorem RdI.set1 {p : Nat} {w : World} {r : List UInt8} {b : Bool} (h : RdI p w r b) (b' : Bool) : RdI p (w.setCell ⟨p, 1, none⟩ (.bool b')) r b' := by
  unfold RdI
  have := heap_setCell_same w p 1 _ _ (.bool b') h
  simpa using this
theorem RdI.upd {p : Nat} {w w1 : World} {r : List UInt8} {b : Bool} (h : RdI p w r b) {f : List Nat} (hu : Upd f w w1) (hf : p ∉ f) : RdI p w1 r b := by
  unfold RdI at *
  rw [hu.block p (Array.getElem?_eq_some_iff.1 h).1 hf]; exact h

set_option maxRecDepth 20000 in
set_option maxHeartbeats 2000000 in
theorem byteI0 (p : Nat) (b : Bool) (w : World) (h : RdI p w [] b) : Calls Tryz.prog 47 #[.pointer (some ⟨p, 0, none⟩)] w fun e w' => e = .returned (.int .i64 0) ∧ RdI p w' [] true ∧ Upd [p] w w' := by
  obtain ⟨c0, c1, f0, f1⟩ := h.facts
  have H1 := Lib.hid (h.set1 true)
  clear h
  go_enter Tryz.func47, Tryz.ntmps47
  go_wp2_with fail
  go_ret
  exact ⟨rfl, H1.out, (Upd.refl _ _).setCell (Or.inr (by simp)) _⟩

set_option maxRecDepth 20000 in
set_option maxHeartbeats 2000000 in
theorem byteI1 (p : Nat) (c : UInt8) (r : List UInt8) (b : Bool) (w : World) (hl : r.length ≤ 2000000) (h : RdI p w (c :: r) b) : Calls Tryz.prog 47 #[.pointer (some ⟨p, 0, none⟩)] w fun e w' => e = .returned (.int .i64 (c.toNat : Nat)) ∧ RdI p w' r b ∧ Upd [p] w w' := by
  obtain ⟨c0, c1, f0, f1⟩ := h.facts
  have H1 := Lib.hid (h.set0 r)
  have hext := extract_list (c :: r) 1 (r.length + 1)
  have e1 : ((c :: r).drop 1).take (r.length + 1 - 1) = r := by simp
  rw [e1] at hext
  have hix : (⟨(c :: r).toArray⟩ : ByteArray)[0]'(by simp [ByteArray.size]) = c := by simp [ByteArray.getElem_eq_getElem_data]
  have hne : ((c :: r) == ([] : List UInt8)) = false := by simp
  have hne3 : (c :: r) ≠ [] := by simp
  have hll : (c :: r).length = r.length + 1 := rfl
  have hcl : (c.toNat : Int) ≤ 255 := by have := c.toNat_lt; omega
  clear h e1
  obtain ⟨R, hR⟩ : ∃ R, R = c :: r := ⟨_, rfl⟩
  rw [← hR] at hext hne hne3 hll c0
  have hRl : 0 < R.length := by omega
  have hix' : (⟨R.toArray⟩ : ByteArray)[0]'(by simpa [ByteArray.size] using hRl) = c := by subst hR; exact hix
  clear hix hR
  go_enter Tryz.func47, Tryz.ntmps47
  go_wp2_with fail
  go_ret
  exact ⟨rfl, H1.out, (Upd.refl _ _).setCell (Or.inr (by simp)) _⟩

set_option maxRecDepth 20000 in
set_option maxHeartbeats 4000000 in
theorem numI (p : Nat) (r : List UInt8) (b : Bool) (w : World) (hl : r.length ≤ 2000000) (h : RdI p w r b) :
    Calls Tryz.prog 28 #[.pointer (some ⟨p, 0, none⟩)] w fun e w' => e = .returned (.int .i64 ((rN 4 r b).1 : Nat)) ∧ RdI p w' (rN 4 r b).2.1 (rN 4 r b).2.2 ∧ Upd [p] w w' := by
  have H0 := Lib.hid h
  clear h
  go_enter Tryz.func28, Tryz.ntmps28
  go_wp2_with fail
  go_loopw [3, 4, 6] (fun nv tv iv wr => ∃ (j n t : Nat) (r' : List UInt8) (b' : Bool), j ≤ 4 ∧ iv = .int .i64 j ∧ nv = .int .i64 n ∧ tv = .int .i64 t ∧ n < t ∧ Hid (t = 128 ^ j) ∧ r'.length ≤ r.length ∧ Hid (RdI p wr r' b') ∧ Upd [p] w wr ∧ Hid (rdN (zF 4) (4 - j) n t r' b' = rN 4 r b)) (fun _ _ iv _ => 4 - (intOf iv).toNat)
  case atStart => exact ⟨0, 0, 1, r, b, by omega, rfl, rfl, rfl, by omega, Lib.hid rfl, Nat.le_refl _, H0, Upd.refl _ _, Lib.hid rfl⟩
  case round =>
    clear H0
    obtain ⟨wo, rfl⟩ : ∃ wo : World, wo = wr := ⟨_, rfl⟩
    obtain ⟨j, n, t, r', b', hj, rfl, rfl, rfl, hnt, HT, hrl, HR, hU, HN⟩ := hrel
    have HU := Lib.hid hU
    clear hU
    by_cases hj4 : j < 4
    · have ht : t ≤ 2097152 := by
        rw [HT.out]
        have : 128 ^ j ≤ 128 ^ 3 := Nat.pow_le_pow_right (by omega) (by omega)
        simpa using this
      cases r' with
      | nil =>
        have S1 := Lib.hid (byteI0 p b' wo HR.out)
        have HE := Lib.hid (show rN 4 r b = (n, [], true) by rw [← HN.out, show 4 - j = (3 - j) + 1 by omega]; rfl)
        clear HN HT HR
        go_wp2_with fail
        refine S1.out.mono ?_
        rintro e w1 ⟨rfl, hr1, hu1⟩
        have HQ := Lib.hid (And.intro hr1 (HU.out.trans hu1))
        clear S1 hr1 hu1 HU
        go_wp2_with fail
        go_ret
        exact ⟨by rw [HE.out]; rfl, by rw [HE.out]; exact HQ.out.1, HQ.out.2⟩
      | cons c r1 =>
        have S1 := Lib.hid (byteI1 p c r1 b' wo (by simp at hrl; omega) HR.out)
        have hc1 : (c.toNat : Int) ≤ 255 := by have := c.toNat_lt; omega
        have hrl1 : r1.length ≤ r.length := by simp at hrl; omega
        by_cases hc : c.toNat < 128
        · have HE := Lib.hid (show rN 4 r b = (n + c.toNat * t, r1, b') by rw [← HN.out, show 4 - j = (3 - j) + 1 by omega, rdN, if_pos hc])
          obtain ⟨m, hm⟩ : ∃ m, c.toNat * t = m := ⟨_, rfl⟩
          have hml : m ≤ 127 * t := by rw [← hm]; exact Nat.mul_le_mul_right t (by omega)
          have hmm : (c.toNat : Int) % 128 * (t : Int) = (m : Int) := by
            rw [show (c.toNat : Int) % 128 = (c.toNat : Int) by omega, ← hm]; simp
          rw [hm] at HE
          have hci : (c.toNat : Int) < 128 := by omega
          clear HN HT HR hm
          go_wp2_with fail
          refine S1.out.mono ?_
          rintro e w1 ⟨rfl, hr1, hu1⟩
          have HQ := Lib.hid (And.intro hr1 (HU.out.trans hu1))
          clear S1 hr1 hu1 HU
          go_wp2_with fail
          go_ret
          exact ⟨by rw [HE.out]; rfl, by rw [HE.out]; exact HQ.out.1, HQ.out.2⟩
        · obtain ⟨m, hm⟩ : ∃ m, c.toNat % 128 * t = m := ⟨_, rfl⟩
          have HE := Lib.hid (show rdN (zF 4) (4 - (j + 1)) (n + m) (t * 128) r1 b' = rN 4 r b by rw [← HN.out, show 4 - j = (4 - (j + 1)) + 1 by omega, rdN, if_neg hc, hm])
          have hml : m ≤ 127 * t := by rw [← hm]; exact Nat.mul_le_mul_right t (by omega)
          have hmm : (c.toNat : Int) % 128 * (t : Int) = (m : Int) := by rw [← hm]; simp
          have hci : ¬ (c.toNat : Int) < 128 := by omega
          have HT2 := Lib.hid (show t * 128 = 128 ^ (j + 1) by rw [HT.out, Nat.pow_succ])
          clear HN HT HR hm
          go_wp2_with fail
          refine S1.out.mono ?_
          rintro e w1 ⟨rfl, hr1, hu1⟩
          have HQ := Lib.hid (And.intro hr1 (HU.out.trans hu1))
          clear S1 hr1 hu1 HU
          go_wp2_with fail
          go_roundw
          case rel => exact ⟨j + 1, n + m, t * 128, r1, b', by omega, by go_num, by go_num, by go_num, by omega, HT2, hrl1, Lib.hid HQ.out.1, HQ.out.2, HE⟩
          case measure => simp [intOf]; omega
    · obtain rfl : j = 4 := by omega
      have HE := Lib.hid (show rN 4 r b = (0, r', true) by rw [← HN.out]; rfl)
      obtain ⟨c0, c1, f0, f1⟩ := HR.out.facts
      have HQ := Lib.hid (And.intro (HR.out.set1 true) (HU.out.setCell (p := ⟨p, 1, none⟩) (Or.inr (by simp)) (.bool true)))
      clear HN HT HU HR
      go_wp2_with fail
      go_ret
      exact ⟨by rw [HE.out]; rfl, by rw [HE.out]; exact HQ.out.1, HQ.out.2⟩

set_option maxRecDepth 20000 in
set_option maxHeartbeats 4000000 in
theorem unpTextI (p : Nat) (r : List UInt8) (b : Bool) (w : World) (hl : r.length ≤ 2000000) (h : RdI p w r b) :
    Calls Tryz.prog 29 #[.pointer (some ⟨p, 0, none⟩)] w fun e w' => e = .returned (es (rT 4 r b).1) ∧ RdI p w' (rT 4 r b).2.1 (rT 4 r b).2.2 ∧ Upd [p] w w' := by
  have S1 := Lib.hid (numI p r b w hl h)
  have HE := Lib.hid (show rT 4 r b = if (rN 4 r b).2.1.length < (rN 4 r b).1 then ([], (rN 4 r b).2.1, true) else ((rN 4 r b).2.1.take (rN 4 r b).1, (rN 4 r b).2.1.drop (rN 4 r b).1, (rN 4 r b).2.2) from by unfold rT; simp)
  have hf1 := (rN_fits 4 r b).1
  have hf2 := (rN_fits 4 r b).2.1
  generalize (rN 4 r b).1 = n at *
  generalize (rN 4 r b).2.1 = r1 at *
  generalize (rN 4 r b).2.2 = b1 at *
  have hn : (n : Int) ≤ 268435456 := by
    have : (128 : Nat) ^ 4 = 268435456 := by decide
    omega
  have hr1 : r1.length ≤ 2000000 := by omega
  clear h hf1 hf2
  go_enter Tryz.func29, Tryz.ntmps29
  go_wp2_with fail
  refine S1.out.mono ?_
  rintro e w1 ⟨rfl, hrd, hu1⟩
  obtain ⟨c0, c1, f0, f1⟩ := hrd.facts
  by_cases hb : r1.length < n
  · have HQ := Lib.hid (And.intro (hrd.set1 true) (hu1.setCell (p := ⟨p, 1, none⟩) (Or.inr (by simp)) (.bool true)))
    have HR := Lib.hid (HE.out.trans (if_pos hb))
    have hbi : (r1.length : Int) < n := by omega
    clear S1 HE hrd hu1
    go_wp2_with fail
    go_ret
    exact ⟨by rw [HR.out]; rfl, by rw [HR.out]; exact HQ.out.1, by rw [HR.out] at *; exact HQ.out.2⟩
  · have HQ := Lib.hid (And.intro (hrd.set0 (r1.drop n)) (hu1.setCell (p := ⟨p, 0, none⟩) (Or.inr (by simp)) (es (r1.drop n))))
    have HR := Lib.hid (HE.out.trans (if_neg hb))
    have hbi : ¬ (r1.length : Int) < n := by omega
    have hex1 := extract_list r1 0 n
    have hex2 := extract_list r1 n r1.length
    rw [List.drop_zero, Nat.sub_zero] at hex1
    have e2 : (r1.drop n).take (r1.length - n) = r1.drop n := List.take_of_length_le (by simp)
    rw [e2] at hex2
    generalize r1.take n = A at *
    generalize r1.drop n = B at *
    clear S1 HE hrd hu1 e2
    go_wp2_with fail
    go_ret
    exact ⟨by rw [HR.out]; rfl, by rw [HR.out]; exact HQ.out.1, HQ.out.2⟩

end Go.Proofs.YthoacpecfmfeiaaGreatDoor

/-
  Systems copied and compared by the laws' helper functions.
-/
namespace Go.Proofs.YthoacpecfmfeiaaGreatDoor
open Go.RowKit Go.ChangeShapes

end Go.Proofs.YthoacpecfmfeiaaGreatDoor

/-
  A system that is being read: its block, its two rows, and what appends to them leave.
-/
namespace Go.Proofs.YthoacpecfmfeiaaGreatDoor
open Go.RowKit

theorem ownsRow_keep {w w' : World} {base : Nat} {e : TypeId} {size : Nat} {v : Value} {n : Nat} {xs : List Value} (h : w.ownsRow base e size v n xs) (hk : ∀ g, v.ownBlock = some g → w'.heap[g]? = w.heap[g]?) : w'.ownsRow base e size v n xs := by
  refine ⟨h.1, ?_⟩
  rcases h.2 with h2 | ⟨g, cap, cur, rfl, hb, hh, r⟩
  · exact Or.inl h2
  · exact Or.inr ⟨g, cap, cur, rfl, hb, by rw [hk g rfl]; exact hh, r⟩
theorem ownsRow_base {w : World} {base base' : Nat} {e : TypeId} {size : Nat} {v : Value} {n : Nat} {xs : List Value} (h : w.ownsRow base e size v n xs) (hb : base' ≤ base) : w.ownsRow base' e size v n xs := by
  refine ⟨h.1, ?_⟩
  rcases h.2 with h2 | ⟨g, cap, cur, rfl, hb2, r⟩
  · exact Or.inl h2
  · exact Or.inr ⟨g, cap, cur, rfl, Nat.le_trans hb hb2, r⟩
theorem row_type {w : World} {base g : Nat} {v : Value} {n sz : Nat} {xs : List Value} {e : TypeId} (h : w.ownsRow base e sz v n xs) (hg : v.ownBlock = some g) : base ≤ g ∧ ∃ c, w.heap[g]? = some (.cells c e (0, 0)) := by
  rcases h.2 with ⟨rfl, -⟩ | ⟨g', cap, cur, rfl, hb, hh, -⟩
  · simp [Value.ownBlock] at hg
  · simp [Value.ownBlock] at hg
    subst hg
    exact ⟨hb, _, hh⟩
theorem row_ne {w : World} {base g : Nat} {v : Value} {n sz : Nat} {xs : List Value} {e T : TypeId} {c : Array Value} (h : w.ownsRow base e sz v n xs) (hp : w.heap[g]? = some (.cells c T (0, 0))) (hne : e ≠ T) : v.ownBlock ≠ some g := by
  intro hb
  obtain ⟨-, c', h2⟩ := row_type h hb
  rw [hp] at h2
  simp only [Option.some.injEq, Obj.cells.injEq] at h2
  exact hne h2.2.1.symm

def zeroSys : Sys := ⟨0, 0, [], []⟩
def edCs (t : Ed) : List Value := [ei t.fr, ei t.lb, ei t.to]
variable {H p T : Nat} {w W W' : World} {a b : Int} {L : List (List UInt8)} {E : List Ed} {v1 v2 : Value} {o o' : Obj}
end Go.Proofs.YthoacpecfmfeiaaGreatDoor

/-
  DecodeFormula: what the program's call returns.
-/
namespace Go.Proofs.YthoacpecfmfeiaaGreatDoor
open Go.RowKit

def ndCs (t : Nd) : List Value := [ei t.kd, ei t.vr, es t.lb, .bool t.nt]
/-- a row of nodes of a call's own. -/
theorem new_nodes {w W : World} {base : Nat} {v : Value} {L : List Nd} (hb : w.heap.size ≤ base) (h1 : W.ownsRow base 37 4 v L.length (L.flatMap ndCs)) : New R_F1 w W v L :=
  New.ofOwns4 (ownsRow_base h1 hb)
theorem row_call {p : Nat} {w W : World} {v : Value} {L : List Nd} (h1 : w.ownsRow (p + 1) 37 4 v L.length (L.flatMap ndCs)) (hu : Upd [p] w W) : W.ownsRow (p + 1) 37 4 v L.length (L.flatMap ndCs) :=
  ownsRow_keep h1 (fun g hg => hu.block g (h1.lt g hg).2 (by have := (h1.lt g hg).1; simp; omega))
theorem nd_in {K : Nat} (r : List UInt8) (b : Bool) : (rNd K r b).2.1.length ≤ r.length ∧ ((rNd K r b).2.2 = false → (rNd K r b).2.1.length < r.length) ∧ (rNd K r b).1.lb.length ≤ r.length := by
  have a2 := (rN_fits K r b).2.1
  have b2 := (rN_fits K (rN K r b).2.1 (rN K r b).2.2).2.1
  have c2 := (rN_fits K (rN K (rN K r b).2.1 (rN K r b).2.2).2.1 (rN K (rN K r b).2.1 (rN K r b).2.2).2.2).2.1
  obtain ⟨d1, d2, d3⟩ := rT_fits K (rN K (rN K (rN K r b).2.1 (rN K r b).2.2).2.1 (rN K (rN K r b).2.1 (rN K r b).2.2).2.2).2.1 (rN K (rN K (rN K r b).2.1 (rN K r b).2.2).2.1 (rN K (rN K r b).2.1 (rN K r b).2.2).2.2).2.2
  unfold rNd
  refine ⟨by simp only; omega, fun h => ?_, by simp only; omega⟩
  have := d2 h
  simp only; omega
theorem rN_le4 (r : List UInt8) (b : Bool) : (rN 4 r b).1 ≤ 268435456 := by
  have := (rN_fits 4 r b).1
  have p4 : (128 : Nat) ^ 4 = 268435456 := by decide
  omega

set_option maxRecDepth 20000 in
set_option maxHeartbeats 4000000 in
theorem decFI (s : List UInt8) (w : World) (hs : s.length ≤ 1900000) (he : Env w) :
    Calls Tryz.prog 11 #[es s] w fun e w' => (∃ v, e = .returned (.tuple #[v, .int .i64 (decFF s).2]) ∧ New R_F1 w w' v (decFF s).1) ∧ Upd [] w w' := by
  have S1 := Lib.hid (contI2 s w (by omega))
  have HEnv := Lib.hid he
  have HDN := Lib.hid (fun h => @decFF_no s h)
  have HDS := Lib.hid (fun x h => @decFF_some s x h)
  have HDQ := Lib.hid (fun h => @decFF_none s h)
  generalize decFF s = D at *
  clear he
  go_enter Tryz.func11, Tryz.ntmps11
  go_wp2_with fail
  refine S1.out.mono ?_
  rintro e w1 ⟨hu1, hcase⟩
  rcases hcase with ⟨ho, rfl⟩ | ⟨ho, p, hp, rfl, hrd⟩
  · have HD := Lib.hid (HDN.out ho)
    have bo : ((opF2 s : Int) != 0) = true := by simpa using ho
    have HU := Lib.hid hu1
    generalize opF2 s = o at *
    clear S1 hu1 ho
    go_wp2_with fail
    go_ret2
    exact ⟨⟨_, by rw [HD.out]; rfl, by rw [HD.out]; exact new_nodes (Nat.le_refl _) (World.ownsRow_nil _ _ _ _)⟩, HU.out⟩
  · have bo : ((opF2 s : Int) != 0) = false := by simpa using ho
    have h3 := opF2_len ho
    have hml : (midL s).length ≤ 1900000 := by unfold midL; simp; omega
    have HIMG := Lib.hid (show imgFrm s = if frmOk (rdFrm 4 (midL s)).1 && (frmImg (rdFrm 4 (midL s)).1 == s) then some (rdFrm 4 (midL s)).1 else none from rfl)
    have hrd' : RdI p w1 (midL s) false := hrd
    generalize midL s = c at *
    obtain ⟨m, rf, bf, hF⟩ : ∃ a r' b', rN 4 c false = (a, r', b') := ⟨_, _, _, rfl⟩
    obtain ⟨Fs, rg, bg, hG⟩ : ∃ a r' b', rNs 4 m [] rf bf = (a, r', b') := ⟨_, _, _, rfl⟩
    have HSYS := Lib.hid (show (rdFrm 4 c).1 = Fs by unfold rdFrm; rw [hF]; simp only; rw [hG])
    have lf : rf.length ≤ 1900000 := by have := (rN_fits 4 c false).2.1; rw [hF] at this; simp only at this; omega
    have hm4 : m ≤ 268435456 := by have := rN_le4 c false; rw [hF] at this; exact this
    have HGG := Lib.hid hG
    have T1 := Lib.hid (numI p c false w1 (by omega) hrd')
    rw [hF] at T1
    simp only at T1
    have HO := Lib.hid ho
    have HU := Lib.hid hu1
    have HL := Lib.hid lf
    have hpw : w.heap.size ≤ p := hp
    obtain ⟨i4, ni, nz0, nz1, nz2⟩ := info_parts Tryz.infoNd
    clear ho hrd hrd' hu1 S1 hF hG lf hml h3 hp
    go_wp2_with fail
    refine T1.out.mono ?_
    rintro e w2 ⟨rfl, hr2, hu2⟩
    have HR2 := Lib.hid hr2
    have HU2 := Lib.hid (HU.out.fresh hu2 (fun b hb => Or.inl (by simp at hb; omega)))
    clear T1 HU hr2 hu2
    go_wp2_with fail
    go_loopw [6, 7] (fun fv iv wr => ∃ (K : Nat) (L : List Nd) (r' : List UInt8) (b' : Bool), iv = .int .i64 K ∧ K ≤ 268435456 ∧ Hid (RdI p wr r' b') ∧ Hid (wr.ownsRow (p + 1) 37 4 fv L.length (L.flatMap ndCs)) ∧ Hid (Upd [] w wr) ∧ Hid ((b' = false → L.length + r'.length ≤ 1900001) ∧ L.length + r'.length ≤ 1900002 ∧ r'.length ≤ 1900000) ∧ Hid (∀ q ∈ L, q.lb.length ≤ 2000000) ∧ Hid (rNs 4 K L r' b' = (Fs, rg, bg))) (fun _ iv _ => (intOf iv).toNat)
    case atStart => exact ⟨m, [], rf, bf, rfl, hm4, HR2, Lib.hid (World.ownsRow_nil _ _ _ _), HU2, Lib.hid ⟨fun _ => by have := HL.out; simp; omega, by have := HL.out; simp; omega, HL.out⟩, Lib.hid (by simp), HGG⟩
    case round =>
      clear HR2 HU2 HGG
      obtain ⟨wo, rfl⟩ : ∃ wo : World, wo = wr := ⟨_, rfl⟩
      obtain ⟨K, L, r', b', rfl, hK, HR, HOW, HU, HB, HQL, HRL⟩ := hrel
      have c1 := HR.out.facts.2.1
      obtain ⟨va, vc, hv⟩ := ownsRow_form HOW.out
      subst hv
      go_upto_region 6 with (fail)
      go_cut [26] (fun s26 wx => ∃ q : Bool, s26 = .bool q ∧ wx = wo ∧ Hid (q = (decide (0 < K) && !b')))
      case first =>
        by_cases hk1 : 0 < K
        · have hk1i : (0 : Int) < (K : Int) := by omega
          have HH := Lib.hid hk1
          clear hk1
          cases b'
          · go_wp2_with fail
            go_meet
            exact ⟨true, rfl, rfl, Lib.hid (by simp [HH.out])⟩
          · go_wp2_with fail
            go_meet
            exact ⟨false, rfl, rfl, Lib.hid (by simp)⟩
        · obtain rfl : K = 0 := by omega
          go_wp2_with fail
          go_meet
          exact ⟨false, rfl, rfl, Lib.hid (by simp)⟩
      case rest =>
        obtain ⟨q, rfl, rfl, HQ⟩ := hcut
        cases q with
        | true =>
          have hq := HQ.out.symm
          simp only [Bool.and_eq_true, decide_eq_true_eq, Bool.not_eq_true'] at hq
          obtain ⟨hk1, rfl⟩ := hq
          have HB2 := Lib.hid (And.intro (HB.out.1 rfl) HB.out.2.2)
          obtain ⟨x1, r1, b1, hX⟩ : ∃ a q b', rN 4 r' false = (a, q, b') := ⟨_, _, _, rfl⟩
          obtain ⟨x2, r2, b2, hY⟩ : ∃ a q b', rN 4 r1 b1 = (a, q, b') := ⟨_, _, _, rfl⟩
          obtain ⟨x3, r3, b3, hZ⟩ : ∃ a q b', rN 4 r2 b2 = (a, q, b') := ⟨_, _, _, rfl⟩
          obtain ⟨tx, r4, b4, hW⟩ : ∃ a q b', rT 4 r3 b3 = (a, q, b') := ⟨_, _, _, rfl⟩
          have hE : rNd 4 r' false = (⟨x1, x2, tx, x3 == 1⟩, r4, b4) := by unfold rNd; rw [hX]; simp only; rw [hY]; simp only; rw [hZ]; simp only; rw [hW]
          have l1 : r1.length ≤ 2000000 := by have := (rN_fits 4 r' false).2.1; rw [hX] at this; have := HB2.out.2; simp only at *; omega
          have l2 : r2.length ≤ 2000000 := by have := (rN_fits 4 r1 b1).2.1; rw [hY] at this; simp only at *; omega
          have l3 : r3.length ≤ 2000000 := by have := (rN_fits 4 r2 b2).2.1; rw [hZ] at this; simp only at *; omega
          have S5 := Lib.hid (numI p r' false wc (by have := HB.out.2.2; omega) HR.out)
          rw [hX] at S5
          have S6 := Lib.hid (fun W => numI p r1 b1 W l1)
          rw [hY] at S6
          have S7 := Lib.hid (fun W => numI p r2 b2 W l2)
          rw [hZ] at S7
          have S8 := Lib.hid (fun W => unpTextI p r3 b3 W l3)
          rw [hW] at S8
          simp only at S5 S6 S7 S8
          have HT := Lib.hid (nd_in (K := 4) r' false)
          have HRL2 := Lib.hid ((rNs_go 4 K L r' hk1).symm.trans HRL.out)
          rw [hE] at HT HRL2
          simp only at HT HRL2
          have hb3 : ((x3 : Int) == 1) = (x3 == 1) := by
            rw [Bool.eq_iff_iff]; simp; omega
          generalize (x3 == 1) = x3b at *
          have hLl : L.length ≤ 1900001 := by have := HB2.out.1; omega
          have hpW : p + 1 ≤ wc.heap.size := (Array.getElem?_eq_some_iff.1 HR.out).1
          have hk1i : (0 : Int) < (K : Int) := by omega
          clear HRL HB HQ c1 hX hY hZ hW hE l1 l2 l3 HR
          go_wp2_with fail
          refine S5.out.mono ?_
          rintro e w5 ⟨rfl, hr5, hu5⟩
          have T6 := Lib.hid (S6.out w5 hr5)
          have HV5 := Lib.hid hu5
          clear S5 S6 hr5 hu5
          go_wp2_with fail
          refine T6.out.mono ?_
          rintro e w6 ⟨rfl, hr6, hu6⟩
          have T7 := Lib.hid (S7.out w6 hr6)
          have HV6 := Lib.hid (HV5.out.trans hu6)
          clear T6 S7 hr6 hu6 HV5
          go_wp2_with fail
          refine T7.out.mono ?_
          rintro e w7 ⟨rfl, hr7, hu7⟩
          have T8 := Lib.hid (S8.out w7 hr7)
          have HV7 := Lib.hid (HV6.out.trans hu7)
          clear T7 S8 hr7 hu7 HV6
          go_wp2_with fail
          refine T8.out.mono ?_
          rintro e w8 ⟨rfl, hr8, hu8⟩
          have HV8 := Lib.hid (HV7.out.trans hu8)
          have HR8 := Lib.hid hr8
          have hrow := (row_call HOW.out HV8.out).alloc (.cells #[.int .i64 x1, .int .i64 x2, es tx, .bool x3b] 37)
          have hs8 : p + 1 ≤ w8.heap.size := (Array.getElem?_eq_some_iff.1 hr8).1
          have HU8 := Lib.hid (HU.out.fresh HV8.out (fun b hb => Or.inl (by simp at hb; omega)))
          clear T8 hr8 hu8 HV7 HV8 HU HOW
          go_wp2_with (first
            | (at_builtin; refine wpList_append_tight _ rfl _ _ 25 rfl (p + 1) 37 i4 (.agg #[.int .i64 0, .int .i64 0, .string ⟨#[]⟩, .bool false]) 4 40 Tryz.underlying25 ni nz0 nz1 nz2 rfl (by decide) _ _ _ rfl hrow ⟨w8.heap.size, 0, none⟩ 1 1 [.int .i64 x1, .int .i64 x2, es tx, .bool x3b] rfl rfl (fun j u hj => by rw [addr_add]; exact cell_new w8 #[.int .i64 x1, .int .i64 x2, es tx, .bool x3b] _ _ rfl _ _ (by simpa using hj)) (by simp [Value.oneCell']) (by unfold maxLen; omega) (by omega) (by simp; omega) ?_)
            | fail)
          intro v4 w9 hown4 hg4 ht4
          have HO9 := Lib.hid (show w9.ownsRow (p + 1) 37 4 v4 (L ++ [(⟨x1, x2, tx, x3b⟩ : Nd)]).length ((L ++ [(⟨x1, x2, tx, x3b⟩ : Nd)]).flatMap ndCs) by
            rw [List.length_append, List.flatMap_append]; simpa [ndCs] using hown4)
          have hR9 : RdI p w9 r4 b4 := by
            unfold RdI
            have e1 := HR8.out
            unfold RdI at e1
            rw [hg4.block p (by simp; omega) (fun e => by have := (hrow.lt p e.symm).1; omega)]
            have := ((Upd.refl [] w8).alloc (.cells #[.int .i64 x1, .int .i64 x2, es tx, .bool x3b] 37)).block p (by omega) (by simp)
            rw [this]; exact e1
          have HR9 := Lib.hid hR9
          have HU9 := Lib.hid ((HU8.out.alloc (.cells #[.int .i64 x1, .int .i64 x2, es tx, .bool x3b] 37)).grown hg4 (fun b hb => Or.inl (by have := (hrow.lt b hb).1; omega)))
          clear hown4 hg4 ht4 hrow HR8 HU8 hR9
          go_wp2_with fail
          go_roundw
          case rel => exact ⟨K - 1, L ++ [⟨x1, x2, tx, x3b⟩], r4, b4, by rw [show ((K - 1 : Nat) : Int) = (K : Int) - 1 by omega], by omega, HR9, HO9, HU9, Lib.hid ⟨fun h => by have := HT.out.2.1 h; have := HB2.out.1; simp; omega, by have := HT.out.1; have := HB2.out.1; simp; omega, by have := HT.out.1; have := HB2.out.2; omega⟩, Lib.hid (fun q hq => by
            rcases List.mem_append.1 hq with h | h
            · exact HQL.out q h
            · simp at h; subst h; have := HT.out.2.2; have := HB2.out.2; simp only; omega), HRL2⟩
          case measure => simp [intOf]; omega
        | false =>
          have hq : (decide (0 < K) && !b') = false := HQ.out.symm
          have HZ := Lib.hid (show Fs = L ∧ rg = r' ∧ bg = b' from by
            have h9 := HRL.out
            cases b' with
            | true => rw [rNs_bad] at h9; simp only [Prod.mk.injEq] at h9; exact ⟨h9.1.symm, h9.2.1.symm, h9.2.2.symm⟩
            | false =>
              simp at hq
              rw [show K = 0 by omega, rNs] at h9; simp only [Prod.mk.injEq] at h9; exact ⟨h9.1.symm, h9.2.1.symm, h9.2.2.symm⟩)
          obtain ⟨rfl, rfl, rfl⟩ := HZ.out
          have hs3 : 0 < s.length := by have := opF2_len HO.out; omega
          have HIC := Lib.hid (frm_case (X := Fs) hs3 (by rw [HIMG.out, HSYS.out]))
          have hnew : New R_F1 w wc (.slice va Fs.length vc) Fs := new_nodes (by omega) HOW.out
          obtain ⟨fp, hRF, -, -⟩ := hnew
          have S8 := Lib.hid (encFI _ Fs wc fp hRF (by have := HB.out.2.1; omega) HQL.out (HEnv.out.upd HU.out))
          generalize (if frmOk Fs then frmImg Fs else []) = Z at *
          clear HZ HB HRL HQ c1 hRF HIMG HSYS HQL HEnv hq HR
          go_wp2_with fail
          refine S8.out.mono ?_
          rintro e w9 ⟨rfl, hu9⟩
          have HU9 := Lib.hid (HU.out.trans hu9)
          have HO9 := Lib.hid (ownsRow_upd HOW.out hu9)
          clear S8 hu9 HOW HU
          rcases HIC.out with ⟨hz, hi⟩ | ⟨hz, hi⟩
          · have HDD := Lib.hid (HDS.out _ HO.out hi)
            subst hz
            clear HIC hi
            go_wp2_with fail
            go_ret2
            exact ⟨⟨_, by rw [HDD.out]; rfl, by rw [HDD.out]; exact new_nodes (by omega) HO9.out⟩, HU9.out⟩
          · have HDD := Lib.hid (HDQ.out HO.out hi)
            have bz : (Z != s) = true := by simp [hz]
            have bz2 : (Z == s) = false := by simp [hz]
            clear HIC hz hi
            go_wp2_with fail
            go_ret2
            exact ⟨⟨_, by rw [HDD.out]; rfl, by rw [HDD.out]; exact new_nodes (Nat.le_refl _) (World.ownsRow_nil _ _ _ _)⟩, HU9.out⟩

end Go.Proofs.YthoacpecfmfeiaaGreatDoor

/-
  The reference's reader of images: what its calls return and leave.
-/
namespace Go.Proofs.YthoacpecfmfeiaaGreatDoor
open Go.RowKit

/-- the reference's reader at block p: the rest of its text, and whether it is bad. -/
def RdS (p : Nat) (w : World) (r : List UInt8) (b : Bool) : Prop := ∃ (S : List UInt8) (i : Nat), i ≤ S.length ∧ S.length ≤ 2000000 ∧ S.drop i = r ∧ w.heap[p]? = some (.cells #[es S, .int .i64 i, .bool b] 53 (0, 0))
theorem RdS.upd {p : Nat} {w w1 : World} {r : List UInt8} {b : Bool} (h : RdS p w r b) {f : List Nat} (hu : Upd f w w1) (hf : p ∉ f) : RdS p w1 r b := by
  obtain ⟨S, i, h1, h2, h3, h4⟩ := h
  exact ⟨S, i, h1, h2, h3, by rw [hu.block p (Array.getElem?_eq_some_iff.1 h4).1 hf]; exact h4⟩
theorem rds_cells {p : Nat} {w : World} {S : List UInt8} {i : Nat} {b : Bool} (h : w.heap[p]? = some (.cells #[es S, .int .i64 i, .bool b] 53 (0, 0))) :
    w.cell? ⟨p, 0, none⟩ = some (es S) ∧ w.cell? ⟨p, 1, none⟩ = some (.int .i64 i) ∧ w.cell? ⟨p, 2, none⟩ = some (.bool b) ∧ w.frozen? ⟨p, 1, none⟩ = false ∧ w.frozen? ⟨p, 2, none⟩ = false := by
  refine ⟨?_, ?_, ?_, ?_, ?_⟩
  · simp [World.cell?, h]
  · simp [World.cell?, h]
  · simp [World.cell?, h]
  · simp [World.frozen?, h]
  · simp [World.frozen?, h]
theorem rds_set1 {p : Nat} {w : World} {S : List UInt8} {i : Nat} {b : Bool} (h : w.heap[p]? = some (.cells #[es S, .int .i64 i, .bool b] 53 (0, 0))) (j : Nat) (u : Value) (hu : u = .int .i64 j) :
    (w.setCell ⟨p, 1, none⟩ u).heap[p]? = some (.cells #[es S, .int .i64 j, .bool b] 53 (0, 0)) := by
  subst hu
  have := heap_setCell_same w p 1 _ _ (.int .i64 j) h
  simpa using this
theorem rds_set2 {p : Nat} {w : World} {S : List UInt8} {i : Nat} {b : Bool} (h : w.heap[p]? = some (.cells #[es S, .int .i64 i, .bool b] 53 (0, 0))) (b' : Bool) :
    (w.setCell ⟨p, 2, none⟩ (.bool b')).heap[p]? = some (.cells #[es S, .int .i64 i, .bool b'] 53 (0, 0)) := by
  have := heap_setCell_same w p 2 _ _ (.bool b') h
  simpa using this

theorem RdS.len {p : Nat} {w : World} {r : List UInt8} {b : Bool} (h : RdS p w r b) : r.length ≤ 2000000 ∧ w.cell? ⟨p, 2, none⟩ = some (.bool b) := by
  obtain ⟨S, i, h1, h2, rfl, h4⟩ := h
  exact ⟨by simp; omega, (rds_cells h4).2.2.1⟩

set_option maxRecDepth 20000 in
set_option maxHeartbeats 4000000 in
theorem numR (p : Nat) (r : List UInt8) (b : Bool) (w : World) (h : RdS p w r b) :
    Calls Tryz.prog 25 #[.pointer (some ⟨p, 0, none⟩)] w fun e w' => e = .returned (.int .i64 ((rN 3 r b).1 : Nat)) ∧ RdS p w' (rN 3 r b).2.1 (rN 3 r b).2.2 ∧ Upd [p] w w' := by
  obtain ⟨S, i0, hi0, hSl, rfl, hh⟩ := h
  have H0 := Lib.hid hh
  clear hh
  go_enter Tryz.func25, Tryz.ntmps25
  go_wp2_with fail
  go_loopw [3, 4, 5] (fun nv tv iv wr => ∃ (j n t i : Nat), j ≤ 3 ∧ iv = .int .i64 j ∧ nv = .int .i64 n ∧ tv = .int .i64 t ∧ n < t ∧ Hid (t = 128 ^ j) ∧ i ≤ S.length ∧ Hid (wr.heap[p]? = some (.cells #[es S, .int .i64 i, .bool b] 53 (0, 0))) ∧ Hid (Upd [p] w wr) ∧ Hid (rdN (zF 3) (3 - j) n t (S.drop i) b = rN 3 (S.drop i0) b)) (fun _ _ iv _ => 3 - (intOf iv).toNat)
  case atStart => exact ⟨0, 0, 1, i0, by omega, rfl, rfl, rfl, by omega, Lib.hid rfl, hi0, H0, Lib.hid (Upd.refl _ _), Lib.hid rfl⟩
  case round =>
    clear H0
    obtain ⟨wo, rfl⟩ : ∃ wo : World, wo = wr := ⟨_, rfl⟩
    obtain ⟨j, n, t, i, hj, rfl, rfl, rfl, hnt, HT, hil, HR, HU, HN⟩ := hrel
    obtain ⟨c0, c1, c2, f1, f2⟩ := rds_cells HR.out
    by_cases hj4 : j < 3
    · have ht : t ≤ 16384 := by
        rw [HT.out]
        have : 128 ^ j ≤ 128 ^ 2 := Nat.pow_le_pow_right (by omega) (by omega)
        simpa using this
      by_cases hlt : i < S.length
      · obtain ⟨c, hc⟩ : ∃ c, S[i] = c := ⟨_, rfl⟩
        have hix : (⟨S.toArray⟩ : ByteArray)[i]'(by simpa [ByteArray.size] using hlt) = c := by rw [← hc]; simp [ByteArray.getElem_eq_getElem_data]
        have hc1 : (c.toNat : Int) ≤ 255 := by have := c.toNat_lt; omega
        have hN := HN.out
        rw [List.drop_eq_getElem_cons hlt, hc, show 3 - j = (3 - (j + 1)) + 1 by omega, rdN] at hN
        have HQ := Lib.hid (rds_set1 HR.out (i + 1) (.int .i64 ((i : Int) + 1)) (by simp))
        have HV := Lib.hid (HU.out.drew)
        by_cases hc128 : c.toNat < 128
        · rw [if_pos hc128] at hN
          obtain ⟨m, hm⟩ : ∃ m, c.toNat * t = m := ⟨_, rfl⟩
          have hml : m ≤ 127 * t := by rw [← hm]; exact Nat.mul_le_mul_right t (by omega)
          have hmm : (c.toNat : Int) % 128 * (t : Int) = (m : Int) := by
            rw [show (c.toNat : Int) % 128 = (c.toNat : Int) by omega, ← hm]; simp
          rw [hm] at hN
          have HE := Lib.hid hN
          have hci : (c.toNat : Int) < 128 := by omega
          have hgeq : ¬ (S.length : Int) ≤ (i : Int) := by omega
          clear HN HT hm hN hc
          go_wp2_with fail
          go_quiet (fail)
          go_wp2_with fail
          go_quiet (fail)
          go_wp2_with fail
          go_ret
          rw [← HE.out]
          exact ⟨rfl, ⟨S, i + 1, by omega, hSl, rfl, HQ.out⟩, ((HU.out.drewN _)).setCell (Or.inr (by simp)) _⟩
        · rw [if_neg hc128] at hN
          obtain ⟨m, hm⟩ : ∃ m, c.toNat % 128 * t = m := ⟨_, rfl⟩
          have hml : m ≤ 127 * t := by rw [← hm]; exact Nat.mul_le_mul_right t (by omega)
          have hmm : (c.toNat : Int) % 128 * (t : Int) = (m : Int) := by rw [← hm]; simp
          rw [hm] at hN
          have HE := Lib.hid hN
          have hci : ¬ (c.toNat : Int) < 128 := by omega
          have hgeq : ¬ (S.length : Int) ≤ (i : Int) := by omega
          have HT2 := Lib.hid (show t * 128 = 128 ^ (j + 1) by rw [HT.out, Nat.pow_succ])
          clear HN HT hm hN hc
          go_wp2_with fail
          go_quiet (fail)
          go_wp2_with fail
          go_quiet (fail)
          go_wp2_with fail
          go_roundw
          case rel => exact ⟨j + 1, n + m, t * 128, i + 1, by omega, by go_num, by go_num, by go_num, by omega, HT2, by omega, Lib.hid HQ.out, Lib.hid ((HU.out.drewN _).setCell (Or.inr (by simp)) _), HE⟩
          case measure => simp [intOf]; omega
      · obtain rfl : i = S.length := by omega
        have HE := Lib.hid (show rN 3 (S.drop i0) b = (0, [], true) by rw [← HN.out, List.drop_length, show 3 - j = (2 - j) + 1 by omega]; rfl)
        have HQ := Lib.hid (rds_set2 HR.out true)
        clear HN HT
        go_wp2_with fail
        go_quiet (fail)
        go_wp2_with fail
        go_ret
        rw [HE.out]
        exact ⟨rfl, ⟨S, S.length, Nat.le_refl _, hSl, List.drop_length, HQ.out⟩, (HU.out.drewN _).setCell (Or.inr (by simp)) _⟩
    · obtain rfl : j = 3 := by omega
      have HE := Lib.hid (show rN 3 (S.drop i0) b = (0, S.drop i, true) by rw [← HN.out]; rfl)
      have HQ := Lib.hid (rds_set2 HR.out true)
      clear HN HT
      go_wp2_with fail
      go_ret
      rw [HE.out]
      exact ⟨rfl, ⟨S, i, hil, hSl, rfl, HQ.out⟩, HU.out.setCell (Or.inr (by simp)) _⟩

set_option maxRecDepth 20000 in
set_option maxHeartbeats 4000000 in
theorem textR (p : Nat) (r : List UInt8) (b : Bool) (w : World) (h : RdS p w r b) :
    Calls Tryz.prog 26 #[.pointer (some ⟨p, 0, none⟩)] w fun e w' => e = .returned (es (rT 3 r b).1) ∧ RdS p w' (rT 3 r b).2.1 (rT 3 r b).2.2 ∧ Upd [p] w w' := by
  have S1 := Lib.hid (numR p r b w h)
  have HE := Lib.hid (show rT 3 r b = if (rN 3 r b).2.2 = true ∨ (rN 3 r b).2.1.length < (rN 3 r b).1 then ([], (rN 3 r b).2.1, true) else ((rN 3 r b).2.1.take (rN 3 r b).1, (rN 3 r b).2.1.drop (rN 3 r b).1, (rN 3 r b).2.2) from by unfold rT; simp)
  have hf1 := (rN_fits 3 r b).1
  generalize (rN 3 r b).1 = n at *
  generalize (rN 3 r b).2.1 = r1 at *
  generalize (rN 3 r b).2.2 = b1 at *
  have hn : (n : Int) ≤ 2097152 := by
    have : (128 : Nat) ^ 3 = 2097152 := by decide
    omega
  clear h hf1
  go_enter Tryz.func26, Tryz.ntmps26
  go_wp2_with fail
  refine S1.out.mono ?_
  rintro e w1 ⟨rfl, ⟨S, i, hi, hSl, hd, hh⟩, hu1⟩
  obtain ⟨c0, c1, c2, f1, f2⟩ := rds_cells hh
  have hlen : r1.length = S.length - i := by rw [← hd]; simp
  have HU := Lib.hid hu1
  have HH := Lib.hid hh
  clear S1 hu1 hh
  cases b1 with
  | true =>
    have HR := Lib.hid (HE.out.trans (if_pos (Or.inl rfl)))
    have HQ := Lib.hid (rds_set2 HH.out true)
    clear HE
    go_wp2_with fail
    go_quiet (fail)
    go_wp2_with fail
    go_ret
    rw [HR.out]
    exact ⟨rfl, ⟨S, i, hi, hSl, hd, HQ.out⟩, (HU.out.drewN _).setCell (Or.inr (by simp)) _⟩
  | false =>
    by_cases hb : r1.length < n
    · have HR := Lib.hid (HE.out.trans (if_pos (Or.inr hb)))
      have HQ := Lib.hid (rds_set2 HH.out true)
      have hbi : (S.length : Int) - (i : Int) < n := by omega
      clear HE
      go_wp2_with fail
      go_quiet (fail)
      go_wp2_with fail
      go_ret
      rw [HR.out]
      exact ⟨rfl, ⟨S, i, hi, hSl, hd, HQ.out⟩, (HU.out.drewN _).setCell (Or.inr (by simp)) _⟩
    · have HR := Lib.hid (HE.out.trans (if_neg (by simp; omega)))
      have HQ := Lib.hid (rds_set1 HH.out (i + n) (.int .i64 ((i : Int) + (n : Int))) (by simp))
      have hbi : ¬ (S.length : Int) - (i : Int) < n := by omega
      have hex1 := extract_list S i (i + n)
      rw [Nat.add_sub_cancel_left, hd] at hex1
      have HD := Lib.hid (show S.drop (i + n) = r1.drop n by rw [← hd, List.drop_drop])
      have hin : i + n ≤ S.length := by omega
      generalize r1.take n = A at *
      generalize r1.drop n = B at *
      clear HE
      go_wp2_with fail
      go_quiet (fail)
      go_wp2_with fail
      go_quiet (fail)
      go_wp2_with fail
      go_ret
      rw [HR.out]
      exact ⟨congrArg (fun s => Ending.returned (Value.string s)) hex1, ⟨S, i + n, hin, hSl, HD.out, HQ.out⟩, ((HU.out.drewN _).setCell (Or.inr (by simp)) _).drewN _⟩

end Go.Proofs.YthoacpecfmfeiaaGreatDoor

/-
  The reference's checks of nodes and of a formula's shape: what the calls return.
-/
namespace Go.Proofs.YthoacpecfmfeiaaGreatDoor
open Go.RowKit

set_option maxRecDepth 20000 in
set_option maxHeartbeats 800000 in
theorem arityS (a : Int) (w : World) : Calls Tryz.prog 48 #[ei a] w fun e w' => e = .returned (.int .i64 (arS a)) ∧ w = w' := by
  by_cases h0 : a = 0
  · have HI := Lib.hid (show arS a = 0 by subst h0; rfl)
    have b0 : (a == 0) = true := by simpa using h0
    clear h0
    go_enter Tryz.func48, Tryz.ntmps48
    go_wp2_with fail
    go_ret
    exact ⟨by rw [HI.out]; rfl, rfl⟩
  · have b0 : (a == 0) = false := by simpa using h0
    by_cases h1 : a = 1
    · have HI := Lib.hid (show arS a = 0 by subst h1; rfl)
      have b1 : (a == 1) = true := by simpa using h1
      clear h1 h0
      go_enter Tryz.func48, Tryz.ntmps48
      go_wp2_with fail
      go_ret
      exact ⟨by rw [HI.out]; rfl, rfl⟩
    · have b1 : (a == 1) = false := by simpa using h1
      by_cases h6 : a = 6
      · have HI := Lib.hid (show arS a = 0 by subst h6; rfl)
        have b6 : (a == 6) = true := by simpa using h6
        clear h6 h0 h1
        go_enter Tryz.func48, Tryz.ntmps48
        go_wp2_with fail
        go_ret
        exact ⟨by rw [HI.out]; rfl, rfl⟩
      · have b6 : (a == 6) = false := by simpa using h6
        by_cases h2 : a = 2
        · have HI := Lib.hid (show arS a = 2 by subst h2; rfl)
          have b2 : (a == 2) = true := by simpa using h2
          clear h2 h0 h1 h6
          go_enter Tryz.func48, Tryz.ntmps48
          go_wp2_with fail
          go_ret
          exact ⟨by rw [HI.out]; rfl, rfl⟩
        · have b2 : (a == 2) = false := by simpa using h2
          by_cases h3 : a = 3
          · have HI := Lib.hid (show arS a = 2 by subst h3; rfl)
            have b3 : (a == 3) = true := by simpa using h3
            clear h3 h0 h1 h6 h2
            go_enter Tryz.func48, Tryz.ntmps48
            go_wp2_with fail
            go_ret
            exact ⟨by rw [HI.out]; rfl, rfl⟩
          · have b3 : (a == 3) = false := by simpa using h3
            have HI := Lib.hid (show arS a = 1 by unfold arS; rw [if_neg (by omega), if_neg (by omega)])
            clear h0 h1 h6 h2 h3
            go_enter Tryz.func48, Tryz.ntmps48
            go_wp2_with fail
            go_ret
            exact ⟨by rw [HI.out]; rfl, rfl⟩

set_option maxRecDepth 20000 in
set_option maxHeartbeats 800000 in
theorem fixS (b o : Nat) (a : Int) (w : World) (hc : w.cell? ⟨b, o, none⟩ = some (ei a)) : Calls Tryz.prog 32 #[.pointer (some ⟨b, o, none⟩)] w fun e w' => e = .returned (.bool (fixF a)) ∧ w = w' := by
  by_cases h7 : a = 7
  · have HI := Lib.hid (show fixF a = true by subst h7; rfl)
    have b7 : (a == 7) = true := by simpa using h7
    clear h7
    go_enter Tryz.func32, Tryz.ntmps32
    go_wp2_with fail
    go_ret
    exact ⟨by rw [HI.out]; rfl, rfl⟩
  · have b7 : (a == 7) = false := by simpa using h7
    have HI := Lib.hid (show fixF a = (a == 8) by unfold fixF; rw [b7]; rfl)
    clear h7
    generalize hq : (a == 8) = q at *
    go_enter Tryz.func32, Tryz.ntmps32
    go_wp2_with fail
    go_ret
    exact ⟨by rw [HI.out]; rfl, rfl⟩

set_option maxRecDepth 20000 in
set_option maxHeartbeats 2000000 in
theorem patS (s : List UInt8) (w : World) (hl : s.length ≤ 2000000) : Calls Tryz.prog 49 #[es s] w fun e w' => e = .returned (.bool (patF s)) ∧ Upd [] w w' := by
  have S1 := Lib.hid (labelS s w hl)
  have HP := Lib.hid (show patF s = (s == [] || isLab s || (s.getLast? == some 42 && actF s.dropLast)) from rfl)
  by_cases h0 : s = []
  · subst h0
    have HR := Lib.hid (show patF [] = true from rfl)
    clear S1 HP
    go_enter Tryz.func49, Tryz.ntmps49
    go_wp2_with fail
    go_ret
    exact ⟨by rw [HR.out]; rfl, Upd.refl _ _⟩
  · have b0 : (s == ([] : List UInt8)) = false := by simpa using h0
    cases hlab : isLab s with
    | true =>
      rw [hlab] at S1
      have HR := Lib.hid (show patF s = true by rw [HP.out, hlab]; simp)
      clear HP hlab h0
      go_enter Tryz.func49, Tryz.ntmps49
      go_wp2_with fail
      refine S1.out.mono ?_
      rintro e w1 ⟨rfl, hu⟩
      have HU := Lib.hid hu
      clear S1 hu
      go_wp2_with fail
      go_ret
      exact ⟨by rw [HR.out]; rfl, HU.out⟩
    | false =>
      rw [hlab] at S1
      obtain ⟨l, x, rfl⟩ : ∃ l x, s = l ++ [x] := by
        rcases List.eq_nil_or_concat s with h | ⟨l, x, h⟩
        · exact absurd h h0
        · exact ⟨l, x, by rw [h]; simp⟩
      have HR := Lib.hid (show patF (l ++ [x]) = (x == 42 && actF l) by rw [HP.out, hlab, b0]; simp)
      have hlen : (l ++ [x]).length = l.length + 1 := by simp
      have hll : l.length ≤ 2000000 := by rw [hlen] at hl; omega
      have S2 := Lib.hid (fun W => actionS l W hll)
      have hext := extract_list (l ++ [x]) 0 l.length
      have e1 : ((l ++ [x]).drop 0).take (l.length - 0) = l := by simp
      rw [e1] at hext
      have hix : (⟨(l ++ [x]).toArray⟩ : ByteArray)[l.length]'(by simp [ByteArray.size]) = x := by simp [ByteArray.getElem_eq_getElem_data]
      have hm1 : ((l.length : Int) + 1) - 1 = (l.length : Int) := by omega
      have hm4 : (l.length : Int) ≤ (l.length : Int) + 1 := by omega
      have hzz : l.length < (l ++ [x]).length := by omega
      clear HP hlab h0 e1
      obtain ⟨S, hS⟩ : ∃ S, S = l ++ [x] := ⟨_, rfl⟩
      have hix2 : ∃ hh, (⟨S.toArray⟩ : ByteArray)[l.length]'hh = x := by subst hS; exact ⟨_, hix⟩
      rw [← hS] at S1 HR hlen hext b0 hzz hl
      rw [← hS]
      clear hix hS
      obtain ⟨hh, hix⟩ := hix2
      by_cases hx : x = 42
      · have bx : ((x.toNat : Int) == 42) = true := by rw [hx]; rfl
        have HR2 := Lib.hid (show patF S = actF l by rw [HR.out, hx]; simp)
        clear HR hx
        generalize actF l = q at *
        go_enter Tryz.func49, Tryz.ntmps49
        go_wp2_with fail
        refine S1.out.mono ?_
        rintro e w1 ⟨rfl, hu⟩
        have HU := Lib.hid hu
        clear S1 hu
        go_wp2_with fail
        refine (S2.out _).mono ?_
        rintro e w2 ⟨rfl, rfl⟩
        clear S2
        go_wp2_with fail
        go_ret
        exact ⟨by rw [HR2.out]; rfl, HU.out⟩
      · have bx : ((x.toNat : Int) == 42) = false := by
          simp; intro h; apply hx; exact UInt8.toNat_inj.1 (by rw [show (42 : UInt8).toNat = 42 from rfl]; omega)
        have HR2 := Lib.hid (show patF S = false by rw [HR.out]; simp [hx])
        clear HR hx S2
        go_enter Tryz.func49, Tryz.ntmps49
        go_wp2_with fail
        refine S1.out.mono ?_
        rintro e w1 ⟨rfl, hu⟩
        have HU := Lib.hid hu
        clear S1 hu
        go_wp2_with fail
        go_ret
        exact ⟨by rw [HR2.out]; rfl, HU.out⟩

set_option maxRecDepth 20000 in
set_option maxHeartbeats 2000000 in
theorem endS (v : Value) (f : List Nd) (i : Nat) (w : World) (fp : List Nat) (hR : R_F1 fp w [v] f) (hlen : f.length ≤ 2000000) (hi : i < f.length) (hs : ∃ q : Int, 1 ≤ q ∧ shapeF arS q (f.drop i) = true) :
    Calls Tryz.prog 50 #[v, .int .i64 i] w fun e w' => e = .returned (.int .i64 ((i + endF arS 1 (f.drop i) : Nat) : Int)) ∧ w = w' := by
  obtain ⟨a, cap, rfl, h1, h2, hc⟩ := slF4_open hR
  unfold maxLen at h2
  have HC := Lib.hid hc
  have HQ := Lib.hid hs
  clear hR hc hs
  go_enter Tryz.func50, Tryz.ntmps50
  go_wp2_with fail
  go_loop [1, 5] (fun kv mv => ∃ (k : Nat) (m : Int), k ≤ f.length ∧ kv = .int .i64 k ∧ mv = .int .i64 m ∧ 0 ≤ m ∧ m ≤ 1 + 2 * k ∧ Hid (∃ q : Int, m ≤ q ∧ shapeF arS q (f.drop k) = true) ∧ Hid (k + endF arS m (f.drop k) = i + endF arS 1 (f.drop i))) (fun kv _ => f.length - (intOf kv).toNat)
  case atStart => exact ⟨i, 1, by omega, rfl, rfl, by omega, by omega, Lib.hid (by obtain ⟨q, h, h'⟩ := HQ.out; exact ⟨q, h, h'⟩), Lib.hid rfl⟩
  case round =>
    clear HQ
    obtain ⟨k, m, hk, rfl, rfl, hm0, hm1, HS, HE⟩ := hrel
    by_cases hz : m = 0
    · subst hz
      have HR := Lib.hid (show k = i + endF arS 1 (f.drop i) by
        rw [← HE.out]
        cases f.drop k with
        | nil => rfl
        | cons n l => simp [endF])
      clear HS HE
      go_wp2_with fail
      go_ret
      exact ⟨by rw [HR.out]; rfl, rfl⟩
    · have hlt : k < f.length := by
        rcases Nat.lt_or_ge k f.length with h | h
        · exact h
        · exfalso
          obtain ⟨q, g1, g2⟩ := HS.out
          rw [List.drop_of_length_le h, shapeF] at g2
          simp at g2; omega
      obtain ⟨b1, o1, rfl, -, -, p1, p2, p3, p4⟩ := HC.out k hlt
      have S1 := Lib.hid (fun W => arityS f[k].kd W)
      have har := arS_in f[k].kd
      have HS2 := Lib.hid (show ∃ q : Int, m + arS f[k].kd - 1 ≤ q ∧ shapeF arS q (f.drop (k + 1)) = true from by
        obtain ⟨q, g1, g2⟩ := HS.out
        rw [List.drop_eq_getElem_cons hlt] at g2
        exact ⟨q + arS f[k].kd - 1, by omega, (shape_step g2).2⟩)
      have HE2 := Lib.hid (show k + 1 + endF arS (m + arS f[k].kd - 1) (f.drop (k + 1)) = i + endF arS 1 (f.drop i) by
        rw [← HE.out, List.drop_eq_getElem_cons hlt, endF, if_neg (by omega)]; omega)
      have hmp : 0 < m := by omega
      clear HS HE hz
      generalize arS f[k].kd = ar at *
      generalize f[k] = x at *
      obtain ⟨x1, x2, x3, x4⟩ := x
      simp only at p1 p2 p3 p4 S1
      go_wp2_with fail
      refine (S1.out _).mono ?_
      rintro e w1 ⟨rfl, rfl⟩
      clear S1 p1 p2 p3 p4
      obtain ⟨m2, hm2⟩ : ∃ m2 : Int, m2 = m + ar - 1 := ⟨_, rfl⟩
      have hm3 : m + (ar - 1) = m2 := by omega
      rw [← hm2] at HS2 HE2
      have hm4 : 0 ≤ m2 := by omega
      have hm5 : m2 ≤ 1 + 2 * (k + 1) := by omega
      clear hm2
      go_wp2_with fail
      go_round
      case rel => exact ⟨k + 1, m2, by omega, by go_num, rfl, hm4, by omega, HS2, HE2⟩
      case measure => simp [intOf]; omega

end Go.Proofs.YthoacpecfmfeiaaGreatDoor

/-
  The reference's check of a formula: what the calls return.
-/
namespace Go.Proofs.YthoacpecfmfeiaaGreatDoor
open Go.RowKit

theorem shapeS_ar : ∀ (l : List Nd) (m : Int), shapeS m l = true → shapeF arS m l = true
  | [], m, h => h
  | n :: l, m, h => by
    rw [shapeS] at h
    split at h
    · cases h
    · next h1 =>
      split at h
      · cases h
      · rw [shapeF, if_neg (fun e => h1 (Or.inl e))]
        exact shapeS_ar l _ h

set_option maxRecDepth 20000 in
set_option maxHeartbeats 4000000 in
theorem bindS (v : Value) (f : List Nd) (k : Nat) (w : World) (fp : List Nat) (hR : R_F1 fp w [v] f) (hlen : f.length ≤ 2000000) (hk : k < f.length) (hs : shapeF arS 1 f = true) :
    Calls Tryz.prog 34 #[v, .int .i64 k] w fun e w' => e = .returned (.int .i64 (bindF arS f k k)) ∧ Upd [] w w' := by
  have HR := Lib.hid hR
  have HSH := Lib.hid (shape_drop arS_in f 1 (by omega) hs)
  obtain ⟨a, cap, rfl, h1, h2, hc⟩ := slF4_open hR
  unfold maxLen at h2
  obtain ⟨b1, o1, rfl, -, -, hcs⟩ := hc 0 (by omega)
  have HC := Lib.hid (fun i (hi : i < f.length) => show w.cell? ⟨b1, o1 + i * 4, none⟩ = some (ei f[i].kd) ∧ w.cell? ⟨b1, o1 + i * 4 + 1, none⟩ = some (ei f[i].vr) from by
    obtain ⟨b, o, hbo, -, -, q⟩ := hc i hi
    cases hbo
    exact ⟨q.1, q.2.1⟩)
  clear hR hc hcs hs
  go_enter Tryz.func34, Tryz.ntmps34
  go_wp2_with fail
  go_loopw [5] (fun zv wr => ∃ z : Int, zv = .int .i64 z ∧ -1 ≤ z ∧ z < k ∧ Hid (bindF arS f k (z + 1).toNat = bindF arS f k k) ∧ Hid (Upd [] w wr)) (fun zv _ => (intOf zv + 1).toNat)
  case atStart => exact ⟨(k : Int) - 1, rfl, by omega, by omega, Lib.hid (by congr 1; omega), Lib.hid (Upd.refl _ _)⟩
  case round =>
    obtain ⟨wo, rfl⟩ : ∃ wo : World, wo = wr := ⟨_, rfl⟩
    obtain ⟨z, rfl, hz1, hzk, HB, HU⟩ := hrel
    by_cases hz : z < 0
    · obtain rfl : z = -1 := by omega
      have HE := Lib.hid (show bindF arS f k k = -1 by rw [← HB.out]; rfl)
      clear HB hz
      go_wp2_with fail
      go_ret
      exact ⟨by rw [HE.out]; rfl, HU.out⟩
    · obtain ⟨j, rfl⟩ : ∃ j : Nat, z = j := ⟨z.toNat, by omega⟩
      have hjf : j < f.length := by omega
      obtain ⟨p1, p2⟩ := HC.out j hjf
      obtain ⟨-, p5⟩ := HC.out k hk
      have q1 := HU.out.keep p1
      have q2 := HU.out.keep p2
      have q5 := HU.out.keep p5
      have gj : f.getD j nd0 = f[j] := by rw [List.getD_eq_getElem?_getD, List.getElem?_eq_getElem hjf]; rfl
      have gk : f.getD k nd0 = f[k] := by rw [List.getD_eq_getElem?_getD, List.getElem?_eq_getElem hk]; rfl
      have HB2 := Lib.hid (show bindF arS f k k = if fixF f[j].kd && (f[j].vr == f[k].vr) && decide (k < j + endF arS 1 (f.drop j)) then (j : Int) else bindF arS f k j by
        rw [← HB.out, show ((j : Int) + 1).toNat = j + 1 by omega, bindF]
        unfold bndP
        rw [gj, gk])
      have SE := Lib.hid (fun n : Nat => (endS _ f j (wo.drewN n) fp (R_F1k.upd HR.out (HU.out.drewN n) (by simp)) hlen hjf (by obtain ⟨q, g1, -, g3⟩ := HSH.out j hjf; exact ⟨q, g1, g3⟩)).mono (fun e w' h => (⟨h.1, n, h.2.symm⟩ : _ ∧ ∃ m, w' = wo.drewN m)))
      have SF := Lib.hid (fun n : Nat => (fixS b1 (o1 + j * 4) f[j].kd (wo.drewN n) (((Upd.refl [] wo).drewN n).keep q1)).mono (fun e w' h => (⟨h.1, n, h.2.symm⟩ : _ ∧ ∃ m, w' = wo.drewN m)))
      have HJ := Lib.hid (show ((j : Int) - 1 + 1).toNat = j by omega)
      have jl : (j : Int) < f.length := by omega
      have kl : (k : Int) < f.length := by omega
      have j0 : 0 ≤ (j : Int) := by omega
      clear gj gk HB hz p1 p2 p5
      generalize endF arS 1 (f.drop j) = en at *
      generalize f[k].vr = y2 at *
      generalize f[j].vr = x2 at *
      generalize f[j].kd = x1 at *
      cases hfx : fixF x1 with
      | false =>
        rw [hfx] at SF
        have HE := Lib.hid (show bindF arS f k j = bindF arS f k k by rw [HB2.out, hfx]; simp)
        clear HB2 hfx SE
        go_upto_region 4 with (fail)
        go_quiet ((go_at_call 32; exact SF.out _))
        have HU9 := Lib.hid (HU.out.drewN nq)
        clear HU SF q1 q2 q5
        go_wp2_with fail
        go_roundw
        case rel => exact ⟨(j : Int) - 1, rfl, by omega, by omega, Lib.hid (by rw [HJ.out]; exact HE.out), HU9⟩
        case measure => simp [intOf]
      | true =>
        rw [hfx] at SF
        cases heq : (x2 == y2) with
        | false =>
          have HE := Lib.hid (show bindF arS f k j = bindF arS f k k by rw [HB2.out, hfx, heq]; simp)
          clear HB2 hfx SE
          go_upto_region 4 with (fail)
          go_quiet ((go_at_call 32; exact SF.out _))
          have HU9 := Lib.hid (HU.out.drewN nq)
          clear HU SF q1 q2 q5
          go_wp2_with fail
          go_roundw
          case rel => exact ⟨(j : Int) - 1, rfl, by omega, by omega, Lib.hid (by rw [HJ.out]; exact HE.out), HU9⟩
          case measure => simp [intOf]
        | true =>
          by_cases hen : k < j + en
          · have HE := Lib.hid (show bindF arS f k k = (j : Int) by rw [HB2.out, hfx, heq, decide_eq_true hen]; rfl)
            have heni : (k : Int) < ((j + en : Nat) : Int) := by omega
            generalize ((j + en : Nat) : Int) = zz at *
            clear HB2 hfx hen
            go_upto_region 4 with (fail)
            go_quiet (first | (go_at_call 32; exact SF.out _) | (go_at_call 50; exact SE.out _))
            have HU9 := Lib.hid (HU.out.drewN nq)
            clear HU SF SE q1 q2 q5
            go_wp2_with fail
            go_ret
            exact ⟨by rw [HE.out]; rfl, HU9.out⟩
          · have hend := decide_eq_false hen
            have HE := Lib.hid (show bindF arS f k j = bindF arS f k k by rw [HB2.out, hfx, heq, hend]; simp)
            have heni : ¬ (k : Int) < ((j + en : Nat) : Int) := by omega
            generalize ((j + en : Nat) : Int) = zz at *
            clear HB2 hfx hen hend
            go_upto_region 4 with (fail)
            go_quiet (first | (go_at_call 32; exact SF.out _) | (go_at_call 50; exact SE.out _))
            have HU9 := Lib.hid (HU.out.drewN nq)
            clear HU SF SE q1 q2 q5
            go_wp2_with fail
            go_roundw
            case rel => exact ⟨(j : Int) - 1, rfl, by omega, by omega, Lib.hid (by rw [HJ.out]; exact HE.out), HU9⟩
            case measure => simp [intOf]

end Go.Proofs.YthoacpecfmfeiaaGreatDoor

/-
  The reference's check of a formula's shape and of a whole formula: what the calls return.
-/
namespace Go.Proofs.YthoacpecfmfeiaaGreatDoor
open Go.RowKit

set_option maxRecDepth 20000 in
set_option maxHeartbeats 4000000 in
theorem shapeCS (v : Value) (f : List Nd) (w : World) (fp : List Nat) (hR : R_F1 fp w [v] f) (hlen : f.length ≤ 2000000) (hl : ∀ n ∈ f, n.lb.length ≤ 2000000) :
    Calls Tryz.prog 31 #[v, .int .i64 30, .int .i64 8] w fun e w' => e = .returned (.bool (inB f.length 1 30 && shapeS 1 f)) ∧ Upd [] w w' := by
  obtain ⟨a, cap, rfl, h1, h2, hc⟩ := slF4_open hR
  unfold maxLen at h2
  have HC := Lib.hid hc
  have HL := Lib.hid hl
  clear hR hc hl
  by_cases hlt1 : f.length < 1
  · have HR := Lib.hid (show (inB (f.length : Int) 1 30 && shapeS 1 f) = false by rw [inB_no (by omega)]; rfl)
    have g1 : (f.length : Int) < 1 := by omega
    clear hlt1
    go_enter Tryz.func31, Tryz.ntmps31
    go_wp2_with fail
    go_ret
    exact ⟨by rw [HR.out]; rfl, Upd.refl _ _⟩
  · have g1 : ¬ (f.length : Int) < 1 := by omega
    by_cases hgt : 30 < f.length
    · have HR := Lib.hid (show (inB (f.length : Int) 1 30 && shapeS 1 f) = false by rw [inB_no (by omega)]; rfl)
      have g2 : (30 : Int) < (f.length : Int) := by omega
      clear hlt1 hgt
      go_enter Tryz.func31, Tryz.ntmps31
      go_wp2_with fail
      go_ret
      exact ⟨by rw [HR.out]; rfl, Upd.refl _ _⟩
    · have HR := Lib.hid (show (inB (f.length : Int) 1 30 && shapeS 1 f) = shapeS 1 f by rw [inB_mk (by omega)]; rfl)
      have g2 : ¬ (30 : Int) < (f.length : Int) := by omega
      clear hlt1 hgt
      go_enter Tryz.func31, Tryz.ntmps31
      go_wp2_with fail
      go_loopw [7, 8] (fun mv iv wr => ∃ (k : Nat) (m : Int), k ≤ f.length ∧ iv = .int .i64 k ∧ mv = .int .i64 m ∧ 0 ≤ m ∧ m ≤ 1 + 2 * k ∧ Hid (shapeS m (f.drop k) = shapeS 1 f) ∧ Hid (Upd [] w wr)) (fun _ iv _ => f.length - (intOf iv).toNat)
      case atStart => exact ⟨0, 1, Nat.zero_le _, rfl, rfl, by omega, by omega, Lib.hid rfl, Lib.hid (Upd.refl _ _)⟩
      case round =>
        obtain ⟨wo, rfl⟩ : ∃ wo : World, wo = wr := ⟨_, rfl⟩
        obtain ⟨k, m, hk, rfl, rfl, hm0, hm1, HS, HU⟩ := hrel
        by_cases hlt : k < f.length
        · obtain ⟨b1, o1, rfl, -, -, p1, p2, p3, p4⟩ := HC.out k hlt
          have q1 := HU.out.keep p1
          have q3 := HU.out.keep p3
          have q4 := HU.out.keep p4
          have hcl := HL.out f[k] (List.getElem_mem hlt)
          have hS := HS.out
          rw [List.drop_eq_getElem_cons hlt, shapeS] at hS
          have hkl : (k : Int) < (f.length : Int) := by omega
          have har := arS_in f[k].kd
          have S2 := Lib.hid (fun W : World => arityS f[k].kd W)
          have hff : fieldsF f[k] = if modF f[k].kd then patF f[k].lb else f[k].lb == [] && !f[k].nt := rfl
          rw [hff] at hS
          generalize hdd : f.drop (k + 1) = dd at *
          have HDD := Lib.hid hdd
          clear p1 p2 p3 p4 HS hff hdd
          generalize arS f[k].kd = ar at *
          generalize f[k] = x at *
          obtain ⟨x1, x2, x3, x4⟩ := x
          simp only at q1 q3 q4 S2 hS hcl
          have S1 := Lib.hid (fun W : World => l00In x1 0 8 W)
          have S3 := Lib.hid (fun W : World => patS x3 W hcl)
          by_cases hz : m = 0
          · rw [if_pos (Or.inl hz)] at hS
            have HZ := Lib.hid hS
            have bz : (m == 0) = true := by simpa using hz
            clear hS hz S1 S2 S3 har
            go_wp2_with fail
            go_ret
            exact ⟨by rw [HR.out, ← HZ.out]; rfl, HU.out⟩
          · have bz : (m == 0) = false := by simpa using hz
            cases hin : inB x1 0 8 with
            | false =>
              rw [if_pos (Or.inr hin)] at hS
              rw [hin] at S1
              have HZ := Lib.hid hS
              clear hS hz hin S2 S3 har
              go_wp2_with fail
              refine (S1.out _).mono ?_
              rintro e w1 ⟨rfl, rfl⟩
              clear S1
              go_wp2_with fail
              go_ret
              exact ⟨by rw [HR.out, ← HZ.out]; rfl, HU.out⟩
            | true =>
              rw [if_neg (by intro h; rcases h with h | h; exact hz h; rw [hin] at h; cases h)] at hS
              rw [hin] at S1
              have HZ := Lib.hid hS
              have hmz : m ≠ 0 := hz
              obtain ⟨m2, hm2⟩ : ∃ m2 : Int, m2 = m + ar - 1 := ⟨_, rfl⟩
              have hm3 : m + (ar - 1) = m2 := by omega
              rw [← hm2] at HZ
              have hm4 : 0 ≤ m2 := by omega
              have hm5 : m2 ≤ 1 + 2 * (k + 1) := by omega
              clear hS hz hin hm2
              go_wp2_with fail
              refine (S1.out _).mono ?_
              rintro e w1 ⟨rfl, rfl⟩
              clear S1
              go_wp2_with fail
              refine (S2.out _).mono ?_
              rintro e w1 ⟨rfl, rfl⟩
              clear S2
              go_upto_region 10 with (fail)
              go_cut [9] (fun s9 wx => s9 = .bool (modF x1) ∧ wx = wo)
              case first =>
                by_cases h4 : x1 = 4
                · have HM := Lib.hid (show modF x1 = true by rw [h4]; rfl)
                  have b4 : (x1 == 4) = true := by simpa using h4
                  clear h4
                  go_wp2_with fail
                  go_meet
                  exact ⟨by rw [HM.out], rfl⟩
                · have b4 : (x1 == 4) = false := by simpa using h4
                  have HM := Lib.hid (show modF x1 = (x1 == 5) by unfold modF; rw [b4]; rfl)
                  clear h4
                  generalize hq : (x1 == 5) = q at *
                  go_wp2_with fail
                  go_meet
                  exact ⟨by rw [HM.out], rfl⟩
              case rest =>
                obtain ⟨rfl, rfl⟩ := hcut
                cases hmod : modF x1 with
                | true =>
                  rw [hmod] at HZ
                  clear hmod
                  cases hp : patF x3 with
                  | false =>
                    rw [hp] at S3
                    have HY := Lib.hid (show shapeS 1 f = false by rw [← HZ.out, hp]; rfl)
                    clear HZ hp
                    go_wp2_with fail
                    refine (S3.out _).mono ?_
                    rintro e w2 ⟨rfl, hu2⟩
                    have HU2 := Lib.hid (HU.out.trans hu2)
                    clear S3 hu2
                    go_wp2_with fail
                    go_ret
                    exact ⟨by rw [HR.out, HY.out]; rfl, HU2.out⟩
                  | true =>
                    rw [hp] at S3
                    have HY := Lib.hid (show shapeS m2 dd = shapeS 1 f by rw [← HZ.out, hp]; rfl)
                    clear HZ hp
                    go_wp2_with fail
                    refine (S3.out _).mono ?_
                    rintro e w2 ⟨rfl, hu2⟩
                    have HU2 := Lib.hid (HU.out.trans hu2)
                    clear S3 hu2
                    go_wp2_with fail
                    go_roundw
                    case rel => exact ⟨k + 1, m2, by omega, by go_num, rfl, hm4, by omega, Lib.hid (by rw [HDD.out]; exact HY.out), HU2⟩
                    case measure => simp [intOf]; omega
                | false =>
                  rw [hmod] at HZ
                  clear hmod S3
                  by_cases h0 : x3 = []
                  · subst h0
                    cases x4 with
                    | true =>
                      have HY := Lib.hid (show shapeS 1 f = false by rw [← HZ.out]; rfl)
                      clear HZ
                      go_wp2_with fail
                      go_ret
                      exact ⟨by rw [HR.out, HY.out]; rfl, HU.out⟩
                    | false =>
                      have HY := Lib.hid (show shapeS m2 dd = shapeS 1 f by rw [← HZ.out]; rfl)
                      clear HZ
                      go_wp2_with fail
                      go_roundw
                      case rel => exact ⟨k + 1, m2, by omega, by go_num, rfl, hm4, by omega, Lib.hid (by rw [HDD.out]; exact HY.out), HU⟩
                      case measure => simp [intOf]; omega
                  · have b0 : (x3 == ([] : List UInt8)) = false := by simpa using h0
                    have b0' : (x3 != ([] : List UInt8)) = true := by simpa using h0
                    have HY := Lib.hid (show shapeS 1 f = false by rw [← HZ.out, b0]; rfl)
                    clear HZ h0
                    go_wp2_with fail
                    go_ret
                    exact ⟨by rw [HR.out, HY.out]; rfl, HU.out⟩
        · obtain rfl : k = f.length := by omega
          have HZ := Lib.hid (show (m == 0) = shapeS 1 f by rw [← HS.out, List.drop_length]; rfl)
          clear HS
          generalize hq : (m == 0) = q at *
          go_wp2_with fail
          go_ret
          exact ⟨by rw [HR.out, ← HZ.out]; rfl, HU.out⟩

end Go.Proofs.YthoacpecfmfeiaaGreatDoor

/-
  The reference's check of a whole formula, and its image: what the calls return.
-/
namespace Go.Proofs.YthoacpecfmfeiaaGreatDoor
open Go.RowKit

theorem frmS_step (f : List Nd) (k : Nat) (h : k < f.length) : allF (ndkS f) k (f.length - k) = (ndkS f k && allF (ndkS f) (k + 1) (f.length - (k + 1))) := allF_step (ndkS f) k f.length h

set_option maxRecDepth 20000 in
set_option maxHeartbeats 4000000 in
theorem isFS (v : Value) (f : List Nd) (w : World) (fp : List Nat) (hR : R_F1 fp w [v] f) (hlen : f.length ≤ 2000000) (hl : ∀ n ∈ f, n.lb.length ≤ 2000000) :
    Calls Tryz.prog 15 #[v] w fun e w' => e = .returned (.bool (frmOk f)) ∧ Upd [] w w' := by
  rw [← frmOk_same]
  have HR := Lib.hid hR
  have S1 := Lib.hid (shapeCS v f w fp hR hlen hl)
  obtain ⟨a, cap, rfl, h1, h2, hc⟩ := slF4_open hR
  unfold maxLen at h2
  have HC := Lib.hid hc
  have HOK := Lib.hid (show frmOkS f = ((inB f.length 1 30 && shapeS 1 f) && allF (ndkS f) 0 f.length) from rfl)
  clear hR hc hl
  cases hsh : (inB (f.length : Int) 1 30 && shapeS 1 f) with
  | false =>
    rw [hsh] at S1
    have HF := Lib.hid (show frmOkS f = false by rw [HOK.out, hsh]; rfl)
    clear hsh HOK
    go_enter Tryz.func15, Tryz.ntmps15
    go_wp2_with fail
    refine S1.out.mono ?_
    rintro e w1 ⟨rfl, hu⟩
    have HU := Lib.hid hu
    clear S1 hu
    go_wp2_with fail
    go_ret
    exact ⟨by rw [HF.out]; rfl, HU.out⟩
  | true =>
    rw [hsh] at S1 HOK
    have HSH := Lib.hid (show shapeF arS 1 f = true from by
      simp only [Bool.and_eq_true] at hsh
      exact shapeS_ar f 1 hsh.2)
    have HF := Lib.hid (show frmOkS f = allF (ndkS f) 0 f.length by rw [HOK.out]; rfl)
    clear hsh HOK
    go_enter Tryz.func15, Tryz.ntmps15
    go_wp2_with fail
    refine S1.out.mono ?_
    rintro e w1 ⟨rfl, hu⟩
    have HU := Lib.hid hu
    clear S1 hu
    go_wp2_with fail
    go_loopw [3] (fun iv wr => ∃ k : Nat, k ≤ f.length ∧ iv = .int .i64 k ∧ Hid (allF (ndkS f) k (f.length - k) = frmOkS f) ∧ Hid (Upd [] w wr)) (fun iv _ => f.length - (intOf iv).toNat)
    case atStart => exact ⟨0, Nat.zero_le _, rfl, Lib.hid (by rw [HF.out]; rfl), HU⟩
    case round =>
      clear HU HF
      obtain ⟨wo, rfl⟩ : ∃ wo : World, wo = wr := ⟨_, rfl⟩
      obtain ⟨k, hk, rfl, HA, HU⟩ := hrel
      by_cases hlt : k < f.length
      · obtain ⟨b1, o1, rfl, -, -, p1, p2, -, -⟩ := HC.out k hlt
        have q1 := HU.out.keep p1
        have q2 := HU.out.keep p2
        have gk : f.getD k nd0 = f[k] := by rw [List.getD_eq_getElem?_getD, List.getElem?_eq_getElem hlt]; rfl
        have HN := Lib.hid (show frmOkS f = ((if fixF f[k].kd || f[k].kd == 6 then inB f[k].vr 0 2 else f[k].vr == 0) && !(f[k].kd == 6 && decide (bindF arS f k k < 0)) && allF (ndkS f) (k + 1) (f.length - (k + 1))) by
          rw [← HA.out, frmS_step f k hlt]
          unfold ndkS varP boundF
          rw [gk])
        have SB := Lib.hid (bindS _ f k wo fp (R_F1k.upd HR.out HU.out (by simp)) hlen hlt HSH.out)
        have SF := Lib.hid (fixS b1 (o1 + k * 4) f[k].kd wo q1)
        have hkl : (k : Int) < (f.length : Int) := by omega
        have H67 := Lib.hid (show fixF f[k].kd = true → (f[k].kd == 6) = false from fun h => by
          unfold fixF at h
          simp at h
          simp; omega)
        clear p1 p2 HA gk
        generalize bindF arS f k k = B at *
        generalize f[k].kd = x1 at *
        generalize f[k].vr = x2 at *
        have SW := Lib.hid (fun W : World => l00In x2 0 2 W)
        cases hfx : fixF x1 with
        | true =>
          rw [hfx] at SF HN
          have b6 := H67.out hfx
          have HN2 := Lib.hid (show frmOkS f = (inB x2 0 2 && allF (ndkS f) (k + 1) (f.length - (k + 1))) by rw [HN.out, b6]; simp)
          clear HN hfx H67 SB
          cases hin : inB x2 0 2 with
          | false =>
            rw [hin] at SW
            have HZ := Lib.hid (show frmOkS f = false by rw [HN2.out, hin]; rfl)
            clear HN2 hin
            go_wp2_with fail
            refine SF.out.mono ?_
            rintro e w1 ⟨rfl, rfl⟩
            clear SF
            go_wp2_with fail
            refine (SW.out _).mono ?_
            rintro e w1 ⟨rfl, rfl⟩
            clear SW
            go_wp2_with fail
            go_ret
            exact ⟨by rw [HZ.out]; rfl, HU.out⟩
          | true =>
            rw [hin] at SW
            have HZ := Lib.hid (show allF (ndkS f) (k + 1) (f.length - (k + 1)) = frmOkS f by rw [HN2.out, hin]; rfl)
            clear HN2 hin
            go_wp2_with fail
            refine SF.out.mono ?_
            rintro e w1 ⟨rfl, rfl⟩
            clear SF
            go_wp2_with fail
            refine (SW.out _).mono ?_
            rintro e w1 ⟨rfl, rfl⟩
            clear SW
            go_wp2_with fail
            go_roundw
            case rel => exact ⟨k + 1, by omega, by go_num, HZ, HU⟩
            case measure => simp [intOf]; omega
        | false =>
          rw [hfx] at SF HN
          clear hfx H67
          by_cases h6 : x1 = 6
          · have b6 : (x1 == 6) = true := by simpa using h6
            have HN2 := Lib.hid (show frmOkS f = (inB x2 0 2 && !decide (B < 0) && allF (ndkS f) (k + 1) (f.length - (k + 1))) by rw [HN.out, b6]; simp)
            clear HN h6
            cases hin : inB x2 0 2 with
            | false =>
              rw [hin] at SW
              have HZ := Lib.hid (show frmOkS f = false by rw [HN2.out, hin]; rfl)
              clear HN2 hin SB
              go_wp2_with fail
              refine SF.out.mono ?_
              rintro e w1 ⟨rfl, rfl⟩
              clear SF
              go_wp2_with fail
              refine (SW.out _).mono ?_
              rintro e w1 ⟨rfl, rfl⟩
              clear SW
              go_wp2_with fail
              go_ret
              exact ⟨by rw [HZ.out]; rfl, HU.out⟩
            | true =>
              rw [hin] at SW
              by_cases hB : B < 0
              · have HZ := Lib.hid (show frmOkS f = false by rw [HN2.out, hin, decide_eq_true hB]; rfl)
                clear HN2 hin
                go_wp2_with fail
                refine SF.out.mono ?_
                rintro e w1 ⟨rfl, rfl⟩
                clear SF
                go_wp2_with fail
                refine (SW.out _).mono ?_
                rintro e w1 ⟨rfl, rfl⟩
                clear SW
                go_wp2_with fail
                refine SB.out.mono ?_
                rintro e w1 ⟨rfl, hu1⟩
                have HU1 := Lib.hid (HU.out.trans hu1)
                clear SB hu1
                go_wp2_with fail
                go_ret
                exact ⟨by rw [HZ.out]; rfl, HU1.out⟩
              · have HZ := Lib.hid (show allF (ndkS f) (k + 1) (f.length - (k + 1)) = frmOkS f by rw [HN2.out, hin, decide_eq_false hB]; rfl)
                clear HN2 hin
                go_wp2_with fail
                refine SF.out.mono ?_
                rintro e w1 ⟨rfl, rfl⟩
                clear SF
                go_wp2_with fail
                refine (SW.out _).mono ?_
                rintro e w1 ⟨rfl, rfl⟩
                clear SW
                go_wp2_with fail
                refine SB.out.mono ?_
                rintro e w1 ⟨rfl, hu1⟩
                have HU1 := Lib.hid (HU.out.trans hu1)
                clear SB hu1
                go_wp2_with fail
                go_roundw
                case rel => exact ⟨k + 1, by omega, by go_num, HZ, HU1⟩
                case measure => simp [intOf]; omega
          · have b6 : (x1 == 6) = false := by simpa using h6
            have HN2 := Lib.hid (show frmOkS f = ((x2 == 0) && allF (ndkS f) (k + 1) (f.length - (k + 1))) by rw [HN.out, b6]; simp)
            clear HN h6 SB SW
            by_cases h0 : x2 = 0
            · have b0 : (x2 != 0) = false := by simpa using h0
              have HZ := Lib.hid (show allF (ndkS f) (k + 1) (f.length - (k + 1)) = frmOkS f by rw [HN2.out, h0]; rfl)
              clear HN2 h0
              go_wp2_with fail
              refine SF.out.mono ?_
              rintro e w1 ⟨rfl, rfl⟩
              clear SF
              go_wp2_with fail
              go_roundw
              case rel => exact ⟨k + 1, by omega, by go_num, HZ, HU⟩
              case measure => simp [intOf]; omega
            · have b0 : (x2 != 0) = true := by simpa using h0
              have HZ := Lib.hid (show frmOkS f = false by rw [HN2.out, beq_eq_false_iff_ne.2 h0]; rfl)
              clear HN2 h0
              go_wp2_with fail
              refine SF.out.mono ?_
              rintro e w1 ⟨rfl, rfl⟩
              clear SF
              go_wp2_with fail
              go_ret
              exact ⟨by rw [HZ.out]; rfl, HU.out⟩
      · obtain rfl : k = f.length := by omega
        have HZ := Lib.hid (show frmOkS f = true by rw [← HA.out]; exact allF_end _ _)
        clear HA
        go_wp2_with fail
        go_ret
        exact ⟨by rw [HZ.out]; rfl, HU.out⟩

theorem nofB {a : Nat} (h : a ≤ 1000000) : ¬ (9223372036854775807 < a) := by omega

set_option maxRecDepth 20000 in
set_option maxHeartbeats 4000000 in
theorem frmIS (v : Value) (f : List Nd) (w : World) (fp : List Nat) (hR : R_F1 fp w [v] f) (hln : f.length ≤ 30) (hfit : ∀ n ∈ f, ndFit n) :
    Calls Tryz.prog 16 #[v] w fun e w' => e = .returned (es (frmImg f)) ∧ Upd [] w w' := by
  have S1 := Lib.hid (numS f.length w (by omega))
  obtain ⟨a, cap, rfl, h1, h2, hc⟩ := slF4_open hR
  unfold maxLen at h2
  have HC := Lib.hid hc
  have HFIT := Lib.hid hfit
  have hnl := numL_len f.length 2 (by omega)
  have HIMG := Lib.hid (show sealL (UInt8.ofNat 2 :: (numL f.length ++ f.flatMap ndB)) = frmImg f from rfl)
  clear hR hc hfit
  generalize hN0 : numL f.length = N0 at *
  clear hN0
  go_enter Tryz.func16, Tryz.ntmps16
  go_wp2_with fail
  refine S1.out.mono ?_
  rintro e w1 ⟨rfl, hu1⟩
  have HU1 := Lib.hid hu1
  clear S1 hu1
  go_wp2_with fail
  go_loopw [3, 4] (fun pv iv wr => ∃ (k : Nat) (P : List UInt8), pv = es P ∧ iv = .int .i64 k ∧ k ≤ f.length ∧ P.length ≤ 3 + 120 * k ∧ Hid (P ++ (f.drop k).flatMap ndB = N0 ++ f.flatMap ndB) ∧ Hid (Upd [] w wr)) (fun _ iv _ => f.length - (intOf iv).toNat)
  case atStart => exact ⟨0, N0, rfl, rfl, Nat.zero_le _, by omega, Lib.hid rfl, HU1⟩
  case round =>
    clear HU1
    obtain ⟨wo, rfl⟩ : ∃ wo : World, wo = wr := ⟨_, rfl⟩
    obtain ⟨k, P, rfl, rfl, hk, hPl, HP, HU⟩ := hrel
    by_cases hlt : k < f.length
    · obtain ⟨b0, o0, rfl, -, -, p1, p2, p3, p4⟩ := HC.out k hlt
      have z1 := HU.out.keep p1
      have z2 := HU.out.keep p2
      have z3 := HU.out.keep p3
      have z4 := HU.out.keep p4
      have hft := HFIT.out f[k] (List.getElem_mem hlt)
      have htl := ndB_le hft
      have HD := HP.out
      rw [List.drop_eq_getElem_cons hlt, List.flatMap_cons, ← List.append_assoc] at HD
      clear p1 p2 p3 p4 HP
      generalize hdd : f.drop (k + 1) = dd at *
      have HDD := Lib.hid hdd
      clear hdd
      generalize f[k] = x at *
      obtain ⟨x1, x2, x3, x4⟩ := x
      obtain ⟨hf1, hf2, hf3⟩ := hft
      simp only at z1 z2 z3 z4 hf1 hf2 hf3
      obtain ⟨N1, rfl⟩ : ∃ N : Nat, x1 = N := ⟨x1.toNat, by omega⟩
      obtain ⟨N2, rfl⟩ : ∃ N : Nat, x2 = N := ⟨x2.toNat, by omega⟩
      have hE : ndB ⟨N1, N2, x3, x4⟩ = ((numL N1 ++ numL N2) ++ numL (trN x4)) ++ textL x3 := rfl
      rw [hE] at HD htl
      have T1 := Lib.hid (fun W : World => show Calls Tryz.prog 35 #[ei N1] W fun e w' => e = .returned (es (numL N1)) ∧ Upd [] W w' from numS N1 W (by omega))
      have T2 := Lib.hid (fun W : World => show Calls Tryz.prog 35 #[ei N2] W fun e w' => e = .returned (es (numL N2)) ∧ Upd [] W w' from numS N2 W (by omega))
      have TT := Lib.hid (fun W : World => truthS x4 W)
      have T3 := Lib.hid (fun W : World => show Calls Tryz.prog 35 #[.int .i64 (truthV x4)] W fun e w' => e = .returned (es (numL (trN x4))) ∧ Upd [] W w' from by
        rw [tr_same]; exact numS (trN x4) W (by unfold trN; split <;> omega))
      have T4 := Lib.hid (fun W : World => textS x3 W (by omega))
      clear hE hf1 hf2 hf3
      generalize truthV x4 = tv at *
      generalize numL N1 = A1 at *
      generalize numL N2 = A2 at *
      generalize numL (trN x4) = A3 at *
      generalize textL x3 = A4 at *
      have hl0 : (((A1 ++ A2) ++ A3) ++ A4).length ≤ 120 := htl
      simp only [List.length_append] at htl
      have hc1 := str_cat A1 A2
      have hb1 := nofB (a := A1.length + A2.length) (by omega)
      have hl12 : (A1 ++ A2).length ≤ 120 := by rw [List.length_append]; omega
      have hl12' : (A1 ++ A2).length = A1.length + A2.length := List.length_append
      generalize A1 ++ A2 = A12 at *
      have hc2 := str_cat A12 A3
      have hb2 := nofB (a := A12.length + A3.length) (by omega)
      have hl123' : (A12 ++ A3).length = A12.length + A3.length := List.length_append
      generalize A12 ++ A3 = A123 at *
      have hc3 := str_cat A123 A4
      have hb3 := nofB (a := A123.length + A4.length) (by omega)
      generalize A123 ++ A4 = A1234 at *
      have hc4 := str_cat P A1234
      have hb4 := nofB (a := P.length + A1234.length) (by omega)
      have hPT : (P ++ A1234).length ≤ 3 + 120 * (k + 1) := by rw [List.length_append]; omega
      generalize P ++ A1234 = PT at *
      have HD2 := Lib.hid HD
      have HLL := Lib.hid (And.intro hl12' hl123')
      clear HD htl hl0 hl12 hl12' hl123'
      go_upto_region 5 with (fail)
      go_region_held3 (fun w' => w'.cell? ⟨b0, o0 + k * 4, none⟩ = some (ei N1) ∧ w'.cell? ⟨b0, o0 + k * 4 + 1, none⟩ = some (ei N2) ∧ w'.cell? ⟨b0, o0 + k * 4 + 2, none⟩ = some (es x3) ∧ w'.cell? ⟨b0, o0 + k * 4 + 3, none⟩ = some (.bool x4)) (go_keep)
        (first
          | ((with_reducible refine (T1.out _).mono ?_); rintro e w1 ⟨rfl, hu1⟩; have t1 := hu1.keep z1; have t2 := hu1.keep z2; have t3 := hu1.keep z3; have t4 := hu1.keep z4)
          | ((with_reducible refine (T2.out _).mono ?_); rintro e w2 ⟨rfl, hu2⟩; have r1 := hu2.keep t1; have r2 := hu2.keep t2; have r3 := hu2.keep t3; have r4 := hu2.keep t4)
          | ((with_reducible refine (TT.out _).mono ?_); rintro e wt ⟨rfl, rfl⟩)
          | ((with_reducible refine (T3.out _).mono ?_); rintro e w3 ⟨rfl, hu3⟩; have m1 := hu3.keep r1; have m2 := hu3.keep r2; have m3 := hu3.keep r3; have m4 := hu3.keep r4)
          | ((with_reducible refine (T4.out _).mono ?_); rintro e w4 ⟨rfl, hu4⟩; have n1 := hu4.keep m1; have n2 := hu4.keep m2; have n3 := hu4.keep m3; have n4 := hu4.keep m4))
      have HU9 := Lib.hid (((((HU.out.drew).trans hu1).trans hu2).trans hu3).trans hu4)
      clear hu1 hu2 hu3 hu4 t1 t2 t3 t4 r1 r2 r3 r4 m1 m2 m3 m4 n1 n2 n3 n4 z1 z2 z3 z4 T1 T2 T3 T4 TT HU
      go_wp2_with fail
      go_roundw
      case rel => exact ⟨k + 1, PT, rfl, by go_num, by omega, hPT, Lib.hid (by rw [HDD.out]; exact HD2.out), HU9⟩
      case measure => simp [intOf]; omega
    · obtain rfl : k = f.length := by omega
      have HP1 := HP.out
      rw [List.drop_length, List.flatMap_nil, List.append_nil] at HP1
      have S6 := Lib.hid (sealS 2 P wo (by omega) (by omega))
      have HRR := Lib.hid (show sealL (UInt8.ofNat 2 :: P) = frmImg f by rw [HP1, ← HIMG.out])
      clear HP HP1 HIMG hlt hk
      generalize sealL (UInt8.ofNat 2 :: P) = Z at *
      go_wp2_with fail
      refine S6.out.mono ?_
      rintro e w9 ⟨rfl, hu9⟩
      have HU9 := Lib.hid (HU.out.trans hu9)
      clear S6 hu9 HU
      go_wp2_with fail
      go_ret
      exact ⟨by rw [← HRR.out]; rfl, HU9.out⟩

set_option maxRecDepth 20000 in
set_option maxHeartbeats 2000000 in
theorem encFS (v : Value) (f : List Nd) (w : World) (fp : List Nat) (hR : R_F1 fp w [v] f) (hlen : f.length ≤ 2000000) (hl : ∀ n ∈ f, n.lb.length ≤ 2000000) :
    Calls Tryz.prog 6 #[v] w fun e w' => e = .returned (es (if frmOk f then frmImg f else [])) ∧ Upd [] w w' := by
  have S1 := Lib.hid (isFS v f w fp hR hlen hl)
  cases hok : frmOk f with
  | false =>
    rw [hok] at S1
    clear hok hR hl
    go_enter Tryz.func6, Tryz.ntmps6
    go_wp2_with fail
    refine S1.out.mono ?_
    rintro e w1 ⟨rfl, hu⟩
    have HU := Lib.hid hu
    clear S1 hu
    go_wp2_with fail
    go_ret
    exact ⟨by simp, HU.out⟩
  | true =>
    obtain ⟨hln, hfit⟩ := frm_parts hok
    rw [hok] at S1
    have S2 := Lib.hid (fun W (hu : Upd [] w W) => frmIS v f W fp (R_F1k.upd hR hu (by simp)) hln.2 hfit)
    clear hok hR hl hfit
    generalize hZ : frmImg f = Z at *
    have HZ := Lib.hid hZ
    clear hZ
    go_enter Tryz.func6, Tryz.ntmps6
    go_wp2_with fail
    refine S1.out.mono ?_
    rintro e w1 ⟨rfl, hu⟩
    have T2 := Lib.hid (S2.out w1 hu)
    have HU := Lib.hid hu
    clear S1 S2 hu
    go_wp2_with fail
    refine T2.out.mono ?_
    rintro e w2 ⟨rfl, hu2⟩
    have HU2 := Lib.hid (HU.out.trans hu2)
    clear T2 hu2 HU
    go_wp2_with fail
    go_ret
    exact ⟨by simp, HU2.out⟩

end Go.Proofs.YthoacpecfmfeiaaGreatDoor

/-
  DecodeFormula: what the reference's call returns.
-/
namespace Go.Proofs.YthoacpecfmfeiaaGreatDoor
open Go.RowKit

theorem NdAt.put0 {Q : Nat} {w : World} {n : Nd} (h : NdAt Q w n) (x : Int) : NdAt Q (w.setCell ⟨Q, 0, none⟩ (ei x)) ⟨x, n.vr, n.lb, n.nt⟩ := by
  unfold NdAt
  have := heap_setCell_same w Q 0 _ _ (ei x) h
  simpa using this
theorem NdAt.put1 {Q : Nat} {w : World} {n : Nd} (h : NdAt Q w n) (x : Int) : NdAt Q (w.setCell ⟨Q, 1, none⟩ (ei x)) ⟨n.kd, x, n.lb, n.nt⟩ := by
  unfold NdAt
  have := heap_setCell_same w Q 1 _ _ (ei x) h
  simpa using this
theorem NdAt.put2 {Q : Nat} {w : World} {n : Nd} (h : NdAt Q w n) (x : List UInt8) : NdAt Q (w.setCell ⟨Q, 2, none⟩ (es x)) ⟨n.kd, n.vr, x, n.nt⟩ := by
  unfold NdAt
  have := heap_setCell_same w Q 2 _ _ (es x) h
  simpa using this
theorem NdAt.put3 {Q : Nat} {w : World} {n : Nd} (h : NdAt Q w n) (x : Bool) : NdAt Q (w.setCell ⟨Q, 3, none⟩ (.bool x)) ⟨n.kd, n.vr, n.lb, x⟩ := by
  unfold NdAt
  have := heap_setCell_same w Q 3 _ _ (.bool x) h
  simpa using this
theorem rN_le3 (r : List UInt8) (b : Bool) : (rN 3 r b).1 ≤ 268435456 := by
  have := (rN_fits 3 r b).1
  have p4 : (128 : Nat) ^ 3 = 2097152 := by decide
  omega
theorem RdS.len2 {p : Nat} {w : World} {r : List UInt8} {b : Bool} (h : RdS p w r b) : w.cell? ⟨p, 2, none⟩ = some (.bool b) ∧ p < w.heap.size := by
  obtain ⟨S, i, h1, h2, rfl, h4⟩ := h
  exact ⟨(rds_cells h4).2.2.1, (Array.getElem?_eq_some_iff.1 h4).1⟩

set_option maxRecDepth 20000 in
set_option maxHeartbeats 4000000 in
theorem decFS (s : List UInt8) (w : World) (hs : s.length ≤ 1900000) :
    Calls Tryz.prog 10 #[es s] w fun e w' => (∃ v, e = .returned (.tuple #[v, .int .i64 (decFF s).2]) ∧ New R_F1 w w' v (decFF s).1) ∧ Upd [] w w' := by
  have S1 := Lib.hid (contS2 s w (by omega))
  have HDN := Lib.hid (fun h => @decFF_no s h)
  have HDS := Lib.hid (fun x h => @decFF_some s x h)
  have HDQ := Lib.hid (fun h => @decFF_none s h)
  generalize decFF s = D at *
  go_enter Tryz.func10, Tryz.ntmps10
  go_wp2_with fail
  refine S1.out.mono ?_
  rintro e w1 ⟨hu1, hcase⟩
  rcases hcase with ⟨ho, rfl⟩ | ⟨ho, p, hp, rfl, hrd⟩
  · have HD := Lib.hid (HDN.out ho)
    have bo : ((opF2 s : Int) != 0) = true := by simpa using ho
    have HU := Lib.hid hu1
    generalize opF2 s = o at *
    clear S1 hu1 ho
    go_wp2_with fail
    go_ret2
    exact ⟨⟨_, by rw [HD.out]; rfl, by rw [HD.out]; exact new_nodes (Nat.le_refl _) (World.ownsRow_nil _ _ _ _)⟩, HU.out⟩
  · have bo : ((opF2 s : Int) != 0) = false := by simpa using ho
    have h3 := opF2_len ho
    have hml : (midL s).length ≤ 1900000 := by unfold midL; simp; omega
    have HIMG := Lib.hid (imgFrm_alt s (by omega))
    have hrd' : RdS p w1 (midL s) false := ⟨midL s, 0, by omega, by omega, rfl, hrd⟩
    generalize midL s = c at *
    obtain ⟨m, rf, bf, hF⟩ : ∃ a r' b', rN 3 c false = (a, r', b') := ⟨_, _, _, rfl⟩
    obtain ⟨Fs, rg, bg, hG⟩ : ∃ a r' b', rNs 3 m [] rf bf = (a, r', b') := ⟨_, _, _, rfl⟩
    have HSYS := Lib.hid (show (rdFrm 3 c).1 = Fs ∧ (rdFrm 3 c).2.2 = bg by unfold rdFrm; rw [hF]; simp only; rw [hG]; exact ⟨rfl, rfl⟩)
    have lf : rf.length ≤ 1900000 := by have := (rN_fits 3 c false).2.1; rw [hF] at this; simp only at this; omega
    have hm4 : m ≤ 268435456 := by have := rN_le3 c false; rw [hF] at this; exact this
    have HGG := Lib.hid hG
    obtain ⟨w1b, hw1b⟩ : ∃ w1b, w1b = w1.alloc (.cells #[] 37) := ⟨_, rfl⟩
    have u1b : Upd [] w1 w1b := by rw [hw1b]; exact (Upd.refl _ _).alloc _
    have hp1 : p + 1 ≤ w1.heap.size := (Array.getElem?_eq_some_iff.1 hrd).1
    have HROW0 := Lib.hid (show w1b.ownsRow (p + 1) 37 4 (.slice (some ⟨w1.heap.size, 0, none⟩) 0 0) ([] : List Nd).length (([] : List Nd).flatMap ndCs) from by
      rw [hw1b]
      exact World.ownsRow_lit (base := p + 1) (e := 37) (size := 4) w1 #[] 0 (by omega) (by simp [maxLen]) (by simp))
    have HU1B := Lib.hid (hu1.trans u1b)
    have T1 := Lib.hid (numR p c false w1b (hrd'.upd u1b (by simp)))
    rw [hF] at T1
    simp only at T1
    have HO := Lib.hid ho
    have HL := Lib.hid lf
    have hpw : w.heap.size ≤ p := hp
    obtain ⟨i4, ni, nz0, nz1, nz2⟩ := info_parts Tryz.infoNd
    clear ho hrd hrd' hu1 S1 hF hG lf hml h3 hp u1b
    go_upto_region 5 with (fail)
    rw [← hw1b]
    obtain ⟨v00, hv00⟩ : ∃ v00, v00 = (Value.slice (some ⟨w1.heap.size, 0, none⟩) 0 0) := ⟨_, rfl⟩
    rw [← hv00] at HROW0 ⊢
    clear hw1b hv00 hp1
    go_wp2_with fail
    refine T1.out.mono ?_
    rintro e w2 ⟨rfl, hr2, hu2⟩
    have HR2 := Lib.hid hr2
    have HU2 := Lib.hid (HU1B.out.fresh hu2 (fun b hb => Or.inl (by simp at hb; omega)))
    have HROW2 := Lib.hid (row_call HROW0.out hu2)
    clear T1 HU1B HROW0 hr2 hu2
    go_wp2_with fail
    go_loopw [6, 7] (fun fv iv wr => ∃ (K : Nat) (L : List Nd) (r' : List UInt8) (b' : Bool), iv = .int .i64 K ∧ K ≤ 268435456 ∧ Hid (RdS p wr r' b') ∧ Hid (wr.ownsRow (p + 1) 37 4 fv L.length (L.flatMap ndCs)) ∧ Hid (Upd [] w wr) ∧ Hid ((b' = false → L.length + r'.length ≤ 1900001) ∧ L.length + r'.length ≤ 1900002 ∧ r'.length ≤ 1900000) ∧ Hid (∀ q ∈ L, q.lb.length ≤ 2000000) ∧ Hid (rNs 3 K L r' b' = (Fs, rg, bg))) (fun _ iv _ => (intOf iv).toNat)
    case atStart => exact ⟨m, [], rf, bf, rfl, hm4, HR2, HROW2, HU2, Lib.hid ⟨fun _ => by have := HL.out; simp; omega, by have := HL.out; simp; omega, HL.out⟩, Lib.hid (by simp), HGG⟩
    case round =>
      clear HR2 HU2 HGG HROW2
      obtain ⟨wo, rfl⟩ : ∃ wo : World, wo = wr := ⟨_, rfl⟩
      obtain ⟨K, L, r', b', rfl, hK, HR, HOW, HU, HB, HQL, HRL⟩ := hrel
      have c1 := HR.out.len2.1
      obtain ⟨va, vc, hv⟩ := ownsRow_form HOW.out
      subst hv
      go_upto_region 6 with (fail)
      go_cut [28] (fun s28 wx => ∃ q : Bool, s28 = .bool q ∧ wx = wo ∧ Hid (q = (decide (0 < K) && !b')))
      case first =>
        by_cases hk1 : 0 < K
        · have hk1i : (0 : Int) < (K : Int) := by omega
          have HH := Lib.hid hk1
          clear hk1
          cases b'
          · go_wp2_with fail
            go_meet
            exact ⟨true, rfl, rfl, Lib.hid (by simp [HH.out])⟩
          · go_wp2_with fail
            go_meet
            exact ⟨false, rfl, rfl, Lib.hid (by simp)⟩
        · obtain rfl : K = 0 := by omega
          go_wp2_with fail
          go_meet
          exact ⟨false, rfl, rfl, Lib.hid (by simp)⟩
      case rest =>
        obtain ⟨q, rfl, rfl, HQ⟩ := hcut
        cases q with
        | true =>
          have hq := HQ.out.symm
          simp only [Bool.and_eq_true, decide_eq_true_eq, Bool.not_eq_true'] at hq
          obtain ⟨hk1, rfl⟩ := hq
          have HB2 := Lib.hid (And.intro (HB.out.1 rfl) HB.out.2.2)
          obtain ⟨x1, r1, b1, hX⟩ : ∃ a q b', rN 3 r' false = (a, q, b') := ⟨_, _, _, rfl⟩
          obtain ⟨x2, r2, b2, hY⟩ : ∃ a q b', rN 3 r1 b1 = (a, q, b') := ⟨_, _, _, rfl⟩
          obtain ⟨x3, r3, b3, hZ⟩ : ∃ a q b', rN 3 r2 b2 = (a, q, b') := ⟨_, _, _, rfl⟩
          obtain ⟨tx, r4, b4, hW⟩ : ∃ a q b', rT 3 r3 b3 = (a, q, b') := ⟨_, _, _, rfl⟩
          have hE : rNd 3 r' false = (⟨x1, x2, tx, x3 == 1⟩, r4, b4) := by unfold rNd; rw [hX]; simp only; rw [hY]; simp only; rw [hZ]; simp only; rw [hW]
          have HT := Lib.hid (nd_in (K := 3) r' false)
          have HRL2 := Lib.hid ((rNs_go 3 K L r' hk1).symm.trans HRL.out)
          rw [hE] at HT HRL2
          simp only at HT HRL2
          obtain ⟨wQ, hwQ⟩ : ∃ wQ, wQ = wc.alloc (.cells #[.int .i64 0, .int .i64 0, .string ⟨#[]⟩, .bool false] 37) := ⟨_, rfl⟩
          have uQ : Upd [] wc wQ := by rw [hwQ]; exact (Upd.refl _ _).alloc _
          have eQ : NdAt wc.heap.size wQ nd0 := by rw [hwQ]; exact heap_alloc_new wc _
          have S5 := Lib.hid (numR p r' false wQ (HR.out.upd uQ (by simp)))
          rw [hX] at S5
          have S6 := Lib.hid (fun W => numR p r1 b1 W)
          rw [hY] at S6
          have S7 := Lib.hid (fun W => numR p r2 b2 W)
          rw [hZ] at S7
          have S8 := Lib.hid (fun W => textR p r3 b3 W)
          rw [hW] at S8
          simp only at S5 S6 S7 S8
          have hb3 : ((x3 : Int) == 1) = (x3 == 1) := by
            rw [Bool.eq_iff_iff]; simp; omega
          generalize (x3 == 1) = x3b at *
          have hLl : L.length ≤ 1900001 := by have := HB2.out.1; omega
          have hpW : p < wc.heap.size := HR.out.len2.2
          have hk1i : (0 : Int) < (K : Int) := by omega
          have UQ := Lib.hid (uQ.mono (g := [p]) (by simp))
          have EQ := Lib.hid eQ
          obtain ⟨QQ, hQQ⟩ : ∃ QQ, QQ = wc.heap.size := ⟨_, rfl⟩
          rw [← hQQ] at EQ
          have hQp : p < QQ := by omega
          clear HRL HB HQ c1 hX hY hZ hW hE HR uQ eQ
          go_wp2_with fail
          rw [← hwQ, ← hQQ]
          have HQQ := Lib.hid hQQ
          clear hwQ hQQ
          refine S5.out.mono ?_
          rintro e w5 ⟨rfl, hr5, hu5⟩
          have eQ5 := EQ.out.upd hu5 (by simp; omega)
          obtain ⟨g0, g1, g2, g3, fz⟩ := eQ5.facts
          have z0 := fz 0
          have EQ5 := Lib.hid (eQ5.put0 x1)
          have UQ5 := Lib.hid ((UQ.out.trans hu5).setCell (p := ⟨QQ, 0, none⟩) (Or.inl (by simp [HQQ.out])) (ei x1))
          have HR5 := Lib.hid (hr5.upd ((Upd.refl [QQ] w5).setCell (p := ⟨QQ, 0, none⟩) (Or.inr (by simp)) (ei x1)) (by simp; omega))
          clear S5 EQ UQ hr5 hu5 eQ5 fz
          go_wp2_with fail
          refine (S6.out _ HR5.out).mono ?_
          rintro e w6 ⟨rfl, hr6, hu6⟩
          have eQ6 := EQ5.out.upd hu6 (by simp; omega)
          obtain ⟨k0, k1, k2, k3, fz⟩ := eQ6.facts
          have z1 := fz 1
          have EQ6 := Lib.hid (eQ6.put1 x2)
          have UQ6 := Lib.hid ((UQ5.out.trans hu6).setCell (p := ⟨QQ, 1, none⟩) (Or.inl (by simp [HQQ.out])) (ei x2))
          have HR6 := Lib.hid (hr6.upd ((Upd.refl [QQ] w6).setCell (p := ⟨QQ, 1, none⟩) (Or.inr (by simp)) (ei x2)) (by simp; omega))
          clear S6 EQ5 UQ5 HR5 hr6 hu6 eQ6 fz g0 g1 g2 g3 z0
          go_wp2_with fail
          refine (S7.out _ HR6.out).mono ?_
          rintro e w7 ⟨rfl, hr7, hu7⟩
          have eQ7 := EQ6.out.upd hu7 (by simp; omega)
          obtain ⟨j0, j1, j2, j3, fz⟩ := eQ7.facts
          have z3 := fz 3
          have EQ7 := Lib.hid (eQ7.put3 x3b)
          have UQ7 := Lib.hid ((UQ6.out.trans hu7).setCell (p := ⟨QQ, 3, none⟩) (Or.inl (by simp [HQQ.out])) (.bool x3b))
          have HR7 := Lib.hid (hr7.upd ((Upd.refl [QQ] w7).setCell (p := ⟨QQ, 3, none⟩) (Or.inr (by simp)) (.bool x3b)) (by simp; omega))
          clear S7 EQ6 UQ6 HR6 hr7 hu7 eQ7 fz k0 k1 k2 k3 z1
          go_wp2_with fail
          refine (S8.out _ HR7.out).mono ?_
          rintro e w8 ⟨rfl, hr8, hu8⟩
          have eQ8 := EQ7.out.upd hu8 (by simp; omega)
          obtain ⟨l0, l1, l2, l3, fz⟩ := eQ8.facts
          have z2 := fz 2
          obtain ⟨w10, hw10⟩ : ∃ w10, w10 = w8.setCell ⟨QQ, 2, none⟩ (es tx) := ⟨_, rfl⟩
          have eQ10 : NdAt QQ w10 ⟨x1, x2, tx, x3b⟩ := by rw [hw10]; exact eQ8.put2 tx
          have uQ10 : Upd [p] wc w10 := by rw [hw10]; exact (UQ7.out.trans hu8).setCell (p := ⟨QQ, 2, none⟩) (Or.inl (by simp [HQQ.out])) (es tx)
          have hr10 : RdS p w10 r4 b4 := by rw [hw10]; exact hr8.upd ((Upd.refl [QQ] w8).setCell (p := ⟨QQ, 2, none⟩) (Or.inr (by simp)) (es tx)) (by simp; omega)
          obtain ⟨n0, n1, n2, n3, -⟩ := eQ10.facts
          have HR10 := Lib.hid hr10
          have hrow := (row_call HOW.out uQ10).alloc (.cells #[.int .i64 x1, .int .i64 x2, es tx, .bool x3b] 37)
          have hs10 : p < w10.heap.size := hr10.len2.2
          have HU10 := Lib.hid (HU.out.fresh uQ10 (fun b hb => Or.inl (by simp at hb; omega)))
          clear S8 EQ7 UQ7 HR7 hr8 hu8 eQ8 fz j0 j1 j2 j3 z3 eQ10 uQ10 hr10 HU HOW
          go_upto_region 13 with (fail)
          have hw10' : w8.setCell ⟨QQ, 2, none⟩ (.string ⟨tx.toArray⟩) = w10 := hw10.symm
          rw [hw10']
          clear hw10 hw10' l0 l1 l2 l3 z2
          go_wp2_with (first
            | (at_builtin; refine wpList_append_tight _ rfl _ _ 25 rfl (p + 1) 37 i4 (.agg #[.int .i64 0, .int .i64 0, .string ⟨#[]⟩, .bool false]) 4 40 Tryz.underlying25 ni nz0 nz1 nz2 rfl (by decide) _ _ _ rfl hrow ⟨w10.heap.size, 0, none⟩ 1 1 [.int .i64 x1, .int .i64 x2, es tx, .bool x3b] rfl rfl (fun j u hj => by rw [addr_add]; exact cell_new w10 #[.int .i64 x1, .int .i64 x2, es tx, .bool x3b] _ _ rfl _ _ (by simpa using hj)) (by simp [Value.oneCell']) (by unfold maxLen; omega) (by omega) (by simp; omega) ?_)
            | fail)
          intro v4 w11 hown4 hg4 ht4
          have HO9 := Lib.hid (show w11.ownsRow (p + 1) 37 4 v4 (L ++ [(⟨x1, x2, tx, x3b⟩ : Nd)]).length ((L ++ [(⟨x1, x2, tx, x3b⟩ : Nd)]).flatMap ndCs) by
            rw [List.length_append, List.flatMap_append]; simpa [ndCs] using hown4)
          have HR9 := Lib.hid (show RdS p w11 r4 b4 from by
            obtain ⟨S, i, e1, e2, e3, e4⟩ := HR10.out
            refine ⟨S, i, e1, e2, e3, ?_⟩
            rw [hg4.block p (by simp; omega) (fun e => by have := (hrow.lt p e.symm).1; omega)]
            have := ((Upd.refl [] w10).alloc (.cells #[.int .i64 x1, .int .i64 x2, es tx, .bool x3b] 37)).block p (by omega) (by simp)
            rw [this]; exact e4)
          have HU9 := Lib.hid ((HU10.out.alloc (.cells #[.int .i64 x1, .int .i64 x2, es tx, .bool x3b] 37)).grown hg4 (fun b hb => Or.inl (by have := (hrow.lt b hb).1; omega)))
          clear hown4 hg4 ht4 hrow HR10 HU10 n0 n1 n2 n3
          go_wp2_with fail
          go_roundw
          case rel => exact ⟨K - 1, L ++ [⟨x1, x2, tx, x3b⟩], r4, b4, by rw [show ((K - 1 : Nat) : Int) = (K : Int) - 1 by omega], by omega, HR9, HO9, HU9, Lib.hid ⟨fun h => by have := HT.out.2.1 h; have := HB2.out.1; simp; omega, by have := HT.out.1; have := HB2.out.1; simp; omega, by have := HT.out.1; have := HB2.out.2; omega⟩, Lib.hid (fun q hq => by
            rcases List.mem_append.1 hq with h | h
            · exact HQL.out q h
            · simp at h; subst h; have := HT.out.2.2; have := HB2.out.2; simp only; omega), HRL2⟩
          case measure => simp [intOf]; omega
        | false =>
          have hq : (decide (0 < K) && !b') = false := HQ.out.symm
          have HZ := Lib.hid (show Fs = L ∧ rg = r' ∧ bg = b' from by
            have h9 := HRL.out
            cases b' with
            | true => rw [rNs_bad] at h9; simp only [Prod.mk.injEq] at h9; exact ⟨h9.1.symm, h9.2.1.symm, h9.2.2.symm⟩
            | false =>
              simp at hq
              rw [show K = 0 by omega, rNs] at h9; simp only [Prod.mk.injEq] at h9; exact ⟨h9.1.symm, h9.2.1.symm, h9.2.2.symm⟩)
          obtain ⟨rfl, rfl, rfl⟩ := HZ.out
          have HIC := Lib.hid (frm_caseS (X := Fs) (bd := bg) (by rw [HIMG.out, HSYS.out.1, HSYS.out.2]))
          obtain ⟨fp, hRF, -, -⟩ : New R_F1 w wc (.slice va Fs.length vc) Fs := new_nodes (by omega) HOW.out
          have hFl : Fs.length ≤ 2000000 := by have := HB.out.2.1; omega
          have S8 := Lib.hid (isFS _ Fs wc fp hRF hFl HQL.out)
          have S9 := Lib.hid (fun W (hu : Upd [] wc W) (hok : frmOk Fs = true) => frmIS _ Fs W fp (R_F1k.upd hRF hu (by simp)) (frm_parts hok).1.2 (frm_parts hok).2)
          clear HZ HB HRL HQ hRF HIMG HSYS HQL hq HR hFl
          rcases HIC.out with ⟨hb, hi⟩ | ⟨hb, hok, hi⟩ | ⟨hb, hok, hz, hi⟩ | ⟨hb, hok, hz, hi⟩
          · subst hb
            have HDD := Lib.hid (HDQ.out HO.out hi)
            clear HIC hi S8 S9
            go_wp2_with fail
            go_ret2
            exact ⟨⟨_, by rw [HDD.out]; rfl, by rw [HDD.out]; exact new_nodes (Nat.le_refl _) (World.ownsRow_nil _ _ _ _)⟩, HU.out⟩
          · subst hb
            rw [hok] at S8
            have HDD := Lib.hid (HDQ.out HO.out hi)
            clear HIC hi S9 hok
            go_wp2_with fail
            refine S8.out.mono ?_
            rintro e w9 ⟨rfl, hu9⟩
            have HU9 := Lib.hid (HU.out.trans hu9)
            clear S8 hu9
            go_wp2_with fail
            go_ret2
            exact ⟨⟨_, by rw [HDD.out]; rfl, by rw [HDD.out]; exact new_nodes (Nat.le_refl _) (World.ownsRow_nil _ _ _ _)⟩, HU9.out⟩
          · subst hb
            have HOK := Lib.hid hok
            rw [hok] at S8
            have HDD := Lib.hid (HDS.out _ HO.out hi)
            clear HIC hi hok
            generalize frmImg Fs = Z at *
            subst hz
            go_wp2_with fail
            refine S8.out.mono ?_
            rintro e w9 ⟨rfl, hu9⟩
            have S10 := Lib.hid (S9.out w9 hu9 HOK.out)
            have HU9 := Lib.hid hu9
            clear S8 S9 hu9
            go_wp2_with fail
            refine S10.out.mono ?_
            rintro e w10 ⟨rfl, hu10⟩
            have HO10 := Lib.hid (ownsRow_upd HOW.out (HU9.out.trans hu10))
            have HU10 := Lib.hid (HU.out.trans (HU9.out.trans hu10))
            clear S10 hu10 HU9
            go_wp2_with fail
            go_ret2
            exact ⟨⟨_, by rw [HDD.out]; rfl, by rw [HDD.out]; exact new_nodes (by omega) HO10.out⟩, HU10.out⟩
          · subst hb
            have HOK := Lib.hid hok
            rw [hok] at S8
            have HDD := Lib.hid (HDQ.out HO.out hi)
            clear HIC hi hok
            generalize frmImg Fs = Z at *
            have bz : (Z != s) = true := by simp [hz]
            have bz2 : (Z == s) = false := by simp [hz]
            clear hz
            go_wp2_with fail
            refine S8.out.mono ?_
            rintro e w9 ⟨rfl, hu9⟩
            have S10 := Lib.hid (S9.out w9 hu9 HOK.out)
            have HU9 := Lib.hid hu9
            clear S8 S9 hu9
            go_wp2_with fail
            refine S10.out.mono ?_
            rintro e w10 ⟨rfl, hu10⟩
            have HU10 := Lib.hid (HU.out.trans (HU9.out.trans hu10))
            clear S10 hu10 HU9
            go_wp2_with fail
            go_ret2
            exact ⟨⟨_, by rw [HDD.out]; rfl, by rw [HDD.out]; exact new_nodes (Nat.le_refl _) (World.ownsRow_nil _ _ _ _)⟩, HU10.out⟩

end Go.Proofs.YthoacpecfmfeiaaGreatDoor

/-
  The law FnExactDecodeFormula: the call returns true for every input, and writes nothing that was there.
-/
namespace Go.Proofs.YthoacpecfmfeiaaGreatDoor
open Go.RowKit Go.ChangeShapes

set_option maxRecDepth 20000 in
set_option maxHeartbeats 4000000 in
theorem lawDecodeFormula (s : List UInt8) (w : World) (bs_s : s.length ≤ 9223372036854775807) (hE : Env w) :
    Calls Tryz.prog 4 #[es s] w fun e w' => e = .returned (.bool true) ∧ Upd [] w w' := by
  have HE := Lib.hid hE
  clear hE
  by_cases lb_s : 1048576 < (s.length : Int)
  · go_enter Tryz.func4, Tryz.ntmps4
    go_wp2_with fail
    go_ret
    exact ⟨rfl, Upd.refl _ _⟩
  · have lx : s.length ≤ 1900000 := by omega
    have SI := Lib.hid (fun W (h : Env W) => decFI s W lx h)
    have SS := Lib.hid (decFS s w lx)
    have hsm := decFF_small s
    generalize decFF s = D at *
    obtain ⟨x, code⟩ := D
    simp only at SI SS hsm
    have hcc : ((code : Int) != (code : Int)) = false := by simp
    have hmk0 := mkF_F1_nonneg x
    have hmk : 1 + mkF_F1 x ≤ 4611686018427387904 := by unfold mkF_F1; omega
    clear hsm
    go_enter Tryz.func4, Tryz.ntmps4
    go_wp2_with fail
    refine SS.out.mono ?_
    rintro e w1 ⟨⟨va, rfl, fa, ra, -, -⟩, u1⟩
    have HU := Lib.hid u1
    have hs1 := u1.size
    have HA := Lib.hid (fun W f (hu : Upd f w1 W) (hf : ∀ b ∈ fa, b ∉ f) => R_F1k.upd ra hu hf)
    have la := R_F1k.lt ra
    have HLA := Lib.hid la
    have T1 := Lib.hid (SI.out w1 (HE.out.upd u1))
    obtain ⟨a1, ac1, rfl, -, -, -⟩ := slF4_open ra
    clear SS ra u1 la
    go_wp2_with fail
    refine T1.out.mono ?_
    rintro e w2 ⟨⟨vb, rfl, fb, rb, ob, gb⟩, u2⟩
    have HU2 := Lib.hid (HU.out.trans u2)
    have HV2 := Lib.hid u2
    have HB2 := Lib.hid (And.intro rb ob)
    have HGB := Lib.hid gb
    have T2 := Lib.hid (eq_F1 _ _ x w2 fb fa rb (HA.out w2 [] u2 (by simp)))
    obtain ⟨b1, bc1, rfl, -, -, -⟩ := slF4_open rb
    clear T1 HU rb ob gb u2
    go_wp2_with fail
    refine T2.out.mono ?_
    rintro e w3 ⟨rfl, u3⟩
    have HU3 := Lib.hid (HU2.out.trans u3)
    have HV3 := Lib.hid (HV2.out.trans u3)
    have T3 := Lib.hid (mark_F1 _ x 1 w3 fb (by omega) hmk (R_F1k.upd HB2.out.1 u3 (by simp)) (HB2.out.2.upd u3 (by simp)))
    clear T2 HU2 HB2 HV2 u3
    go_wp2_with fail
    refine T3.out.mono ?_
    rintro e w4 ⟨rfl, r4, o4, u4⟩
    have nf : ∀ b ∈ fa, b ∉ fb := fun b h h2 => by have := HLA.out b h; have := HGB.out b h2; omega
    have HU4 := Lib.hid (HU3.out.fresh u4 (fun b h => Or.inl (by have := HGB.out b h; omega)))
    have HA4 := Lib.hid (fun W (hu : Upd [] w4 W) => R_F1k.upd (HA.out w4 fb ((HV3.out.mono (by simp)).trans u4) nf) hu (by simp))
    have T4 := Lib.hid (fun W (hu : Upd [] w4 W) => held_F1 _ x 1 W fb (by omega) hmk (R_F1k.upd r4 hu (by simp)))
    have T4' := Lib.hid (T4.out w4 (Upd.refl _ _))
    have hne : ((1 + mkF_F1 x) != (1 + mkF_F1 x)) = false := by simp
    have hge : ¬ 1 + mkF_F1 x < 0 := by omega
    generalize 1 + mkF_F1 x = Mk at *
    clear T3 HU3 r4 o4 u4 nf HV3 HA HGB HLA
    go_wp2_with fail
    refine T4'.out.mono ?_
    rintro e w5 ⟨rfl, u5⟩
    have HU5 := Lib.hid (HU4.out.trans u5)
    have T5 := Lib.hid (SI.out w5 (HE.out.upd HU5.out))
    have HX5 := Lib.hid u5
    clear T4' u5 SI
    go_wp2_with fail
    refine T5.out.mono ?_
    rintro e w6 ⟨⟨vc, rfl, fc, rc, -, -⟩, u6⟩
    have HU6 := Lib.hid (HU5.out.trans u6)
    have HX6 := Lib.hid (HX5.out.trans u6)
    have T6 := Lib.hid (eq_F1 _ _ x w6 fc fa rc (HA4.out w6 HX6.out))
    obtain ⟨c1, cc1, rfl, -, -, -⟩ := slF4_open rc
    clear T5 rc u6 HX5 HU5
    go_wp2_with fail
    refine T6.out.mono ?_
    rintro e w7 ⟨rfl, u7⟩
    have HU7 := Lib.hid (HU6.out.trans u7)
    have T7 := Lib.hid (T4.out w7 (HX6.out.trans u7))
    clear T6 T4 u7 HU6 HX6
    go_wp2_with fail
    refine T7.out.mono ?_
    rintro e w8 ⟨rfl, u8⟩
    have HU8 := Lib.hid (HU7.out.trans u8)
    clear T7 u8
    go_wp2_with fail
    go_ret
    exact ⟨rfl, HU8.out⟩

end Go.Proofs.YthoacpecfmfeiaaGreatDoor

/-
  What the listed variables and the world's shape give the walks of labels.
-/
namespace Go.Proofs.YthoacpecfmfeiaaGreatDoor
open Go.RowKit Go.ChangeShapes

theorem errStar : "*" ++ "errors.errorString" = "*errors.errorString" := by decide
theorem errRow (u : TypeId) (h : Tryz.prog.typeName? 3 u = some "*errors.errorString") : u = 147 :=
  typeName_ptr_named (nm := "errors.errorString") (by rw [errStar]; kernel_rfl) (by kernel_rfl) (by decide) u (by rw [errStar]; exact h)

theorem env_of {W : World} {r1 r2 r3 : List (String × DataW Unit)} {d : DataW Unit} {x1 x2 : List UInt8} (hd : d = Lib.tabData .u64 Lib.pow10Tab)
    (h1 : laidMet Tryz.prog (("internal/strconv.uint64pow10", d) :: r1) W)
    (h2 : laidMet Tryz.prog (("strconv.ErrRange", .iface "*errors.errorString" (.ptr (.agg [.lit (.string x1)]))) :: r2) W)
    (h3 : laidMet Tryz.prog (("strconv.ErrSyntax", .iface "*errors.errorString" (.ptr (.agg [.lit (.string x2)]))) :: r3) W)
    (hs : W.ShapedOpen Tryz.prog) : Env W := by
  subst hd
  refine ⟨?_, ?_, ?_, ?_⟩
  · exact cell_of_shapedOpen_int (g := 0) (zero := #[.int .i64 0]) (t := 3) hs (of_decide_eq_true (by kernel_rfl)) (by kernel_rfl) rfl (by kernel_rfl) (by kernel_rfl) Tryz.underlying3
  · exact Lib.tabIs_of_head (g := 5) (t := 151) (e := 124) (n := 20) (by kernel_rfl) (by kernel_rfl) Tryz.underlying151 Tryz.underlying124 (by kernel_rfl) (by kernel_rfl) h1
  · obtain ⟨a, s, hv, -⟩ := laid_sentinel (g := 1) (ti := 100) (tp := 147) (te := 149) (ts := 9) h3 (by kernel_rfl) (by kernel_rfl) Tryz.underlying100 errRow Tryz.underlying147 Tryz.underlying149 rfl rfl Tryz.underlying9 (by kernel_rfl) (by kernel_rfl)
    exact ⟨_, _, hv⟩
  · obtain ⟨a, s, hv, -⟩ := laid_sentinel (g := 2) (ti := 100) (tp := 147) (te := 149) (ts := 9) h2 (by kernel_rfl) (by kernel_rfl) Tryz.underlying100 errRow Tryz.underlying147 Tryz.underlying149 rfl rfl Tryz.underlying9 (by kernel_rfl) (by kernel_rfl)
    exact ⟨_, _, hv⟩

/-- the wrap with a condition on the world, the world's shape kept. -/
theorem handed_and_shaped {H : Type} {enc : TypeId × Value → H} {a : Assume} {C : Checked} {os : Os} {f : FuncId} {fn : Func} {s : ChangeSpec} {conds : List PathCond} {apart fresh handsOn twice : Bool} {X : World → Array Value → Prop}
    (hX : ∀ (w w' : World) (args : Array Value), w.heap = w'.heap → X w args → X w' args)
    (own : ownKnob C.prog.godebug = none) (started : os.Started) (noInit : C.prog.inits.idxOf? f = none) (hfn : C.prog.funcs[f]? = some fn)
    (witness : ∃ (w : World) (tape : Tape) (i : Input), w.os = os ∧ (w.forCall tape i).Shaped C.prog ∧ i.vars = [] ∧ Input.okWide C.prog (w.forCall tape i) .any w.heap.size f i ∧
      ((s.pre enc C.prog fn conds apart (w.forCall tape i).memory i.args ∧ X (w.forCall tape i).memory i.args) ∧ sizedMet enc C.prog fn (OpenSpec.ofChange s) apart (w.forCall tape i).memory i.args) ∧ a.holds C.prog (lone (Frame.enter C.prog f i.args CallKind.normal) [] (w.forCall tape i)))
    (contract : ∀ (W : World) (base : Nat) (args : Array Value) (ds gs : List (DataW H)) (before : List MemPlace),
      (∀ (j : Nat) t v, fn.params[j]? = some t → args[j]? = some v → Value.okWide C.prog W .any base t v) →
      DataW.Whole enc C.prog fn.params.toList s.vars apart W args.toList ds gs before →
      conds.all (PathCond.test C.prog ⟨fn.params.toList, ds, s.plain.varTypes C.prog, gs⟩) = true → X W args →
      W.ShapedOpen C.prog →
      Calls C.prog f args W fun e W' => ∃ v, e = .returned v ∧ s.post enc C.prog fn apart fresh handsOn twice W args v W') :
    ReturnsInHanded a C os f .any (fun w args => (s.pre enc C.prog fn conds apart w args ∧ X w args) ∧ sizedMet enc C.prog fn (OpenSpec.ofChange s) apart w args) (s.post enc C.prog fn apart fresh handsOn twice) := by
  refine returnsInHanded_of_calls own started noInit witness ?_
  intro w tape i _ hsh _ hok hpre _
  obtain ⟨_, _, _, fn', hfn', _, _, _, _, hval⟩ := hok
  have e : fn' = fn := Option.some.inj (hfn'.symm.trans hfn)
  subst e
  obtain ⟨⟨⟨ds, gs, before, hw, hc⟩, hx⟩, hz⟩ := hpre
  have hw' := DataW.Whole.of_heap (w' := w.forCall tape i) (by rfl) hw
  refine (contract (w.forCall tape i) w.heap.size i.args ds gs before hval hw' hc (hX _ _ _ (by rfl) hx) hsh).mono fun e W' ⟨v, he, hp⟩ => ?_
  subst he
  exact ChangeSpec.post_blind hp

end Go.Proofs.YthoacpecfmfeiaaGreatDoor

/-
  The form's reading of texts and lists of texts.
-/
namespace Go.Proofs.YthoacpecfmfeiaaGreatDoor
open Go.RowKit Go.ChangeShapes Go.WideShapes Go.Deep

theorem opens_S1 : Opens Tryz.prog 83 R_S1 (fun xs => ∀ p ∈ xs, p.length ≤ maxLen) :=
  opens_slF1 Tryz.underlying83 (by kernel_rfl) (by
    intro H enc w fuel v x hx
    obtain ⟨s, hv, -, hs⟩ := DataW.trod_string Tryz.underlying9 hx
    simp at hv
    exact ⟨s.data.toList, hv, hs⟩)
theorem strs_of {xs : List (List UInt8)} (h : ∀ p ∈ xs, p.length ≤ maxLen) : strsOk xs := fun p hp => by
  have := h p hp
  simp only [maxLen] at this
  omega
theorem str_len {H : Type} {enc : TypeId × Value → H} {w : World} {t : TypeId} {l : List UInt8} {d : DataW H} {ps : List MemPlace} (ht : Tryz.prog.underlying t = some .string)
    (h : DataW.Trod enc Tryz.prog w 0 (fun _ => true) true t (.string ⟨l.toArray⟩) d ps) : l.length ≤ 9223372036854775807 := by
  obtain ⟨fuel, hf⟩ := h
  obtain ⟨s, hv, -, hs⟩ := DataW.trod_string ht hf
  simp [Value.cells] at hv
  subst hv
  have h2 : (⟨l.toArray⟩ : ByteArray).size = l.length := rfl
  rw [h2] at hs
  simp only [maxLen] at hs
  omega

end Go.Proofs.YthoacpecfmfeiaaGreatDoor
