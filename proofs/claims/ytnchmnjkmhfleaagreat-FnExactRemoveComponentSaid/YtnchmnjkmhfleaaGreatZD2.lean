/-
  Texts joined in one file: LabI, LabE, LabSp, OrdS, NamI, SysP, DfT, ConE, IdxI, DfVd, FirstP, CmpS, LabSn, LabSv, LabSq, LabSw, DatS, DfQ, SyGp, OpenQ, OpenW, OpenB, OpenC.
-/
import Derived.Test.YtnchmnjkmhfleaaGreatZD1
import Derived.Test.YtnchmnjkmhfleaaGreatShelf
/-
  Names and labels: what the program's calls return.
-/
namespace Go.Proofs.YtnchmnjkmhfleaaGreat
open Go.RowKit

theorem isDigitI (b : UInt8) (w : World) : Calls Tryz.prog 116 #[.int .u8 (b.toNat : Int)] w fun e w' => e = .returned (.bool (isDig b)) ∧ w = w' := by
  by_cases h1 : 48 ≤ b.toNat
  · by_cases h2 : b.toNat ≤ 57
    · have HR := Lib.hid (show isDig b = true by simp [isDig]; omega)
      have g1 : (48 : Int) ≤ (b.toNat : Int) := by omega
      have g2 : (b.toNat : Int) ≤ 57 := by omega
      go_enter Tryz.func116, Tryz.ntmps116
      go_wp2_with fail
      go_ret
      exact ⟨by rw [HR.out]; rfl, rfl⟩
    · have HR := Lib.hid (show isDig b = false by simp [isDig]; omega)
      have g1 : (48 : Int) ≤ (b.toNat : Int) := by omega
      have g2 : ¬ (b.toNat : Int) ≤ 57 := by omega
      go_enter Tryz.func116, Tryz.ntmps116
      go_wp2_with fail
      go_ret
      exact ⟨by rw [HR.out]; rfl, rfl⟩
  · have HR := Lib.hid (show isDig b = false by simp [isDig]; omega)
    have g1 : ¬ (48 : Int) ≤ (b.toNat : Int) := by omega
    go_enter Tryz.func116, Tryz.ntmps116
    go_wp2_with fail
    go_ret
    exact ⟨by rw [HR.out]; rfl, rfl⟩

set_option maxRecDepth 20000 in
set_option maxHeartbeats 2000000 in
theorem isNameI (l : List UInt8) (w : World) (hl : l.length ≤ 2000000) : Calls Tryz.prog 76 #[es l] w fun e w' => e = .returned (.bool (nameF l)) ∧ w = w' := by
  go_enter Tryz.func76, Tryz.ntmps76
  go_wp2_with fail
  go_loop [7] (fun i => ∃ k : Nat, k ≤ l.length ∧ i = .int .i64 k ∧ Hid (∀ j (hj : j < k) (hj2 : j < l.length), (sml l[j] || (decide (0 < j) && isDig l[j])) = true)) (fun i => l.length - (intOf i).toNat)
  case atStart => exact ⟨0, Nat.zero_le _, rfl, Lib.hid (fun j hj => by omega)⟩
  case round =>
    obtain ⟨k, hk, rfl, HQ⟩ := hrel
    by_cases hlt : k < l.length
    · obtain ⟨b, hb⟩ : ∃ b, l[k] = b := ⟨_, rfl⟩
      have hix : (⟨l.toArray⟩ : ByteArray)[k]'(by simpa [ByteArray.size] using hlt) = b := by rw [← hb]; simp [ByteArray.getElem_eq_getElem_data]
      have HB := Lib.hid hb
      have S1 := Lib.hid (isDigitI b w)
      clear hb
      have hno : (sml b || (decide (0 < k) && isDig b)) = false → nameF l = false := by
        intro h
        cases hn : nameF l with
        | false => rfl
        | true =>
          exfalso
          have hn' := hn
          unfold nameF at hn'
          simp only [Bool.and_eq_true] at hn'
          rw [Bool.or_eq_false_iff] at h
          by_cases h0 : k = 0
          · subst h0
            have e0 : l.headD 0 = b := by rw [← HB.out]; cases l with
              | nil => simp at hlt
              | cons x l => rfl
            have := hn'.1.2
            rw [e0, h.1] at this; cases this
          · have := List.all_eq_true.1 hn'.2 b (by rw [← HB.out]; exact List.getElem_mem hlt)
            rw [h.1] at this
            have h3 := h.2
            rw [decide_eq_true (by omega : 0 < k)] at h3
            simp at h3 this
            rw [h3] at this; cases this
      have HNO := Lib.hid hno
      have hstep : (sml b || (decide (0 < k) && isDig b)) = true → ∀ j (hj : j < k + 1) (hj2 : j < l.length), (sml l[j] || (decide (0 < j) && isDig l[j])) = true := by
        intro h j hj hj2
        by_cases e : j = k
        · subst e; rw [HB.out]; exact h
        · exact HQ.out j (by omega) hj2
      have HST := Lib.hid hstep
      clear hno hstep HQ HB
      by_cases hs : sml b = true
      · have hs' : 97 ≤ b.toNat ∧ b.toNat ≤ 122 := by simpa [sml] using hs
        have g1 : (97 : Int) ≤ (b.toNat : Int) := by omega
        have g2 : (b.toNat : Int) ≤ 122 := by omega
        have g3 : ¬ (122 : Int) < (b.toNat : Int) := by omega
        have HR := Lib.hid (HST.out (by rw [hs]; rfl))
        clear S1 HNO HST hs hs'
        go_wp2_with fail
        go_round
        case rel => exact ⟨k + 1, by omega, by go_num, HR⟩
        case measure => simp [intOf]; omega
      · have hs0 : sml b = false := by simpa using hs
        have HS0 := Lib.hid hs0
        have hs' : ¬ (97 ≤ b.toNat ∧ b.toNat ≤ 122) := by simpa [sml] using hs
        clear hs hs0
        by_cases h0 : k = 0
        · subst h0
          have HR := Lib.hid (HNO.out (by rw [HS0.out]; rfl))
          clear S1 HNO HST
          by_cases g1 : (97 : Int) ≤ (b.toNat : Int)
          · have g2 : ¬ (b.toNat : Int) ≤ 122 := by omega
            have g3 : (122 : Int) < (b.toNat : Int) := by omega
            clear hs'
            go_wp2_with fail
            go_ret
            exact ⟨by rw [HR.out]; rfl, rfl⟩
          · clear hs'
            go_wp2_with fail
            go_ret
            exact ⟨by rw [HR.out]; rfl, rfl⟩
        · have h0' : ((k : Int) == 0) = false := by simp; omega
          cases hd : isDig b with
          | true =>
            have HR := Lib.hid (HST.out (by rw [HS0.out, hd, decide_eq_true (by omega : 0 < k)]; rfl))
            rw [hd] at S1
            clear HNO HST hd
            by_cases g1 : (97 : Int) ≤ (b.toNat : Int)
            · have g2 : ¬ (b.toNat : Int) ≤ 122 := by omega
              have g3 : (122 : Int) < (b.toNat : Int) := by omega
              clear hs'
              go_wp2_with fail
              refine S1.out.mono ?_
              rintro e w1 ⟨rfl, rfl⟩
              go_wp2_with fail
              go_round
              case rel => exact ⟨k + 1, by omega, by go_num, HR⟩
              case measure => simp [intOf]; omega
            · clear hs'
              go_wp2_with fail
              refine S1.out.mono ?_
              rintro e w1 ⟨rfl, rfl⟩
              go_wp2_with fail
              go_round
              case rel => exact ⟨k + 1, by omega, by go_num, HR⟩
              case measure => simp [intOf]; omega
          | false =>
            have HR := Lib.hid (HNO.out (by rw [HS0.out, hd]; simp))
            rw [hd] at S1
            clear HNO HST hd
            by_cases g1 : (97 : Int) ≤ (b.toNat : Int)
            · have g2 : ¬ (b.toNat : Int) ≤ 122 := by omega
              have g3 : (122 : Int) < (b.toNat : Int) := by omega
              clear hs'
              go_wp2_with fail
              refine S1.out.mono ?_
              rintro e w1 ⟨rfl, rfl⟩
              go_wp2_with fail
              go_ret
              exact ⟨by rw [HR.out]; rfl, rfl⟩
            · clear hs'
              go_wp2_with fail
              refine S1.out.mono ?_
              rintro e w1 ⟨rfl, rfl⟩
              go_wp2_with fail
              go_ret
              exact ⟨by rw [HR.out]; rfl, rfl⟩
    · obtain rfl : k = l.length := by omega
      have hfin : nameF l = (decide (1 ≤ l.length) && decide (l.length ≤ 10)) := by
        have hq := HQ.out
        unfold nameF
        by_cases h1 : 1 ≤ l.length
        · have e0 : l.headD 0 = l[0] := by cases l with
            | nil => simp at h1
            | cons x l => rfl
          have q0 := hq 0 (by omega) (by omega)
          simp only [Nat.lt_irrefl, decide_false, Bool.false_and, Bool.or_false] at q0
          have hall : l.all (fun c => sml c || isDig c) = true := by
            rw [List.all_eq_true]
            intro x hx
            obtain ⟨j, hj, rfl⟩ := List.mem_iff_getElem.1 hx
            have := hq j hj hj
            revert this
            cases sml l[j] <;> cases isDig l[j] <;> simp
          rw [e0, q0, hall]; simp
        · rw [decide_eq_false h1]; simp
      have HF := Lib.hid hfin
      clear hfin HQ
      by_cases h1 : 1 ≤ l.length
      · have g1 : (1 : Int) ≤ (l.length : Int) := by omega
        by_cases h2 : l.length ≤ 10
        · have HR := Lib.hid (show nameF l = true by rw [HF.out, decide_eq_true h1, decide_eq_true h2]; rfl)
          have g2 : (l.length : Int) ≤ 10 := by omega
          go_wp2_with fail
          go_ret
          exact ⟨by rw [HR.out]; rfl, rfl⟩
        · have HR := Lib.hid (show nameF l = false by rw [HF.out, decide_eq_true h1, decide_eq_false h2]; rfl)
          have g2 : ¬ (l.length : Int) ≤ 10 := by omega
          go_wp2_with fail
          go_ret
          exact ⟨by rw [HR.out]; rfl, rfl⟩
      · have HR := Lib.hid (show nameF l = false by rw [HF.out, decide_eq_false h1]; rfl)
        have g1 : ¬ (1 : Int) ≤ (l.length : Int) := by omega
        go_wp2_with fail
        go_ret
        exact ⟨by rw [HR.out]; rfl, rfl⟩

end Go.Proofs.YtnchmnjkmhfleaaGreat

/-
  Numbers in decimal: what the program's calls return.
-/
namespace Go.Proofs.YtnchmnjkmhfleaaGreat
open Go.RowKit

theorem Upd.grow (w : World) (k : Nat) (os : Array Obj) : Upd [] w (Sort.grow (w.drewN k) os) := by
  refine ⟨rfl, rfl, rfl, ?_, fun i hi _ => ?_⟩
  · show w.heap.size ≤ (w.heap ++ os).size
    rw [Array.size_append]; omega
  · show (w.heap ++ os)[i]? = w.heap[i]?
    rw [Array.getElem?_append_left hi]

theorem isActionI (l : List UInt8) (w : World) (hl : l.length ≤ 2000000) :
    Calls Tryz.prog 33 #[es l] w fun e w' => e = .returned (.bool (actF l)) ∧ w = w' := by
  have S1 := Lib.hid (isNameI l w hl)
  cases hn : nameF l with
  | false =>
    have HR := Lib.hid (show actF l = false by simp [actF, hn])
    rw [hn] at S1
    clear hn
    go_enter Tryz.func33, Tryz.ntmps33
    go_wp2_with fail
    refine S1.out.mono ?_
    rintro e w1 ⟨rfl, rfl⟩
    clear S1
    go_wp2_with fail
    go_ret
    exact ⟨by rw [HR.out]; rfl, rfl⟩
  | true =>
    have HR := Lib.hid (show actF l = (l != tauL) by simp [actF, hn])
    rw [hn] at S1
    clear hn
    go_enter Tryz.func33, Tryz.ntmps33
    go_wp2_with fail
    refine S1.out.mono ?_
    rintro e w1 ⟨rfl, rfl⟩
    clear S1
    go_wp2_with fail
    go_ret
    refine ⟨?_, rfl⟩
    rw [HR.out]
    simp [tauL, bne]

end Go.Proofs.YtnchmnjkmhfleaaGreat

/-
  Names and labels by the reference: what its calls return.
-/
namespace Go.Proofs.YtnchmnjkmhfleaaGreat
open Go.RowKit

theorem smallS (b : UInt8) (w : World) : Calls Tryz.prog 114 #[.int .u8 (b.toNat : Int)] w fun e w' => e = .returned (.bool (sml b)) ∧ w = w' := by
  by_cases h1 : 97 ≤ b.toNat
  · by_cases h2 : b.toNat ≤ 122
    · have HR := Lib.hid (show sml b = true by simp [sml]; omega)
      have g1 : (97 : Int) ≤ (b.toNat : Int) := by omega
      have g2 : (b.toNat : Int) ≤ 122 := by omega
      go_enter Tryz.func114, Tryz.ntmps114
      go_wp2_with fail
      go_ret
      exact ⟨by rw [HR.out]; rfl, rfl⟩
    · have HR := Lib.hid (show sml b = false by simp [sml]; omega)
      have g1 : (97 : Int) ≤ (b.toNat : Int) := by omega
      have g2 : ¬ (b.toNat : Int) ≤ 122 := by omega
      go_enter Tryz.func114, Tryz.ntmps114
      go_wp2_with fail
      go_ret
      exact ⟨by rw [HR.out]; rfl, rfl⟩
  · have HR := Lib.hid (show sml b = false by simp [sml]; omega)
    have g1 : ¬ (97 : Int) ≤ (b.toNat : Int) := by omega
    go_enter Tryz.func114, Tryz.ntmps114
    go_wp2_with fail
    go_ret
    exact ⟨by rw [HR.out]; rfl, rfl⟩

theorem digitS (b : UInt8) (w : World) : Calls Tryz.prog 115 #[.int .u8 (b.toNat : Int)] w fun e w' => e = .returned (.bool (isDig b)) ∧ w = w' := by
  by_cases h1 : 48 ≤ b.toNat
  · by_cases h2 : b.toNat ≤ 57
    · have HR := Lib.hid (show isDig b = true by simp [isDig]; omega)
      have g1 : (48 : Int) ≤ (b.toNat : Int) := by omega
      have g2 : (b.toNat : Int) ≤ 57 := by omega
      go_enter Tryz.func115, Tryz.ntmps115
      go_wp2_with fail
      go_ret
      exact ⟨by rw [HR.out]; rfl, rfl⟩
    · have HR := Lib.hid (show isDig b = false by simp [isDig]; omega)
      have g1 : (48 : Int) ≤ (b.toNat : Int) := by omega
      have g2 : ¬ (b.toNat : Int) ≤ 57 := by omega
      go_enter Tryz.func115, Tryz.ntmps115
      go_wp2_with fail
      go_ret
      exact ⟨by rw [HR.out]; rfl, rfl⟩
  · have HR := Lib.hid (show isDig b = false by simp [isDig]; omega)
    have g1 : ¬ (48 : Int) ≤ (b.toNat : Int) := by omega
    go_enter Tryz.func115, Tryz.ntmps115
    go_wp2_with fail
    go_ret
    exact ⟨by rw [HR.out]; rfl, rfl⟩

set_option maxRecDepth 20000 in
set_option maxHeartbeats 2000000 in
theorem nameS (l : List UInt8) (w : World) (hl : l.length ≤ 2000000) : Calls Tryz.prog 74 #[es l] w fun e w' => e = .returned (.bool (nameF l)) ∧ w = w' := by
  cases hcase : l with
  | nil =>
    have HR := Lib.hid (show nameF [] = false by rfl)
    go_enter Tryz.func74, Tryz.ntmps74
    go_wp2_with fail
    go_ret
    exact ⟨by rw [HR.out]; rfl, rfl⟩
  | cons c r =>
    rw [← hcase]
    have hne : (l == []) = false := by rw [hcase]; rfl
    have hpos : 0 < l.length := by rw [hcase]; simp
    by_cases hlen : l.length ≤ 10
    · have hix : (⟨l.toArray⟩ : ByteArray)[0]'(by simpa [ByteArray.size] using hpos) = c := by
        simp [ByteArray.getElem_eq_getElem_data, hcase]
      have HN := Lib.hid (show nameF l = (sml c && l.all (fun c => sml c || isDig c)) by
        unfold nameF; rw [decide_eq_true (show 1 ≤ l.length from hpos), decide_eq_true hlen, hcase]; simp)
      have g1 : ¬ (10 : Int) < (l.length : Int) := by omega
      have S1 := Lib.hid (smallS c w)
      clear hcase
      cases hs : sml c with
      | false =>
        have HR := Lib.hid (show nameF l = false by rw [HN.out, hs]; rfl)
        rw [hs] at S1
        clear HN hs
        go_enter Tryz.func74, Tryz.ntmps74
        go_wp2_with fail
        refine S1.out.mono ?_
        rintro e w1 ⟨rfl, rfl⟩
        clear S1
        go_wp2_with fail
        go_ret
        exact ⟨by rw [HR.out]; rfl, rfl⟩
      | true =>
        have HA := Lib.hid (show nameF l = l.all (fun c => sml c || isDig c) by rw [HN.out, hs]; rfl)
        rw [hs] at S1
        clear HN hs
        go_enter Tryz.func74, Tryz.ntmps74
        go_wp2_with fail
        refine S1.out.mono ?_
        rintro e w1 ⟨rfl, rfl⟩
        clear S1 hix
        go_wp2_with fail
        go_loop [3] (fun i => ∃ k : Nat, k ≤ l.length ∧ i = .int .i64 k ∧ Hid (l.all (fun c => sml c || isDig c) = (l.drop k).all (fun c => sml c || isDig c))) (fun i => l.length - (intOf i).toNat)
        case atStart => exact ⟨0, Nat.zero_le _, rfl, Lib.hid rfl⟩
        case round =>
          obtain ⟨k, hk, rfl, HF⟩ := hrel
          by_cases hlt : k < l.length
          · obtain ⟨b, hb⟩ : ∃ b, l[k] = b := ⟨_, rfl⟩
            have hix : (⟨l.toArray⟩ : ByteArray)[k]'(by simpa [ByteArray.size] using hlt) = b := by rw [← hb]; simp [ByteArray.getElem_eq_getElem_data]
            have hF := HF.out
            rw [List.drop_eq_getElem_cons hlt, hb, List.all_cons] at hF
            have HG := Lib.hid hF
            have S2 := Lib.hid (smallS b w)
            have S3 := Lib.hid (digitS b w)
            clear hF HF hb
            cases hs : sml b with
            | true =>
              have HQ := Lib.hid (HG.out.trans (by rw [hs]; rfl) : l.all (fun c => sml c || isDig c) = (l.drop (k + 1)).all (fun c => sml c || isDig c))
              rw [hs] at S2
              clear HG hs S3
              go_wp2_with fail
              refine S2.out.mono ?_
              rintro e w1 ⟨rfl, rfl⟩
              clear S2
              go_wp2_with fail
              go_round
              case rel => exact ⟨k + 1, by omega, by go_num, HQ⟩
              case measure => simp [intOf]; omega
            | false =>
              rw [hs] at S2
              cases hd : isDig b with
              | true =>
                have HQ := Lib.hid (HG.out.trans (by rw [hs, hd]; rfl) : l.all (fun c => sml c || isDig c) = (l.drop (k + 1)).all (fun c => sml c || isDig c))
                rw [hd] at S3
                clear HG hs hd
                go_wp2_with fail
                refine S2.out.mono ?_
                rintro e w1 ⟨rfl, rfl⟩
                clear S2
                go_wp2_with fail
                refine S3.out.mono ?_
                rintro e w1 ⟨rfl, rfl⟩
                clear S3
                go_wp2_with fail
                go_round
                case rel => exact ⟨k + 1, by omega, by go_num, HQ⟩
                case measure => simp [intOf]; omega
              | false =>
                have HR := Lib.hid (show nameF l = false by rw [HA.out, HG.out, hs, hd]; rfl)
                rw [hd] at S3
                clear HG hs hd HA
                go_wp2_with fail
                refine S2.out.mono ?_
                rintro e w1 ⟨rfl, rfl⟩
                clear S2
                go_wp2_with fail
                refine S3.out.mono ?_
                rintro e w1 ⟨rfl, rfl⟩
                clear S3
                go_wp2_with fail
                go_ret
                exact ⟨by rw [HR.out]; rfl, rfl⟩
          · obtain rfl : k = l.length := by omega
            have HR := Lib.hid (show nameF l = true by rw [HA.out, HF.out, List.drop_of_length_le (Nat.le_refl _)]; rfl)
            clear HF HA
            go_wp2_with fail
            go_ret
            exact ⟨by rw [HR.out]; rfl, rfl⟩
    · have HR := Lib.hid (show nameF l = false by unfold nameF; rw [decide_eq_false hlen]; simp)
      have g1 : (10 : Int) < (l.length : Int) := by omega
      clear hcase hlen
      go_enter Tryz.func74, Tryz.ntmps74
      go_wp2_with fail
      go_ret
      exact ⟨by rw [HR.out]; rfl, rfl⟩

theorem actionS (l : List UInt8) (w : World) (hl : l.length ≤ 2000000) :
    Calls Tryz.prog 187 #[es l] w fun e w' => e = .returned (.bool (actF l)) ∧ w = w' := by
  have S1 := Lib.hid (nameS l w hl)
  cases hn : nameF l with
  | false =>
    have HR := Lib.hid (show actF l = false by simp [actF, hn])
    rw [hn] at S1
    clear hn
    go_enter Tryz.func187, Tryz.ntmps187
    go_wp2_with fail
    refine S1.out.mono ?_
    rintro e w1 ⟨rfl, rfl⟩
    clear S1
    go_wp2_with fail
    go_ret
    exact ⟨by rw [HR.out]; rfl, rfl⟩
  | true =>
    have HR := Lib.hid (show actF l = (l != tauL) by simp [actF, hn])
    rw [hn] at S1
    clear hn
    go_enter Tryz.func187, Tryz.ntmps187
    go_wp2_with fail
    refine S1.out.mono ?_
    rintro e w1 ⟨rfl, rfl⟩
    clear S1
    go_wp2_with fail
    go_ret
    refine ⟨?_, rfl⟩
    rw [HR.out]
    simp [tauL, bne]

end Go.Proofs.YtnchmnjkmhfleaaGreat

/-
  The order of texts.
-/
namespace Go.Proofs.YtnchmnjkmhfleaaGreat
open Go.RowKit

def bl (a b : List UInt8) : Bool := Op.bytesLess a b
theorem bl_total : ∀ a b : List UInt8, (bl a b || a == b) = !bl b a
  | [], [] => rfl
  | [], _ :: _ => rfl
  | _ :: _, [] => rfl
  | a :: x, b :: y => by
    have ih := bl_total x y
    unfold bl at ih ⊢
    simp only [Op.bytesLess]
    rcases Nat.lt_trichotomy a.toNat b.toNat with h | h | h
    · have h1 : a < b := UInt8.lt_iff_toNat_lt.2 h
      have h2 : ¬ b < a := fun h2 => by have := UInt8.lt_iff_toNat_lt.1 h2; omega
      have h3 : ¬ b = a := fun e => by rw [e] at h; omega
      simp [h1, h2, h3]
    · have e : a = b := UInt8.toNat_inj.1 h
      subst e
      have h2 : ¬ a < a := fun h2 => by have := UInt8.lt_iff_toNat_lt.1 h2; omega
      simp only [h2, decide_false, Bool.false_or, beq_self_eq_true, Bool.true_and]
      rw [← ih]
      simp
    · have h1 : b < a := UInt8.lt_iff_toNat_lt.2 h
      have h2 : ¬ a < b := fun h2 => by have := UInt8.lt_iff_toNat_lt.1 h2; omega
      have h3 : ¬ a = b := fun e => by rw [e] at h; omega
      simp [h1, h2, h3]

end Go.Proofs.YtnchmnjkmhfleaaGreat

/-
  Lists of names: whether one is valid, and whether a name is in it; both sides.
-/
namespace Go.Proofs.YtnchmnjkmhfleaaGreat
open Go.RowKit

def goodAt (l : List (List UInt8)) (j : Nat) : Bool := actF (l.getD j []) && (decide (j = 0) || bl (l.getD (j - 1) []) (l.getD j []))
/-- at most twelve names of actions, increasing. -/
def namesF (l : List (List UInt8)) : Bool := (List.range l.length).all (goodAt l) && decide (l.length ≤ 12)
theorem namesF_no {l : List (List UInt8)} {k : Nat} (hk : k < l.length) (h : goodAt l k = false) : namesF l = false := by
  unfold namesF
  rw [Bool.and_eq_false_iff]; left
  rw [List.all_eq_false]
  exact ⟨k, by simpa using hk, by simp [h]⟩
theorem namesF_yes {l : List (List UInt8)} (h : ∀ j, j < l.length → goodAt l j = true) : namesF l = decide (l.length ≤ 12) := by
  unfold namesF
  rw [show (List.range l.length).all (goodAt l) = true from List.all_eq_true.2 (fun j hj => h j (by simpa using hj)), Bool.true_and]
theorem goodAt_eq {l : List (List UInt8)} {k : Nat} (hk : k < l.length) : goodAt l k = (actF l[k] && (decide (k = 0) || bl (l.getD (k - 1) []) l[k])) := by
  unfold goodAt
  rw [List.getD_eq_getElem?_getD, List.getElem?_eq_getElem hk]; rfl

set_option maxRecDepth 20000 in
set_option maxHeartbeats 2000000 in
theorem namesOkI (v : Value) (xs : List (List UInt8)) (w : World) (fp : List Nat) (hR : R_S1 fp w [v] xs) (hl : xs.length ≤ 2000000) (ht : ∀ s ∈ xs, s.length ≤ 2000000) :
    Calls Tryz.prog 131 #[v] w fun e w' => e = .returned (.bool (namesF xs)) ∧ Upd [] w w' := by
  obtain ⟨a, c, rfl, hl1, hm1, hc⟩ := slF1_open hR
  unfold maxLen at hm1
  have HC := Lib.hid hc
  have HT := Lib.hid ht
  have HN := Lib.hid (fun k (hk : k < xs.length) (h : goodAt xs k = false) => namesF_no hk h)
  have HY := Lib.hid (fun (h : ∀ j, j < xs.length → goodAt xs j = true) => namesF_yes h)
  have HG := Lib.hid (fun k (hk : k < xs.length) => goodAt_eq hk)
  clear hR hc ht
  generalize namesF xs = Z at *
  go_enter Tryz.func131, Tryz.ntmps131
  go_wp2_with fail
  go_loopw [7] (fun iv wr => ∃ k : Nat, k ≤ xs.length ∧ iv = .int .i64 k ∧ wr = w ∧ Hid (∀ j, j < k → goodAt xs j = true)) (fun iv _ => xs.length - (intOf iv).toNat)
  case atStart => exact ⟨0, Nat.zero_le _, rfl, rfl, Lib.hid (fun j hj => absurd hj (Nat.not_lt_zero _))⟩
  case round =>
    obtain ⟨k, hk, rfl, rfl, HA⟩ := hrel
    by_cases hlt : k < xs.length
    · obtain ⟨b, off, rfl, -, -, hcell⟩ := HC.out k hlt
      have S1 := Lib.hid (fun W => isActionI xs[k] W (HT.out _ (List.getElem_mem hlt)))
      have HGK := Lib.hid (HG.out k hlt)
      have HK := Lib.hid hlt
      by_cases h0 : k = 0
      · subst h0
        replace HGK := Lib.hid (show goodAt xs 0 = actF xs[0] by rw [HGK.out]; simp; try rfl)
        simp only [Nat.add_zero] at hcell
        generalize xs[0] = x at *
        generalize actF x = q at *
        cases q with
        | false =>
          have HZ := Lib.hid (HN.out 0 HK.out HGK.out)
          clear HGK
          go_wp2_with fail
          refine (S1.out _).mono ?_
          rintro e w1 ⟨rfl, rfl⟩
          go_wp2_with fail
          go_ret
          exact ⟨by rw [HZ.out]; rfl, Upd.refl _ _⟩
        | true =>
          go_wp2_with fail
          refine (S1.out _).mono ?_
          rintro e w1 ⟨rfl, rfl⟩
          go_wp2_with fail
          go_roundw
          case rel =>
            refine ⟨1, by omega, by go_num, by first | rfl | trivial, Lib.hid (fun j hj => ?_)⟩
            have e : j = 0 := Nat.lt_one_iff.1 hj
            rw [e]; exact HGK.out
          case measure => simp [intOf]; omega
      · have hk1 : k - 1 < xs.length := by omega
        obtain ⟨b', off', hbb, -, -, hcell2⟩ := HC.out (k - 1) hk1
        cases hbb
        have i0 : IntKind.i64.wrap ((k : Int) - 1) = (k : Int) - 1 := IntWalk.i64_in _ (by omega)
        have i1 : ((k : Int) - 1).toNat = k - 1 := by omega
        have i3 : (0 : Int) ≤ (k : Int) - 1 := by omega
        have i4 : (k : Int) - 1 < (xs.length : Int) := by omega
        have i5 : (1 : Int) ≤ (k : Int) := by omega
        have i6 : (0 : Int) < (k : Int) := by omega
        have i7 : decide (0 < k) = true := decide_eq_true (by omega)
        have i8 : decide ((0 : Int) < (k : Int)) = true := decide_eq_true (by omega)
        replace HGK := Lib.hid (show goodAt xs k = (actF xs[k] && bl xs[k - 1] xs[k]) by
          rw [HGK.out, decide_eq_false h0, Bool.false_or, List.getD_eq_getElem?_getD, List.getElem?_eq_getElem hk1]; rfl)
        have HH0 := Lib.hid h0
        generalize xs[k] = x at *
        generalize xs[k - 1] = y at *
        clear h0
        cases hq : actF x with
        | false =>
          have HZ := Lib.hid (HN.out k HK.out (by rw [HGK.out, hq]; rfl))
          rw [hq] at S1
          clear HGK hq
          go_wp2_with fail
          refine (S1.out _).mono ?_
          rintro e w1 ⟨rfl, rfl⟩
          go_wp2_with fail
          go_ret
          exact ⟨by rw [HZ.out]; rfl, Upd.refl _ _⟩
        | true =>
          rw [hq] at S1
          have hcmp : (Op.bytesLess x y || x == y) = !bl y x := bl_total x y
          replace HGK := Lib.hid (show goodAt xs k = bl y x by rw [HGK.out, hq]; rfl)
          clear hq
          generalize bl y x = q at *
          cases q with
          | false =>
            have HZ := Lib.hid (HN.out k HK.out HGK.out)
            clear HGK
            go_wp2_with fail
            refine (S1.out _).mono ?_
            rintro e w1 ⟨rfl, rfl⟩
            go_wp2_with fail
            go_ret
            exact ⟨by rw [HZ.out]; rfl, Upd.refl _ _⟩
          | true =>
            go_wp2_with fail
            refine (S1.out _).mono ?_
            rintro e w1 ⟨rfl, rfl⟩
            go_wp2_with fail
            go_roundw
            case rel =>
              refine ⟨k + 1, by omega, by go_num, by first | rfl | trivial, Lib.hid (fun j hj => ?_)⟩
              by_cases e : j = k
              · subst e; exact HGK.out
              · exact HA.out j (by omega)
            case measure => simp [intOf]; omega
    · obtain rfl : k = xs.length := by omega
      have HZ := Lib.hid (HY.out HA.out)
      by_cases h12 : xs.length ≤ 12
      · have e : (xs.length : Int) ≤ 12 := by omega
        replace HZ := Lib.hid (show Z = true by rw [HZ.out, decide_eq_true h12])
        go_wp2_with fail
        go_ret
        exact ⟨by rw [HZ.out]; rfl, Upd.refl _ _⟩
      · have e : ¬ (xs.length : Int) ≤ 12 := by omega
        replace HZ := Lib.hid (show Z = false by rw [HZ.out, decide_eq_false h12])
        go_wp2_with fail
        go_ret
        exact ⟨by rw [HZ.out]; rfl, Upd.refl _ _⟩

set_option maxRecDepth 20000 in
set_option maxHeartbeats 2000000 in
theorem actionsS (v : Value) (xs : List (List UInt8)) (w : World) (fp : List Nat) (hR : R_S1 fp w [v] xs) (ht : ∀ s ∈ xs, s.length ≤ 2000000) :
    Calls Tryz.prog 188 #[v] w fun e w' => e = .returned (.bool (xs.all actF)) ∧ w = w' := by
  obtain ⟨a, c, rfl, hl1, hm1, hc⟩ := slF1_open hR
  unfold maxLen at hm1
  have HC := Lib.hid hc
  have HT := Lib.hid ht
  have HN := Lib.hid (fun k (hk : k < xs.length) (h : actF xs[k] = false) => (List.all_eq_false.2 ⟨xs[k], List.getElem_mem hk, by simp [h]⟩ : xs.all actF = false))
  have HY := Lib.hid (fun (h : ∀ j (hj : j < xs.length), actF xs[j] = true) => (List.all_eq_true.2 (fun s hs => by obtain ⟨j, hj, rfl⟩ := List.mem_iff_getElem.1 hs; exact h j hj) : xs.all actF = true))
  clear hR hc ht
  generalize xs.all actF = Z at *
  go_enter Tryz.func188, Tryz.ntmps188
  go_wp2_with fail
  go_loopw [3] (fun iv wr => ∃ k : Nat, k ≤ xs.length ∧ iv = .int .i64 k ∧ wr = w ∧ Hid (∀ j (hj : j < xs.length), j < k → actF xs[j] = true)) (fun iv _ => xs.length - (intOf iv).toNat)
  case atStart => exact ⟨0, Nat.zero_le _, rfl, rfl, Lib.hid (fun j _ hj => absurd hj (Nat.not_lt_zero _))⟩
  case round =>
    obtain ⟨k, hk, rfl, rfl, HA⟩ := hrel
    by_cases hlt : k < xs.length
    · obtain ⟨b, off, rfl, -, -, hcell⟩ := HC.out k hlt
      have S1 := Lib.hid (fun W => actionS xs[k] W (HT.out _ (List.getElem_mem hlt)))
      have HK := Lib.hid (HN.out k hlt)
      have HB := Lib.hid (fun (h : actF xs[k] = true) j (hj : j < xs.length) (hjk : j < k + 1) => (show actF xs[j] = true by
        by_cases e : j = k
        · subst e; exact h
        · exact HA.out j hj (by omega)))
      generalize xs[k] = x at *
      generalize actF x = q at *
      cases q with
      | false =>
        have HZ := Lib.hid (HK.out rfl)
        clear HK HB
        go_wp2_with fail
        refine (S1.out _).mono ?_
        rintro e w1 ⟨rfl, rfl⟩
        go_wp2_with fail
        go_ret
        exact ⟨by rw [HZ.out]; rfl, by first | rfl | trivial⟩
      | true =>
        replace HB := Lib.hid (HB.out rfl)
        clear HK
        go_wp2_with fail
        refine (S1.out _).mono ?_
        rintro e w1 ⟨rfl, rfl⟩
        go_wp2_with fail
        go_roundw
        case rel => exact ⟨k + 1, by omega, by go_num, by first | rfl | trivial, HB⟩
        case measure => simp [intOf]; omega
    · have HZ := Lib.hid (HY.out (fun j hj => HA.out j hj (by omega)))
      go_wp2_with fail
      go_ret
      exact ⟨by rw [HZ.out]; rfl, by first | rfl | trivial⟩

theorem namesF_of {l : List (List UInt8)} (ha : l.all actF = true) : (∀ j, 0 < j → j < l.length → bl (l.getD (j - 1) []) (l.getD j []) = true) → namesF l = decide (l.length ≤ 12) := fun h => namesF_yes (fun j hj => by
  rw [goodAt_eq hj, List.all_eq_true.1 ha _ (List.getElem_mem hj), Bool.true_and]
  by_cases h0 : j = 0
  · simp [h0]
  · have := h j (by omega) hj
    rw [List.getD_eq_getElem?_getD (i := j), List.getElem?_eq_getElem hj] at this
    rw [show bl (l.getD (j - 1) []) l[j] = true from this, Bool.or_true])
theorem namesF_noA {l : List (List UInt8)} (ha : l.all actF = false) : namesF l = false := by
  obtain ⟨s, hs, h⟩ := List.all_eq_false.1 ha
  obtain ⟨j, hj, rfl⟩ := List.mem_iff_getElem.1 hs
  exact namesF_no hj (by rw [goodAt_eq hj, Bool.eq_false_iff.2 h, Bool.false_and])
theorem namesF_noB {l : List (List UInt8)} {k : Nat} (hk : k < l.length) (h0 : 0 < k) (h : bl (l.getD (k - 1) []) l[k] = false) : namesF l = false :=
  namesF_no hk (by rw [goodAt_eq hk, h, decide_eq_false (by omega)]; simp)
theorem namesF_noL {l : List (List UInt8)} (h : ¬ l.length ≤ 12) : namesF l = false := by unfold namesF; rw [decide_eq_false h, Bool.and_false]

set_option maxRecDepth 20000 in
set_option maxHeartbeats 2000000 in
theorem nameListS (v : Value) (xs : List (List UInt8)) (w : World) (fp : List Nat) (hR : R_S1 fp w [v] xs) (hl : xs.length ≤ 2000000) (ht : ∀ s ∈ xs, s.length ≤ 2000000) :
    Calls Tryz.prog 161 #[v] w fun e w' => e = .returned (.bool (namesF xs)) ∧ Upd [] w w' := by
  have S1 := Lib.hid (fun W (h : W = w) => actionsS v xs W fp (by rw [h]; exact hR) ht)
  obtain ⟨a, c, rfl, hl1, hm1, hc⟩ := slF1_open hR
  unfold maxLen at hm1
  have HC := Lib.hid hc
  have HL := Lib.hid (fun (h : ¬ xs.length ≤ 12) => namesF_noL h)
  have HA := Lib.hid (fun (h : xs.all actF = false) => namesF_noA h)
  have HB := Lib.hid (fun k (hk : k < xs.length) (h0 : 0 < k) (h : bl (xs.getD (k - 1) []) xs[k] = false) => namesF_noB hk h0 h)
  have HY := Lib.hid (fun (ha : xs.all actF = true) (h : ∀ j, 0 < j → j < xs.length → bl (xs.getD (j - 1) []) (xs.getD j []) = true) => namesF_of ha h)
  clear hR hc ht
  generalize namesF xs = Z at *
  generalize xs.all actF = qa at *
  by_cases h12 : xs.length ≤ 12
  · have e12 : ¬ (12 : Int) < (xs.length : Int) := by omega
    cases qa with
    | false =>
      have HZ := Lib.hid (HA.out rfl)
      go_enter Tryz.func161, Tryz.ntmps161
      go_wp2_with fail
      refine (S1.out _ rfl).mono ?_
      rintro e w1 ⟨rfl, rfl⟩
      go_wp2_with fail
      go_ret
      exact ⟨by rw [HZ.out]; rfl, Upd.refl _ _⟩
    | true =>
      have HZ := Lib.hid (HY.out rfl)
      clear HA HL HY
      go_enter Tryz.func161, Tryz.ntmps161
      go_wp2_with fail
      refine (S1.out _ rfl).mono ?_
      rintro e w1 ⟨rfl, rfl⟩
      clear S1
      go_wp2_with fail
      go_loopw [3] (fun iv wr => ∃ (k m : Nat), 1 ≤ k ∧ iv = .int .i64 k ∧ k ≤ xs.length + 1 ∧ wr = w.drewN m ∧ Hid (∀ j, 0 < j → j < xs.length → j < k → bl (xs.getD (j - 1) []) (xs.getD j []) = true)) (fun iv _ => xs.length + 1 - (intOf iv).toNat)
      case atStart => exact ⟨1, 0, Nat.le_refl _, rfl, by omega, rfl, Lib.hid (fun j h1 _ h2 => absurd h2 (by omega))⟩
      case round =>
        obtain ⟨k, m, h1, rfl, hk1, rfl, HI⟩ := hrel
        by_cases hlt : k < xs.length
        · obtain ⟨b, off, rfl, -, -, hcell⟩ := HC.out k hlt
          obtain ⟨b', off', hbb, -, -, hcell2⟩ := HC.out (k - 1) (by omega)
          cases hbb
          have hk2 : k - 1 < xs.length := by omega
          have i0 : IntKind.i64.wrap ((k : Int) - 1) = (k : Int) - 1 := IntWalk.i64_in _ (by omega)
          have i1 : ((k : Int) - 1).toNat = k - 1 := by omega
          have i3 : (0 : Int) ≤ (k : Int) - 1 := by omega
          have i4 : (k : Int) - 1 < (xs.length : Int) := by omega
          have i5 : (1 : Int) ≤ (k : Int) := by omega
          have HBK := Lib.hid (show bl xs[k - 1] xs[k] = false → Z = false from fun h => HB.out k hlt (by omega) (by rw [List.getD_eq_getElem?_getD, List.getElem?_eq_getElem hk2]; exact h))
          have HIK := Lib.hid (show bl xs[k - 1] xs[k] = true → ∀ j, 0 < j → j < xs.length → j < k + 1 → bl (xs.getD (j - 1) []) (xs.getD j []) = true from fun h j q1 q2 q3 => by
            by_cases e : j = k
            · subst e
              rw [List.getD_eq_getElem?_getD, List.getElem?_eq_getElem hk2, List.getD_eq_getElem?_getD, List.getElem?_eq_getElem hlt]; exact h
            · exact HI.out j q1 q2 (by omega))
          generalize xs[k] = x at *
          generalize xs[k - 1] = y at *
          have hcmp : (Op.bytesLess x y || x == y) = !bl y x := bl_total x y
          have hcmp3 : Op.bytesLess y x = bl y x := rfl
          have hcmp2 : (Op.bytesLess x y || y == x) = !bl y x := by rw [← hcmp]; congr 1; rw [Bool.eq_iff_iff]; simp; exact eq_comm
          generalize bl y x = q at *
          cases q with
          | false =>
            have HZ := Lib.hid (HBK.out rfl)
            clear HBK HIK
            go_wp2_with fail
            go_quiet (fail)
            go_wp2_with fail
            go_ret
            exact ⟨by rw [HZ.out]; rfl, by first | exact (Upd.refl _ _).drewN _ | (rw [drewN_add]; exact (Upd.refl _ _).drewN _)⟩
          | true =>
            replace HIK := Lib.hid (HIK.out rfl)
            clear HBK
            go_wp2_with fail
            go_quiet (fail)
            go_wp2_with fail
            go_roundw
            case rel => exact ⟨k + 1, _, by omega, by go_num, by omega, rfl, HIK⟩
            case measure => simp [intOf]; omega
        · replace HZ := Lib.hid (HZ.out (fun j q1 q2 => HI.out j q1 q2 (by omega)))
          replace HZ := Lib.hid (show Z = true by rw [HZ.out, decide_eq_true h12])
          go_wp2_with fail
          go_ret
          exact ⟨by rw [HZ.out]; rfl, (Upd.refl _ _).drewN _⟩
  · have e12 : (12 : Int) < (xs.length : Int) := by omega
    have HZ := Lib.hid (HL.out h12)
    go_enter Tryz.func161, Tryz.ntmps161
    go_wp2_with fail
    go_ret
    exact ⟨by rw [HZ.out]; rfl, Upd.refl _ _⟩

end Go.Proofs.YtnchmnjkmhfleaaGreat

/-
  Systems of components, plainly: which are valid.
-/
namespace Go.Proofs.YtnchmnjkmhfleaaGreat
open Go.RowKit

/-- a component: which definition it begins with, and the values. -/
structure Co where
  dfn : Int
  vals : List Int
deriving DecidableEq
/-- two actions that meet, and what comes of them. -/
structure Me where
  left : List UInt8
  right : List UInt8
  result : List UInt8
deriving DecidableEq
/-- a system. -/
structure Sy where
  defs : List De
  comps : List Co
  meets : List Me
  allow : List (List UInt8)
  hide : List (List UInt8)
deriving DecidableEq

/-- a component is valid for definitions. -/
def compOk (ds : List De) (c : Co) : Bool :=
  inB c.dfn 0 ((ds.length : Int) - 1) && ((c.vals.length : Int) == (ds.map De.pars).getD c.dfn.toNat 0) && c.vals.all (fun n => inB n 0 63)
def compsOk (ds : List De) (l : List Co) : Bool := inB (l.length : Int) 1 3 && l.all (compOk ds)
/-- meetings are ordered by the left name and then by the right one. -/
def lessM (a b : Me) : Bool := bl a.left b.left || (a.left == b.left && bl a.right b.right)
def goodM (l : List Me) (j : Nat) (m : Me) : Bool :=
  (actF m.left && actF m.right && actF m.result && !bl m.right m.left) && (decide (j = 0) || lessM (l.getD (j - 1) ⟨[], [], []⟩) m) &&
    l.all (fun o => !(o.left == m.result || o.right == m.result))
def meetsF (l : List Me) : Bool := ((List.range l.length).all fun j => goodM l j (l.getD j ⟨[], [], []⟩)) && decide (l.length ≤ 6)
theorem meetsF_no {l : List Me} {k : Nat} (hk : k < l.length) (h : goodM l k l[k] = false) : meetsF l = false := by
  unfold meetsF
  rw [Bool.and_eq_false_iff]; left
  rw [List.all_eq_false]
  refine ⟨k, by simpa using hk, ?_⟩
  rw [List.getD_eq_getElem?_getD, List.getElem?_eq_getElem hk, Option.getD_some, h]; simp
theorem meetsF_yes {l : List Me} (h : ∀ j (hj : j < l.length), goodM l j l[j] = true) : meetsF l = decide (l.length ≤ 6) := by
  unfold meetsF
  rw [List.all_eq_true.2 (fun j hj => ?_), Bool.true_and]
  have hj : j < l.length := by simpa using hj
  rw [List.getD_eq_getElem?_getD, List.getElem?_eq_getElem hj, Option.getD_some]
  exact h j hj
/-- marked texts. -/
def up_S1 (k : Int) (r : List (List UInt8)) : List (List UInt8) := mkS k r.length
/-- a system is valid. -/
def sysOk (s : Sy) : Bool := defsOk s.defs && compsOk s.defs s.comps && meetsF s.meets && namesF s.allow && namesF s.hide

end Go.Proofs.YtnchmnjkmhfleaaGreat

/-
  The places of a body's parts, by the tree and by counting; the end of a part: plain.
-/
namespace Go.Proofs.YtnchmnjkmhfleaaGreat
open Go.RowKit

mutual
/-- the places of a tree's parts: how many variables are in scope, and whether it stands behind an action. -/
def plT : Tr Pa → Int → Bool → List (Int × Bool)
  | .mk p args, s, b => (s, b) :: plTs args (s + if sumP p then 1 else 0) (p.kind == 1)
def plTs : List (Tr Pa) → Int → Bool → List (Int × Bool)
  | [], _, _ => []
  | x :: xs, s, b => plT x s b ++ plTs xs s b
end
mutual
theorem plT_fst : ∀ (x : Tr Pa) (s : Int) (b : Bool), (plT x s b).map Prod.fst = scT sumP x s
  | .mk p args, s, b => by simp only [plT, scT, List.map_cons]; rw [plTs_fst args]
theorem plTs_fst : ∀ (xs : List (Tr Pa)) (s : Int) (b : Bool), (plTs xs s b).map Prod.fst = scTs sumP xs s
  | [], _, _ => by simp [plTs, scTs]
  | x :: xs, s, b => by simp only [plTs, scTs, List.map_append]; rw [plT_fst x, plTs_fst xs]
end
theorem plT_len (x : Tr Pa) (s : Int) (b : Bool) : (plT x s b).length = (flatT x).length := by
  rw [← scT_len sumP x s, ← plT_fst x s b, List.length_map]
theorem plTs_len (xs : List (Tr Pa)) (s : Int) (b : Bool) : (plTs xs s b).length = (flatTs xs).length := by
  rw [← scTs_len sumP xs s, ← plTs_fst xs s b, List.length_map]
theorem plTs_append (xs ys : List (Tr Pa)) (s : Int) (b : Bool) : plTs (xs ++ ys) s b = plTs xs s b ++ plTs ys s b := by
  induction xs with
  | nil => simp [plTs]
  | cons x xs ih => simp [plTs, ih]
theorem plTs_take (xs : List (Tr Pa)) (s : Int) (b : Bool) (k : Nat) (h : k < xs.length) : plTs (xs.take (k + 1)) s b = plTs (xs.take k) s b ++ plT xs[k] s b := by
  rw [List.take_succ_eq_append_getElem h, plTs_append]; simp [plTs]
theorem plT_head (x : Tr Pa) (s : Int) (b : Bool) : (plT x s b)[0]? = some (s, b) := by cases x; simp [plT]
theorem kd_nil {p : Pa} {args : List (Tr Pa)} (h : (args.length : Int) = folP p) : (args = [] → (p.kind == 1) = false) ∧ ((p.kind == 1) = true → args.length ≤ 1) := by
  constructor
  · intro e
    subst e
    simp only [List.length_nil] at h
    unfold folP at h
    cases hk : p.kind == 1 with
    | false => rfl
    | true => rw [if_pos (Or.inl (by simpa using hk))] at h; omega
  · intro e
    unfold folP at h
    rw [if_pos (Or.inl (by simpa using e))] at h; omega
mutual
/-- the last part of a tree is no action. -/
theorem last_kd : ∀ (x : Tr Pa), okT folP x = true → ∃ p, (flatT x)[(flatT x).length - 1]? = some p ∧ (p.kind == 1) = false
  | .mk p args, h => by
    simp only [okT, Bool.and_eq_true, decide_eq_true_eq] at h
    by_cases e : args = []
    · subst e
      exact ⟨p, by simp [flatT, flatTs], (kd_nil h.1).1 rfl⟩
    · obtain ⟨q, h1, h2⟩ := last_kds args h.2 e
      refine ⟨q, ?_, h2⟩
      have hp : 1 ≤ (flatTs args).length := by
        cases args with
        | nil => exact absurd rfl e
        | cons x xs => rw [flatTs, List.length_append]; have := flatT_pos x; omega
      rw [flatT, List.length_cons, show (flatTs args).length + 1 - 1 = ((flatTs args).length - 1) + 1 by omega, List.getElem?_cons_succ]
      exact h1
theorem last_kds : ∀ (xs : List (Tr Pa)), okTs folP xs = true → xs ≠ [] → ∃ p, (flatTs xs)[(flatTs xs).length - 1]? = some p ∧ (p.kind == 1) = false
  | [], _, h => absurd rfl h
  | x :: xs, h, _ => by
    simp only [okTs, Bool.and_eq_true] at h
    have hx := flatT_pos x
    by_cases e : xs = []
    · subst e
      obtain ⟨p, h1, h2⟩ := last_kd x h.1
      exact ⟨p, by simpa [flatTs] using h1, h2⟩
    · obtain ⟨q, h1, h2⟩ := last_kds xs h.2 e
      refine ⟨q, ?_, h2⟩
      have hl : (flatTs xs).length - 1 < (flatTs xs).length := (List.getElem?_eq_some_iff.1 h1).1
      rw [flatTs, List.length_append, List.getElem?_append_right (by omega), show (flatT x).length + (flatTs xs).length - 1 - (flatT x).length = (flatTs xs).length - 1 by omega]
      exact h1
end
mutual
/-- a part stands behind an action if the one before it is one. -/
theorem plT_snd : ∀ (x : Tr Pa) (s : Int) (b : Bool) (i : Nat) (p : Pa), okT folP x = true → (flatT x)[i]? = some p → i + 1 < (flatT x).length → ((plT x s b).map Prod.snd)[i + 1]? = some (p.kind == 1)
  | .mk q args, s, b, i, p, h, hp, hi => by
    simp only [okT, Bool.and_eq_true, decide_eq_true_eq] at h
    simp only [flatT, List.length_cons] at hi
    simp only [plT, List.map_cons, List.getElem?_cons_succ]
    cases i with
    | zero =>
      simp [flatT] at hp
      subst hp
      cases args with
      | nil => simp [flatTs] at hi
      | cons x xs =>
        rw [plTs, List.map_append, List.getElem?_append_left (by rw [List.length_map, plT_len]; exact flatT_pos x), List.getElem?_map, plT_head]; rfl
    | succ i =>
      simp only [flatT, List.getElem?_cons_succ] at hp
      exact plTs_snd args (s + if sumP q then 1 else 0) (q.kind == 1) i p h.2 (kd_nil h.1).2 hp (by omega)
theorem plTs_snd : ∀ (xs : List (Tr Pa)) (s : Int) (b : Bool) (i : Nat) (p : Pa), okTs folP xs = true → (b = true → xs.length ≤ 1) → (flatTs xs)[i]? = some p → i + 1 < (flatTs xs).length → ((plTs xs s b).map Prod.snd)[i + 1]? = some (p.kind == 1)
  | [], _, _, i, p, _, _, hp, _ => by simp [flatTs] at hp
  | x :: xs, s, b, i, p, h, hb, hp, hi => by
    simp only [okTs, Bool.and_eq_true] at h
    simp only [flatTs, List.length_append] at hi
    have hx := flatT_pos x
    rw [plTs, List.map_append]
    by_cases h1 : i + 1 < (flatT x).length
    · rw [List.getElem?_append_left (by rw [List.length_map, plT_len]; exact h1)]
      exact plT_snd x s b i p h.1 (by rw [flatTs, List.getElem?_append_left (by omega)] at hp; exact hp) h1
    · rw [List.getElem?_append_right (by rw [List.length_map, plT_len]; omega), List.length_map, plT_len]
      by_cases h2 : i + 1 = (flatT x).length
      · rw [h2, Nat.sub_self]
        obtain ⟨q, g1, g2⟩ := last_kd x h.1
        rw [flatTs, List.getElem?_append_left (by omega), show i = (flatT x).length - 1 by omega, g1] at hp
        cases hp
        rw [g2]
        cases xs with
        | nil => simp [flatTs] at hi; omega
        | cons y ys =>
          have hbf : b = false := by
            cases b with
            | false => rfl
            | true => have := hb rfl; simp at this
          rw [plTs, List.map_append, List.getElem?_append_left (by rw [List.length_map, plT_len]; exact flatT_pos y), List.getElem?_map, plT_head, hbf]; rfl
      · obtain ⟨j, rfl⟩ : ∃ j, i = (flatT x).length + j := ⟨i - (flatT x).length, by omega⟩
        rw [show (flatT x).length + j + 1 - (flatT x).length = j + 1 by omega]
        refine plTs_snd xs s b j p h.2 (fun e => by have := hb e; rw [List.length_cons] at this; omega) ?_ (by omega)
        rw [flatTs, List.getElem?_append_right (by omega), show (flatT x).length + j - (flatT x).length = j by omega] at hp
        exact hp
end
/-- the place of each part of a body. -/
theorem place_at {d : De} {x : Tr Pa} (hok : okT folP x = true) (hfl : flatT x = d.body) (i : Nat) (hi : i < d.body.length) :
    (plT x d.pars false)[i]? = some (d.pars + cntB folP sumP d.body i, behindP d.body i) := by
  have hl : (plT x d.pars false).length = d.body.length := by rw [plT_len, hfl]
  have h1 : ((plT x d.pars false).map Prod.fst)[i]? = some (d.pars + cntB folP sumP d.body i) := by
    rw [plT_fst]
    have := scT_cnt (ar := folP) (bind := sumP) x d.pars [] i hok (by rw [hfl]; exact hi)
    rw [List.append_nil, hfl] at this
    exact this
  have h2 : ((plT x d.pars false).map Prod.snd)[i]? = some (behindP d.body i) := by
    cases i with
    | zero => rw [List.getElem?_map, plT_head]; rfl
    | succ i =>
      have hp : (flatT x)[i]? = some d.body[i] := by rw [hfl]; exact List.getElem?_eq_getElem (by omega)
      rw [plT_snd x d.pars false i d.body[i] hok hp (by rw [hfl]; exact hi)]
      unfold behindP
      rw [decide_eq_true (by omega), Bool.true_and, Nat.add_sub_cancel, List.getD_eq_getElem?_getD, List.getElem?_map, List.getElem?_eq_getElem (show i < d.body.length by omega)]
      rfl
  rw [List.getElem?_map] at h1 h2
  rw [List.getElem?_eq_getElem (by omega)] at h1 h2 ⊢
  simp only [Option.map_some, Option.some.injEq] at h1 h2 ⊢
  exact Prod.ext h1 h2
theorem fill_in {β : Type} (row A B : List β) (k : Nat) (h : k + A.length + B.length ≤ row.length) :
    (row.take k ++ (A ++ row.drop (k + A.length))).take (k + A.length) ++ (B ++ (row.take k ++ (A ++ row.drop (k + A.length))).drop (k + A.length + B.length)) = row.take k ++ ((A ++ B) ++ row.drop (k + A.length + B.length)) := by
  have h1 : (row.take k).length = k := by rw [List.length_take]; omega
  have e : row.take k ++ (A ++ row.drop (k + A.length)) = (row.take k ++ A) ++ row.drop (k + A.length) := by simp
  have h2 : (row.take k ++ A).length = k + A.length := by rw [List.length_append, h1]
  rw [e, List.take_append_of_le_length (by omega), List.take_of_length_le (by omega), List.drop_append, List.drop_eq_nil_of_le (by omega), List.nil_append, h2, show k + A.length + B.length - (k + A.length) = B.length by omega, List.drop_drop]
  simp
/-- the shape's count never falls below what is still wanted of a part. -/
theorem endN_step {α : Type} (ar : α → Int) (m : Int) (t : α) (l : List α) (h : 0 < m) : endN ar m (t :: l) = 1 + endN ar (m + ar t - 1) l := by rw [endN, if_neg (by omega)]
theorem endN_done {α : Type} (ar : α → Int) (m : Int) (l : List α) (h : m ≤ 0) : endN ar m l = 0 := by
  cases l with
  | nil => rfl
  | cons t l => rw [endN, if_pos h]

theorem cntB_bd {α : Type} (ar : α → Int) (bind : α → Bool) : ∀ (l : List α) (i : Nat), 0 ≤ cntB ar bind l i ∧ cntB ar bind l i ≤ (l.length : Int)
  | [], i => by simp [cntB]
  | t :: l, 0 => by simp [cntB]; omega
  | t :: l, i + 1 => by
    obtain ⟨h1, h2⟩ := cntB_bd ar bind l i
    rw [cntB, List.length_cons]
    split <;> omega

end Go.Proofs.YtnchmnjkmhfleaaGreat

/-
  Lists of expressions: the first of which something is true, and whether there is one (the library's functions with a function's value).
-/
namespace Go.Proofs.YtnchmnjkmhfleaaGreat
open Go.RowKit

def IdxE (P : List Tm → Bool) (xs : List (List Tm)) (w : World) (e : Ending) (w' : World) : Prop := (∃ q : Int, e = .returned (.int .i64 q) ∧ -1 ≤ q ∧ q ≤ 9223372036854775807 ∧ decide (0 ≤ q) = xs.any P) ∧ Upd [] w w'
set_option maxRecDepth 20000 in
set_option maxHeartbeats 1000000 in
theorem indexFuncE (P : List Tm → Bool) (fn : FuncId) (caps : Array Value) (v : Value) (xs : List (List Tm)) (w : World) (fp : List Nat) (hR : R_T2 fp w [v] xs)
    (hent : ∀ args w, Sem.run Tryz.prog (callFunc fn args) w = .ok (.enter fn args) w)
    (hby : ∀ wr u f x, Upd [] w wr → R_T1 f wr [u] x → Calls Tryz.prog fn (#[u] ++ caps) wr fun e w' => e = .returned (.bool (P x)) ∧ Upd [] wr w') :
    Calls Tryz.prog 237 #[v, .func (.func fn) #[] caps] w (IdxE P xs w) := by
  obtain ⟨a1, c1, rfl, hl1, hm1, hc1⟩ := slP_open hR
  unfold maxLen at hm1
  have HBY := Lib.hid hby
  have HC := Lib.hid hc1
  clear hR hby hc1
  go_enter Tryz.func237, Tryz.ntmps237
  go_wp2_with fail
  go_loopw [8] (fun i wr => ∃ k : Nat, k ≤ xs.length ∧ i = .int .i64 k ∧ Hid (Upd [] w wr) ∧ Hid ((xs.drop k).any P = xs.any P)) (fun i _ => xs.length - (intOf i).toNat)
  case atStart => exact ⟨0, Nat.zero_le _, rfl, Lib.hid (Upd.refl _ _), Lib.hid rfl⟩
  case round =>
    obtain ⟨k, hk, rfl, HU, HF⟩ := hrel
    by_cases hlt : k < xs.length
    · obtain ⟨b1, o1, u, f, rfl, -, -, p0, -, hr⟩ := HC.out k hlt
      have p0 := HU.out.keep p0
      have hf := HF.out
      rw [List.drop_eq_getElem_cons hlt, List.any_cons] at hf
      have HD := Lib.hid hf
      have hkl : (k : Int) < (xs.length : Int) := by omega
      have S1 := Lib.hid (HBY.out wr u f xs[k] HU.out (R_T1k.upd hr HU.out (by simp)))
      generalize P xs[k] = bb at *
      clear hf hr
      go_wp2_with fail
      refine S1.out.mono ?_
      rintro e w1 ⟨rfl, hu1⟩
      have HU1 := Lib.hid (HU.out.trans hu1)
      clear S1 hu1
      cases bb
      · go_wp2_with fail
        go_roundw
        case rel => exact ⟨k + 1, by omega, by go_num, HU1, Lib.hid (by rw [← HD.out]; rfl)⟩
        case measure => simp [intOf]; omega
      · have HZ := Lib.hid (show decide (0 ≤ (k : Int)) = xs.any P by rw [← HD.out]; simp)
        go_wp2_with fail
        go_ret
        exact ⟨⟨k, rfl, by omega, by omega, HZ.out⟩, HU1.out⟩
    · have hf := HF.out
      rw [List.drop_of_length_le (by omega)] at hf
      have HZ := Lib.hid (show decide (0 ≤ (-1 : Int)) = xs.any P by rw [← hf]; rfl)
      clear hf
      go_wp2_with fail
      go_ret
      exact ⟨⟨-1, rfl, by omega, by omega, HZ.out⟩, HU.out⟩

set_option maxRecDepth 20000 in
theorem containsFuncE (P : List Tm → Bool) (fn : FuncId) (caps : Array Value) (v : Value) (xs : List (List Tm)) (w : World) (fp : List Nat) (hR : R_T2 fp w [v] xs)
    (hent : ∀ args w, Sem.run Tryz.prog (callFunc fn args) w = .ok (.enter fn args) w)
    (hby : ∀ wr u f x, Upd [] w wr → R_T1 f wr [u] x → Calls Tryz.prog fn (#[u] ++ caps) wr fun e w' => e = .returned (.bool (P x)) ∧ Upd [] wr w') :
    Calls Tryz.prog 226 #[v, .func (.func fn) #[] caps] w fun e w' => e = .returned (.bool (xs.any P)) ∧ Upd [] w w' := by
  have S2 := Lib.hid (indexFuncE P fn caps v xs w fp hR hent hby)
  clear hby hent hR
  go_enter Tryz.func226, Tryz.ntmps226
  go_wp2_with fail
  refine S2.out.mono ?_
  rintro e w1 ⟨⟨q, rfl, h1, h2, h3⟩, hu⟩
  have H3 := Lib.hid (And.intro h3 hu)
  clear h3 hu
  go_wp2_with fail
  go_ret
  exact ⟨by rw [← H3.out.1]; rfl, H3.out.2⟩

end Go.Proofs.YtnchmnjkmhfleaaGreat

/-
  Whether a number is an index of a list: what the program's call returns.
-/
namespace Go.Proofs.YtnchmnjkmhfleaaGreat
open Go.RowKit

theorem idxI (n : Int) (m : Nat) (w : World) (hm : m ≤ 1000000) : Calls Tryz.prog 43 #[.int .i64 n, .int .i64 m] w fun e w' => e = .returned (.bool (inB n 0 (m - 1))) ∧ w = w' := by
  have S1 := Lib.hid (within n 0 ((m : Int) - 1) w)
  generalize inB n 0 ((m : Int) - 1) = b at *
  go_enter Tryz.func43, Tryz.ntmps43
  go_wp2_with fail
  refine S1.out.mono ?_
  rintro e w1 ⟨rfl, rfl⟩
  clear S1
  go_wp2_with fail
  go_ret
  exact ⟨rfl, rfl⟩

end Go.Proofs.YtnchmnjkmhfleaaGreat

/-
  Which lists of definitions are valid, definition by definition: plain.
-/
namespace Go.Proofs.YtnchmnjkmhfleaaGreat
open Go.RowKit

/-- a definition of a list is as it must be. -/
def goodD (ds : List De) (k : Nat) (d : De) : Bool := nameF d.name && !((ds.take k).any fun o => o.name == d.name) && (faultP ds d).2 == 0
def sizeD (ds : List De) : Bool := (decide (1 ≤ ds.length) && decide (ds.length ≤ 4)) && (ds.all fun d => inB d.pars 0 3)
theorem goodD_dup {ds : List De} {k : Nat} (hk : k < ds.length) (h : ((ds.take k).any fun o => o.name == ds[k].name) = true) : ¬ (ds.map De.name).Nodup := by
  intro hn
  rw [List.any_eq_true] at h
  obtain ⟨o, ho, he⟩ := h
  obtain ⟨j, hj, rfl⟩ := List.mem_iff_getElem.1 ho
  simp only [List.length_take] at hj
  rw [List.getElem_take] at he
  have e : (ds.map De.name)[j]'(by simp; omega) = (ds.map De.name)[k]'(by simpa using hk) := by simpa using he
  rw [List.nodup_iff_pairwise_ne, List.pairwise_iff_getElem] at hn
  exact hn j k (by simp; omega) (by simpa using hk) (by omega) e
theorem goodD_nodup : ∀ {ds : List De}, (∀ k (hk : k < ds.length), ((ds.take k).any fun o => o.name == ds[k].name) = false) → (ds.map De.name).Nodup := by
  intro ds h
  rw [List.nodup_iff_pairwise_ne, List.pairwise_iff_getElem]
  intro i j hi hj hij
  simp only [List.length_map] at hi hj
  have := h j hj
  rw [List.any_eq_false] at this
  have h2 := this ds[i] (List.mem_iff_getElem.2 ⟨i, by simp; omega, by simp⟩)
  simpa using h2
theorem defsOk_no {ds : List De} {k : Nat} (hk : k < ds.length) (h : goodD ds k ds[k] = false) : defsOk ds = false := by
  cases hd : defsOk ds with
  | false => rfl
  | true =>
    exfalso
    unfold defsOk at hd
    simp only [Bool.and_eq_true, List.all_eq_true, decide_eq_true_eq, beq_iff_eq] at hd
    obtain ⟨⟨⟨⟨-, -⟩, h3⟩, h4⟩, h5⟩ := hd
    unfold goodD at h
    have hm : ds[k] ∈ ds := List.getElem_mem hk
    rw [h3 _ hm, h5 _ hm] at h
    simp only [Bool.true_and, BEq.rfl, Bool.and_true, Bool.not_eq_false'] at h
    exact goodD_dup hk h h4
theorem defsOk_yes {ds : List De} (h : ∀ j (hj : j < ds.length), goodD ds j ds[j] = true) : defsOk ds = sizeD ds := by
  have hg : ∀ j (hj : j < ds.length), nameF ds[j].name = true ∧ ((ds.take j).any fun o => o.name == ds[j].name) = false ∧ (faultP ds ds[j]).2 = 0 := fun j hj => by
    have := h j hj
    unfold goodD at this
    simp only [Bool.and_eq_true, Bool.not_eq_true', beq_iff_eq] at this
    exact ⟨this.1.1, this.1.2, this.2⟩
  have h1 : (ds.all fun d => nameF d.name) = true := List.all_eq_true.2 (fun d hd => by obtain ⟨j, hj, rfl⟩ := List.mem_iff_getElem.1 hd; exact (hg j hj).1)
  have h2 : (ds.all fun d => (faultP ds d).2 == 0) = true := List.all_eq_true.2 (fun d hd => by obtain ⟨j, hj, rfl⟩ := List.mem_iff_getElem.1 hd; simpa using (hg j hj).2.2)
  have h3 := goodD_nodup (fun k hk => (hg k hk).2.1)
  unfold defsOk sizeD
  rw [h1, h2, decide_eq_true h3]; simp
theorem defsOk_size {ds : List De} (h : sizeD ds = false) : defsOk ds = false := by
  unfold sizeD at h
  unfold defsOk
  rw [h]; rfl

end Go.Proofs.YtnchmnjkmhfleaaGreat

/-
  The first element of which something is true, plainly.
-/
namespace Go.Proofs.YtnchmnjkmhfleaaGreat

def firstP {α : Type} (p : α → Bool) : List α → Int
  | [] => -1
  | s :: r => if p s then 0 else if firstP p r < 0 then -1 else firstP p r + 1
theorem firstP_at {α : Type} {p : α → Bool} : ∀ {l : List α} (k : Nat) (hk : k < l.length), (∀ j (_ : j < k) (hj : j < l.length), p l[j] = false) → p l[k] = true → firstP p l = k
  | [], k, hk, _, _ => by simp at hk
  | s :: r, 0, _, _, h => by simp at h; simp [firstP, h]
  | s :: r, k + 1, hk, hn, h => by
    have h0 : p s = false := hn 0 (by omega) (by simp)
    have ih := firstP_at (p := p) (l := r) k (by simpa using hk) (fun j hj hj2 => by have := hn (j + 1) (by omega) (by simpa using hj2); rwa [List.getElem_cons_succ] at this) (by rwa [List.getElem_cons_succ] at h)
    rw [firstP, h0, if_neg (by simp), ih, if_neg (by omega)]; omega
theorem firstP_none {α : Type} {p : α → Bool} : ∀ {l : List α}, (∀ j (hj : j < l.length), p l[j] = false) → firstP p l = -1
  | [], _ => rfl
  | s :: r, hn => by
    have h0 : p s = false := hn 0 (by simp)
    have ih := firstP_none (p := p) (l := r) (fun j hj => by have := hn (j + 1) (by simpa using hj); rwa [List.getElem_cons_succ] at this)
    rw [firstP, h0, if_neg (by simp), ih, if_pos (by omega)]
theorem firstP_nonneg {α : Type} (p : α → Bool) : ∀ l : List α, decide (0 ≤ firstP p l) = l.any p
  | [] => rfl
  | s :: r => by
    have ih := firstP_nonneg p r
    rw [List.any_cons, firstP]
    by_cases h : p s = true
    · simp [h]
    · rw [if_neg h, ← ih, show p s = false by simpa using h, Bool.false_or]
      by_cases h2 : firstP p r < 0
      · rw [if_pos h2]; rw [decide_eq_false (by omega), decide_eq_false (by omega)]
      · rw [if_neg h2]; rw [decide_eq_true (by omega), decide_eq_true (by omega)]
end Go.Proofs.YtnchmnjkmhfleaaGreat

/-
  Comparing texts and lists of texts: what the library's functions return.
-/
namespace Go.Proofs.YtnchmnjkmhfleaaGreat
open Go.RowKit

/-- the order of two texts as a number. -/
def cmpB (a b : List UInt8) : Int := if bl a b then -1 else if bl b a then 1 else 0
/-- the order of two lists of texts. -/
def cmpBs : List (List UInt8) → List (List UInt8) → Int
  | x :: xs, y :: ys => if cmpB x y = 0 then cmpBs xs ys else cmpB x y
  | _, _ => 0
theorem isNaNS (l : List UInt8) (w : World) : Calls Tryz.prog 180 #[es l] w fun e w' => e = .returned (.bool false) ∧ w = w' := by
  have hb : (l != l) = false := by simp
  go_enter Tryz.func180, Tryz.ntmps180
  go_wp2_with fail
  go_ret
  exact ⟨rfl, rfl⟩
set_option maxRecDepth 20000 in
set_option maxHeartbeats 1000000 in
theorem cmpStr (a b : List UInt8) (w : World) : Calls Tryz.prog 143 #[es a, es b] w fun e w' => e = .returned (.int .i64 (cmpB a b)) ∧ w = w' := by
  have HM := Lib.hid (show cmpB a b = if bl a b then -1 else if bl b a then 1 else 0 from rfl)
  generalize cmpB a b = Z at *
  obtain ⟨q1, h1⟩ : ∃ q, Op.bytesLess a b = q := ⟨_, rfl⟩
  obtain ⟨q2, h2⟩ : ∃ q, Op.bytesLess b a = q := ⟨_, rfl⟩
  rw [show bl a b = q1 from h1, show bl b a = q2 from h2] at HM
  have S1 := Lib.hid (isNaNS a w)
  have S2 := Lib.hid (isNaNS b w)
  cases q1 with
  | true =>
    go_enter Tryz.func143, Tryz.ntmps143
    go_wp2_with fail
    refine S1.out.mono ?_
    rintro e w1 ⟨rfl, rfl⟩
    go_wp2_with fail
    refine S2.out.mono ?_
    rintro e w1 ⟨rfl, rfl⟩
    go_wp2_with fail
    go_ret
    exact ⟨by rw [HM.out]; rfl, rfl⟩
  | false =>
    obtain ⟨q3, h3⟩ : ∃ q, (a == b) = q := ⟨_, rfl⟩
    have h4 : q3 = !q2 := by
      have := bl_total a b
      rw [show bl a b = false from h1, show bl b a = q2 from h2, Bool.false_or, h3] at this
      exact this
    cases q2 with
    | true =>
      obtain rfl : q3 = false := h4
      go_enter Tryz.func143, Tryz.ntmps143
      go_wp2_with fail
      refine S1.out.mono ?_
      rintro e w1 ⟨rfl, rfl⟩
      go_wp2_with fail
      refine S2.out.mono ?_
      rintro e w1 ⟨rfl, rfl⟩
      go_wp2_with fail
      go_ret
      exact ⟨by rw [HM.out]; rfl, rfl⟩
    | false =>
      obtain rfl : q3 = true := h4
      go_enter Tryz.func143, Tryz.ntmps143
      go_wp2_with fail
      refine S1.out.mono ?_
      rintro e w1 ⟨rfl, rfl⟩
      go_wp2_with fail
      refine S2.out.mono ?_
      rintro e w1 ⟨rfl, rfl⟩
      go_wp2_with fail
      go_ret
      exact ⟨by rw [HM.out]; rfl, rfl⟩

set_option maxRecDepth 20000 in
set_option maxHeartbeats 2000000 in
theorem cmpStrs (v1 v2 : Value) (xs ys : List (List UInt8)) (w : World) (f1 f2 : List Nat) (h1 : R_S1 f1 w [v1] xs) (h2 : R_S1 f2 w [v2] ys) (hl : xs.length = ys.length) :
    Calls Tryz.prog 94 #[v1, v2] w fun e w' => e = .returned (.int .i64 (cmpBs xs ys)) ∧ w = w' := by
  obtain ⟨a1, c1, rfl, l1, m1, hc1⟩ := slF1_open h1
  obtain ⟨a2, c2, rfl, l2, m2, hc2⟩ := slF1_open h2
  unfold maxLen at m1 m2
  have HC1 := Lib.hid hc1
  have HC2 := Lib.hid hc2
  have HL := Lib.hid hl
  clear h1 h2 hc1 hc2
  rw [← hl] at l2 ⊢
  clear hl
  go_enter Tryz.func94, Tryz.ntmps94
  go_wp2_with fail
  go_loopw [11] (fun iv wr => ∃ k : Nat, k ≤ xs.length ∧ iv = .int .i64 k ∧ Hid (cmpBs (xs.drop k) (ys.drop k) = cmpBs xs ys) ∧ wr = w) (fun iv _ => xs.length - (intOf iv).toNat)
  case atStart => exact ⟨0, Nat.zero_le _, rfl, Lib.hid rfl, by trivial⟩
  case round =>
    obtain ⟨k, hk, rfl, HS, rfl⟩ := hrel
    by_cases hlt : k < xs.length
    · have hly : k < ys.length := by rw [← HL.out]; exact hlt
      obtain ⟨b1, o1, rfl, -, -, p1⟩ := HC1.out k hlt
      obtain ⟨b2, o2, rfl, -, -, p2⟩ := HC2.out k hly
      have hs := HS.out
      rw [List.drop_eq_getElem_cons hlt, List.drop_eq_getElem_cons hly, cmpBs] at hs
      have HN := Lib.hid hs
      have S1 := Lib.hid (cmpStr xs[k] ys[k] wr)
      have hkl : (k : Int) < (xs.length : Int) := by omega
      have hkl2 : ¬ (xs.length : Int) ≤ (k : Int) := by omega
      clear hs HS
      generalize cmpB xs[k] ys[k] = z at *
      generalize xs[k] = x at *
      generalize ys[k] = y at *
      go_wp2_with fail
      refine S1.out.mono ?_
      rintro e w1 ⟨rfl, rfl⟩
      clear S1
      by_cases hz : z = 0
      · have hzb : (z != 0) = false := by simp [hz]
        have HK := Lib.hid (show cmpBs (xs.drop (k + 1)) (ys.drop (k + 1)) = cmpBs xs ys by rw [← HN.out, if_pos hz])
        clear hz HN
        go_wp2_with fail
        go_roundw
        case rel => exact ⟨k + 1, by omega, by go_num, HK, by trivial⟩
        case measure => simp [intOf]; omega
      · have hzb : (z != 0) = true := by simp [hz]
        have HK := Lib.hid (show cmpBs xs ys = z by rw [← HN.out, if_neg hz])
        clear hz HN
        go_wp2_with fail
        go_ret
        exact ⟨by rw [HK.out]; rfl, rfl⟩
    · have hs := HS.out
      rw [List.drop_of_length_le (by omega)] at hs
      have HK := Lib.hid (show cmpBs xs ys = 0 by rw [← hs]; cases ys.drop k <;> rfl)
      have hkl : ¬ (k : Int) < (xs.length : Int) := by omega
      clear hs
      go_wp2_with fail
      go_ret
      exact ⟨by rw [HK.out]; rfl, rfl⟩

end Go.Proofs.YtnchmnjkmhfleaaGreat

/-
  A number in decimal, read by the reference. (Printed by gennum.py: the two signs alike.)
-/
namespace Go.Proofs.YtnchmnjkmhfleaaGreat
open Go.RowKit

end Go.Proofs.YtnchmnjkmhfleaaGreat

/-
  The values of a label, as the reference reads them, are those that the program reads.
-/
namespace Go.Proofs.YtnchmnjkmhfleaaGreat
open Go.RowKit

end Go.Proofs.YtnchmnjkmhfleaaGreat

/-
  A text divided at each byte by the reference.
-/
namespace Go.Proofs.YtnchmnjkmhfleaaGreat
open Go.RowKit

end Go.Proofs.YtnchmnjkmhfleaaGreat

/-
  The values of a label, read by the reference.
-/
namespace Go.Proofs.YtnchmnjkmhfleaaGreat
open Go.RowKit

end Go.Proofs.YtnchmnjkmhfleaaGreat

/-
  Whether all numbers of a list are values: what the reference's call returns.
-/
namespace Go.Proofs.YtnchmnjkmhfleaaGreat
open Go.RowKit

set_option maxRecDepth 20000 in
theorem dataS (v : Value) (xs : List Int) (w : World) (fp : List Nat) (hR : R_I1 fp w [v] xs) :
    Calls Tryz.prog 104 #[v] w fun e w' => e = .returned (.bool (xs.all isV)) ∧ w = w' := by
  obtain ⟨a1, c1, rfl, hl1, hm1, hc1⟩ := slF1_open hR
  unfold maxLen at hm1
  have HC := Lib.hid hc1
  clear hR hc1
  go_enter Tryz.func104, Tryz.ntmps104
  go_wp2_with fail
  go_loop [3] (fun i => ∃ k : Nat, k ≤ xs.length ∧ i = .int .i64 k ∧ Hid ((xs.drop k).all isV = xs.all isV)) (fun i => xs.length - (intOf i).toNat)
  case atStart => exact ⟨0, Nat.zero_le _, rfl, Lib.hid rfl⟩
  case round =>
    obtain ⟨k, hk, rfl, HF⟩ := hrel
    by_cases hlt : k < xs.length
    · obtain ⟨b1, o1, rfl, -, -, p1⟩ := HC.out k hlt
      have hf := HF.out
      rw [List.drop_eq_getElem_cons hlt, List.all_cons] at hf
      have HD := Lib.hid hf
      have hkl : (k : Int) < (xs.length : Int) := by omega
      clear hf
      generalize xs[k] = x at *
      have S1 := Lib.hid (fun W => show Calls Tryz.prog 51 #[.int .i64 x, .int .i64 0, .int .i64 63] W (fun e w' => e = .returned (.bool (isV x)) ∧ W = w') from l00In x 0 63 W)
      generalize isV x = q at *
      cases q with
      | false =>
        have HZ := Lib.hid (show xs.all isV = false by rw [← HD.out]; rfl)
        go_wp2_with fail
        refine (S1.out _).mono ?_
        rintro e w1 ⟨rfl, rfl⟩
        go_wp2_with fail
        go_ret
        exact ⟨by rw [HZ.out]; rfl, rfl⟩
      | true =>
        go_wp2_with fail
        refine (S1.out _).mono ?_
        rintro e w1 ⟨rfl, rfl⟩
        go_wp2_with fail
        go_round
        case rel => exact ⟨k + 1, by omega, by go_num, Lib.hid (by rw [← HD.out]; rfl)⟩
        case measure => simp [intOf]; omega
    · have hf := HF.out
      rw [List.drop_of_length_le (by omega)] at hf
      have HZ := Lib.hid (show xs.all isV = true by rw [← hf]; rfl)
      clear hf
      go_wp2_with fail
      go_ret
      exact ⟨by rw [HZ.out]; rfl, rfl⟩

end Go.Proofs.YtnchmnjkmhfleaaGreat

/-
  What is valid in a body, part by part, and how long its text is: plain.
-/
namespace Go.Proofs.YtnchmnjkmhfleaaGreat
open Go.RowKit

/-- a valid part. -/
structure PaFine (ds : List De) (p : Pa) : Prop where
  kind : 0 ≤ p.kind ∧ p.kind ≤ 5
  act : p.kind = 1 → p.name.length ≤ 10
  three : p.args.length ≤ 3
  one : p.kind = 3 → p.args.length = 1
  sum : p.kind = 4 → 1 ≤ p.num ∧ p.num ≤ 7
  call : p.kind = 5 → 0 ≤ p.num ∧ p.num < ds.length
  exps : ∀ e ∈ p.args, eOk e = true
theorem reason_fine {ds : List De} (hp : ∀ d ∈ ds, 0 ≤ d.pars ∧ d.pars ≤ 3) {p : Pa} {sc : Int} {b : Bool} (hs : sc ≤ 29) (h : reasonP ds p sc b = 0) : PaFine ds p := by
  unfold reasonP at h
  split at h
  · omega
  split at h
  · omega
  split at h
  · omega
  split at h
  · omega
  split at h
  · omega
  split at h
  · omega
  split at h
  · omega
  rename_i h1 h2 h3 h4 h5 h6 h7
  simp only [Bool.not_eq_true', Bool.not_eq_false] at h1 h4
  simp only [Bool.and_eq_true, Bool.or_eq_true, beq_iff_eq, Bool.not_eq_true', not_and, not_or, Bool.not_eq_false] at h2 h3
  have hk : 0 ≤ p.kind ∧ p.kind ≤ 5 := by
    unfold kindP at h1
    simp only [Bool.and_eq_true] at h1
    exact inB_true h1.1.1.1
  have hcall : p.kind = 5 → 0 ≤ p.num ∧ p.num < ds.length := fun e => by have := inB_true (h3.2 e); omega
  refine ⟨hk, fun e => ?_, ?_, fun e => ?_, fun e => inB_true (h3.1 e), hcall, fun e he => ?_⟩
  · have := h2 e
    unfold nameF at this
    simp only [Bool.and_eq_true, decide_eq_true_eq] at this
    exact this.1.1.2
  · unfold countP at h4
    split at h4
    · simp only [Bool.or_eq_true, Bool.and_eq_true, beq_iff_eq, decide_eq_true_eq] at h4
      omega
    split at h4
    · simp only [beq_iff_eq] at h4; omega
    split at h4
    · rename_i e5
      obtain ⟨n0, n1⟩ := hcall e5
      obtain ⟨j, hj⟩ : ∃ j : Nat, p.num = j := ⟨p.num.toNat, by omega⟩
      have hjl : j < ds.length := by omega
      rw [hj, Int.toNat_natCast, List.getD_eq_getElem?_getD, List.getElem?_map, List.getElem?_eq_getElem hjl] at h4
      simp only [Option.map_some, Option.getD_some, beq_iff_eq] at h4
      have := hp ds[j] (List.getElem_mem hjl)
      omega
    · unfold kindP at h1
      simp only [Bool.and_eq_true, Bool.or_eq_true, beq_iff_eq] at h1
      omega
  · unfold countP at h4
    rw [if_neg (by omega), if_pos e] at h4
    simpa using h4
  · have := h7
    rw [Bool.not_eq_true, List.any_eq_false] at this
    have := this e he
    exact eOk15 (by simpa using this) hs
theorem from_none {ds : List De} {d : De} {body : List Pa} : ∀ (l : List Pa) (i : Nat), (faultFrom ds d body i l).2 = 0 → ∀ j (hj : j < l.length), reasonP ds l[j] (d.pars + cntB folP sumP body (i + j)) (behindP body (i + j)) = 0
  | [], _, _, j, hj => by simp at hj
  | p :: l, i, h, j, hj => by
    rw [faultFrom] at h
    split at h
    · rename_i h0
      cases j with
      | zero => simpa using h0
      | succ j =>
        have := from_none l (i + 1) h j (by simpa using hj)
        rw [show i + 1 + j = i + (j + 1) by omega] at this
        simpa using this
    · rename_i h0
      exact absurd h h0
theorem defs_fine {ds : List De} (h : defsOk ds = true) : ds.length ≤ 4 ∧ 1 ≤ ds.length ∧ (∀ d ∈ ds, 0 ≤ d.pars ∧ d.pars ≤ 3) ∧ (∀ d ∈ ds, d.name.length ≤ 10) ∧ ∀ d ∈ ds, bodyOk d = true ∧ d.body.length ≤ 20 ∧ ∀ p ∈ d.body, PaFine ds p := by
  unfold defsOk at h
  simp only [Bool.and_eq_true, List.all_eq_true, decide_eq_true_eq, beq_iff_eq] at h
  obtain ⟨⟨⟨⟨⟨h1, h2⟩, h3⟩, h4⟩, -⟩, h6⟩ := h
  have hp : ∀ d ∈ ds, 0 ≤ d.pars ∧ d.pars ≤ 3 := fun d hd => inB_true (h3 d hd)
  refine ⟨h2, h1, hp, fun d hd => ?_, fun d hd => ?_⟩
  · have := h4 d hd
    unfold nameF at this
    simp only [Bool.and_eq_true, decide_eq_true_eq] at this
    exact this.1.1.2
  · have hf := h6 d hd
    unfold faultP at hf
    by_cases hb : bodyOk d = true
    · rw [if_pos hb] at hf
      have hl : d.body.length ≤ 20 := by
        have := hb
        unfold bodyOk at this
        simp only [Bool.and_eq_true, decide_eq_true_eq] at this
        exact this.1.2
      refine ⟨hb, hl, fun p hm => ?_⟩
      obtain ⟨j, hj, rfl⟩ := List.mem_iff_getElem.1 hm
      have hz := from_none d.body 0 hf j hj
      rw [Nat.zero_add] at hz
      have hc := cntB_bd folP sumP d.body j
      have := (hp d hd)
      exact reason_fine hp (by omega) hz
    · rw [if_neg hb] at hf
      simp at hf
end Go.Proofs.YtnchmnjkmhfleaaGreat

/-
  What is known of a valid system, plainly.
-/
namespace Go.Proofs.YtnchmnjkmhfleaaGreat
open Go.RowKit

theorem act_len {l : List UInt8} (h : actF l = true) : l.length ≤ 10 := by
  unfold actF nameF at h; simp only [Bool.and_eq_true, decide_eq_true_eq] at h; omega
theorem names_fine {l : List (List UInt8)} (h : namesF l = true) : l.length ≤ 12 ∧ ∀ p ∈ l, p.length ≤ 10 := by
  unfold namesF at h
  simp only [Bool.and_eq_true, decide_eq_true_eq, List.all_eq_true] at h
  refine ⟨h.2, fun p hp => ?_⟩
  obtain ⟨j, hj, rfl⟩ := List.mem_iff_getElem.1 hp
  have := h.1 j (by simpa using hj)
  unfold goodAt at this
  simp only [Bool.and_eq_true] at this
  have h1 := act_len this.1
  rwa [List.getD_eq_getElem?_getD, List.getElem?_eq_getElem hj, Option.getD_some] at h1
theorem meets_fine {l : List Me} (h : meetsF l = true) : l.length ≤ 6 ∧ ∀ m ∈ l, m.left.length ≤ 10 ∧ m.right.length ≤ 10 ∧ m.result.length ≤ 10 := by
  unfold meetsF at h
  simp only [Bool.and_eq_true, decide_eq_true_eq, List.all_eq_true] at h
  refine ⟨h.2, fun p hp => ?_⟩
  obtain ⟨j, hj, rfl⟩ := List.mem_iff_getElem.1 hp
  have := h.1 j (by simpa using hj)
  rw [List.getD_eq_getElem?_getD, List.getElem?_eq_getElem hj, Option.getD_some] at this
  unfold goodM at this
  simp only [Bool.and_eq_true] at this
  exact ⟨act_len this.1.1.1.1.1, act_len this.1.1.1.1.2, act_len this.1.1.1.2⟩
theorem comps_fine {ds : List De} {l : List Co} (h : compsOk ds l = true) : (1 ≤ l.length ∧ l.length ≤ 3) ∧ ∀ c ∈ l, (0 ≤ c.dfn ∧ c.dfn < ds.length) ∧ ((c.vals.length : Int) = (ds.map De.pars).getD c.dfn.toNat 0) ∧ ∀ x ∈ c.vals, 0 ≤ x ∧ x ≤ 63 := by
  unfold compsOk at h
  simp only [Bool.and_eq_true, List.all_eq_true] at h
  obtain ⟨h1, h2⟩ := h
  have h1 := inB_true h1
  refine ⟨by omega, fun c hc => ?_⟩
  have := h2 c hc
  unfold compOk at this
  simp only [Bool.and_eq_true, List.all_eq_true, beq_iff_eq] at this
  have h3 := inB_true this.1.1
  exact ⟨by omega, this.1.2, fun x hx => inB_true (this.2 x hx)⟩
/-- what is known of a valid system. -/
structure SyGd (s : Sy) : Prop where
  defs : defsOk s.defs = true
  dl : s.defs.length ≤ 4
  cl : 1 ≤ s.comps.length ∧ s.comps.length ≤ 3
  comp : ∀ c ∈ s.comps, ∃ j : Nat, c.dfn = j ∧ j < s.defs.length ∧ c.vals.length ≤ 3 ∧ ∀ x ∈ c.vals, 0 ≤ x ∧ x ≤ 99
  nam : ∀ d ∈ s.defs, d.name.length ≤ 10
  meets : s.meets.length ≤ 6 ∧ ∀ m ∈ s.meets, m.left.length ≤ 10 ∧ m.right.length ≤ 10 ∧ m.result.length ≤ 10
  allow : s.allow.length ≤ 12 ∧ ∀ p ∈ s.allow, p.length ≤ 10
  hide : s.hide.length ≤ 12 ∧ ∀ p ∈ s.hide, p.length ≤ 10
theorem SyGd.of {s : Sy} (h : sysOk s = true) : SyGd s := by
  unfold sysOk at h
  simp only [Bool.and_eq_true] at h
  obtain ⟨⟨⟨⟨h1, h2⟩, h3⟩, h4⟩, h5⟩ := h
  obtain ⟨d1, d2, d3, d4, d5⟩ := defs_fine h1
  obtain ⟨c1, c2⟩ := comps_fine h2
  refine ⟨h1, d1, c1, fun c hc => ?_, d4, meets_fine h3, names_fine h4, names_fine h5⟩
  obtain ⟨e1, e2, e3⟩ := c2 c hc
  have hj : c.dfn.toNat < s.defs.length := by omega
  refine ⟨c.dfn.toNat, by omega, hj, ?_, fun x hx => ?_⟩
  · rw [List.getD_eq_getElem?_getD, List.getElem?_map, List.getElem?_eq_getElem hj] at e2
    have := d3 _ (List.getElem_mem hj)
    simp only [Option.map_some, Option.getD_some] at e2
    omega
  · have := e3 x hx; omega

end Go.Proofs.YtnchmnjkmhfleaaGreat

/-
  The form's reading of slices of structs with memory of their own.
-/
namespace Go.Proofs.YtnchmnjkmhfleaaGreat
open Go.RowKit Go.ChangeShapes Go.WideShapes Go.Deep

theorem opens_slQ {α : Type} {P : Program} {t e : TypeId} {n : Nat} {R : Rp α} {φ : α → Prop} (ht : P.underlying t = some (.slice e)) (hc : P.cellsOf e = n) (hn : 0 < n) (h : Opens P e R φ) :
    Opens P t (slQ n R) (fun xs => ∀ x ∈ xs, φ x) := by
  intro H enc w fuel cs x hx
  rcases open_slice ht hx with ⟨rfl, -⟩ | ⟨a, len, cap, m, q, D, Pl, rfl, -, hl, hm, hmm, -, hel⟩
  · exact ⟨[], [], slQ_nil w none 0 (by simp [maxLen]), by simp⟩
  · have hlm : len ≤ m := by subst hmm; simpa using hl
    rw [hc] at hel
    obtain ⟨l, hll, hlq⟩ := list_choice (fun i (y : α × List Value × List Nat) => (y.2.1.length = n ∧ ∀ j, j < n → w.cell? ((a.add (i * n)).add j) = y.2.1[j]?) ∧ R y.2.2 w y.2.1 y.1 ∧ φ y.1) len (fun i hi => by
      obtain ⟨cs', h1, h2⟩ := hel i (by omega)
      obtain ⟨-, h3, h4⟩ := World.cells?_some h1
      obtain ⟨y, f, hr, hy⟩ := h h2
      exact ⟨(y, cs', f), ⟨h3, h4⟩, hr, hy⟩)
    by_cases h0 : len = 0
    · subst h0
      exact ⟨[], [], by simpa using slQ_nil w (some a) cap hm, by simp⟩
    · have q0 := hlq 0 l[0] (by simp)
      have hc0 := q0.1.2 0 hn
      obtain ⟨c0, hc1⟩ : ∃ c, l[0].2.1[0]? = some c := ⟨_, List.getElem?_eq_getElem (by rw [q0.1.1]; exact hn)⟩
      rw [hc1] at hc0
      have hs : a.spot = none := by simpa [Addr.add] using World.cell?_spot hc0
      obtain ⟨b, off, spot⟩ := a
      simp at hs
      subst hs
      have ha : ∀ o, (⟨b, off, none⟩ : Addr).add o = ⟨b, off + o, none⟩ := fun o => by simp only [Addr.add]; split <;> simp_all
      have ha2 : ∀ o o2, (⟨b, off + o, none⟩ : Addr).add o2 = ⟨b, off + o + o2, none⟩ := fun o o2 => by simp only [Addr.add]; split <;> simp_all
      refine ⟨l.map (·.1), [b] ++ (l.map (·.2.2)).flatten, ⟨some ⟨b, off, none⟩, cap, l.map (·.2.1), [b], l.map (·.2.2), by simp [hll], by simpa [hll] using hl, hm, by simp, ?_, by simp, rfl, Or.inr ⟨b, off, rfl, rfl, ?_, ?_⟩, ?_⟩, ?_⟩
      · intro u hu
        obtain ⟨y, hy, rfl⟩ := List.mem_map.1 hu
        obtain ⟨i, hi, rfl⟩ := List.mem_iff_getElem.1 hy
        exact (hlq i _ (by simp)).1.1
      · have := World.block_lt_of_cell? w _ hc0
        simpa [Addr.add] using this
      · intro i j u c hu hj
        rw [List.getElem?_map] at hu
        cases hli : l[i]? with
        | none => simp [hli] at hu
        | some y =>
          simp [hli] at hu
          subst hu
          have g := hlq i y hli
          have := g.1.2 j (by rw [← g.1.1]; exact (List.getElem?_eq_some_iff.1 hj).1)
          rw [ha, ha2] at this
          rw [this]; exact hj
      · intro i hi u f hu hf
        simp at hi
        have hq := hlq i l[i] (by simp)
        simp [List.getElem?_eq_getElem hi] at hf hu
        subst hf hu
        simpa using hq.2.1
      · intro x hx
        obtain ⟨y, hy, rfl⟩ := List.mem_map.1 hx
        obtain ⟨i, hi, rfl⟩ := List.mem_iff_getElem.1 hy
        exact (hlq i _ (by simp)).2.2

section
variable {P : Program} {H : Type} {enc : TypeId × Value → H} {w : World} {base : Nat} {spare : Nat → Bool} {held : Bool}
theorem trod_struct5 {t : TypeId} {f0 f1 f2 f3 f4 : Field} {fuel : Nat} {cs : List Value} {x : DataW H × List MemPlace} (ht : P.underlying t = some (.struct #[f0, f1, f2, f3, f4])) (h : DataW.trod enc P w base spare held fuel t cs = some x) :
    ∃ y0 y1 y2 y3 y4 n, cs.length = P.cellsOf t ∧ DataW.trod enc P w base spare held n f0.type ((cs.drop f0.offset).take (P.cellsOf f0.type)) = some y0 ∧
      DataW.trod enc P w base spare held n f1.type ((cs.drop f1.offset).take (P.cellsOf f1.type)) = some y1 ∧ DataW.trod enc P w base spare held n f2.type ((cs.drop f2.offset).take (P.cellsOf f2.type)) = some y2 ∧
      DataW.trod enc P w base spare held n f3.type ((cs.drop f3.offset).take (P.cellsOf f3.type)) = some y3 ∧ DataW.trod enc P w base spare held n f4.type ((cs.drop f4.offset).take (P.cellsOf f4.type)) = some y4 := by
  obtain ⟨xs, n, _, rfl, hl, hlen, hf⟩ := DataW.trod_struct ht h
  match xs, hlen with
  | [y0, y1, y2, y3, y4], _ => exact ⟨y0, y1, y2, y3, y4, n, hl, by simpa using hf 0 f0 rfl, by simpa using hf 1 f1 rfl, by simpa using hf 2 f2 rfl, by simpa using hf 3 f3 rfl, by simpa using hf 4 f4 rfl⟩
end

end Go.Proofs.YtnchmnjkmhfleaaGreat

/-
  The form's reading of lists of numbers and of lists of expressions.
-/
namespace Go.Proofs.YtnchmnjkmhfleaaGreat
open Go.RowKit Go.ChangeShapes Go.WideShapes Go.Deep

theorem opens_I1 : Opens Tryz.prog 36 R_I1 (fun xs => ∀ x ∈ xs, (Lit.int .i64 x).wf = true) := opens_ints Tryz.underlying36 Tryz.underlying2 (by kernel_rfl)
theorem opens_T2 : Opens Tryz.prog 203 R_T2 (fun xss => ∀ xs ∈ xss, ∀ t ∈ xs, (Lit.int .i64 t.1).wf = true ∧ (Lit.int .i64 t.2).wf = true) := opens_slP Tryz.underlying203 (by kernel_rfl) opens_T1

end Go.Proofs.YtnchmnjkmhfleaaGreat

/-
  The form's reading of bytes.
-/
namespace Go.Proofs.YtnchmnjkmhfleaaGreat
open Go.RowKit

end Go.Proofs.YtnchmnjkmhfleaaGreat

/-
  The form's reading of texts and lists of texts.
-/
namespace Go.Proofs.YtnchmnjkmhfleaaGreat
open Go.RowKit Go.ChangeShapes Go.WideShapes Go.Deep

theorem opens_S1 : Opens Tryz.prog 27 R_S1 (fun xs => ∀ p ∈ xs, p.length ≤ maxLen) :=
  opens_slF1 Tryz.underlying27 (by kernel_rfl) (by
    intro H enc w fuel v x hx
    obtain ⟨s, hv, -, hs⟩ := DataW.trod_string Tryz.underlying9 hx
    simp at hv
    exact ⟨s.data.toList, hv, hs⟩)
end Go.Proofs.YtnchmnjkmhfleaaGreat
