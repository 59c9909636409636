/-
  Lists of values.
-/
import Derived.Test.YtnfghgaadnobbaaGreatDoorTerms
namespace Go.Proofs.YtnfghgaadnobbaaGreatDoor
open Go.RowKit

def isV (n : Int) : Bool := inB n 0 63

theorem areValues1 (n : Int) (w : World) : Calls Tryz.prog 80 #[.int .i64 n] w fun e w' => e = .returned (.bool (!isV n)) ∧ w = w' := by
  have S1 := Lib.hid (isValue n w)
  go_enter Tryz.func80, Tryz.ntmps80
  go_wp2_with fail
  refine S1.out.mono ?_
  rintro e w1 ⟨rfl, rfl⟩
  obtain ⟨bb, hbb⟩ : ∃ bb, bb = inB n 0 63 := ⟨_, rfl⟩
  have HB := Lib.hid (show isV n = bb from hbb.symm)
  rw [← hbb]
  clear hbb S1
  go_wp2_with fail
  go_ret
  exact ⟨by rw [HB.out]; rfl, rfl⟩

def IdxV (xs : List Int) (w : World) (e : Ending) (w' : World) : Prop := (∃ q : Int, e = .returned (.int .i64 q) ∧ -1 ≤ q ∧ q ≤ 9223372036854775807 ∧ decide (0 ≤ q) = xs.any (fun n => !isV n)) ∧ w = w'

set_option maxRecDepth 20000 in
set_option maxHeartbeats 1000000 in
theorem indexFuncV (v : Value) (xs : List Int) (w : World) (fp : List Nat) (hR : R1 fp w [v] xs) :
    Calls Tryz.prog 90 #[v, .func (.func 80) #[] #[]] w (IdxV xs w) := by
  obtain ⟨a1, c1, rfl, hl1, hm1, hc1⟩ := slF1_open hR
  unfold maxLen at hm1
  clear hR
  go_enter Tryz.func90, Tryz.ntmps90
  go_wp2_with fail
  go_loop [8] (fun i => ∃ k : Nat, k ≤ xs.length ∧ i = .int .i64 k ∧ (xs.drop k).any (fun n => !isV n) = xs.any (fun n => !isV n)) (fun i => xs.length - (intOf i).toNat)
  case atStart => exact ⟨0, Nat.zero_le _, rfl, rfl⟩
  case round =>
    obtain ⟨k, hk, rfl, hF⟩ := hrel
    by_cases hlt : k < xs.length
    · obtain ⟨b1, o1, rfl, -, -, p1⟩ := hc1 k hlt
      rw [List.drop_eq_getElem_cons hlt, List.any_cons] at hF
      have HF := Lib.hid hF
      clear hF hc1
      generalize xs[k] = x at *
      have S1 := Lib.hid (areValues1 x w)
      obtain ⟨bb, hbb⟩ : ∃ bb, bb = (!isV x) := ⟨_, rfl⟩
      rw [← hbb] at S1 HF
      clear hbb
      go_wp2_with fail
      refine S1.out.mono ?_
      rintro e w1 ⟨rfl, rfl⟩
      clear S1
      cases bb
      · go_wp2_with fail
        go_round
        case rel => exact ⟨k + 1, by omega, by go_num, by rw [← HF.out]; rfl⟩
        case measure => simp [intOf]; omega
      · go_wp2_with fail
        go_ret
        exact ⟨⟨k, rfl, by omega, by omega, by rw [← HF.out]; simp⟩, rfl⟩
    · rw [List.drop_of_length_le (by omega)] at hF
      have HF := Lib.hid hF
      clear hF hc1
      go_wp2_with fail
      go_ret
      exact ⟨⟨-1, rfl, by omega, by omega, by rw [← HF.out]; rfl⟩, rfl⟩

set_option maxRecDepth 20000 in
theorem areValues (v : Value) (xs : List Int) (w : World) (fp : List Nat) (hR : R1 fp w [v] xs) :
    Calls Tryz.prog 60 #[v] w fun e w' => e = .returned (.bool (xs.all isV)) ∧ w = w' := by
  have S2 := Lib.hid (indexFuncV v xs w fp hR)
  have hall : xs.all isV = !(xs.any (fun n => !isV n)) := by simp [List.all_eq_not_any_not]
  have HA := Lib.hid hall
  have S3 : Hid (Calls Tryz.prog 69 #[v, .func (.func 80) #[] #[]] w fun e w' => e = .returned (.bool (xs.any (fun n => !isV n))) ∧ w = w') := Lib.hid (by
    clear hall HA
    go_enter Tryz.func69, Tryz.ntmps69
    go_wp2_with fail
    refine S2.out.mono ?_
    rintro e w1 ⟨⟨q, rfl, h1, h2, h3⟩, rfl⟩
    have H3 := Lib.hid h3
    clear h3
    go_wp2_with fail
    go_ret
    exact ⟨by rw [← H3.out]; rfl, rfl⟩)
  clear hall S2
  generalize xs.any (fun n => !isV n) = bb at *
  go_enter Tryz.func60, Tryz.ntmps60
  go_wp2_with fail
  refine S3.out.mono ?_
  rintro e w1 ⟨rfl, rfl⟩
  go_wp2_with fail
  go_ret
  exact ⟨by rw [HA.out]; rfl, rfl⟩

end Go.Proofs.YtnfghgaadnobbaaGreatDoor
