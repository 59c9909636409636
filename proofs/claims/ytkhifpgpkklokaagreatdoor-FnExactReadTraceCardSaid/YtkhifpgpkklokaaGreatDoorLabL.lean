/-
  Labels made and read: what the program's calls return.
-/
import Derived.Test.YtkhifpgpkklokaaGreatDoorLabJ
import Derived.Test.YtkhifpgpkklokaaGreatDoorLabN
namespace Go.Proofs.YtkhifpgpkklokaaGreatDoor
open Go.RowKit

def LabV (name : List UInt8) (xs : List Int) (w : World) (e : Ending) (w' : World) : Prop :=
  (∃ t : List UInt8, e = .returned (.tuple #[es t, .bool (labT name xs).isSome]) ∧ Hid (∀ s, labT name xs = some s → t = s)) ∧ Upd [] w w'

theorem isV_itoa {x : Int} (h : isV x = true) : (-9223372036854775808 ≤ x ∧ x ≤ 9223372036854775807) ∧ (Lib.itoa x).length ≤ 30 := by
  have hb := inB_true h
  have h1 := itoa_len64 h
  have h2 : (Lib.itoa x).length ≤ (digL (Lib.itoa x)).length + 1 := by unfold digL; split <;> simp <;> omega
  omega

theorem labT_no {name : List UInt8} {xs : List Int} (ht : name ≠ tauL) (h : (actF name && decide (xs.length ≤ 2) && xs.all isV) = false) : labT name xs = none := by
  unfold labT; rw [if_neg ht, h]; rfl
theorem labT_yes {name : List UInt8} {xs : List Int} (ht : name ≠ tauL) (h : (actF name && decide (xs.length ≤ 2) && xs.all isV) = true) : labT name xs = some (if xs = [] then name else ((name ++ [40]) ++ txtV xs) ++ [41]) := by
  unfold labT; rw [if_neg ht, if_pos h]

set_option maxRecDepth 20000 in
set_option maxHeartbeats 4000000 in
theorem labelOfI (name : List UInt8) (v : Value) (xs : List Int) (w : World) (fp : List Nat) (hn : name.length ≤ 2000000) (hR : R1 fp w [v] xs) (he : Env w) :
    Calls Tryz.prog 124 #[es name, v] w (LabV name xs w) := by
  obtain ⟨a, cap, rfl, h1, h2, -⟩ := slF1_open hR
  unfold maxLen at h2
  by_cases htau : name = tauL
  · have HT := Lib.hid (show labT name xs = if xs = [] then some tauL else none by unfold labT; rw [if_pos htau])
    have e1 : es name = .string ⟨#[116, 97, 117]⟩ := by rw [htau]; rfl
    rw [e1]
    clear hR he e1 htau
    cases xs with
    | nil =>
      go_enter Tryz.func124, Tryz.ntmps124
      go_wp2_with fail
      go_ret2
      exact ⟨⟨tauL, by rw [HT.out]; rfl, Lib.hid (fun s hs => by rw [HT.out] at hs; simpa using hs)⟩, Upd.refl _ _⟩
    | cons x xs =>
      have g0 : ¬ (((x :: xs).length : Int) = 0) := by simp; omega
      have HT2 := Lib.hid (show labT name (x :: xs) = none by rw [HT.out]; rfl)
      clear HT
      generalize x :: xs = ys at *
      have g1 : ((ys.length : Int) == 0) = false := by simpa using g0
      go_enter Tryz.func124, Tryz.ntmps124
      go_wp2_with fail
      go_ret2
      exact ⟨⟨tauL, by rw [HT2.out]; first | rfl | (simp [tauL, g1, es]), Lib.hid (fun s hs => by rw [HT2.out] at hs; cases hs)⟩, Upd.refl _ _⟩
  · have g0 : (name == [116, 97, 117]) = false := by simpa [tauL] using htau
    have HTAU := Lib.hid htau
    have S1 := Lib.hid (isActionI name w hn)
    cases ha : actF name with
    | false =>
      have HT := Lib.hid (labT_no (xs := xs) htau (by rw [ha]; rfl))
      rw [ha] at S1
      clear hR he htau ha
      go_enter Tryz.func124, Tryz.ntmps124
      go_wp2_with fail
      refine S1.out.mono ?_
      rintro e w1 ⟨rfl, rfl⟩
      clear S1
      go_wp2_with fail
      go_ret2
      exact ⟨⟨[], by rw [HT.out]; rfl, Lib.hid (fun s hs => by rw [HT.out] at hs; cases hs)⟩, Upd.refl _ _⟩
    | true =>
      rw [ha] at S1
      by_cases hlen : xs.length ≤ 2
      · have g3 : ¬ ((2 : Int) < (xs.length : Int)) := by omega
        have S2 := Lib.hid (areValues _ xs w fp hR)
        cases hv : xs.all isV with
        | false =>
          have HT := Lib.hid (labT_no (xs := xs) htau (by rw [hv]; simp))
          rw [hv] at S2
          clear hR he htau ha hv hlen
          go_enter Tryz.func124, Tryz.ntmps124
          go_wp2_with fail
          refine S1.out.mono ?_
          rintro e w1 ⟨rfl, rfl⟩
          clear S1
          go_wp2_with fail
          refine S2.out.mono ?_
          rintro e w1 ⟨rfl, rfl⟩
          clear S2
          go_wp2_with fail
          go_ret2
          exact ⟨⟨[], by rw [HT.out]; rfl, Lib.hid (fun s hs => by rw [HT.out] at hs; cases hs)⟩, Upd.refl _ _⟩
        | true =>
          have HT := Lib.hid (labT_yes (xs := xs) htau (by rw [ha, hv, decide_eq_true hlen]; rfl))
          rw [hv] at S2
          by_cases h0 : xs = []
          · have HT2 := Lib.hid (HT.out.trans (by rw [if_pos h0]))
            have g4 : ((xs.length : Int) == 0) = true := by rw [h0]; rfl
            clear hR he htau ha hv hlen h0 HT
            go_enter Tryz.func124, Tryz.ntmps124
            go_wp2_with fail
            refine S1.out.mono ?_
            rintro e w1 ⟨rfl, rfl⟩
            clear S1
            go_wp2_with fail
            refine S2.out.mono ?_
            rintro e w1 ⟨rfl, rfl⟩
            clear S2
            go_wp2_with fail
            go_ret2
            exact ⟨⟨name, by rw [HT2.out]; rfl, Lib.hid (fun s hs => by rw [HT2.out] at hs; simpa using hs)⟩, Upd.refl _ _⟩
          · have HT2 := Lib.hid (HT.out.trans (by rw [if_neg h0]))
            have hpos : 0 < xs.length := List.length_pos_iff.2 h0
            have g4 : ((xs.length : Int) == 0) = false := by simp; omega
            have S3 := Lib.hid (joinedI _ xs w fp hR hpos (by omega) (fun x hx => isV_itoa (List.all_eq_true.1 hv x hx)) he)
            have hjl : (txtV xs).length ≤ 2 * 31 := by
              refine Nat.le_trans (joinC_le 44 30 (xs.map Lib.itoa) (fun p hp => ?_)) ?_
              · obtain ⟨x, hx, rfl⟩ := List.mem_map.1 hp
                exact (isV_itoa (List.all_eq_true.1 hv x hx)).2
              · rw [List.length_map]; omega
            clear hR he htau ha hv hlen h0 HT
            generalize txtV xs = J at *
            go_enter Tryz.func124, Tryz.ntmps124
            go_wp2_with fail
            refine S1.out.mono ?_
            rintro e w1 ⟨rfl, rfl⟩
            clear S1
            go_wp2_with fail
            refine S2.out.mono ?_
            rintro e w1 ⟨rfl, rfl⟩
            clear S2
            go_wp2_with fail
            refine S3.out.mono ?_
            rintro e w3 ⟨rfl, hu3⟩
            have HU := Lib.hid hu3
            clear S3 hu3
            go_wp2_with fail
            go_ret2
            exact ⟨⟨_, by rw [HT2.out]; rfl, Lib.hid (fun s hs => by rw [HT2.out] at hs; simpa using hs)⟩, HU.out⟩
      · have g3 : (2 : Int) < (xs.length : Int) := by omega
        have HT := Lib.hid (labT_no (xs := xs) htau (by rw [decide_eq_false hlen]; simp))
        clear hR he htau ha hlen
        go_enter Tryz.func124, Tryz.ntmps124
        go_wp2_with fail
        refine S1.out.mono ?_
        rintro e w1 ⟨rfl, rfl⟩
        clear S1
        go_wp2_with fail
        go_ret2
        exact ⟨⟨[], by rw [HT.out]; rfl, Lib.hid (fun s hs => by rw [HT.out] at hs; cases hs)⟩, Upd.refl _ _⟩

end Go.Proofs.YtkhifpgpkklokaaGreatDoor
