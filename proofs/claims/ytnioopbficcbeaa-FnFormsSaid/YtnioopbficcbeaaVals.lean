/-
  Lists of values, and whether all variables of an expression have one.
-/
import Derived.Test.YtnioopbficcbeaaForms
namespace Go.Proofs.Ytnioopbficcbeaa
open Go.RowKit

def isV (n : Int) : Bool := inB n 0 63

theorem areValues1 (n : Int) (w : World) : Calls Try.prog 82 #[.int .i64 n] w fun e w' => e = .returned (.bool (!isV n)) ∧ w = w' := by
  have S1 := Lib.hid (isValue n w)
  go_enter Try.func82, Try.ntmps82
  go_wp2_with fail
  refine S1.out.mono ?_
  rintro e w1 ⟨rfl, rfl⟩
  obtain ⟨bb, hbb⟩ : ∃ bb, bb = inB n 0 63 := ⟨_, rfl⟩
  have HB := Lib.hid (show isV n = bb from hbb.symm)
  rw [← hbb]
  clear hbb S1
  go_wp2_with fail
  go_ret
  exact ⟨by rw [HB.out]; rfl, rfl⟩

def IdxV (xs : List Int) (w : World) (e : Ending) (w' : World) : Prop := (∃ q : Int, e = .returned (.int .i64 q) ∧ -1 ≤ q ∧ q ≤ 9223372036854775807 ∧ decide (0 ≤ q) = xs.any (fun n => !isV n)) ∧ w = w'

set_option maxRecDepth 20000 in
set_option maxHeartbeats 1000000 in
theorem indexFuncV (v : Value) (xs : List Int) (w : World) (fp : List Nat) (hR : R1 fp w [v] xs) :
    Calls Try.prog 94 #[v, .func (.func 82) #[] #[]] w (IdxV xs w) := by
  obtain ⟨a1, c1, rfl, hl1, hm1, hc1⟩ := slF1_open hR
  unfold maxLen at hm1
  clear hR
  go_enter Try.func94, Try.ntmps94
  go_wp2_with fail
  go_loop [8] (fun i => ∃ k : Nat, k ≤ xs.length ∧ i = .int .i64 k ∧ (xs.drop k).any (fun n => !isV n) = xs.any (fun n => !isV n)) (fun i => xs.length - (intOf i).toNat)
  case atStart => exact ⟨0, Nat.zero_le _, rfl, rfl⟩
  case round =>
    obtain ⟨k, hk, rfl, hF⟩ := hrel
    by_cases hlt : k < xs.length
    · obtain ⟨b1, o1, rfl, -, -, p1⟩ := hc1 k hlt
      rw [List.drop_eq_getElem_cons hlt, List.any_cons] at hF
      have HF := Lib.hid hF
      clear hF hc1
      generalize xs[k] = x at *
      have S1 := Lib.hid (areValues1 x w)
      obtain ⟨bb, hbb⟩ : ∃ bb, bb = (!isV x) := ⟨_, rfl⟩
      rw [← hbb] at S1 HF
      clear hbb
      go_wp2_with fail
      refine S1.out.mono ?_
      rintro e w1 ⟨rfl, rfl⟩
      clear S1
      cases bb
      · go_wp2_with fail
        go_round
        case rel => exact ⟨k + 1, by omega, by go_num, by rw [← HF.out]; rfl⟩
        case measure => simp [intOf]; omega
      · go_wp2_with fail
        go_ret
        exact ⟨⟨k, rfl, by omega, by omega, by rw [← HF.out]; simp⟩, rfl⟩
    · rw [List.drop_of_length_le (by omega)] at hF
      have HF := Lib.hid hF
      clear hF hc1
      go_wp2_with fail
      go_ret
      exact ⟨⟨-1, rfl, by omega, by omega, by rw [← HF.out]; rfl⟩, rfl⟩

set_option maxRecDepth 20000 in
theorem areValues (v : Value) (xs : List Int) (w : World) (fp : List Nat) (hR : R1 fp w [v] xs) :
    Calls Try.prog 51 #[v] w fun e w' => e = .returned (.bool (xs.all isV)) ∧ w = w' := by
  have S2 := Lib.hid (indexFuncV v xs w fp hR)
  have hall : xs.all isV = !(xs.any (fun n => !isV n)) := by simp [List.all_eq_not_any_not]
  have HA := Lib.hid hall
  have S3 : Hid (Calls Try.prog 81 #[v, .func (.func 82) #[] #[]] w fun e w' => e = .returned (.bool (xs.any (fun n => !isV n))) ∧ w = w') := Lib.hid (by
    clear hall HA
    go_enter Try.func81, Try.ntmps81
    go_wp2_with fail
    refine S2.out.mono ?_
    rintro e w1 ⟨⟨q, rfl, h1, h2, h3⟩, rfl⟩
    have H3 := Lib.hid h3
    clear h3
    go_wp2_with fail
    go_ret
    exact ⟨by rw [← H3.out]; rfl, rfl⟩)
  clear hall S2
  generalize xs.any (fun n => !isV n) = bb at *
  go_enter Try.func51, Try.ntmps51
  go_wp2_with fail
  refine S3.out.mono ?_
  rintro e w1 ⟨rfl, rfl⟩
  go_wp2_with fail
  go_ret
  exact ⟨by rw [HA.out]; rfl, rfl⟩


/-- a variable without a value. -/
def lackV (many : Int) (t : Tm) : Bool := t.1 == 1 && decide (many ≤ t.2)

set_option maxRecDepth 20000 in
set_option maxHeartbeats 1000000 in
theorem covered1 (a b many : Int) (q : Nat) (w : World) (hc : w.cell? ⟨q, 0, none⟩ = some (ei many)) :
    Calls Try.prog 85 #[.agg #[ei a, ei b], .pointer (some ⟨q, 0, none⟩)] w fun e w' => e = .returned (.bool (lackV many (a, b))) ∧ Upd [] w w' := by
  have hq : q < w.heap.size := World.block_lt_of_cell? w _ hc
  have hU : Upd [] w (w.alloc (.cells #[ei a, ei b] 48)) := (Upd.refl _ _).alloc _
  have HU := Lib.hid hU
  have hc' := hU.keep hc
  clear hU
  by_cases ha : a = 1
  · subst ha
    have HL := Lib.hid (show lackV many (1, b) = decide (many ≤ b) by simp [lackV])
    go_enter Try.func85, Try.ntmps85
    go_wp2_with fail
    go_ret
    exact ⟨by rw [HL.out]; rfl, HU.out⟩
  · have ha' : (a == 1) = false := by simpa using ha
    have HL := Lib.hid (show lackV many (a, b) = false by simp [lackV, ha])
    go_enter Try.func85, Try.ntmps85
    go_wp2_with fail
    go_ret
    exact ⟨by rw [HL.out]; rfl, HU.out⟩

def IdxC (many : Int) (xs : List Tm) (w : World) (e : Ending) (w' : World) : Prop := (∃ q : Int, e = .returned (.int .i64 q) ∧ -1 ≤ q ∧ q ≤ 9223372036854775807 ∧ decide (0 ≤ q) = xs.any (lackV many)) ∧ Upd [] w w'

set_option maxRecDepth 20000 in
set_option maxHeartbeats 1000000 in
theorem indexFuncC (v : Value) (xs : List Tm) (many : Int) (p : Nat) (w : World) (fp : List Nat) (hR : R_T1 fp w [v] xs) (hp : w.cell? ⟨p, 0, none⟩ = some (ei many)) :
    Calls Try.prog 95 #[v, .func (.func 85) #[] #[.pointer (some ⟨p, 0, none⟩)]] w (IdxC many xs w) := by
  obtain ⟨a1, c1, rfl, hl1, hm1, hc1⟩ := slF2_open hR
  unfold maxLen at hm1
  clear hR
  go_enter Try.func95, Try.ntmps95
  go_wp2_with fail
  go_loopw [8] (fun i wr => ∃ k : Nat, k ≤ xs.length ∧ i = .int .i64 k ∧ Upd [] w wr ∧ (xs.drop k).any (lackV many) = xs.any (lackV many)) (fun i _ => xs.length - (intOf i).toNat)
  case atStart => exact ⟨0, Nat.zero_le _, rfl, Upd.refl _ _, rfl⟩
  case round =>
    obtain ⟨k, hk, rfl, hU, hF⟩ := hrel
    by_cases hlt : k < xs.length
    · obtain ⟨b1, o1, rfl, -, -, p1, p2⟩ := hc1 k hlt
      have p1' := hU.keep p1
      have p2' := hU.keep p2
      rw [List.drop_eq_getElem_cons hlt, List.any_cons] at hF
      have HF := Lib.hid hF
      have HU := Lib.hid hU
      generalize xs[k] = x at *
      obtain ⟨x1, x2⟩ := x
      have S1 := Lib.hid (covered1 x1 x2 many p wr (hU.keep hp))
      obtain ⟨bb, hbb⟩ : ∃ bb, bb = lackV many (x1, x2) := ⟨_, rfl⟩
      rw [← hbb] at S1 HF
      clear hbb hF hc1 p1 p2 hU
      go_wp2_with fail
      refine S1.out.mono ?_
      rintro e w1 ⟨rfl, hu1⟩
      have HU1 := Lib.hid (HU.out.trans hu1)
      clear S1 hu1
      cases bb
      · go_wp2_with fail
        go_roundw
        case rel => exact ⟨k + 1, by omega, by go_num, HU1.out, by rw [← HF.out]; rfl⟩
        case measure => simp [intOf]; omega
      · go_wp2_with fail
        go_ret
        exact ⟨⟨k, rfl, by omega, by omega, by rw [← HF.out]; simp⟩, HU1.out⟩
    · rw [List.drop_of_length_le (by omega)] at hF
      have HF := Lib.hid hF
      clear hF hc1
      go_wp2_with fail
      go_ret
      exact ⟨⟨-1, rfl, by omega, by omega, by rw [← HF.out]; rfl⟩, hU⟩

set_option maxRecDepth 20000 in
theorem covered (v : Value) (xs : List Tm) (many : Int) (w : World) (fp : List Nat) (hR : R_T1 fp w [v] xs) :
    Calls Try.prog 52 #[v, .int .i64 many] w fun e w' => e = .returned (.bool (!(xs.any (lackV many)))) ∧ Upd [] w w' := by
  have hu0 : Upd [] w (w.alloc (.cells #[ei many] 3)) := (Upd.refl _ _).alloc _
  have S2 := Lib.hid (indexFuncC v xs many w.heap.size _ fp (R_T1k.upd hR hu0 (by simp)) (cell_new w #[ei many] 3 _ rfl 0 _ rfl))
  have S3 : Hid (Calls Try.prog 84 #[v, .func (.func 85) #[] #[.pointer (some ⟨w.heap.size, 0, none⟩)]] (w.alloc (.cells #[ei many] 3)) fun e w' => e = .returned (.bool (xs.any (lackV many))) ∧ Upd [] (w.alloc (.cells #[ei many] 3)) w') := Lib.hid (by
    generalize (w.alloc (.cells #[ei many] 3)) = wa at *
    go_enter Try.func84, Try.ntmps84
    go_wp2_with fail
    refine S2.out.mono ?_
    rintro e w1 ⟨⟨q, rfl, h1, h2, h3⟩, hu1⟩
    have H3 := Lib.hid (And.intro h3 hu1)
    clear h3 hu1
    go_wp2_with fail
    go_ret
    exact ⟨by rw [← H3.out.1]; rfl, H3.out.2⟩)
  have HU0 := Lib.hid hu0
  clear S2 hu0 hR
  generalize xs.any (lackV many) = bb at *
  go_enter Try.func52, Try.ntmps52
  go_wp2_with fail
  refine S3.out.mono ?_
  rintro e w1 ⟨rfl, hu1⟩
  have HU1 := Lib.hid (HU0.out.trans hu1)
  clear hu1 S3
  go_wp2_with fail
  go_ret
  exact ⟨rfl, HU1.out⟩

end Go.Proofs.Ytnioopbficcbeaa
