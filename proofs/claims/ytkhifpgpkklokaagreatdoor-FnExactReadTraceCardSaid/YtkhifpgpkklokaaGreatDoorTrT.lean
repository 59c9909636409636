/-
  Lists of labels: what the program's and the reference's calls return.
-/
import Derived.Test.YtkhifpgpkklokaaGreatDoorLabSw
import Derived.Test.YtkhifpgpkklokaaGreatDoorLabM
import Derived.Test.YtkhifpgpkklokaaGreatDoorHarnS
namespace Go.Proofs.YtkhifpgpkklokaaGreatDoor
open Go.RowKit

/-- whether a text is a label. -/
def isLab (s : List UInt8) : Bool := (readF s).isSome

set_option maxRecDepth 20000 in
theorem areLabels1 (s : List UInt8) (w : World) (hl : s.length ≤ 2000000) (he : Env w) : Calls Tryz.prog 71 #[es s] w fun e w' => e = .returned (.bool (!isLab s)) ∧ Upd [] w w' := by
  have S1 := Lib.hid (show Calls Tryz.prog 72 #[es s] w fun e w' => e = .returned (.bool (isLab s)) ∧ Upd [] w w' from isLabelI s w hl he)
  clear he
  generalize isLab s = b at *
  go_enter Tryz.func71, Tryz.ntmps71
  go_wp2_with fail
  refine S1.out.mono ?_
  rintro e w1 ⟨rfl, hu⟩
  have HU := Lib.hid hu
  clear S1 hu
  go_wp2_with fail
  go_ret
  exact ⟨rfl, HU.out⟩

def IdxL (xs : List (List UInt8)) (w : World) (e : Ending) (w' : World) : Prop := (∃ q : Int, e = .returned (.int .i64 q) ∧ -1 ≤ q ∧ q ≤ 9223372036854775807 ∧ decide (0 ≤ q) = xs.any (fun n => !isLab n)) ∧ Upd [] w w'

set_option maxRecDepth 20000 in
set_option maxHeartbeats 1000000 in
theorem indexFuncL (v : Value) (xs : List (List UInt8)) (w : World) (fp : List Nat) (hR : RS fp w [v] xs) (hp : ∀ p ∈ xs, p.length ≤ 2000000) (he : Env w) :
    Calls Tryz.prog 104 #[v, .func (.func 71) #[] #[]] w (IdxL xs w) := by
  obtain ⟨a1, c1, rfl, hl1, hm1, -⟩ := slF1_open hR
  unfold maxLen at hm1
  have HR := Lib.hid hR
  have HP := Lib.hid hp
  have HE := Lib.hid he
  clear hR hp he
  go_enter Tryz.func104, Tryz.ntmps104
  go_wp2_with fail
  go_loopw [8] (fun i wr => ∃ k : Nat, k ≤ xs.length ∧ i = .int .i64 k ∧ Hid ((xs.drop k).any (fun n => !isLab n) = xs.any (fun n => !isLab n)) ∧ Upd [] w wr) (fun i _ => xs.length - (intOf i).toNat)
  case atStart => exact ⟨0, Nat.zero_le _, rfl, Lib.hid rfl, Upd.refl _ _⟩
  case round =>
    obtain ⟨k, hk, rfl, hF, hU⟩ := hrel
    by_cases hlt : k < xs.length
    · obtain ⟨a', cap', hv, -, -, hc⟩ := slF1_open (RSk.upd HR.out hU (by simp))
      cases hv
      obtain ⟨b1, o1, rfl, -, -, p1⟩ := hc k hlt
      have hF1 := hF.out
      rw [List.drop_eq_getElem_cons hlt, List.any_cons] at hF1
      have HF := Lib.hid hF1
      have hpk := HP.out xs[k] (List.getElem_mem hlt)
      have HU := Lib.hid hU
      clear hF1 hF hc
      generalize xs[k] = x at *
      have S1 := Lib.hid (areLabels1 x wr hpk (HE.out.upd hU))
      obtain ⟨bb, hbb⟩ : ∃ bb, bb = (!isLab x) := ⟨_, rfl⟩
      rw [← hbb] at S1 HF
      clear hbb hU
      go_wp2_with fail
      refine S1.out.mono ?_
      rintro e w1 ⟨rfl, hu1⟩
      have HU1 := Lib.hid (HU.out.trans hu1)
      clear S1 hu1 HU
      cases bb
      · go_wp2_with fail
        go_roundw
        case rel => exact ⟨k + 1, by omega, by go_num, Lib.hid (by rw [← HF.out]; rfl), HU1.out⟩
        case measure => simp [intOf]; omega
      · go_wp2_with fail
        go_ret
        exact ⟨⟨k, rfl, by omega, by omega, by rw [← HF.out]; simp⟩, HU1.out⟩
    · have hF1 := hF.out
      rw [List.drop_of_length_le (by omega)] at hF1
      have HF := Lib.hid hF1
      have HU := Lib.hid hU
      clear hF1 hF hU
      go_wp2_with fail
      go_ret
      exact ⟨⟨-1, rfl, by omega, by omega, by rw [← HF.out]; rfl⟩, HU.out⟩

set_option maxRecDepth 20000 in
theorem areLabelsI (v : Value) (xs : List (List UInt8)) (w : World) (fp : List Nat) (hR : RS fp w [v] xs) (hp : ∀ p ∈ xs, p.length ≤ 2000000) (he : Env w) :
    Calls Tryz.prog 40 #[v] w fun e w' => e = .returned (.bool (xs.all isLab)) ∧ Upd [] w w' := by
  have S2 := Lib.hid (indexFuncL v xs w fp hR hp he)
  have hall : xs.all isLab = !(xs.any (fun n => !isLab n)) := by simp [List.all_eq_not_any_not]
  have HA := Lib.hid hall
  have S3 : Hid (Calls Tryz.prog 70 #[v, .func (.func 71) #[] #[]] w fun e w' => e = .returned (.bool (xs.any (fun n => !isLab n))) ∧ Upd [] w w') := Lib.hid (by
    clear hall HA
    go_enter Tryz.func70, Tryz.ntmps70
    go_wp2_with fail
    refine S2.out.mono ?_
    rintro e w1 ⟨⟨q, rfl, h1, h2, h3⟩, hu⟩
    have H3 := Lib.hid (And.intro h3 hu)
    clear h3 hu
    go_wp2_with fail
    go_ret
    exact ⟨by rw [← H3.out.1]; rfl, H3.out.2⟩)
  clear hall S2
  generalize xs.any (fun n => !isLab n) = bb at *
  go_enter Tryz.func40, Tryz.ntmps40
  go_wp2_with fail
  refine S3.out.mono ?_
  rintro e w1 ⟨rfl, hu⟩
  have HU := Lib.hid hu
  clear hu S3
  go_wp2_with fail
  go_ret
  exact ⟨by rw [HA.out]; rfl, HU.out⟩

set_option maxRecDepth 20000 in
theorem labelS (s : List UInt8) (w : World) (hl : s.length ≤ 2000000) : Calls Tryz.prog 69 #[es s] w fun e w' => e = .returned (.bool (isLab s)) ∧ Upd [] w w' := by
  have S1 := Lib.hid (valuesS s w hl)
  go_enter Tryz.func69, Tryz.ntmps69
  go_wp2_with fail
  refine S1.out.mono ?_
  rintro e w1 ⟨⟨v, vs, rfl, hn, -⟩, hu⟩
  have HU := Lib.hid hu
  clear S1 hn hu
  go_wp2_with fail
  go_ret
  exact ⟨rfl, HU.out⟩

set_option maxRecDepth 20000 in
set_option maxHeartbeats 1000000 in
theorem textsS (v : Value) (xs : List (List UInt8)) (w : World) (fp : List Nat) (hR : RS fp w [v] xs) (hp : ∀ p ∈ xs, p.length ≤ 2000000) :
    Calls Tryz.prog 38 #[v] w fun e w' => e = .returned (.bool (xs.all isLab)) ∧ Upd [] w w' := by
  obtain ⟨a1, c1, rfl, hl1, hm1, -⟩ := slF1_open hR
  unfold maxLen at hm1
  have HR := Lib.hid hR
  have HP := Lib.hid hp
  clear hR hp
  go_enter Tryz.func38, Tryz.ntmps38
  go_wp2_with fail
  go_loopw [3] (fun i wr => ∃ k : Nat, k ≤ xs.length ∧ i = .int .i64 k ∧ Hid ((xs.drop k).all isLab = xs.all isLab) ∧ Upd [] w wr) (fun i _ => xs.length - (intOf i).toNat)
  case atStart => exact ⟨0, Nat.zero_le _, rfl, Lib.hid rfl, Upd.refl _ _⟩
  case round =>
    obtain ⟨k, hk, rfl, hF, hU⟩ := hrel
    by_cases hlt : k < xs.length
    · obtain ⟨a', cap', hv, -, -, hc⟩ := slF1_open (RSk.upd HR.out hU (by simp))
      cases hv
      obtain ⟨b1, o1, rfl, -, -, p1⟩ := hc k hlt
      have hF1 := hF.out
      rw [List.drop_eq_getElem_cons hlt, List.all_cons] at hF1
      have HF := Lib.hid hF1
      have hpk := HP.out xs[k] (List.getElem_mem hlt)
      have HU := Lib.hid hU
      clear hF1 hF hc hU
      generalize xs[k] = x at *
      have S1 := Lib.hid (labelS x wr hpk)
      generalize isLab x = bb at *
      go_wp2_with fail
      refine S1.out.mono ?_
      rintro e w1 ⟨rfl, hu1⟩
      have HU1 := Lib.hid (HU.out.trans hu1)
      clear S1 hu1 HU
      cases bb
      · go_wp2_with fail
        go_ret
        exact ⟨by rw [← HF.out]; rfl, HU1.out⟩
      · go_wp2_with fail
        go_roundw
        case rel => exact ⟨k + 1, by omega, by go_num, Lib.hid (by rw [← HF.out]; rfl), HU1.out⟩
        case measure => simp [intOf]; omega
    · have hF1 := hF.out
      rw [List.drop_of_length_le (by omega)] at hF1
      have HF := Lib.hid hF1
      have HU := Lib.hid hU
      clear hF1 hF hU
      go_wp2_with fail
      go_ret
      exact ⟨by rw [← HF.out]; rfl, HU.out⟩

theorem joinC_snoc (c : UInt8) : ∀ (ps : List (List UInt8)) (p : List UInt8), ps ≠ [] → joinC c (ps ++ [p]) = joinC c ps ++ ([c] ++ p)
  | [], _, h => absurd rfl h
  | [q], p, _ => by simp [joinC]
  | q :: r :: ps, p, _ => by
    have h := joinC_snoc c (r :: ps) p (by simp)
    simp only [List.cons_append] at h ⊢
    simp only [joinC]
    rw [h]; simp
theorem joinC_tot (c : UInt8) : ∀ ps : List (List UInt8), ((joinC c ps).length : Int) ≤ totS ps + ps.length
  | [] => by simp [joinC, totS]
  | [p] => by simp [joinC, totS]; omega
  | p :: q :: ps => by
    have h := joinC_tot c (q :: ps)
    simp only [joinC, totS, List.map_cons, List.sum_cons, List.length_append, List.length_cons] at h ⊢
    omega

set_option maxRecDepth 20000 in
set_option maxHeartbeats 1000000 in
theorem traceS (v : Value) (xs : List (List UInt8)) (w : World) (fp : List Nat) (hR : RS fp w [v] xs) (hz : szF_S1 xs ≤ 2097152) :
    Calls Tryz.prog 39 #[v] w fun e w' => e = .returned (es (if xs = [] then [45] else joinC 46 xs)) ∧ w = w' := by
  obtain ⟨a1, c1, rfl, hl1, hm1, hc⟩ := slF1_open hR
  unfold maxLen at hm1
  unfold szF_S1 at hz
  clear hR
  by_cases h0 : xs = []
  · subst h0
    go_enter Tryz.func39, Tryz.ntmps39
    go_wp2_with fail
    go_ret
    exact ⟨rfl, rfl⟩
  · have hpos : 0 < xs.length := List.length_pos_iff.2 h0
    have g0 : ((xs.length : Int) == 0) = false := by rw [beq_eq_false_iff_ne]; omega
    have H0 := Lib.hid h0
    rw [if_neg h0]
    have hC := hc
    obtain ⟨b0, o0, rfl, -, -, p0⟩ := hc 0 hpos
    rw [Nat.add_zero] at p0
    have HX0 := Lib.hid (show xs.take 1 = [xs[0]] by rw [List.take_succ_eq_append_getElem hpos]; rfl)
    generalize hx0 : xs[0] = x0 at *
    have HC := Lib.hid hC
    clear hc hx0 h0 hC
    go_enter Tryz.func39, Tryz.ntmps39
    go_wp2_with fail
    clear p0
    go_loop [3, 4] (fun o i => ∃ k : Nat, 1 ≤ k ∧ k ≤ xs.length ∧ i = .int .i64 k ∧ o = es (joinC 46 (xs.take k))) (fun _ i => xs.length - (intOf i).toNat)
    case atStart => exact ⟨1, Nat.le_refl _, by omega, rfl, by rw [HX0.out]; rfl⟩
    case round =>
      obtain ⟨k, hk0, hk, rfl, rfl⟩ := hrel
      by_cases hlt : k < xs.length
      · obtain ⟨b1, o1, hv, -, -, p1⟩ := HC.out k hlt
        cases hv
        have hj := joinC_snoc 46 (xs.take k) xs[k] (by
          intro h; have := congrArg List.length h; rw [List.length_take, List.length_nil] at this; omega)
        rw [← List.take_succ_eq_append_getElem hlt] at hj
        have ht := joinC_tot 46 (xs.take k)
        have ht2 := totS_take_le xs k
        have ht3 := totS_mem xs xs[k] (List.getElem_mem hlt)
        have ht4 : ((xs.take k).length : Int) ≤ xs.length := by rw [List.length_take]; omega
        have HJ := Lib.hid hj
        have hl1 : ((joinC 46 (xs.take k)).length : Int) ≤ 10000000 := by omega
        have hl2 : (xs[k].length : Int) ≤ 10000000 := by omega
        generalize xs[k] = x at *
        generalize joinC 46 (xs.take k) = J at *
        clear hj ht ht2 ht3 ht4
        obtain ⟨X, hX⟩ : ∃ X, X = [46] ++ x := ⟨_, rfl⟩
        have hcat := str_cat [46] x
        rw [← hX] at hcat
        obtain ⟨Y, hY⟩ : ∃ Y, Y = J ++ X := ⟨_, rfl⟩
        have hcat2 := str_cat J X
        rw [← hY] at hcat2
        have HXY := Lib.hid (show joinC 46 (xs.take (k + 1)) = Y by rw [HJ.out, hY, hX])
        have hXl : (X.length : Int) ≤ 10000001 := by rw [hX]; simp; omega
        clear hX hY HJ HX0
        go_wp2_with fail
        go_round
        case rel => exact ⟨k + 1, by omega, by omega, by go_num, by rw [HXY.out]⟩
        case measure => simp [intOf]; omega
      · obtain rfl : k = xs.length := by omega
        rw [List.take_length]
        clear HC HX0
        go_wp2_with fail
        go_ret
        exact ⟨rfl, rfl⟩

end Go.Proofs.YtkhifpgpkklokaaGreatDoor
