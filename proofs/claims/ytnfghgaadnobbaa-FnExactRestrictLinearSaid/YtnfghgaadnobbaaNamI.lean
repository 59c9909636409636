/-
  Lists of names: whether one is valid, and whether a name is in it; both sides.
-/
import Derived.Test.YtnfghgaadnobbaaHarnS
import Derived.Test.YtnfghgaadnobbaaLabE
import Derived.Test.YtnfghgaadnobbaaLabSp
import Derived.Test.YtnfghgaadnobbaaOrdS
namespace Go.Proofs.Ytnfghgaadnobbaa
open Go.RowKit

theorem strs_fit {x : List (List UInt8)} (h : szF_S1 x ≤ 1048576) : x.length ≤ 2000000 ∧ ∀ s ∈ x, s.length ≤ 2000000 := by
  have h0 := totS_nonneg x
  unfold szF_S1 at h
  exact ⟨by omega, fun s hs => by have := totS_mem x s hs; omega⟩
def goodAt (l : List (List UInt8)) (j : Nat) : Bool := actF (l.getD j []) && (decide (j = 0) || bl (l.getD (j - 1) []) (l.getD j []))
/-- at most twelve names of actions, increasing. -/
def namesF (l : List (List UInt8)) : Bool := (List.range l.length).all (goodAt l) && decide (l.length ≤ 12)
theorem namesF_no {l : List (List UInt8)} {k : Nat} (hk : k < l.length) (h : goodAt l k = false) : namesF l = false := by
  unfold namesF
  rw [Bool.and_eq_false_iff]; left
  rw [List.all_eq_false]
  exact ⟨k, by simpa using hk, by simp [h]⟩
theorem namesF_yes {l : List (List UInt8)} (h : ∀ j, j < l.length → goodAt l j = true) : namesF l = decide (l.length ≤ 12) := by
  unfold namesF
  rw [show (List.range l.length).all (goodAt l) = true from List.all_eq_true.2 (fun j hj => h j (by simpa using hj)), Bool.true_and]
theorem goodAt_eq {l : List (List UInt8)} {k : Nat} (hk : k < l.length) : goodAt l k = (actF l[k] && (decide (k = 0) || bl (l.getD (k - 1) []) l[k])) := by
  unfold goodAt
  rw [List.getD_eq_getElem?_getD, List.getElem?_eq_getElem hk]; rfl

set_option maxRecDepth 20000 in
set_option maxHeartbeats 2000000 in
theorem namesOkI (v : Value) (xs : List (List UInt8)) (w : World) (fp : List Nat) (hR : R_S1 fp w [v] xs) (hl : xs.length ≤ 2000000) (ht : ∀ s ∈ xs, s.length ≤ 2000000) :
    Calls Try.prog 63 #[v] w fun e w' => e = .returned (.bool (namesF xs)) ∧ Upd [] w w' := by
  obtain ⟨a, c, rfl, hl1, hm1, hc⟩ := slF1_open hR
  unfold maxLen at hm1
  have HC := Lib.hid hc
  have HT := Lib.hid ht
  have HN := Lib.hid (fun k (hk : k < xs.length) (h : goodAt xs k = false) => namesF_no hk h)
  have HY := Lib.hid (fun (h : ∀ j, j < xs.length → goodAt xs j = true) => namesF_yes h)
  have HG := Lib.hid (fun k (hk : k < xs.length) => goodAt_eq hk)
  clear hR hc ht
  generalize namesF xs = Z at *
  go_enter Try.func63, Try.ntmps63
  go_wp2_with fail
  go_loopw [7] (fun iv wr => ∃ k : Nat, k ≤ xs.length ∧ iv = .int .i64 k ∧ wr = w ∧ Hid (∀ j, j < k → goodAt xs j = true)) (fun iv _ => xs.length - (intOf iv).toNat)
  case atStart => exact ⟨0, Nat.zero_le _, rfl, rfl, Lib.hid (fun j hj => absurd hj (Nat.not_lt_zero _))⟩
  case round =>
    obtain ⟨k, hk, rfl, rfl, HA⟩ := hrel
    by_cases hlt : k < xs.length
    · obtain ⟨b, off, rfl, -, -, hcell⟩ := HC.out k hlt
      have S1 := Lib.hid (fun W => isActionI xs[k] W (HT.out _ (List.getElem_mem hlt)))
      have HGK := Lib.hid (HG.out k hlt)
      have HK := Lib.hid hlt
      by_cases h0 : k = 0
      · subst h0
        replace HGK := Lib.hid (show goodAt xs 0 = actF xs[0] by rw [HGK.out]; simp; try rfl)
        simp only [Nat.add_zero] at hcell
        generalize xs[0] = x at *
        generalize actF x = q at *
        cases q with
        | false =>
          have HZ := Lib.hid (HN.out 0 HK.out HGK.out)
          clear HGK
          go_wp2_with fail
          refine (S1.out _).mono ?_
          rintro e w1 ⟨rfl, rfl⟩
          go_wp2_with fail
          go_ret
          exact ⟨by rw [HZ.out]; rfl, Upd.refl _ _⟩
        | true =>
          go_wp2_with fail
          refine (S1.out _).mono ?_
          rintro e w1 ⟨rfl, rfl⟩
          go_wp2_with fail
          go_roundw
          case rel =>
            refine ⟨1, by omega, by go_num, by first | rfl | trivial, Lib.hid (fun j hj => ?_)⟩
            have e : j = 0 := Nat.lt_one_iff.1 hj
            rw [e]; exact HGK.out
          case measure => simp [intOf]; omega
      · have hk1 : k - 1 < xs.length := by omega
        obtain ⟨b', off', hbb, -, -, hcell2⟩ := HC.out (k - 1) hk1
        cases hbb
        have i0 : IntKind.i64.wrap ((k : Int) - 1) = (k : Int) - 1 := IntWalk.i64_in _ (by omega)
        have i1 : ((k : Int) - 1).toNat = k - 1 := by omega
        have i3 : (0 : Int) ≤ (k : Int) - 1 := by omega
        have i4 : (k : Int) - 1 < (xs.length : Int) := by omega
        have i5 : (1 : Int) ≤ (k : Int) := by omega
        have i6 : (0 : Int) < (k : Int) := by omega
        have i7 : decide (0 < k) = true := decide_eq_true (by omega)
        have i8 : decide ((0 : Int) < (k : Int)) = true := decide_eq_true (by omega)
        replace HGK := Lib.hid (show goodAt xs k = (actF xs[k] && bl xs[k - 1] xs[k]) by
          rw [HGK.out, decide_eq_false h0, Bool.false_or, List.getD_eq_getElem?_getD, List.getElem?_eq_getElem hk1]; rfl)
        have HH0 := Lib.hid h0
        generalize xs[k] = x at *
        generalize xs[k - 1] = y at *
        clear h0
        cases hq : actF x with
        | false =>
          have HZ := Lib.hid (HN.out k HK.out (by rw [HGK.out, hq]; rfl))
          rw [hq] at S1
          clear HGK hq
          go_wp2_with fail
          refine (S1.out _).mono ?_
          rintro e w1 ⟨rfl, rfl⟩
          go_wp2_with fail
          go_ret
          exact ⟨by rw [HZ.out]; rfl, Upd.refl _ _⟩
        | true =>
          rw [hq] at S1
          have hcmp : (Op.bytesLess x y || x == y) = !bl y x := bl_total x y
          replace HGK := Lib.hid (show goodAt xs k = bl y x by rw [HGK.out, hq]; rfl)
          clear hq
          generalize bl y x = q at *
          cases q with
          | false =>
            have HZ := Lib.hid (HN.out k HK.out HGK.out)
            clear HGK
            go_wp2_with fail
            refine (S1.out _).mono ?_
            rintro e w1 ⟨rfl, rfl⟩
            go_wp2_with fail
            go_ret
            exact ⟨by rw [HZ.out]; rfl, Upd.refl _ _⟩
          | true =>
            go_wp2_with fail
            refine (S1.out _).mono ?_
            rintro e w1 ⟨rfl, rfl⟩
            go_wp2_with fail
            go_roundw
            case rel =>
              refine ⟨k + 1, by omega, by go_num, by first | rfl | trivial, Lib.hid (fun j hj => ?_)⟩
              by_cases e : j = k
              · subst e; exact HGK.out
              · exact HA.out j (by omega)
            case measure => simp [intOf]; omega
    · obtain rfl : k = xs.length := by omega
      have HZ := Lib.hid (HY.out HA.out)
      by_cases h12 : xs.length ≤ 12
      · have e : (xs.length : Int) ≤ 12 := by omega
        replace HZ := Lib.hid (show Z = true by rw [HZ.out, decide_eq_true h12])
        go_wp2_with fail
        go_ret
        exact ⟨by rw [HZ.out]; rfl, Upd.refl _ _⟩
      · have e : ¬ (xs.length : Int) ≤ 12 := by omega
        replace HZ := Lib.hid (show Z = false by rw [HZ.out, decide_eq_false h12])
        go_wp2_with fail
        go_ret
        exact ⟨by rw [HZ.out]; rfl, Upd.refl _ _⟩

set_option maxRecDepth 20000 in
set_option maxHeartbeats 2000000 in
theorem actionsS (v : Value) (xs : List (List UInt8)) (w : World) (fp : List Nat) (hR : R_S1 fp w [v] xs) (ht : ∀ s ∈ xs, s.length ≤ 2000000) :
    Calls Try.prog 102 #[v] w fun e w' => e = .returned (.bool (xs.all actF)) ∧ w = w' := by
  obtain ⟨a, c, rfl, hl1, hm1, hc⟩ := slF1_open hR
  unfold maxLen at hm1
  have HC := Lib.hid hc
  have HT := Lib.hid ht
  have HN := Lib.hid (fun k (hk : k < xs.length) (h : actF xs[k] = false) => (List.all_eq_false.2 ⟨xs[k], List.getElem_mem hk, by simp [h]⟩ : xs.all actF = false))
  have HY := Lib.hid (fun (h : ∀ j (hj : j < xs.length), actF xs[j] = true) => (List.all_eq_true.2 (fun s hs => by obtain ⟨j, hj, rfl⟩ := List.mem_iff_getElem.1 hs; exact h j hj) : xs.all actF = true))
  clear hR hc ht
  generalize xs.all actF = Z at *
  go_enter Try.func102, Try.ntmps102
  go_wp2_with fail
  go_loopw [3] (fun iv wr => ∃ k : Nat, k ≤ xs.length ∧ iv = .int .i64 k ∧ wr = w ∧ Hid (∀ j (hj : j < xs.length), j < k → actF xs[j] = true)) (fun iv _ => xs.length - (intOf iv).toNat)
  case atStart => exact ⟨0, Nat.zero_le _, rfl, rfl, Lib.hid (fun j _ hj => absurd hj (Nat.not_lt_zero _))⟩
  case round =>
    obtain ⟨k, hk, rfl, rfl, HA⟩ := hrel
    by_cases hlt : k < xs.length
    · obtain ⟨b, off, rfl, -, -, hcell⟩ := HC.out k hlt
      have S1 := Lib.hid (fun W => actionS xs[k] W (HT.out _ (List.getElem_mem hlt)))
      have HK := Lib.hid (HN.out k hlt)
      have HB := Lib.hid (fun (h : actF xs[k] = true) j (hj : j < xs.length) (hjk : j < k + 1) => (show actF xs[j] = true by
        by_cases e : j = k
        · subst e; exact h
        · exact HA.out j hj (by omega)))
      generalize xs[k] = x at *
      generalize actF x = q at *
      cases q with
      | false =>
        have HZ := Lib.hid (HK.out rfl)
        clear HK HB
        go_wp2_with fail
        refine (S1.out _).mono ?_
        rintro e w1 ⟨rfl, rfl⟩
        go_wp2_with fail
        go_ret
        exact ⟨by rw [HZ.out]; rfl, by first | rfl | trivial⟩
      | true =>
        replace HB := Lib.hid (HB.out rfl)
        clear HK
        go_wp2_with fail
        refine (S1.out _).mono ?_
        rintro e w1 ⟨rfl, rfl⟩
        go_wp2_with fail
        go_roundw
        case rel => exact ⟨k + 1, by omega, by go_num, by first | rfl | trivial, HB⟩
        case measure => simp [intOf]; omega
    · have HZ := Lib.hid (HY.out (fun j hj => HA.out j hj (by omega)))
      go_wp2_with fail
      go_ret
      exact ⟨by rw [HZ.out]; rfl, by first | rfl | trivial⟩

theorem namesF_of {l : List (List UInt8)} (ha : l.all actF = true) : (∀ j, 0 < j → j < l.length → bl (l.getD (j - 1) []) (l.getD j []) = true) → namesF l = decide (l.length ≤ 12) := fun h => namesF_yes (fun j hj => by
  rw [goodAt_eq hj, List.all_eq_true.1 ha _ (List.getElem_mem hj), Bool.true_and]
  by_cases h0 : j = 0
  · simp [h0]
  · have := h j (by omega) hj
    rw [List.getD_eq_getElem?_getD (i := j), List.getElem?_eq_getElem hj] at this
    rw [show bl (l.getD (j - 1) []) l[j] = true from this, Bool.or_true])
theorem namesF_noA {l : List (List UInt8)} (ha : l.all actF = false) : namesF l = false := by
  obtain ⟨s, hs, h⟩ := List.all_eq_false.1 ha
  obtain ⟨j, hj, rfl⟩ := List.mem_iff_getElem.1 hs
  exact namesF_no hj (by rw [goodAt_eq hj, Bool.eq_false_iff.2 h, Bool.false_and])
theorem namesF_noB {l : List (List UInt8)} {k : Nat} (hk : k < l.length) (h0 : 0 < k) (h : bl (l.getD (k - 1) []) l[k] = false) : namesF l = false :=
  namesF_no hk (by rw [goodAt_eq hk, h, decide_eq_false (by omega)]; simp)
theorem namesF_noL {l : List (List UInt8)} (h : ¬ l.length ≤ 12) : namesF l = false := by unfold namesF; rw [decide_eq_false h, Bool.and_false]

set_option maxRecDepth 20000 in
set_option maxHeartbeats 2000000 in
theorem nameListS (v : Value) (xs : List (List UInt8)) (w : World) (fp : List Nat) (hR : R_S1 fp w [v] xs) (hl : xs.length ≤ 2000000) (ht : ∀ s ∈ xs, s.length ≤ 2000000) :
    Calls Try.prog 61 #[v] w fun e w' => e = .returned (.bool (namesF xs)) ∧ Upd [] w w' := by
  have S1 := Lib.hid (fun W (h : W = w) => actionsS v xs W fp (by rw [h]; exact hR) ht)
  obtain ⟨a, c, rfl, hl1, hm1, hc⟩ := slF1_open hR
  unfold maxLen at hm1
  have HC := Lib.hid hc
  have HL := Lib.hid (fun (h : ¬ xs.length ≤ 12) => namesF_noL h)
  have HA := Lib.hid (fun (h : xs.all actF = false) => namesF_noA h)
  have HB := Lib.hid (fun k (hk : k < xs.length) (h0 : 0 < k) (h : bl (xs.getD (k - 1) []) xs[k] = false) => namesF_noB hk h0 h)
  have HY := Lib.hid (fun (ha : xs.all actF = true) (h : ∀ j, 0 < j → j < xs.length → bl (xs.getD (j - 1) []) (xs.getD j []) = true) => namesF_of ha h)
  clear hR hc ht
  generalize namesF xs = Z at *
  generalize xs.all actF = qa at *
  by_cases h12 : xs.length ≤ 12
  · have e12 : ¬ (12 : Int) < (xs.length : Int) := by omega
    cases qa with
    | false =>
      have HZ := Lib.hid (HA.out rfl)
      go_enter Try.func61, Try.ntmps61
      go_wp2_with fail
      refine (S1.out _ rfl).mono ?_
      rintro e w1 ⟨rfl, rfl⟩
      go_wp2_with fail
      go_ret
      exact ⟨by rw [HZ.out]; rfl, Upd.refl _ _⟩
    | true =>
      have HZ := Lib.hid (HY.out rfl)
      clear HA HL HY
      go_enter Try.func61, Try.ntmps61
      go_wp2_with fail
      refine (S1.out _ rfl).mono ?_
      rintro e w1 ⟨rfl, rfl⟩
      clear S1
      go_wp2_with fail
      go_loopw [3] (fun iv wr => ∃ (k m : Nat), 1 ≤ k ∧ iv = .int .i64 k ∧ k ≤ xs.length + 1 ∧ wr = w.drewN m ∧ Hid (∀ j, 0 < j → j < xs.length → j < k → bl (xs.getD (j - 1) []) (xs.getD j []) = true)) (fun iv _ => xs.length + 1 - (intOf iv).toNat)
      case atStart => exact ⟨1, 0, Nat.le_refl _, rfl, by omega, rfl, Lib.hid (fun j h1 _ h2 => absurd h2 (by omega))⟩
      case round =>
        obtain ⟨k, m, h1, rfl, hk1, rfl, HI⟩ := hrel
        by_cases hlt : k < xs.length
        · obtain ⟨b, off, rfl, -, -, hcell⟩ := HC.out k hlt
          obtain ⟨b', off', hbb, -, -, hcell2⟩ := HC.out (k - 1) (by omega)
          cases hbb
          have hk2 : k - 1 < xs.length := by omega
          have i0 : IntKind.i64.wrap ((k : Int) - 1) = (k : Int) - 1 := IntWalk.i64_in _ (by omega)
          have i1 : ((k : Int) - 1).toNat = k - 1 := by omega
          have i3 : (0 : Int) ≤ (k : Int) - 1 := by omega
          have i4 : (k : Int) - 1 < (xs.length : Int) := by omega
          have i5 : (1 : Int) ≤ (k : Int) := by omega
          have HBK := Lib.hid (show bl xs[k - 1] xs[k] = false → Z = false from fun h => HB.out k hlt (by omega) (by rw [List.getD_eq_getElem?_getD, List.getElem?_eq_getElem hk2]; exact h))
          have HIK := Lib.hid (show bl xs[k - 1] xs[k] = true → ∀ j, 0 < j → j < xs.length → j < k + 1 → bl (xs.getD (j - 1) []) (xs.getD j []) = true from fun h j q1 q2 q3 => by
            by_cases e : j = k
            · subst e
              rw [List.getD_eq_getElem?_getD, List.getElem?_eq_getElem hk2, List.getD_eq_getElem?_getD, List.getElem?_eq_getElem hlt]; exact h
            · exact HI.out j q1 q2 (by omega))
          generalize xs[k] = x at *
          generalize xs[k - 1] = y at *
          have hcmp : (Op.bytesLess x y || x == y) = !bl y x := bl_total x y
          have hcmp3 : Op.bytesLess y x = bl y x := rfl
          have hcmp2 : (Op.bytesLess x y || y == x) = !bl y x := by rw [← hcmp]; congr 1; rw [Bool.eq_iff_iff]; simp; exact eq_comm
          generalize bl y x = q at *
          cases q with
          | false =>
            have HZ := Lib.hid (HBK.out rfl)
            clear HBK HIK
            go_wp2_with fail
            go_quiet (fail)
            go_wp2_with fail
            go_ret
            exact ⟨by rw [HZ.out]; rfl, by first | exact (Upd.refl _ _).drewN _ | (rw [drewN_add]; exact (Upd.refl _ _).drewN _)⟩
          | true =>
            replace HIK := Lib.hid (HIK.out rfl)
            clear HBK
            go_wp2_with fail
            go_quiet (fail)
            go_wp2_with fail
            go_roundw
            case rel => exact ⟨k + 1, _, by omega, by go_num, by omega, rfl, HIK⟩
            case measure => simp [intOf]; omega
        · replace HZ := Lib.hid (HZ.out (fun j q1 q2 => HI.out j q1 q2 (by omega)))
          replace HZ := Lib.hid (show Z = true by rw [HZ.out, decide_eq_true h12])
          go_wp2_with fail
          go_ret
          exact ⟨by rw [HZ.out]; rfl, (Upd.refl _ _).drewN _⟩
  · have e12 : (12 : Int) < (xs.length : Int) := by omega
    have HZ := Lib.hid (HL.out h12)
    go_enter Try.func61, Try.ntmps61
    go_wp2_with fail
    go_ret
    exact ⟨by rw [HZ.out]; rfl, Upd.refl _ _⟩

/-- where a name first stands in a list, or -1. -/
def placeS (x : List UInt8) : List (List UInt8) → Int
  | [] => -1
  | s :: r => if s = x then 0 else if placeS x r < 0 then -1 else placeS x r + 1
theorem placeS_at {x : List UInt8} : ∀ {l : List (List UInt8)} (k : Nat) (hk : k < l.length), (∀ j (_ : j < k) (hj : j < l.length), l[j] ≠ x) → l[k] = x → placeS x l = k
  | [], k, hk, _, _ => by simp at hk
  | s :: r, 0, _, _, h => by simp at h; simp [placeS, h]
  | s :: r, k + 1, hk, hn, h => by
    have h0 : s ≠ x := hn 0 (by omega) (by simp)
    have ih := placeS_at (x := x) (l := r) k (by simpa using hk) (fun j hj hj2 => by have := hn (j + 1) (by omega) (by simpa using hj2); rwa [List.getElem_cons_succ] at this) (by rwa [List.getElem_cons_succ] at h)
    rw [placeS, if_neg h0, ih, if_neg (by omega)]; omega
theorem placeS_none {x : List UInt8} : ∀ {l : List (List UInt8)}, (∀ j (hj : j < l.length), l[j] ≠ x) → placeS x l = -1
  | [], _ => rfl
  | s :: r, hn => by
    have h0 : s ≠ x := hn 0 (by simp)
    have ih := placeS_none (x := x) (l := r) (fun j hj => by have := hn (j + 1) (by simpa using hj); rwa [List.getElem_cons_succ] at this)
    rw [placeS, if_neg h0, ih, if_pos (by omega)]
theorem placeS_nonneg (x : List UInt8) : ∀ l : List (List UInt8), decide (0 ≤ placeS x l) = l.contains x
  | [] => rfl
  | s :: r => by
    have ih := placeS_nonneg x r
    rw [List.contains_cons, placeS]
    by_cases h : s = x
    · subst h; simp
    · rw [if_neg h, ← ih, show (x == s) = false from beq_eq_false_iff_ne.2 (Ne.symm h), Bool.false_or]
      by_cases h2 : placeS x r < 0
      · rw [if_pos h2]; rw [decide_eq_false (by omega), decide_eq_false (by omega)]
      · rw [if_neg h2]; rw [decide_eq_true (by omega), decide_eq_true (by omega)]
theorem placeS_range (x : List UInt8) : ∀ l : List (List UInt8), -1 ≤ placeS x l ∧ placeS x l < l.length
  | [] => by simp [placeS]
  | s :: r => by
    have ih := placeS_range x r
    rw [placeS]
    simp only [List.length_cons]
    split
    · omega
    · split <;> omega

set_option maxRecDepth 20000 in
set_option maxHeartbeats 2000000 in
theorem indexSS (v : Value) (xs : List (List UInt8)) (x : List UInt8) (w : World) (fp : List Nat) (hR : R_S1 fp w [v] xs) :
    Calls Try.prog 136 #[v, es x] w fun e w' => e = .returned (.int .i64 (placeS x xs)) ∧ Upd [] w w' := by
  obtain ⟨a, c, rfl, hl1, hm1, hc⟩ := slF1_open hR
  unfold maxLen at hm1
  have HC := Lib.hid hc
  have HF := Lib.hid (fun k (hk : k < xs.length) (h1 : ∀ j (_ : j < k) (hj : j < xs.length), xs[j] ≠ x) (h2 : xs[k] = x) => placeS_at k hk h1 h2)
  have HN := Lib.hid (fun (h : ∀ j (hj : j < xs.length), xs[j] ≠ x) => placeS_none h)
  clear hR hc
  generalize placeS x xs = Z at *
  go_enter Try.func136, Try.ntmps136
  go_wp2_with fail
  go_loopw [8] (fun iv wr => ∃ k m : Nat, k ≤ xs.length ∧ iv = .int .i64 k ∧ wr = w.drewN m ∧ Hid (∀ j (_ : j < k) (hj : j < xs.length), xs[j] ≠ x)) (fun iv _ => xs.length - (intOf iv).toNat)
  case atStart => exact ⟨0, 0, Nat.zero_le _, rfl, rfl, Lib.hid (fun j hj => absurd hj (Nat.not_lt_zero _))⟩
  case round =>
    obtain ⟨k, m, hk, rfl, rfl, HI⟩ := hrel
    by_cases hlt : k < xs.length
    · obtain ⟨b, off, rfl, -, -, hcell⟩ := HC.out k hlt
      have HFK := Lib.hid (HF.out k hlt HI.out)
      have HIK := Lib.hid (fun (h : xs[k] ≠ x) j (hjk : j < k + 1) (hj : j < xs.length) => (show xs[j] ≠ x by
        by_cases e : j = k
        · subst e; exact h
        · exact HI.out j (by omega) hj))
      clear HF HC
      generalize xs[k] = y at *
      by_cases hy : y = x
      · have hy2 : (x == y) = true := by simp [hy]
        have hy1 : (y == x) = true := by simp [hy]
        have HZ := Lib.hid (HFK.out hy)
        clear HFK HIK hy
        go_wp2_with fail
        (try go_quiet (fail))
        (try go_wp2_with fail)
        go_ret
        exact ⟨by rw [HZ.out]; rfl, by first | exact (Upd.refl _ _).drewN _ | (rw [drewN_add]; exact (Upd.refl _ _).drewN _)⟩
      · have hy2 : (x == y) = false := by simp [Ne.symm hy]
        have hy1 : (y == x) = false := by simp [hy]
        replace HIK := Lib.hid (HIK.out hy)
        clear HFK hy
        go_wp2_with fail
        (try go_quiet (fail))
        (try go_wp2_with fail)
        go_roundw
        case rel => exact ⟨k + 1, _, by omega, by go_num, rfl, HIK⟩
        case measure => simp [intOf]; omega
    · have HZ := Lib.hid (HN.out (fun j hj => HI.out j (by omega) hj))
      go_wp2_with fail
      go_ret
      exact ⟨by rw [HZ.out]; rfl, (Upd.refl _ _).drewN _⟩

set_option maxRecDepth 20000 in
set_option maxHeartbeats 800000 in
theorem containsSS (v : Value) (xs : List (List UInt8)) (x : List UInt8) (w : World) (fp : List Nat) (hR : R_S1 fp w [v] xs) :
    Calls Try.prog 105 #[v, es x] w fun e w' => e = .returned (.bool (xs.contains x)) ∧ Upd [] w w' := by
  have S1 := Lib.hid (indexSS v xs x w fp hR)
  have HB := Lib.hid (placeS_nonneg x xs)
  clear hR
  generalize placeS x xs = Z at *
  generalize xs.contains x = q at *
  go_enter Try.func105, Try.ntmps105
  go_wp2_with fail
  refine S1.out.mono ?_
  rintro e w1 ⟨rfl, hu⟩
  have HU := Lib.hid hu
  clear hu
  go_wp2_with fail
  go_ret
  exact ⟨by show Ending.returned (.bool (decide (0 ≤ Z))) = _; rw [HB.out], HU.out⟩

set_option maxRecDepth 20000 in
set_option maxHeartbeats 2000000 in
theorem findS (v : Value) (xs : List (List UInt8)) (x : List UInt8) (w : World) (fp : List Nat) (hR : R_S1 fp w [v] xs) :
    Calls Try.prog 103 #[v, es x] w fun e w' => e = .returned (.int .i64 (placeS x xs)) ∧ w = w' := by
  obtain ⟨a, c, rfl, hl1, hm1, hc⟩ := slF1_open hR
  unfold maxLen at hm1
  have HC := Lib.hid hc
  have HF := Lib.hid (fun k (hk : k < xs.length) (h1 : ∀ j (_ : j < k) (hj : j < xs.length), xs[j] ≠ x) (h2 : xs[k] = x) => placeS_at k hk h1 h2)
  have HN := Lib.hid (fun (h : ∀ j (hj : j < xs.length), xs[j] ≠ x) => placeS_none h)
  clear hR hc
  generalize placeS x xs = Z at *
  go_enter Try.func103, Try.ntmps103
  go_wp2_with fail
  go_loopw [5] (fun iv wr => ∃ k : Nat, k ≤ xs.length ∧ iv = .int .i64 k ∧ wr = w ∧ Hid (∀ j (_ : j < k) (hj : j < xs.length), xs[j] ≠ x)) (fun iv _ => xs.length - (intOf iv).toNat)
  case atStart => exact ⟨0, Nat.zero_le _, rfl, rfl, Lib.hid (fun j hj => absurd hj (Nat.not_lt_zero _))⟩
  case round =>
    obtain ⟨k, hk, rfl, rfl, HI⟩ := hrel
    by_cases hlt : k < xs.length
    · obtain ⟨b, off, rfl, -, -, hcell⟩ := HC.out k hlt
      have HFK := Lib.hid (HF.out k hlt HI.out)
      have HIK := Lib.hid (fun (h : xs[k] ≠ x) j (hjk : j < k + 1) (hj : j < xs.length) => (show xs[j] ≠ x by
        by_cases e : j = k
        · subst e; exact h
        · exact HI.out j (by omega) hj))
      clear HF HC
      generalize xs[k] = y at *
      by_cases hy : y = x
      · have hy1 : (y == x) = true := by simp [hy]
        have HZ := Lib.hid (HFK.out hy)
        clear HFK HIK hy
        go_wp2_with fail
        go_ret
        exact ⟨by rw [HZ.out]; rfl, by first | rfl | trivial⟩
      · have hy1 : (y == x) = false := by simp [hy]
        replace HIK := Lib.hid (HIK.out hy)
        clear HFK hy
        go_wp2_with fail
        go_roundw
        case rel => exact ⟨k + 1, by omega, by go_num, by first | rfl | trivial, HIK⟩
        case measure => simp [intOf]; omega
    · have HZ := Lib.hid (HN.out (fun j hj => HI.out j (by omega) hj))
      go_wp2_with fail
      go_ret
      exact ⟨by rw [HZ.out]; rfl, by first | rfl | trivial⟩

end Go.Proofs.Ytnfghgaadnobbaa
