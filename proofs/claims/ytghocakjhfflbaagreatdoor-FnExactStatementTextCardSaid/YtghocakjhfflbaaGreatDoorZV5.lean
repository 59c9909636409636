/-
  Texts joined in one file: NamI, IdxCl, WkI, WkC, WkV, WkT, ForS, ForT, ForU, DecU, DecK, DecK2, ForQ, ForE, ForW, WkD, EncN.
-/
import Derived.Test.YtghocakjhfflbaaGreatDoorZV1
import Derived.Test.YtghocakjhfflbaaGreatDoorZV2
import Derived.Test.YtghocakjhfflbaaGreatDoorZV3
import Derived.Test.YtghocakjhfflbaaGreatDoorZV4
import Derived.Deep.RegionHeld3
import Derived.Deep.QuietTactic
import Derived.BigQuiet
import Derived.Deep.DeepCutAuto
/-
  Lists of names: whether one is valid, and whether a name is in it; both sides.
-/
namespace Go.Proofs.YtghocakjhfflbaaGreatDoor
open Go.RowKit

/-- where a name first stands in a list, or -1. -/
def placeS (x : List UInt8) : List (List UInt8) → Int
  | [] => -1
  | s :: r => if s = x then 0 else if placeS x r < 0 then -1 else placeS x r + 1
theorem placeS_at {x : List UInt8} : ∀ {l : List (List UInt8)} (k : Nat) (hk : k < l.length), (∀ j (_ : j < k) (hj : j < l.length), l[j] ≠ x) → l[k] = x → placeS x l = k
  | [], k, hk, _, _ => by simp at hk
  | s :: r, 0, _, _, h => by simp at h; simp [placeS, h]
  | s :: r, k + 1, hk, hn, h => by
    have h0 : s ≠ x := hn 0 (by omega) (by simp)
    have ih := placeS_at (x := x) (l := r) k (by simpa using hk) (fun j hj hj2 => by have := hn (j + 1) (by omega) (by simpa using hj2); rwa [List.getElem_cons_succ] at this) (by rwa [List.getElem_cons_succ] at h)
    rw [placeS, if_neg h0, ih, if_neg (by omega)]; omega
theorem placeS_none {x : List UInt8} : ∀ {l : List (List UInt8)}, (∀ j (hj : j < l.length), l[j] ≠ x) → placeS x l = -1
  | [], _ => rfl
  | s :: r, hn => by
    have h0 : s ≠ x := hn 0 (by simp)
    have ih := placeS_none (x := x) (l := r) (fun j hj => by have := hn (j + 1) (by simpa using hj); rwa [List.getElem_cons_succ] at this)
    rw [placeS, if_neg h0, ih, if_pos (by omega)]
theorem placeS_nonneg (x : List UInt8) : ∀ l : List (List UInt8), decide (0 ≤ placeS x l) = l.contains x
  | [] => rfl
  | s :: r => by
    have ih := placeS_nonneg x r
    rw [List.contains_cons, placeS]
    by_cases h : s = x
    · subst h; simp
    · rw [if_neg h, ← ih, show (x == s) = false from beq_eq_false_iff_ne.2 (Ne.symm h), Bool.false_or]
      by_cases h2 : placeS x r < 0
      · rw [if_pos h2]; rw [decide_eq_false (by omega), decide_eq_false (by omega)]
      · rw [if_neg h2]; rw [decide_eq_true (by omega), decide_eq_true (by omega)]
theorem placeS_range (x : List UInt8) : ∀ l : List (List UInt8), -1 ≤ placeS x l ∧ placeS x l < l.length
  | [] => by simp [placeS]
  | s :: r => by
    have ih := placeS_range x r
    rw [placeS]
    simp only [List.length_cons]
    split
    · omega
    · split <;> omega

set_option maxRecDepth 20000 in
set_option maxHeartbeats 2000000 in
theorem indexSS (v : Value) (xs : List (List UInt8)) (x : List UInt8) (w : World) (fp : List Nat) (hR : R_S1 fp w [v] xs) :
    Calls Tryz.prog 68 #[v, es x] w fun e w' => e = .returned (.int .i64 (placeS x xs)) ∧ Upd [] w w' := by
  obtain ⟨a, c, rfl, hl1, hm1, hc⟩ := slF1_open hR
  unfold maxLen at hm1
  have HC := Lib.hid hc
  have HF := Lib.hid (fun k (hk : k < xs.length) (h1 : ∀ j (_ : j < k) (hj : j < xs.length), xs[j] ≠ x) (h2 : xs[k] = x) => placeS_at k hk h1 h2)
  have HN := Lib.hid (fun (h : ∀ j (hj : j < xs.length), xs[j] ≠ x) => placeS_none h)
  clear hR hc
  generalize placeS x xs = Z at *
  go_enter Tryz.func68, Tryz.ntmps68
  go_wp2_with fail
  go_loopw [8] (fun iv wr => ∃ k m : Nat, k ≤ xs.length ∧ iv = .int .i64 k ∧ wr = w.drewN m ∧ Hid (∀ j (_ : j < k) (hj : j < xs.length), xs[j] ≠ x)) (fun iv _ => xs.length - (intOf iv).toNat)
  case atStart => exact ⟨0, 0, Nat.zero_le _, rfl, rfl, Lib.hid (fun j hj => absurd hj (Nat.not_lt_zero _))⟩
  case round =>
    obtain ⟨k, m, hk, rfl, rfl, HI⟩ := hrel
    by_cases hlt : k < xs.length
    · obtain ⟨b, off, rfl, -, -, hcell⟩ := HC.out k hlt
      have HFK := Lib.hid (HF.out k hlt HI.out)
      have HIK := Lib.hid (fun (h : xs[k] ≠ x) j (hjk : j < k + 1) (hj : j < xs.length) => (show xs[j] ≠ x by
        by_cases e : j = k
        · subst e; exact h
        · exact HI.out j (by omega) hj))
      clear HF HC
      generalize xs[k] = y at *
      by_cases hy : y = x
      · have hy2 : (x == y) = true := by simp [hy]
        have hy1 : (y == x) = true := by simp [hy]
        have HZ := Lib.hid (HFK.out hy)
        clear HFK HIK hy
        go_wp2_with fail
        (try go_quiet (fail))
        (try go_wp2_with fail)
        go_ret
        exact ⟨by rw [HZ.out]; rfl, by first | exact (Upd.refl _ _).drewN _ | (rw [drewN_add]; exact (Upd.refl _ _).drewN _)⟩
      · have hy2 : (x == y) = false := by simp [Ne.symm hy]
        have hy1 : (y == x) = false := by simp [hy]
        replace HIK := Lib.hid (HIK.out hy)
        clear HFK hy
        go_wp2_with fail
        (try go_quiet (fail))
        (try go_wp2_with fail)
        go_roundw
        case rel => exact ⟨k + 1, _, by omega, by go_num, rfl, HIK⟩
        case measure => simp [intOf]; omega
    · have HZ := Lib.hid (HN.out (fun j hj => HI.out j (by omega) hj))
      go_wp2_with fail
      go_ret
      exact ⟨by rw [HZ.out]; rfl, (Upd.refl _ _).drewN _⟩

set_option maxRecDepth 20000 in
set_option maxHeartbeats 800000 in
theorem containsSS (v : Value) (xs : List (List UInt8)) (x : List UInt8) (w : World) (fp : List Nat) (hR : R_S1 fp w [v] xs) :
    Calls Tryz.prog 46 #[v, es x] w fun e w' => e = .returned (.bool (xs.contains x)) ∧ Upd [] w w' := by
  have S1 := Lib.hid (indexSS v xs x w fp hR)
  have HB := Lib.hid (placeS_nonneg x xs)
  clear hR
  generalize placeS x xs = Z at *
  generalize xs.contains x = q at *
  go_enter Tryz.func46, Tryz.ntmps46
  go_wp2_with fail
  refine S1.out.mono ?_
  rintro e w1 ⟨rfl, hu⟩
  have HU := Lib.hid hu
  clear hu
  go_wp2_with fail
  go_ret
  exact ⟨by show Ending.returned (.bool (decide (0 ≤ Z))) = _; rw [HB.out], HU.out⟩

set_option maxRecDepth 20000 in
set_option maxHeartbeats 2000000 in
theorem findS (v : Value) (xs : List (List UInt8)) (x : List UInt8) (w : World) (fp : List Nat) (hR : R_S1 fp w [v] xs) :
    Calls Tryz.prog 56 #[v, es x] w fun e w' => e = .returned (.int .i64 (placeS x xs)) ∧ w = w' := by
  obtain ⟨a, c, rfl, hl1, hm1, hc⟩ := slF1_open hR
  unfold maxLen at hm1
  have HC := Lib.hid hc
  have HF := Lib.hid (fun k (hk : k < xs.length) (h1 : ∀ j (_ : j < k) (hj : j < xs.length), xs[j] ≠ x) (h2 : xs[k] = x) => placeS_at k hk h1 h2)
  have HN := Lib.hid (fun (h : ∀ j (hj : j < xs.length), xs[j] ≠ x) => placeS_none h)
  clear hR hc
  generalize placeS x xs = Z at *
  go_enter Tryz.func56, Tryz.ntmps56
  go_wp2_with fail
  go_loopw [5] (fun iv wr => ∃ k : Nat, k ≤ xs.length ∧ iv = .int .i64 k ∧ wr = w ∧ Hid (∀ j (_ : j < k) (hj : j < xs.length), xs[j] ≠ x)) (fun iv _ => xs.length - (intOf iv).toNat)
  case atStart => exact ⟨0, Nat.zero_le _, rfl, rfl, Lib.hid (fun j hj => absurd hj (Nat.not_lt_zero _))⟩
  case round =>
    obtain ⟨k, hk, rfl, rfl, HI⟩ := hrel
    by_cases hlt : k < xs.length
    · obtain ⟨b, off, rfl, -, -, hcell⟩ := HC.out k hlt
      have HFK := Lib.hid (HF.out k hlt HI.out)
      have HIK := Lib.hid (fun (h : xs[k] ≠ x) j (hjk : j < k + 1) (hj : j < xs.length) => (show xs[j] ≠ x by
        by_cases e : j = k
        · subst e; exact h
        · exact HI.out j (by omega) hj))
      clear HF HC
      generalize xs[k] = y at *
      by_cases hy : y = x
      · have hy1 : (y == x) = true := by simp [hy]
        have HZ := Lib.hid (HFK.out hy)
        clear HFK HIK hy
        go_wp2_with fail
        go_ret
        exact ⟨by rw [HZ.out]; rfl, by first | rfl | trivial⟩
      · have hy1 : (y == x) = false := by simp [hy]
        replace HIK := Lib.hid (HIK.out hy)
        clear HFK hy
        go_wp2_with fail
        go_roundw
        case rel => exact ⟨k + 1, by omega, by go_num, by first | rfl | trivial, HIK⟩
        case measure => simp [intOf]; omega
    · have HZ := Lib.hid (HN.out (fun j hj => HI.out j (by omega) hj))
      go_wp2_with fail
      go_ret
      exact ⟨by rw [HZ.out]; rfl, by first | rfl | trivial⟩

end Go.Proofs.YtghocakjhfflbaaGreatDoor

/-
  Slices of structs (Claim): the first element of which something is true, and whether there is one (the library's functions with a function's value).
-/
namespace Go.Proofs.YtghocakjhfflbaaGreatDoor
open Go.RowKit

end Go.Proofs.YtghocakjhfflbaaGreatDoor

/-
  Workspaces and claims: what the program's checks return.
-/
namespace Go.Proofs.YtghocakjhfflbaaGreatDoor
open Go.RowKit

/-- the first elements of a slice of one-cell elements. -/
theorem slF1_cut {α : Type} {enc : α → Value} {fp : List Nat} {w : World} {a : Option Addr} {n cap : Nat} {xs : List α} (h : slF 1 (fun x => [enc x]) fp w [.slice a n cap] xs) (k : Nat) (hk : k ≤ xs.length) :
    ∃ fp', slF 1 (fun x => [enc x]) fp' w [.slice a k cap] (xs.take k) := by
  obtain ⟨v, hv, a, cap', hv2, h1, h2, h3, h4⟩ := h
  cases hv
  simp only [Value.slice.injEq] at hv2
  obtain ⟨rfl, rfl, rfl⟩ := hv2
  have hl : (xs.take k).length = k := by rw [List.length_take]; omega
  rw [flatMap_single] at h3 h4
  rcases h4 with ⟨h0, rfl⟩ | ⟨b', off', rfl, rfl, hbl, hc⟩
  · exact ⟨[], ⟨_, rfl, _, cap, by rw [hl], by omega, h2, by rw [flatMap_single, List.length_map, Nat.mul_one], Or.inl ⟨by omega, rfl⟩⟩⟩
  · refine ⟨[b'], ⟨_, rfl, _, cap, by rw [hl], by omega, h2, by rw [flatMap_single, List.length_map, Nat.mul_one], Or.inr ⟨b', off', rfl, rfl, hbl, fun j u hu => hc j u ?_⟩⟩⟩
    rw [flatMap_single, List.map_take, List.getElem?_take] at hu
    split at hu
    · exact hu
    · cases hu

set_option maxRecDepth 20000 in
set_option maxHeartbeats 8000000 in
theorem systemsOkI (cs : List Value) (W : Wk) (w : World) (fp : List Nat) (hR : R_Wk fp w cs W) (hF : WkFit W) (hE : Env w) :
    Calls Tryz.prog 22 #[.agg cs.toArray] w fun e w' => e = .returned (.bool (syssOk W)) ∧ Upd [] w w' := by
  obtain ⟨v0, v1, v2, f0, f1, f2, rfl, h0, h1, -, rfl⟩ := hR
  have h0' := h0
  obtain ⟨a0, c0, rfl, l0, m0, hc0⟩ := slF1_open h0
  obtain ⟨a1, c1, rfl, l1, m1, hc1⟩ := slQ_open h1
  unfold maxLen at m0 m1
  have HM := Lib.hid (show syssOk W = (inB (W.names.length : Int) 1 6 && decide (W.syss.length = W.names.length) && allF (wkAt W) 0 W.names.length) from rfl)
  obtain ⟨B, hB⟩ : ∃ q, q = w.heap.size := ⟨_, rfl⟩
  obtain ⟨wA, hwA⟩ : ∃ q, q = w.alloc (.cells #[.slice a0 W.names.length c0, .slice a1 W.syss.length c1, v2] 32) := ⟨_, rfl⟩
  have uA : Upd [] w wA := by rw [hwA]; exact (Upd.refl _ _).alloc _
  have x0 : wA.cell? ⟨B, 0, none⟩ = some (.slice a0 W.names.length c0) := by rw [hwA, hB]; exact cell_new w _ _ _ rfl 0 _ rfl
  have x1 : wA.cell? ⟨B, 1, none⟩ = some (.slice a1 W.syss.length c1) := by rw [hwA, hB]; exact cell_new w _ _ _ rfl 1 _ rfl
  have X0 := Lib.hid (fun W2 (hu : Upd [] wA W2) => hu.keep x0)
  have X1 := Lib.hid (fun W2 (hu : Upd [] wA W2) => hu.keep x1)
  have UA := Lib.hid uA
  have HC0 := Lib.hid (fun W2 (hu : Upd [] wA W2) i (hi : i < W.names.length) => show ∃ b off, a0 = some ⟨b, off, none⟩ ∧ W2.cell? ⟨b, off + i, none⟩ = some (es W.names[i]) from by
    obtain ⟨b, off, e, -, -, h⟩ := hc0 i hi
    exact ⟨b, off, e, (uA.trans hu).keep h⟩)
  have HC1 := Lib.hid (fun W2 (hu : Upd [] wA W2) i (hi : i < W.syss.length) => show ∃ b off u1 u2 g1 g2, a1 = some ⟨b, off, none⟩ ∧ W2.cell? ⟨b, off + i * 4, none⟩ = some (ei W.syss[i].st) ∧ W2.cell? ⟨b, off + i * 4 + 1, none⟩ = some (ei W.syss[i].ini) ∧ W2.cell? ⟨b, off + i * 4 + 2, none⟩ = some u1 ∧ W2.cell? ⟨b, off + i * 4 + 3, none⟩ = some u2 ∧ R_S1 g1 W2 [u1] W.syss[i].labs ∧ R_E1 g2 W2 [u2] W.syss[i].eds from by
    obtain ⟨b, off, u, f, e, -, -, -, hcell, -, u1, u2, g1, g2, rfl, r1, r2, -⟩ := hc1 i hi
    have hu2 := uA.trans hu
    exact ⟨b, off, u1, u2, g1, g2, e, hu2.keep (by simpa using hcell 0 _ rfl), hu2.keep (hcell 1 _ rfl), hu2.keep (hcell 2 _ rfl), hu2.keep (hcell 3 _ rfl), R_S1k.upd r1 hu2 (by simp), R_E1k.upd r2 hu2 (by simp)⟩)
  have HK := Lib.hid (fun W2 (hu : Upd [] wA W2) k (hk : k ≤ W.names.length) (x : List UInt8) => show Calls Tryz.prog 46 #[.slice a0 k c0, es x] W2 (fun e w' => e = .returned (.bool ((W.names.take k).contains x)) ∧ Upd [] W2 w') from by
    obtain ⟨g, hg⟩ := slF1_cut (R_S1k.upd h0' (uA.trans hu) (by simp)) k hk
    exact containsSS _ _ x W2 g hg)
  have HE := Lib.hid (fun W2 (hu : Upd [] wA W2) => hE.upd (uA.trans hu))
  have HNT := Lib.hid hF.nt
  have HST := Lib.hid hF.st
  have hnl := hF.nl
  have hsl := hF.sl
  have SW := within (W.names.length : Int) 1 6 wA
  have HAT := Lib.hid (fun k (hk : k < W.names.length) (hs : k < W.syss.length) => wkAt_eq (W := W) hk hs)
  have HAS := Lib.hid (fun k (hk : k < W.names.length) => allF_step (wkAt W) k W.names.length hk)
  have HAE := Lib.hid (allF_end (wkAt W) W.names.length)
  clear h0 h1 h0' hc0 hc1 uA hF hE
  generalize syssOk W = Z at *
  obtain ⟨names, syss, clms⟩ := W
  simp only at *
  generalize wkAt ⟨names, syss, clms⟩ = P at *
  obtain ⟨q1, hq1⟩ : ∃ q, inB (names.length : Int) 1 6 = q := ⟨_, rfl⟩
  rw [hq1] at SW HM
  cases q1 with
  | false =>
    clear HC0 HC1 HK HAT HAS HAE hq1
    go_enter Tryz.func22, Tryz.ntmps22
    go_upto_region 1 with (fail)
    rw [← hwA, ← hB]
    clear hwA hB
    go_wp2_with fail
    refine SW.mono ?_
    rintro e w1 ⟨rfl, rfl⟩
    clear SW
    go_wp2_with fail
    go_ret
    exact ⟨by rw [HM.out]; rfl, UA.out⟩
  | true =>
    have hb := inB_true hq1
    obtain ⟨q2, hq2⟩ : ∃ q, decide (syss.length = names.length) = q := ⟨_, rfl⟩
    rw [hq2] at HM
    cases q2 with
    | false =>
      have hne : ((syss.length : Int) != (names.length : Int)) = true := by
        have := of_decide_eq_false hq2
        simp; omega
      clear HC0 HC1 HK HAT HAS HAE hq1 hq2
      go_enter Tryz.func22, Tryz.ntmps22
      go_upto_region 1 with (fail)
      rw [← hwA, ← hB]
      clear hwA hB
      go_wp2_with fail
      refine SW.mono ?_
      rintro e w1 ⟨rfl, rfl⟩
      clear SW
      go_wp2_with fail
      go_ret
      exact ⟨by rw [HM.out]; rfl, UA.out⟩
    | true =>
      have hse : syss.length = names.length := of_decide_eq_true hq2
      rw [hse] at x1 X1
      have hne : ((names.length : Int) != (names.length : Int)) = false := by simp
      have HSE := Lib.hid hse
      clear hq1 hq2 hse
      go_enter Tryz.func22, Tryz.ntmps22
      go_upto_region 1 with (fail)
      rw [HSE.out] at hwA
      rw [HSE.out, ← hwA, ← hB]
      clear hwA hB
      go_wp2_with fail
      refine SW.mono ?_
      rintro e w1 ⟨rfl, rfl⟩
      clear SW
      go_wp2_with fail
      go_loopw [22] (fun iv wr => ∃ k : Nat, k ≤ names.length ∧ iv = .int .i64 k ∧ Hid (Upd [] wA wr) ∧ Hid (allF P k (names.length - k) = allF P 0 names.length)) (fun iv _ => names.length - (intOf iv).toNat)
      case atStart => exact ⟨0, Nat.zero_le _, rfl, Lib.hid (Upd.refl _ _), Lib.hid rfl⟩
      case round =>
        clear x0 x1
        obtain ⟨wo, rfl⟩ : ∃ wo : World, wo = wr := ⟨_, rfl⟩
        obtain ⟨k, hk, rfl, HU, HAL⟩ := hrel
        by_cases hlt : k < names.length
        · have hkl : (k : Int) < (names.length : Int) := by omega
          have hks : k < syss.length := by have := HSE.out; omega
          have HAK := Lib.hid (HAL.out.symm.trans ((HAS.out k hlt).trans (by rw [HAT.out k hlt hks])))
          obtain ⟨b0, o0, rfl, y0⟩ := HC0.out wo HU.out k hlt
          have hnm := HNT.out _ (List.getElem_mem hlt)
          have HST1 := Lib.hid (HST.out _ (List.getElem_mem hks))
          have T1 := Lib.hid (isNameI names[k] wo hnm)
          have HKK := Lib.hid (HK.out wo HU.out k (by omega) names[k])
          have HC1K := Lib.hid (fun W2 (hu : Upd [] wA W2) => HC1.out W2 hu k hks)
          have z0 := X0.out wo HU.out
          have z1 := X1.out wo HU.out
          clear HC0 HC1 HK HAT HAS HAE HAL hnm
          generalize names[k] = nm at *
          generalize (names.take k).contains nm = qc at *
          generalize syss[k] = ss at *
          obtain ⟨qn, hqn⟩ : ∃ q, nameF nm = q := ⟨_, rfl⟩
          rw [hqn] at T1 HAK
          clear hqn
          cases qn with
          | false =>
            have HZ := Lib.hid (show Z = false by rw [HM.out, HAK.out]; simp)
            clear HAK HM HKK HC1K
            go_wp2_with fail
            refine T1.out.mono ?_
            rintro e w1 ⟨rfl, rfl⟩
            clear T1
            go_wp2_with fail
            go_ret
            exact ⟨by rw [HZ.out]; rfl, UA.out.trans HU.out⟩
          | true =>
            go_wp2_with fail
            refine T1.out.mono ?_
            rintro e w1 ⟨rfl, rfl⟩
            clear T1
            cases qc with
            | true =>
              have HZ := Lib.hid (show Z = false by rw [HM.out, HAK.out]; simp)
              clear HAK HM HC1K
              go_wp2_with fail
              refine HKK.out.mono ?_
              rintro e w1 ⟨rfl, hu1⟩
              have HU1 := Lib.hid (UA.out.trans (HU.out.trans hu1))
              clear HKK hu1 z0 z1 y0
              go_wp2_with fail
              go_ret
              exact ⟨by rw [HZ.out]; rfl, HU1.out⟩
            | false =>
              go_wp2_with fail
              refine HKK.out.mono ?_
              rintro e w1 ⟨rfl, hu1⟩
              have hu2 := HU.out.trans hu1
              have HU1 := Lib.hid hu2
              obtain ⟨b1, o1, u1, u2, g1, g2, rfl, s0, s1, s2, s3, r1, r2⟩ := HC1K.out w1 hu2
              have z1 := hu1.keep z1
              have T3 := Lib.hid (validI ss u1 u2 w1 g1 g2 r1 r2 HST1.out (HE.out w1 hu2))
              clear HKK hu1 hu2 z0 y0 HC1K r1 r2 HST1
              obtain ⟨qs, hqs⟩ : ∃ q, sysOk ss = q := ⟨_, rfl⟩
              rw [hqs] at T3 HAK
              clear hqs
              cases qs with
              | false =>
                have HZ := Lib.hid (show Z = false by rw [HM.out, HAK.out]; simp)
                clear HAK HM
                go_wp2_with fail
                refine T3.out.mono ?_
                rintro e w2 ⟨rfl, hu2⟩
                have HU2 := Lib.hid (UA.out.trans (HU1.out.trans hu2))
                clear T3 hu2 z1 s0 s1 s2 s3
                go_wp2_with fail
                go_ret
                exact ⟨by rw [HZ.out]; rfl, HU2.out⟩
              | true =>
                have HAN := Lib.hid (show allF P (k + 1) (names.length - (k + 1)) = allF P 0 names.length by rw [HAK.out]; simp)
                clear HAK
                go_wp2_with fail
                refine T3.out.mono ?_
                rintro e w2 ⟨rfl, hu2⟩
                have HU2 := Lib.hid (HU1.out.trans hu2)
                clear T3 hu2 z1 s0 s1 s2 s3
                go_wp2_with fail
                go_roundw
                case rel => exact ⟨k + 1, by omega, by go_num, HU2, HAN⟩
                case measure => simp [intOf]; omega
        · obtain rfl : k = names.length := by omega
          have HZ := Lib.hid (show Z = true by rw [HM.out, ← HAL.out, HAE.out]; simp)
          have HU2 := Lib.hid (UA.out.trans HU.out)
          clear HC0 HC1 HK HAT HAS HAE HAL HM
          go_wp2_with fail
          go_ret
          exact ⟨by rw [HZ.out]; rfl, HU2.out⟩

end Go.Proofs.YtghocakjhfflbaaGreatDoor

/-
  Claims: what the program's checks return.
-/
namespace Go.Proofs.YtghocakjhfflbaaGreatDoor
open Go.RowKit

set_option maxRecDepth 20000 in
set_option maxHeartbeats 1000000 in
theorem usesRightI (us : List Value) (c : Cl) (w : World) (fp : List Nat) (hR : R_Cl fp w us c) :
    Calls Tryz.prog 39 #[.agg us.toArray] w fun e w' => e = .returned (.bool (decide (c.kind ≤ 3))) ∧ Upd [] w w' := by
  obtain ⟨v3, v4, f3, f4, rfl, -, -, -⟩ := hR
  obtain ⟨kind, left, right, pairs, form⟩ := c
  simp only
  go_enter Tryz.func39, Tryz.ntmps39
  go_wp2_with fail
  go_ret
  exact ⟨rfl, (Upd.refl _ _).alloc _⟩

set_option maxRecDepth 20000 in
set_option maxHeartbeats 1000000 in
theorem usesFormulaI (us : List Value) (c : Cl) (w : World) (fp : List Nat) (hR : R_Cl fp w us c) :
    Calls Tryz.prog 50 #[.agg us.toArray] w fun e w' => e = .returned (.bool (inB c.kind 3 5)) ∧ Upd [] w w' := by
  obtain ⟨v3, v4, f3, f4, rfl, -, -, -⟩ := hR
  obtain ⟨kind, left, right, pairs, form⟩ := c
  simp only
  have S1 := Lib.hid (fun W => within kind 3 5 W)
  generalize inB kind 3 5 = q at *
  go_enter Tryz.func50, Tryz.ntmps50
  go_wp2_with fail
  refine (S1.out _).mono ?_
  rintro e w1 ⟨rfl, rfl⟩
  clear S1
  go_wp2_with fail
  go_ret
  exact ⟨rfl, (Upd.refl _ _).alloc _⟩

set_option maxRecDepth 20000 in
set_option maxHeartbeats 8000000 in
theorem claimOkI (cs us : List Value) (W : Wk) (c : Cl) (w : World) (fp fq : List Nat) (hR : R_Wk fp w cs W) (hC : R_Cl fq w us c) (hF : ClFit c) (hl : W.syss.length ≤ 1000000) (hE : Env w) :
    Calls Tryz.prog 25 #[.agg cs.toArray, .agg us.toArray] w fun e w' => e = .returned (.bool (clOk W.syss.length c)) ∧ Upd [] w w' := by
  obtain ⟨v0, v1, v2, f0, f1, f2, rfl, -, h1, -, rfl⟩ := hR
  obtain ⟨a1, c1, rfl, l1, m1, -⟩ := slQ_open h1
  have hC' := hC
  obtain ⟨v3, v4, f3, f4, rfl, -, h4, rfl⟩ := hC
  have h4' := h4
  obtain ⟨a4, c4, rfl, l4, m4, -⟩ := slF4_open h4
  unfold maxLen at m1 m4
  obtain ⟨B, hB⟩ : ∃ q, q = w.heap.size := ⟨_, rfl⟩
  obtain ⟨wA, hwA⟩ : ∃ q, q = (w.alloc (.cells #[v0, .slice a1 W.syss.length c1, v2] 32)).alloc (.cells #[ei c.kind, ei c.left, ei c.right, v3, .slice a4 c.form.length c4] 44) := ⟨_, rfl⟩
  have s1 : (w.alloc (.cells #[v0, .slice a1 W.syss.length c1, v2] 32)).heap.size = B + 1 := by rw [hB]; simp
  have uA : Upd [] w wA := by rw [hwA]; exact ((Upd.refl _ _).alloc _).alloc _
  have x1 : wA.cell? ⟨B, 1, none⟩ = some (.slice a1 W.syss.length c1) := by
    rw [hwA, hB]; exact ((Upd.refl [] _).alloc _).keep (cell_new w _ _ _ rfl 1 _ rfl)
  have hrow : RowAt wA (B + 1) 44 [ei c.kind, ei c.left, ei c.right, v3, .slice a4 c.form.length c4] := by rw [hwA, ← s1]; exact RowAt.new _ _ _
  have y0 := hrow.cell 0 _ rfl
  have y1 := hrow.cell 1 _ rfl
  have y2 := hrow.cell 2 _ rfl
  have y3 := hrow.cell 3 _ rfl
  have y4 := hrow.cell 4 _ rfl
  have HRC := Lib.hid (fun W2 (hu : Upd [] wA W2) => R_Clk.upd hC' (uA.trans hu) (by simp))
  have HRF := Lib.hid (fun W2 (hu : Upd [] wA W2) => R_F1k.upd h4' (uA.trans hu) (by simp))
  have HE := Lib.hid (fun W2 (hu : Upd [] wA W2) => hE.upd (uA.trans hu))
  have HCF := Lib.hid hF
  have UA := Lib.hid uA
  have S1 := Lib.hid (within c.kind 0 7 wA)
  have S2 := Lib.hid (idxI c.left W.syss.length wA hl)
  have S3 := Lib.hid (idxI c.right W.syss.length wA hl)
  have T4 := Lib.hid (usesRightI _ _ wA _ (HRC.out wA (Upd.refl _ _)))
  have HM := Lib.hid (show clOk W.syss.length c = (inB c.kind 0 7 && inB c.left 0 ((W.syss.length : Int) - 1) && inB c.right 0 ((W.syss.length : Int) - 1) && (decide (c.kind ≤ 3) || c.right == 0) && (if inB c.kind 3 5 then frmOk c.form else decide (c.form.length = 0))) from rfl)
  clear h1 hC' h4 h4' s1 uA hrow hF hE
  generalize clOk W.syss.length c = Z at *
  obtain ⟨kind, left, right, pairs, form⟩ := c
  simp only at *
  generalize W.syss.length = n at *
  obtain ⟨qa, hqa⟩ : ∃ q, inB kind 0 7 = q := ⟨_, rfl⟩
  obtain ⟨ql, hql⟩ : ∃ q, inB left 0 ((n : Int) - 1) = q := ⟨_, rfl⟩
  obtain ⟨qr, hqr⟩ : ∃ q, inB right 0 ((n : Int) - 1) = q := ⟨_, rfl⟩
  obtain ⟨qf, hqf⟩ : ∃ q, inB kind 3 5 = q := ⟨_, rfl⟩
  obtain ⟨qu, hqu⟩ : ∃ q, decide (kind ≤ 3) = q := ⟨_, rfl⟩
  obtain ⟨qz, hqz⟩ : ∃ q, (right == 0) = q := ⟨_, rfl⟩
  obtain ⟨q0, hq0⟩ : ∃ q, decide (form.length = 0) = q := ⟨_, rfl⟩
  have hnz : (right != 0) = !qz := by rw [← hqz]; rfl
  have hq9 : ((form.length : Int) == 0) = q0 := by
    rw [← hq0]
    by_cases e : form.length = 0
    · rw [e]; rfl
    · rw [decide_eq_false e, beq_eq_false_iff_ne]; omega
  rw [hqa] at S1 HM
  rw [hql] at S2 HM
  rw [hqr] at S3 HM
  rw [hqu] at T4 HM
  rw [hqz, hqf, hq0] at HM
  clear hqa hql hqr hqu hqz hq0
  go_enter Tryz.func25, Tryz.ntmps25
  go_upto_region 1 with (fail)
  rw [← hwA, ← hB]
  clear hwA hB
  go_wp2_with fail
  refine S1.out.mono ?_
  rintro e w1 ⟨rfl, rfl⟩
  clear S1
  cases qa with
  | false =>
    have HZ := Lib.hid (show Z = false by rw [HM.out]; simp)
    clear HM
    go_wp2_with fail
    go_ret
    exact ⟨by rw [HZ.out]; rfl, UA.out⟩
  | true =>
    go_wp2_with fail
    refine S2.out.mono ?_
    rintro e w1 ⟨rfl, rfl⟩
    clear S2
    cases ql with
    | false =>
      have HZ := Lib.hid (show Z = false by rw [HM.out]; simp)
      clear HM
      go_wp2_with fail
      go_ret
      exact ⟨by rw [HZ.out]; rfl, UA.out⟩
    | true =>
      go_wp2_with fail
      refine S3.out.mono ?_
      rintro e w1 ⟨rfl, rfl⟩
      clear S3
      cases qr with
      | false =>
        have HZ := Lib.hid (show Z = false by rw [HM.out]; simp)
        clear HM
        go_wp2_with fail
        go_ret
        exact ⟨by rw [HZ.out]; rfl, UA.out⟩
      | true =>
        go_wp2_with fail
        refine T4.out.mono ?_
        rintro e w2 ⟨rfl, hu2⟩
        replace y0 := hu2.keep y0
        replace y1 := hu2.keep y1
        replace y2 := hu2.keep y2
        replace y3 := hu2.keep y3
        replace y4 := hu2.keep y4
        clear T4
        cases qu with
        | true =>
          have r2 := HRC.out _ hu2
          have T5 := Lib.hid (usesFormulaI _ _ w2 _ r2)
          have HU2 := Lib.hid hu2
          clear hu2 r2 x1
          go_wp2_with fail
          refine T5.out.mono ?_
          rintro e w3 ⟨rfl, hu3⟩
          have HU3 := Lib.hid (HU2.out.trans hu3)
          replace y4 := hu3.keep y4
          clear T5 hu3 y0 y1 y2 y3
          rw [hqf]
          cases qf with
          | true =>
            have HZ := Lib.hid (show Z = frmOk form by rw [HM.out]; simp)
            have T6 := Lib.hid (validFI _ form w3 _ (HRF.out _ HU3.out) HCF.out.1 HCF.out.2 (HE.out _ HU3.out))
            clear HM
            go_wp2_with fail
            refine T6.out.mono ?_
            rintro e w4 ⟨rfl, hu4⟩
            have HU4 := Lib.hid (UA.out.trans (HU3.out.trans hu4))
            clear T6 hu4 y4
            go_wp2_with fail
            go_ret
            exact ⟨by rw [HZ.out]; rfl, HU4.out⟩
          | false =>
            have HZ := Lib.hid (show Z = q0 by rw [HM.out]; simp)
            clear HM
            go_wp2_with fail
            go_ret
            exact ⟨by rw [HZ.out]; first | rfl | simp [hq9], UA.out.trans HU3.out⟩
        | false =>
          cases qz with
          | true =>
            have r2 := HRC.out _ hu2
            have T5 := Lib.hid (usesFormulaI _ _ w2 _ r2)
            have HU2 := Lib.hid hu2
            clear hu2 r2 x1
            go_wp2_with fail
            refine T5.out.mono ?_
            rintro e w3 ⟨rfl, hu3⟩
            have HU3 := Lib.hid (HU2.out.trans hu3)
            replace y4 := hu3.keep y4
            clear T5 hu3 y0 y1 y2 y3
            rw [hqf]
            cases qf with
            | true =>
              have HZ := Lib.hid (show Z = frmOk form by rw [HM.out]; simp)
              have T6 := Lib.hid (validFI _ form w3 _ (HRF.out _ HU3.out) HCF.out.1 HCF.out.2 (HE.out _ HU3.out))
              clear HM
              go_wp2_with fail
              refine T6.out.mono ?_
              rintro e w4 ⟨rfl, hu4⟩
              have HU4 := Lib.hid (UA.out.trans (HU3.out.trans hu4))
              clear T6 hu4 y4
              go_wp2_with fail
              go_ret
              exact ⟨by rw [HZ.out]; rfl, HU4.out⟩
            | false =>
              have HZ := Lib.hid (show Z = q0 by rw [HM.out]; simp)
              clear HM
              go_wp2_with fail
              go_ret
              exact ⟨by rw [HZ.out]; first | rfl | simp [hq9], UA.out.trans HU3.out⟩
          | false =>
            have HU2 := Lib.hid (UA.out.trans hu2)
            have HZ := Lib.hid (show Z = false by rw [HM.out]; simp)
            clear HM
            go_wp2_with fail
            go_ret
            exact ⟨by rw [HZ.out]; rfl, HU2.out⟩

end Go.Proofs.YtghocakjhfflbaaGreatDoor

/-
  Workspaces: what the program's checks of claims and of the whole return.
-/
namespace Go.Proofs.YtghocakjhfflbaaGreatDoor
open Go.RowKit

theorem syssOk_len {W : Wk} (h : syssOk W = true) : W.syss.length = W.names.length ∧ 1 ≤ W.names.length ∧ W.names.length ≤ 6 := by
  unfold syssOk at h
  rw [Bool.and_eq_true, Bool.and_eq_true] at h
  have h1 := inB_true h.1.1
  have h2 := of_decide_eq_true h.1.2
  omega

set_option maxRecDepth 20000 in
set_option maxHeartbeats 4000000 in
theorem validClI (cs us : List Value) (W : Wk) (c : Cl) (w : World) (fp fq : List Nat) (hR : R_Wk fp w cs W) (hC : R_Cl fq w us c) (hF : WkFit W) (hG : ClFit c) (hE : Env w) :
    Calls Tryz.prog 37 #[.agg cs.toArray, .agg us.toArray] w fun e w' => e = .returned (.bool (syssOk W && clOk W.syss.length c)) ∧ Upd [] w w' := by
  have hR' := hR
  have hC' := hC
  obtain ⟨v0, v1, v2, f0, f1, f2, rfl, -, -, -, rfl⟩ := hR
  obtain ⟨v3, v4, f3, f4, rfl, -, -, rfl⟩ := hC
  obtain ⟨B, hB⟩ : ∃ q, q = w.heap.size := ⟨_, rfl⟩
  obtain ⟨wA, hwA⟩ : ∃ q, q = (w.alloc (.cells #[v0, v1, v2] 32)).alloc (.cells #[ei c.kind, ei c.left, ei c.right, v3, v4] 44) := ⟨_, rfl⟩
  have s1 : (w.alloc (.cells #[v0, v1, v2] 32)).heap.size = B + 1 := by rw [hB]; simp
  have uA : Upd [] w wA := by rw [hwA]; exact ((Upd.refl _ _).alloc _).alloc _
  have hr1 : RowAt wA B 32 [v0, v1, v2] := by rw [hwA, hB]; exact (RowAt.new _ _ _).upd ((Upd.refl [] _).alloc _) (by simp)
  have hr2 : RowAt wA (B + 1) 44 [ei c.kind, ei c.left, ei c.right, v3, v4] := by rw [hwA, ← s1]; exact RowAt.new _ _ _
  have H1 := Lib.hid (fun W2 (hu : Upd [] wA W2) => hr1.upd hu (by simp))
  have H2 := Lib.hid (fun W2 (hu : Upd [] wA W2) => hr2.upd hu (by simp))
  have S1 := Lib.hid (systemsOkI _ W wA _ (R_Wkk.upd hR' uA (by simp)) hF (hE.upd uA))
  have S2 := Lib.hid (fun W2 (hu : Upd [] wA W2) (hl : W.syss.length ≤ 1000000) => claimOkI _ _ W c W2 _ _ (R_Wkk.upd hR' (uA.trans hu) (by simp)) (R_Clk.upd hC' (uA.trans hu) (by simp)) hG hl (hE.upd (uA.trans hu)))
  have HSL := Lib.hid (fun h => syssOk_len (W := W) h)
  have UA := Lib.hid uA
  clear hR' hC' s1 uA hr1 hr2 hF hG hE
  obtain ⟨qs, hqs⟩ : ∃ q, syssOk W = q := ⟨_, rfl⟩
  rw [hqs] at S1 HSL ⊢
  clear hqs
  have HN := Lib.hid (fun (h : qs = true) => show W.syss.length ≤ 1000000 by have := HSL.out h; omega)
  generalize clOk W.syss.length c = qc at *
  clear HSL
  generalize W.syss.length = n at *
  obtain ⟨kind, left, right, pairs, form⟩ := c
  simp only at *
  go_enter Tryz.func37, Tryz.ntmps37
  go_upto_region 1 with (fail)
  rw [← hwA, ← hB]
  clear hwA hB
  have x0 := (H1.out _ (Upd.refl _ _)).cell 0 _ rfl
  have x1 := (H1.out _ (Upd.refl _ _)).cell 1 _ rfl
  have x2 := (H1.out _ (Upd.refl _ _)).cell 2 _ rfl
  go_wp2_with fail
  refine S1.out.mono ?_
  rintro e w1 ⟨rfl, hu1⟩
  have HU1 := Lib.hid hu1
  clear S1 x0 x1 x2
  cases qs with
  | false =>
    clear S2 H1 H2 hu1 HN
    go_wp2_with fail
    go_ret
    exact ⟨rfl, UA.out.trans HU1.out⟩
  | true =>
    have x0 := (H1.out _ hu1).cell 0 _ rfl
    have x1 := (H1.out _ hu1).cell 1 _ rfl
    have x2 := (H1.out _ hu1).cell 2 _ rfl
    have y0 := (H2.out _ hu1).cell 0 _ rfl
    have y1 := (H2.out _ hu1).cell 1 _ rfl
    have y2 := (H2.out _ hu1).cell 2 _ rfl
    have y3 := (H2.out _ hu1).cell 3 _ rfl
    have y4 := (H2.out _ hu1).cell 4 _ rfl
    have T2 := Lib.hid (S2.out w1 hu1 (HN.out rfl))
    clear S2 H1 H2 hu1 HN
    go_wp2_with fail
    refine T2.out.mono ?_
    rintro e w2 ⟨rfl, hu2⟩
    have HU2 := Lib.hid (UA.out.trans (HU1.out.trans hu2))
    clear T2 hu2 x0 x1 x2 y0 y1 y2 y3 y4
    go_wp2_with fail
    go_ret
    exact ⟨rfl, HU2.out⟩

end Go.Proofs.YtghocakjhfflbaaGreatDoor

/-
  The text of a claim: what the program's call returns.
-/
namespace Go.Proofs.YtghocakjhfflbaaGreatDoor
open Go.RowKit

theorem catW (a b : List UInt8) : (ByteArray.mk a.toArray ++ ByteArray.mk b.toArray) = ByteArray.mk (a ++ b).toArray := ByteArray.mk_append_mk a b

set_option maxRecDepth 20000 in
set_option maxHeartbeats 4000000 in
theorem claimNameI (k : Int) (hb : inB k 0 7 = true) (w : World) :
    Calls Tryz.prog 38 #[.int .i64 k] w fun e w' => e = .returned (es (clNames.getD k.toNat [])) ∧ Upd [] w w' := by
  have h := inB_true hb
  have S1 := Lib.hid (fun W => show Calls Tryz.prog 49 #[.int .i64 k, .int .i64 8] W (fun e w' => e = .returned (.bool true) ∧ W = w') from by
    have h8 := idxI k 8 W (by omega)
    rw [show inB k 0 (((8 : Nat) : Int) - 1) = true from hb] at h8
    exact h8)
  clear hb
  obtain h | h | h | h | h | h | h | h : k = 0 ∨ k = 1 ∨ k = 2 ∨ k = 3 ∨ k = 4 ∨ k = 5 ∨ k = 6 ∨ k = 7 := by omega
  all_goals
    subst h
    clear h
    go_enter Tryz.func38, Tryz.ntmps38
    go_wp2_with fail
    refine (S1.out _).mono ?_
    rintro e w1 ⟨rfl, rfl⟩
    go_wp2_with fail
    go_ret
    exact ⟨rfl, (Upd.refl _ _).alloc _⟩

theorem clNames_len (k : Int) : (clNames.getD k.toNat []).length ≤ 9 := by
  rw [List.getD_eq_getElem?_getD]
  by_cases h : k.toNat < clNames.length
  · rw [List.getElem?_eq_getElem h]
    have : ∀ l ∈ clNames, l.length ≤ 9 := by decide
    exact this _ (List.getElem_mem h)
  · rw [List.getElem?_eq_none (by omega)]; simp

theorem clOk_parts {n : Nat} {c : Cl} (h : clOk n c = true) : inB c.kind 0 7 = true ∧ (0 ≤ c.left ∧ c.left ≤ (n : Int) - 1) ∧ (0 ≤ c.right ∧ c.right ≤ (n : Int) - 1) := by
  unfold clOk at h
  simp only [Bool.and_eq_true] at h
  exact ⟨h.1.1.1.1, inB_true h.1.1.1.2, inB_true h.1.1.2⟩

set_option maxRecDepth 20000 in
set_option maxHeartbeats 8000000 in
theorem stTextI (cs : List Value) (W : Wk) (us : List Value) (c : Cl) (w : World) (fp fq : List Nat) (hR : R_Wk fp w cs W) (hC : R_Cl fq w us c) (hF : WkFit W) (hG : ClFit c) (hE : Env w) :
    Calls Tryz.prog 13 #[.agg cs.toArray, .agg us.toArray] w fun e w' => e = .returned (es (clText W c)) ∧ Upd [] w w' := by
  have hR' := hR
  have hC' := hC
  obtain ⟨v0, v1, v2, f0, f1, f2, rfl, h0, -, -, rfl⟩ := hR
  obtain ⟨v3, v4, f3, f4, rfl, -, -, rfl⟩ := hC
  obtain ⟨a0, c0, rfl, l0, m0, hc0⟩ := slF1_open h0
  unfold maxLen at m0
  obtain ⟨B, hB⟩ : ∃ q, q = w.heap.size := ⟨_, rfl⟩
  obtain ⟨wA, hwA⟩ : ∃ q, q = (w.alloc (.cells #[.slice a0 W.names.length c0, v1, v2] 32)).alloc (.cells #[ei c.kind, ei c.left, ei c.right, v3, v4] 44) := ⟨_, rfl⟩
  have s1 : (w.alloc (.cells #[.slice a0 W.names.length c0, v1, v2] 32)).heap.size = B + 1 := by rw [hB]; simp
  have uA : Upd [] w wA := by rw [hwA]; exact ((Upd.refl _ _).alloc _).alloc _
  have hr1 : RowAt wA B 32 [.slice a0 W.names.length c0, v1, v2] := by rw [hwA, hB]; exact (RowAt.new _ _ _).upd ((Upd.refl [] _).alloc _) (by simp)
  have hr2 : RowAt wA (B + 1) 44 [ei c.kind, ei c.left, ei c.right, v3, v4] := by rw [hwA, ← s1]; exact RowAt.new _ _ _
  have H1 := Lib.hid (fun W2 (hu : Upd [] wA W2) => hr1.upd hu (by simp))
  have H2 := Lib.hid (fun W2 (hu : Upd [] wA W2) => hr2.upd hu (by simp))
  have S1 := Lib.hid (validClI _ _ W c wA _ _ (R_Wkk.upd hR' uA (by simp)) (R_Clk.upd hC' uA (by simp)) hF hG (hE.upd uA))
  have S4 := Lib.hid (fun W2 (hu : Upd [] wA W2) => usesRightI _ c W2 _ (R_Clk.upd hC' (uA.trans hu) (by simp)))
  have HC0 := Lib.hid (fun W2 (hu : Upd [] wA W2) i (hi : i < W.names.length) => show ∃ b off, a0 = some ⟨b, off, none⟩ ∧ W2.cell? ⟨b, off + i, none⟩ = some (es W.names[i]) from by
    obtain ⟨b, off, e, -, -, h⟩ := hc0 i hi
    exact ⟨b, off, e, (uA.trans hu).keep h⟩)
  have HNT := Lib.hid hF.nt
  have UA := Lib.hid uA
  have HQ := Lib.hid (fun (h : (syssOk W && clOk W.syss.length c) = true) => show inB c.kind 0 7 = true ∧ (0 ≤ c.left ∧ c.left < (W.names.length : Int)) ∧ (0 ≤ c.right ∧ c.right < (W.names.length : Int)) from by
    rw [Bool.and_eq_true] at h
    have h1 := syssOk_len h.1
    obtain ⟨h2, h3, h4⟩ := clOk_parts h.2
    exact ⟨h2, by omega, by omega⟩)
  have HM := Lib.hid (show clText W c = if (syssOk W && clOk W.syss.length c) = true then (clNames.getD c.kind.toNat [] ++ [32] ++ W.names.getD c.left.toNat []) ++ (if c.kind ≤ 3 then [32] ++ W.names.getD c.right.toNat [] else []) else [] from rfl)
  clear h0 hc0 hR' hC' s1 uA hr1 hr2 hF hG hE
  generalize clText W c = Z at *
  obtain ⟨q, hq⟩ : ∃ q, (syssOk W && clOk W.syss.length c) = q := ⟨_, rfl⟩
  rw [hq] at S1 HQ HM
  clear hq
  obtain ⟨kind, left, right, pairs, form⟩ := c
  obtain ⟨names, syss, clms⟩ := W
  simp only at *
  go_enter Tryz.func13, Tryz.ntmps13
  go_upto_region 1 with (fail)
  rw [← hwA, ← hB]
  clear hwA hB
  have x0 := (H1.out _ (Upd.refl _ _)).cell 0 _ rfl
  have x1 := (H1.out _ (Upd.refl _ _)).cell 1 _ rfl
  have x2 := (H1.out _ (Upd.refl _ _)).cell 2 _ rfl
  have y0 := (H2.out _ (Upd.refl _ _)).cell 0 _ rfl
  have y1 := (H2.out _ (Upd.refl _ _)).cell 1 _ rfl
  have y2 := (H2.out _ (Upd.refl _ _)).cell 2 _ rfl
  have y3 := (H2.out _ (Upd.refl _ _)).cell 3 _ rfl
  have y4 := (H2.out _ (Upd.refl _ _)).cell 4 _ rfl
  go_wp2_with fail
  refine S1.out.mono ?_
  rintro e w1 ⟨rfl, hu1⟩
  have HU1 := Lib.hid hu1
  clear S1 x0 x1 x2 y0 y1 y2 y3 y4
  cases q with
  | false =>
    have HZ := Lib.hid (show Z = [] by rw [HM.out]; rfl)
    clear S4 H1 H2 hu1 HM HQ HC0 HNT
    go_wp2_with fail
    go_ret
    exact ⟨by rw [HZ.out]; rfl, UA.out.trans HU1.out⟩
  | true =>
    obtain ⟨hb, hl, hr⟩ := HQ.out rfl
    obtain ⟨jl, rfl⟩ : ∃ j : Nat, left = j := ⟨left.toNat, by omega⟩
    obtain ⟨jr, rfl⟩ : ∃ j : Nat, right = j := ⟨right.toNat, by omega⟩
    have hjl : jl < names.length := by omega
    have hjr : jr < names.length := by omega
    have il : (jl : Int) < (names.length : Int) := by omega
    have ir : (jr : Int) < (names.length : Int) := by omega
    obtain ⟨b0, o0, rfl, p0⟩ := HC0.out w1 hu1 jl hjl
    have HP := Lib.hid (fun W2 (hu : Upd [] wA W2) => show W2.cell? ⟨b0, o0 + jr, none⟩ = some (es names[jr]) from by
      obtain ⟨b, off, e, h⟩ := HC0.out W2 hu jr hjr
      cases e; exact h)
    have n1 := HNT.out _ (List.getElem_mem hjl)
    have n2 := HNT.out _ (List.getElem_mem hjr)
    have g1 : names.getD ((jl : Int)).toNat [] = names[jl] := by rw [Int.toNat_natCast, List.getD_eq_getElem?_getD, List.getElem?_eq_getElem hjl]; rfl
    have g2 : names.getD ((jr : Int)).toNat [] = names[jr] := by rw [Int.toNat_natCast, List.getD_eq_getElem?_getD, List.getElem?_eq_getElem hjr]; rfl
    have n0 := clNames_len kind
    have T2 := Lib.hid (fun W2 => claimNameI kind hb W2)
    have HM2 := Lib.hid (show Z = (clNames.getD kind.toNat [] ++ [32] ++ names[jl]) ++ (if kind ≤ 3 then [32] ++ names[jr] else []) by rw [HM.out, if_pos rfl, g1, g2])
    clear HM HQ HC0 HNT hb hl hr g1 g2
    generalize names[jl] = A at *
    generalize names[jr] = D at *
    generalize clNames.getD kind.toNat [] = E at *
    obtain ⟨S, hS⟩ : ∃ S, S = E ++ [32] := ⟨_, rfl⟩
    obtain ⟨S2, hS2⟩ : ∃ S2, S2 = S ++ A := ⟨_, rfl⟩
    obtain ⟨D1, hD1⟩ : ∃ S2, S2 = [32] ++ D := ⟨_, rfl⟩
    obtain ⟨S3, hS3⟩ : ∃ S3, S3 = S2 ++ D1 := ⟨_, rfl⟩
    have k1 : S.length = E.length + 1 := by rw [hS]; simp
    have k2 : S2.length = S.length + A.length := by rw [hS2]; simp
    have k3 : D1.length = 1 + D.length := by rw [hD1]; simp [Nat.add_comm]
    have c1 : (ByteArray.mk E.toArray ++ ByteArray.mk #[32]) = ByteArray.mk S.toArray := by rw [hS, ← catW]
    have c2 : (ByteArray.mk S.toArray ++ ByteArray.mk A.toArray) = ByteArray.mk S2.toArray := by rw [hS2, ← catW]
    have c3 : (ByteArray.mk #[32] ++ ByteArray.mk D.toArray) = ByteArray.mk D1.toArray := by rw [hD1, ← catW]
    have c4 : (ByteArray.mk S2.toArray ++ ByteArray.mk D1.toArray) = ByteArray.mk S3.toArray := by rw [hS3, ← catW]
    have z1 : ¬ (9223372036854775807 < E.length + 1) := by omega
    have z2 : ¬ (9223372036854775807 < S.length + A.length) := by omega
    have z3 : ¬ (9223372036854775807 < 1 + D.length) := by omega
    have z4 : ¬ (9223372036854775807 < S2.length + D1.length) := by omega
    have HM3 := Lib.hid (show Z = if kind ≤ 3 then S3 else S2 by
      rw [HM2.out]
      split
      · rw [hS3, hS2, hS, hD1]
      · rw [hS2, hS, List.append_nil])
    clear HM2 hS hS2 hD1 hS3 k1 k2 k3 n0 n1 n2
    have x0 := (H1.out _ hu1).cell 0 _ rfl
    have y0 := (H2.out _ hu1).cell 0 _ rfl
    have y1 := (H2.out _ hu1).cell 1 _ rfl
    go_wp2_with fail
    go_region_held3 (fun w' => w'.cell? ⟨B, 0, none⟩ = some (.slice (some ⟨b0, o0, none⟩) names.length c0) ∧ w'.cell? ⟨B + 1, 0, none⟩ = some (.int .i64 kind) ∧ w'.cell? ⟨B + 1, 1, none⟩ = some (.int .i64 (jl : Int)) ∧ w'.cell? ⟨b0, o0 + jl, none⟩ = some (es A)) (first | go_keep | simp [*])
      (first
        | ((go_at_call 38); (refine (T2.out _).mono ?_); rintro e w2 ⟨rfl, hu2⟩; have x0' := hu2.keep x0; have y0' := hu2.keep y0; have y1' := hu2.keep y1; have p0' := hu2.keep p0))
    have hu3 : Upd [] wA w2 := hu1.trans ((Upd.refl [] w1).drew.trans hu2)
    have T4 := S4.out w2 hu3
    obtain ⟨qd, hqd⟩ : ∃ q, decide (kind ≤ 3) = q := ⟨_, rfl⟩
    rw [hqd] at T4
    have T4 := Lib.hid T4
    have e0 := (H2.out _ hu3).cell 0 _ rfl
    have e1 := (H2.out _ hu3).cell 1 _ rfl
    have e2 := (H2.out _ hu3).cell 2 _ rfl
    have e3 := (H2.out _ hu3).cell 3 _ rfl
    have e4 := (H2.out _ hu3).cell 4 _ rfl
    have HU3 := Lib.hid hu3
    clear hu3 hu2 hu1 x0 y0 y1 p0 x0' y0' y1' p0' c1 c2 z1 z2 S4 T2
    go_wp2_with fail
    refine T4.out.mono ?_
    rintro e w3 ⟨rfl, hu4⟩
    have hu5 := HU3.out.trans hu4
    have HU5 := Lib.hid (UA.out.trans hu5)
    have x0 := (H1.out _ hu5).cell 0 _ rfl
    have y2 := (H2.out _ hu5).cell 2 _ rfl
    have q0 := HP.out _ hu5
    clear T4 hu4 hu5 e0 e1 e2 e3 e4 H1 H2 HP HU3 HU1
    cases qd with
    | false =>
      have HZ := Lib.hid (show Z = S2 by rw [HM3.out, if_neg (of_decide_eq_false hqd)])
      clear HM3 hqd
      go_wp2_with fail
      go_ret
      exact ⟨by rw [HZ.out]; rfl, HU5.out⟩
    | true =>
      have HZ := Lib.hid (show Z = S3 by rw [HM3.out, if_pos (of_decide_eq_true hqd)])
      clear HM3 hqd
      go_wp2_with fail
      go_ret
      exact ⟨by rw [HZ.out]; rfl, HU5.out⟩

end Go.Proofs.YtghocakjhfflbaaGreatDoor

/-
  The reference's checks of nodes and of a formula's shape: what the calls return.
-/
namespace Go.Proofs.YtghocakjhfflbaaGreatDoor
open Go.RowKit

set_option maxRecDepth 20000 in
set_option maxHeartbeats 800000 in
theorem arityS (a : Int) (w : World) : Calls Tryz.prog 95 #[ei a] w fun e w' => e = .returned (.int .i64 (arS a)) ∧ w = w' := by
  by_cases h0 : a = 0
  · have HI := Lib.hid (show arS a = 0 by subst h0; rfl)
    have b0 : (a == 0) = true := by simpa using h0
    clear h0
    go_enter Tryz.func95, Tryz.ntmps95
    go_wp2_with fail
    go_ret
    exact ⟨by rw [HI.out]; rfl, rfl⟩
  · have b0 : (a == 0) = false := by simpa using h0
    by_cases h1 : a = 1
    · have HI := Lib.hid (show arS a = 0 by subst h1; rfl)
      have b1 : (a == 1) = true := by simpa using h1
      clear h1 h0
      go_enter Tryz.func95, Tryz.ntmps95
      go_wp2_with fail
      go_ret
      exact ⟨by rw [HI.out]; rfl, rfl⟩
    · have b1 : (a == 1) = false := by simpa using h1
      by_cases h6 : a = 6
      · have HI := Lib.hid (show arS a = 0 by subst h6; rfl)
        have b6 : (a == 6) = true := by simpa using h6
        clear h6 h0 h1
        go_enter Tryz.func95, Tryz.ntmps95
        go_wp2_with fail
        go_ret
        exact ⟨by rw [HI.out]; rfl, rfl⟩
      · have b6 : (a == 6) = false := by simpa using h6
        by_cases h2 : a = 2
        · have HI := Lib.hid (show arS a = 2 by subst h2; rfl)
          have b2 : (a == 2) = true := by simpa using h2
          clear h2 h0 h1 h6
          go_enter Tryz.func95, Tryz.ntmps95
          go_wp2_with fail
          go_ret
          exact ⟨by rw [HI.out]; rfl, rfl⟩
        · have b2 : (a == 2) = false := by simpa using h2
          by_cases h3 : a = 3
          · have HI := Lib.hid (show arS a = 2 by subst h3; rfl)
            have b3 : (a == 3) = true := by simpa using h3
            clear h3 h0 h1 h6 h2
            go_enter Tryz.func95, Tryz.ntmps95
            go_wp2_with fail
            go_ret
            exact ⟨by rw [HI.out]; rfl, rfl⟩
          · have b3 : (a == 3) = false := by simpa using h3
            have HI := Lib.hid (show arS a = 1 by unfold arS; rw [if_neg (by omega), if_neg (by omega)])
            clear h0 h1 h6 h2 h3
            go_enter Tryz.func95, Tryz.ntmps95
            go_wp2_with fail
            go_ret
            exact ⟨by rw [HI.out]; rfl, rfl⟩

set_option maxRecDepth 20000 in
set_option maxHeartbeats 800000 in
theorem fixS (b o : Nat) (a : Int) (w : World) (hc : w.cell? ⟨b, o, none⟩ = some (ei a)) : Calls Tryz.prog 82 #[.pointer (some ⟨b, o, none⟩)] w fun e w' => e = .returned (.bool (fixF a)) ∧ w = w' := by
  by_cases h7 : a = 7
  · have HI := Lib.hid (show fixF a = true by subst h7; rfl)
    have b7 : (a == 7) = true := by simpa using h7
    clear h7
    go_enter Tryz.func82, Tryz.ntmps82
    go_wp2_with fail
    go_ret
    exact ⟨by rw [HI.out]; rfl, rfl⟩
  · have b7 : (a == 7) = false := by simpa using h7
    have HI := Lib.hid (show fixF a = (a == 8) by unfold fixF; rw [b7]; rfl)
    clear h7
    generalize hq : (a == 8) = q at *
    go_enter Tryz.func82, Tryz.ntmps82
    go_wp2_with fail
    go_ret
    exact ⟨by rw [HI.out]; rfl, rfl⟩

set_option maxRecDepth 20000 in
set_option maxHeartbeats 2000000 in
theorem patS (s : List UInt8) (w : World) (hl : s.length ≤ 2000000) : Calls Tryz.prog 96 #[es s] w fun e w' => e = .returned (.bool (patF s)) ∧ Upd [] w w' := by
  have S1 := Lib.hid (labelS s w hl)
  have HP := Lib.hid (show patF s = (s == [] || isLab s || (s.getLast? == some 42 && actF s.dropLast)) from rfl)
  by_cases h0 : s = []
  · subst h0
    have HR := Lib.hid (show patF [] = true from rfl)
    clear S1 HP
    go_enter Tryz.func96, Tryz.ntmps96
    go_wp2_with fail
    go_ret
    exact ⟨by rw [HR.out]; rfl, Upd.refl _ _⟩
  · have b0 : (s == ([] : List UInt8)) = false := by simpa using h0
    cases hlab : isLab s with
    | true =>
      rw [hlab] at S1
      have HR := Lib.hid (show patF s = true by rw [HP.out, hlab]; simp)
      clear HP hlab h0
      go_enter Tryz.func96, Tryz.ntmps96
      go_wp2_with fail
      refine S1.out.mono ?_
      rintro e w1 ⟨rfl, hu⟩
      have HU := Lib.hid hu
      clear S1 hu
      go_wp2_with fail
      go_ret
      exact ⟨by rw [HR.out]; rfl, HU.out⟩
    | false =>
      rw [hlab] at S1
      obtain ⟨l, x, rfl⟩ : ∃ l x, s = l ++ [x] := by
        rcases List.eq_nil_or_concat s with h | ⟨l, x, h⟩
        · exact absurd h h0
        · exact ⟨l, x, by rw [h]; simp⟩
      have HR := Lib.hid (show patF (l ++ [x]) = (x == 42 && actF l) by rw [HP.out, hlab, b0]; simp)
      have hlen : (l ++ [x]).length = l.length + 1 := by simp
      have hll : l.length ≤ 2000000 := by rw [hlen] at hl; omega
      have S2 := Lib.hid (fun W => actionS l W hll)
      have hext := extract_list (l ++ [x]) 0 l.length
      have e1 : ((l ++ [x]).drop 0).take (l.length - 0) = l := by simp
      rw [e1] at hext
      have hix : (⟨(l ++ [x]).toArray⟩ : ByteArray)[l.length]'(by simp [ByteArray.size]) = x := by simp [ByteArray.getElem_eq_getElem_data]
      have hm1 : ((l.length : Int) + 1) - 1 = (l.length : Int) := by omega
      have hm4 : (l.length : Int) ≤ (l.length : Int) + 1 := by omega
      have hzz : l.length < (l ++ [x]).length := by omega
      clear HP hlab h0 e1
      obtain ⟨S, hS⟩ : ∃ S, S = l ++ [x] := ⟨_, rfl⟩
      have hix2 : ∃ hh, (⟨S.toArray⟩ : ByteArray)[l.length]'hh = x := by subst hS; exact ⟨_, hix⟩
      rw [← hS] at S1 HR hlen hext b0 hzz hl
      rw [← hS]
      clear hix hS
      obtain ⟨hh, hix⟩ := hix2
      by_cases hx : x = 42
      · have bx : ((x.toNat : Int) == 42) = true := by rw [hx]; rfl
        have HR2 := Lib.hid (show patF S = actF l by rw [HR.out, hx]; simp)
        clear HR hx
        generalize actF l = q at *
        go_enter Tryz.func96, Tryz.ntmps96
        go_wp2_with fail
        refine S1.out.mono ?_
        rintro e w1 ⟨rfl, hu⟩
        have HU := Lib.hid hu
        clear S1 hu
        go_wp2_with fail
        refine (S2.out _).mono ?_
        rintro e w2 ⟨rfl, rfl⟩
        clear S2
        go_wp2_with fail
        go_ret
        exact ⟨by rw [HR2.out]; rfl, HU.out⟩
      · have bx : ((x.toNat : Int) == 42) = false := by
          simp; intro h; apply hx; exact UInt8.toNat_inj.1 (by rw [show (42 : UInt8).toNat = 42 from rfl]; omega)
        have HR2 := Lib.hid (show patF S = false by rw [HR.out]; simp [hx])
        clear HR hx S2
        go_enter Tryz.func96, Tryz.ntmps96
        go_wp2_with fail
        refine S1.out.mono ?_
        rintro e w1 ⟨rfl, hu⟩
        have HU := Lib.hid hu
        clear S1 hu
        go_wp2_with fail
        go_ret
        exact ⟨by rw [HR2.out]; rfl, HU.out⟩

set_option maxRecDepth 20000 in
set_option maxHeartbeats 2000000 in
theorem endS (v : Value) (f : List Nd) (i : Nat) (w : World) (fp : List Nat) (hR : R_F1 fp w [v] f) (hlen : f.length ≤ 2000000) (hi : i < f.length) (hs : ∃ q : Int, 1 ≤ q ∧ shapeF arS q (f.drop i) = true) :
    Calls Tryz.prog 97 #[v, .int .i64 i] w fun e w' => e = .returned (.int .i64 ((i + endF arS 1 (f.drop i) : Nat) : Int)) ∧ w = w' := by
  obtain ⟨a, cap, rfl, h1, h2, hc⟩ := slF4_open hR
  unfold maxLen at h2
  have HC := Lib.hid hc
  have HQ := Lib.hid hs
  clear hR hc hs
  go_enter Tryz.func97, Tryz.ntmps97
  go_wp2_with fail
  go_loop [1, 5] (fun kv mv => ∃ (k : Nat) (m : Int), k ≤ f.length ∧ kv = .int .i64 k ∧ mv = .int .i64 m ∧ 0 ≤ m ∧ m ≤ 1 + 2 * k ∧ Hid (∃ q : Int, m ≤ q ∧ shapeF arS q (f.drop k) = true) ∧ Hid (k + endF arS m (f.drop k) = i + endF arS 1 (f.drop i))) (fun kv _ => f.length - (intOf kv).toNat)
  case atStart => exact ⟨i, 1, by omega, rfl, rfl, by omega, by omega, Lib.hid (by obtain ⟨q, h, h'⟩ := HQ.out; exact ⟨q, h, h'⟩), Lib.hid rfl⟩
  case round =>
    clear HQ
    obtain ⟨k, m, hk, rfl, rfl, hm0, hm1, HS, HE⟩ := hrel
    by_cases hz : m = 0
    · subst hz
      have HR := Lib.hid (show k = i + endF arS 1 (f.drop i) by
        rw [← HE.out]
        cases f.drop k with
        | nil => rfl
        | cons n l => simp [endF])
      clear HS HE
      go_wp2_with fail
      go_ret
      exact ⟨by rw [HR.out]; rfl, rfl⟩
    · have hlt : k < f.length := by
        rcases Nat.lt_or_ge k f.length with h | h
        · exact h
        · exfalso
          obtain ⟨q, g1, g2⟩ := HS.out
          rw [List.drop_of_length_le h, shapeF] at g2
          simp at g2; omega
      obtain ⟨b1, o1, rfl, -, -, p1, p2, p3, p4⟩ := HC.out k hlt
      have S1 := Lib.hid (fun W => arityS f[k].kd W)
      have har := arS_in f[k].kd
      have HS2 := Lib.hid (show ∃ q : Int, m + arS f[k].kd - 1 ≤ q ∧ shapeF arS q (f.drop (k + 1)) = true from by
        obtain ⟨q, g1, g2⟩ := HS.out
        rw [List.drop_eq_getElem_cons hlt] at g2
        exact ⟨q + arS f[k].kd - 1, by omega, (shape_step g2).2⟩)
      have HE2 := Lib.hid (show k + 1 + endF arS (m + arS f[k].kd - 1) (f.drop (k + 1)) = i + endF arS 1 (f.drop i) by
        rw [← HE.out, List.drop_eq_getElem_cons hlt, endF, if_neg (by omega)]; omega)
      have hmp : 0 < m := by omega
      clear HS HE hz
      generalize arS f[k].kd = ar at *
      generalize f[k] = x at *
      obtain ⟨x1, x2, x3, x4⟩ := x
      simp only at p1 p2 p3 p4 S1
      go_wp2_with fail
      refine (S1.out _).mono ?_
      rintro e w1 ⟨rfl, rfl⟩
      clear S1 p1 p2 p3 p4
      obtain ⟨m2, hm2⟩ : ∃ m2 : Int, m2 = m + ar - 1 := ⟨_, rfl⟩
      have hm3 : m + (ar - 1) = m2 := by omega
      rw [← hm2] at HS2 HE2
      have hm4 : 0 ≤ m2 := by omega
      have hm5 : m2 ≤ 1 + 2 * (k + 1) := by omega
      clear hm2
      go_wp2_with fail
      go_round
      case rel => exact ⟨k + 1, m2, by omega, by go_num, rfl, hm4, by omega, HS2, HE2⟩
      case measure => simp [intOf]; omega

end Go.Proofs.YtghocakjhfflbaaGreatDoor

/-
  The reference's check of a formula: what the calls return.
-/
namespace Go.Proofs.YtghocakjhfflbaaGreatDoor
open Go.RowKit

theorem shapeS_ar : ∀ (l : List Nd) (m : Int), shapeS m l = true → shapeF arS m l = true
  | [], m, h => h
  | n :: l, m, h => by
    rw [shapeS] at h
    split at h
    · cases h
    · next h1 =>
      split at h
      · cases h
      · rw [shapeF, if_neg (fun e => h1 (Or.inl e))]
        exact shapeS_ar l _ h

set_option maxRecDepth 20000 in
set_option maxHeartbeats 4000000 in
theorem bindS (v : Value) (f : List Nd) (k : Nat) (w : World) (fp : List Nat) (hR : R_F1 fp w [v] f) (hlen : f.length ≤ 2000000) (hk : k < f.length) (hs : shapeF arS 1 f = true) :
    Calls Tryz.prog 83 #[v, .int .i64 k] w fun e w' => e = .returned (.int .i64 (bindF arS f k k)) ∧ Upd [] w w' := by
  have HR := Lib.hid hR
  have HSH := Lib.hid (shape_drop arS_in f 1 (by omega) hs)
  obtain ⟨a, cap, rfl, h1, h2, hc⟩ := slF4_open hR
  unfold maxLen at h2
  obtain ⟨b1, o1, rfl, -, -, hcs⟩ := hc 0 (by omega)
  have HC := Lib.hid (fun i (hi : i < f.length) => show w.cell? ⟨b1, o1 + i * 4, none⟩ = some (ei f[i].kd) ∧ w.cell? ⟨b1, o1 + i * 4 + 1, none⟩ = some (ei f[i].vr) from by
    obtain ⟨b, o, hbo, -, -, q⟩ := hc i hi
    cases hbo
    exact ⟨q.1, q.2.1⟩)
  clear hR hc hcs hs
  go_enter Tryz.func83, Tryz.ntmps83
  go_wp2_with fail
  go_loopw [5] (fun zv wr => ∃ z : Int, zv = .int .i64 z ∧ -1 ≤ z ∧ z < k ∧ Hid (bindF arS f k (z + 1).toNat = bindF arS f k k) ∧ Hid (Upd [] w wr)) (fun zv _ => (intOf zv + 1).toNat)
  case atStart => exact ⟨(k : Int) - 1, rfl, by omega, by omega, Lib.hid (by congr 1; omega), Lib.hid (Upd.refl _ _)⟩
  case round =>
    obtain ⟨wo, rfl⟩ : ∃ wo : World, wo = wr := ⟨_, rfl⟩
    obtain ⟨z, rfl, hz1, hzk, HB, HU⟩ := hrel
    by_cases hz : z < 0
    · obtain rfl : z = -1 := by omega
      have HE := Lib.hid (show bindF arS f k k = -1 by rw [← HB.out]; rfl)
      clear HB hz
      go_wp2_with fail
      go_ret
      exact ⟨by rw [HE.out]; rfl, HU.out⟩
    · obtain ⟨j, rfl⟩ : ∃ j : Nat, z = j := ⟨z.toNat, by omega⟩
      have hjf : j < f.length := by omega
      obtain ⟨p1, p2⟩ := HC.out j hjf
      obtain ⟨-, p5⟩ := HC.out k hk
      have q1 := HU.out.keep p1
      have q2 := HU.out.keep p2
      have q5 := HU.out.keep p5
      have gj : f.getD j nd0 = f[j] := by rw [List.getD_eq_getElem?_getD, List.getElem?_eq_getElem hjf]; rfl
      have gk : f.getD k nd0 = f[k] := by rw [List.getD_eq_getElem?_getD, List.getElem?_eq_getElem hk]; rfl
      have HB2 := Lib.hid (show bindF arS f k k = if fixF f[j].kd && (f[j].vr == f[k].vr) && decide (k < j + endF arS 1 (f.drop j)) then (j : Int) else bindF arS f k j by
        rw [← HB.out, show ((j : Int) + 1).toNat = j + 1 by omega, bindF]
        unfold bndP
        rw [gj, gk])
      have SE := Lib.hid (fun n : Nat => (endS _ f j (wo.drewN n) fp (R_F1k.upd HR.out (HU.out.drewN n) (by simp)) hlen hjf (by obtain ⟨q, g1, -, g3⟩ := HSH.out j hjf; exact ⟨q, g1, g3⟩)).mono (fun e w' h => (⟨h.1, n, h.2.symm⟩ : _ ∧ ∃ m, w' = wo.drewN m)))
      have SF := Lib.hid (fun n : Nat => (fixS b1 (o1 + j * 4) f[j].kd (wo.drewN n) (((Upd.refl [] wo).drewN n).keep q1)).mono (fun e w' h => (⟨h.1, n, h.2.symm⟩ : _ ∧ ∃ m, w' = wo.drewN m)))
      have HJ := Lib.hid (show ((j : Int) - 1 + 1).toNat = j by omega)
      have jl : (j : Int) < f.length := by omega
      have kl : (k : Int) < f.length := by omega
      have j0 : 0 ≤ (j : Int) := by omega
      clear gj gk HB hz p1 p2 p5
      generalize endF arS 1 (f.drop j) = en at *
      generalize f[k].vr = y2 at *
      generalize f[j].vr = x2 at *
      generalize f[j].kd = x1 at *
      cases hfx : fixF x1 with
      | false =>
        rw [hfx] at SF
        have HE := Lib.hid (show bindF arS f k j = bindF arS f k k by rw [HB2.out, hfx]; simp)
        clear HB2 hfx SE
        go_upto_region 4 with (fail)
        go_quiet ((go_at_call 82; exact SF.out _))
        have HU9 := Lib.hid (HU.out.drewN nq)
        clear HU SF q1 q2 q5
        go_wp2_with fail
        go_roundw
        case rel => exact ⟨(j : Int) - 1, rfl, by omega, by omega, Lib.hid (by rw [HJ.out]; exact HE.out), HU9⟩
        case measure => simp [intOf]
      | true =>
        rw [hfx] at SF
        cases heq : (x2 == y2) with
        | false =>
          have HE := Lib.hid (show bindF arS f k j = bindF arS f k k by rw [HB2.out, hfx, heq]; simp)
          clear HB2 hfx SE
          go_upto_region 4 with (fail)
          go_quiet ((go_at_call 82; exact SF.out _))
          have HU9 := Lib.hid (HU.out.drewN nq)
          clear HU SF q1 q2 q5
          go_wp2_with fail
          go_roundw
          case rel => exact ⟨(j : Int) - 1, rfl, by omega, by omega, Lib.hid (by rw [HJ.out]; exact HE.out), HU9⟩
          case measure => simp [intOf]
        | true =>
          by_cases hen : k < j + en
          · have HE := Lib.hid (show bindF arS f k k = (j : Int) by rw [HB2.out, hfx, heq, decide_eq_true hen]; rfl)
            have heni : (k : Int) < ((j + en : Nat) : Int) := by omega
            generalize ((j + en : Nat) : Int) = zz at *
            clear HB2 hfx hen
            go_upto_region 4 with (fail)
            go_quiet (first | (go_at_call 82; exact SF.out _) | (go_at_call 97; exact SE.out _))
            have HU9 := Lib.hid (HU.out.drewN nq)
            clear HU SF SE q1 q2 q5
            go_wp2_with fail
            go_ret
            exact ⟨by rw [HE.out]; rfl, HU9.out⟩
          · have hend := decide_eq_false hen
            have HE := Lib.hid (show bindF arS f k j = bindF arS f k k by rw [HB2.out, hfx, heq, hend]; simp)
            have heni : ¬ (k : Int) < ((j + en : Nat) : Int) := by omega
            generalize ((j + en : Nat) : Int) = zz at *
            clear HB2 hfx hen hend
            go_upto_region 4 with (fail)
            go_quiet (first | (go_at_call 82; exact SF.out _) | (go_at_call 97; exact SE.out _))
            have HU9 := Lib.hid (HU.out.drewN nq)
            clear HU SF SE q1 q2 q5
            go_wp2_with fail
            go_roundw
            case rel => exact ⟨(j : Int) - 1, rfl, by omega, by omega, Lib.hid (by rw [HJ.out]; exact HE.out), HU9⟩
            case measure => simp [intOf]

end Go.Proofs.YtghocakjhfflbaaGreatDoor

/-
  The reference's check of a formula's shape and of a whole formula: what the calls return.
-/
namespace Go.Proofs.YtghocakjhfflbaaGreatDoor
open Go.RowKit

set_option maxRecDepth 20000 in
set_option maxHeartbeats 4000000 in
theorem shapeCS (v : Value) (f : List Nd) (w : World) (fp : List Nat) (hR : R_F1 fp w [v] f) (hlen : f.length ≤ 2000000) (hl : ∀ n ∈ f, n.lb.length ≤ 2000000) :
    Calls Tryz.prog 81 #[v, .int .i64 30, .int .i64 8] w fun e w' => e = .returned (.bool (inB f.length 1 30 && shapeS 1 f)) ∧ Upd [] w w' := by
  obtain ⟨a, cap, rfl, h1, h2, hc⟩ := slF4_open hR
  unfold maxLen at h2
  have HC := Lib.hid hc
  have HL := Lib.hid hl
  clear hR hc hl
  by_cases hlt1 : f.length < 1
  · have HR := Lib.hid (show (inB (f.length : Int) 1 30 && shapeS 1 f) = false by rw [inB_no (by omega)]; rfl)
    have g1 : (f.length : Int) < 1 := by omega
    clear hlt1
    go_enter Tryz.func81, Tryz.ntmps81
    go_wp2_with fail
    go_ret
    exact ⟨by rw [HR.out]; rfl, Upd.refl _ _⟩
  · have g1 : ¬ (f.length : Int) < 1 := by omega
    by_cases hgt : 30 < f.length
    · have HR := Lib.hid (show (inB (f.length : Int) 1 30 && shapeS 1 f) = false by rw [inB_no (by omega)]; rfl)
      have g2 : (30 : Int) < (f.length : Int) := by omega
      clear hlt1 hgt
      go_enter Tryz.func81, Tryz.ntmps81
      go_wp2_with fail
      go_ret
      exact ⟨by rw [HR.out]; rfl, Upd.refl _ _⟩
    · have HR := Lib.hid (show (inB (f.length : Int) 1 30 && shapeS 1 f) = shapeS 1 f by rw [inB_mk (by omega)]; rfl)
      have g2 : ¬ (30 : Int) < (f.length : Int) := by omega
      clear hlt1 hgt
      go_enter Tryz.func81, Tryz.ntmps81
      go_wp2_with fail
      go_loopw [7, 8] (fun mv iv wr => ∃ (k : Nat) (m : Int), k ≤ f.length ∧ iv = .int .i64 k ∧ mv = .int .i64 m ∧ 0 ≤ m ∧ m ≤ 1 + 2 * k ∧ Hid (shapeS m (f.drop k) = shapeS 1 f) ∧ Hid (Upd [] w wr)) (fun _ iv _ => f.length - (intOf iv).toNat)
      case atStart => exact ⟨0, 1, Nat.zero_le _, rfl, rfl, by omega, by omega, Lib.hid rfl, Lib.hid (Upd.refl _ _)⟩
      case round =>
        obtain ⟨wo, rfl⟩ : ∃ wo : World, wo = wr := ⟨_, rfl⟩
        obtain ⟨k, m, hk, rfl, rfl, hm0, hm1, HS, HU⟩ := hrel
        by_cases hlt : k < f.length
        · obtain ⟨b1, o1, rfl, -, -, p1, p2, p3, p4⟩ := HC.out k hlt
          have q1 := HU.out.keep p1
          have q3 := HU.out.keep p3
          have q4 := HU.out.keep p4
          have hcl := HL.out f[k] (List.getElem_mem hlt)
          have hS := HS.out
          rw [List.drop_eq_getElem_cons hlt, shapeS] at hS
          have hkl : (k : Int) < (f.length : Int) := by omega
          have har := arS_in f[k].kd
          have S2 := Lib.hid (fun W : World => arityS f[k].kd W)
          have hff : fieldsF f[k] = if modF f[k].kd then patF f[k].lb else f[k].lb == [] && !f[k].nt := rfl
          rw [hff] at hS
          generalize hdd : f.drop (k + 1) = dd at *
          have HDD := Lib.hid hdd
          clear p1 p2 p3 p4 HS hff hdd
          generalize arS f[k].kd = ar at *
          generalize f[k] = x at *
          obtain ⟨x1, x2, x3, x4⟩ := x
          simp only at q1 q3 q4 S2 hS hcl
          have S1 := Lib.hid (fun W : World => l00In x1 0 8 W)
          have S3 := Lib.hid (fun W : World => patS x3 W hcl)
          by_cases hz : m = 0
          · rw [if_pos (Or.inl hz)] at hS
            have HZ := Lib.hid hS
            have bz : (m == 0) = true := by simpa using hz
            clear hS hz S1 S2 S3 har
            go_wp2_with fail
            go_ret
            exact ⟨by rw [HR.out, ← HZ.out]; rfl, HU.out⟩
          · have bz : (m == 0) = false := by simpa using hz
            cases hin : inB x1 0 8 with
            | false =>
              rw [if_pos (Or.inr hin)] at hS
              rw [hin] at S1
              have HZ := Lib.hid hS
              clear hS hz hin S2 S3 har
              go_wp2_with fail
              refine (S1.out _).mono ?_
              rintro e w1 ⟨rfl, rfl⟩
              clear S1
              go_wp2_with fail
              go_ret
              exact ⟨by rw [HR.out, ← HZ.out]; rfl, HU.out⟩
            | true =>
              rw [if_neg (by intro h; rcases h with h | h; exact hz h; rw [hin] at h; cases h)] at hS
              rw [hin] at S1
              have HZ := Lib.hid hS
              have hmz : m ≠ 0 := hz
              obtain ⟨m2, hm2⟩ : ∃ m2 : Int, m2 = m + ar - 1 := ⟨_, rfl⟩
              have hm3 : m + (ar - 1) = m2 := by omega
              rw [← hm2] at HZ
              have hm4 : 0 ≤ m2 := by omega
              have hm5 : m2 ≤ 1 + 2 * (k + 1) := by omega
              clear hS hz hin hm2
              go_wp2_with fail
              refine (S1.out _).mono ?_
              rintro e w1 ⟨rfl, rfl⟩
              clear S1
              go_wp2_with fail
              refine (S2.out _).mono ?_
              rintro e w1 ⟨rfl, rfl⟩
              clear S2
              go_upto_region 10 with (fail)
              go_cut [9] (fun s9 wx => s9 = .bool (modF x1) ∧ wx = wo)
              case first =>
                by_cases h4 : x1 = 4
                · have HM := Lib.hid (show modF x1 = true by rw [h4]; rfl)
                  have b4 : (x1 == 4) = true := by simpa using h4
                  clear h4
                  go_wp2_with fail
                  go_meet
                  exact ⟨by rw [HM.out], rfl⟩
                · have b4 : (x1 == 4) = false := by simpa using h4
                  have HM := Lib.hid (show modF x1 = (x1 == 5) by unfold modF; rw [b4]; rfl)
                  clear h4
                  generalize hq : (x1 == 5) = q at *
                  go_wp2_with fail
                  go_meet
                  exact ⟨by rw [HM.out], rfl⟩
              case rest =>
                obtain ⟨rfl, rfl⟩ := hcut
                cases hmod : modF x1 with
                | true =>
                  rw [hmod] at HZ
                  clear hmod
                  cases hp : patF x3 with
                  | false =>
                    rw [hp] at S3
                    have HY := Lib.hid (show shapeS 1 f = false by rw [← HZ.out, hp]; rfl)
                    clear HZ hp
                    go_wp2_with fail
                    refine (S3.out _).mono ?_
                    rintro e w2 ⟨rfl, hu2⟩
                    have HU2 := Lib.hid (HU.out.trans hu2)
                    clear S3 hu2
                    go_wp2_with fail
                    go_ret
                    exact ⟨by rw [HR.out, HY.out]; rfl, HU2.out⟩
                  | true =>
                    rw [hp] at S3
                    have HY := Lib.hid (show shapeS m2 dd = shapeS 1 f by rw [← HZ.out, hp]; rfl)
                    clear HZ hp
                    go_wp2_with fail
                    refine (S3.out _).mono ?_
                    rintro e w2 ⟨rfl, hu2⟩
                    have HU2 := Lib.hid (HU.out.trans hu2)
                    clear S3 hu2
                    go_wp2_with fail
                    go_roundw
                    case rel => exact ⟨k + 1, m2, by omega, by go_num, rfl, hm4, by omega, Lib.hid (by rw [HDD.out]; exact HY.out), HU2⟩
                    case measure => simp [intOf]; omega
                | false =>
                  rw [hmod] at HZ
                  clear hmod S3
                  by_cases h0 : x3 = []
                  · subst h0
                    cases x4 with
                    | true =>
                      have HY := Lib.hid (show shapeS 1 f = false by rw [← HZ.out]; rfl)
                      clear HZ
                      go_wp2_with fail
                      go_ret
                      exact ⟨by rw [HR.out, HY.out]; rfl, HU.out⟩
                    | false =>
                      have HY := Lib.hid (show shapeS m2 dd = shapeS 1 f by rw [← HZ.out]; rfl)
                      clear HZ
                      go_wp2_with fail
                      go_roundw
                      case rel => exact ⟨k + 1, m2, by omega, by go_num, rfl, hm4, by omega, Lib.hid (by rw [HDD.out]; exact HY.out), HU⟩
                      case measure => simp [intOf]; omega
                  · have b0 : (x3 == ([] : List UInt8)) = false := by simpa using h0
                    have b0' : (x3 != ([] : List UInt8)) = true := by simpa using h0
                    have HY := Lib.hid (show shapeS 1 f = false by rw [← HZ.out, b0]; rfl)
                    clear HZ h0
                    go_wp2_with fail
                    go_ret
                    exact ⟨by rw [HR.out, HY.out]; rfl, HU.out⟩
        · obtain rfl : k = f.length := by omega
          have HZ := Lib.hid (show (m == 0) = shapeS 1 f by rw [← HS.out, List.drop_length]; rfl)
          clear HS
          generalize hq : (m == 0) = q at *
          go_wp2_with fail
          go_ret
          exact ⟨by rw [HR.out, ← HZ.out]; rfl, HU.out⟩

end Go.Proofs.YtghocakjhfflbaaGreatDoor

/-
  The kind of an image and its contents, plainly.
-/
namespace Go.Proofs.YtghocakjhfflbaaGreatDoor
open Go.RowKit

end Go.Proofs.YtghocakjhfflbaaGreatDoor

/-
  The kind of an image, and the reader of its contents: what both sides' calls return.
-/
namespace Go.Proofs.YtghocakjhfflbaaGreatDoor
open Go.RowKit

end Go.Proofs.YtghocakjhfflbaaGreatDoor

/-
  The reader of the contents of a formula's image: what both sides' calls return.
-/
namespace Go.Proofs.YtghocakjhfflbaaGreatDoor
open Go.RowKit

end Go.Proofs.YtghocakjhfflbaaGreatDoor

/-
  Images of formulas read back, plainly.
-/
namespace Go.Proofs.YtghocakjhfflbaaGreatDoor
open Go.RowKit

end Go.Proofs.YtghocakjhfflbaaGreatDoor

/-
  The image of a formula: what the program's call returns.
-/
namespace Go.Proofs.YtghocakjhfflbaaGreatDoor
open Go.RowKit

/-- a node's four cells in a block of their own. -/
def NdAt (Q : Nat) (W : World) (n : Nd) : Prop := W.heap[Q]? = some (.cells #[ei n.kd, ei n.vr, es n.lb, .bool n.nt] 98 (0, 0))
theorem NdAt.upd {Q : Nat} {w w1 : World} {n : Nd} (h : NdAt Q w n) {f : List Nat} (hu : Upd f w w1) (hf : Q ∉ f) : NdAt Q w1 n := by
  unfold NdAt at *
  rw [hu.block Q (Array.getElem?_eq_some_iff.1 h).1 hf]; exact h
end Go.Proofs.YtghocakjhfflbaaGreatDoor

/-
  The reference's check of a whole formula, and its image: what the calls return.
-/
namespace Go.Proofs.YtghocakjhfflbaaGreatDoor
open Go.RowKit

theorem frmS_step (f : List Nd) (k : Nat) (h : k < f.length) : allF (ndkS f) k (f.length - k) = (ndkS f k && allF (ndkS f) (k + 1) (f.length - (k + 1))) := allF_step (ndkS f) k f.length h

set_option maxRecDepth 20000 in
set_option maxHeartbeats 4000000 in
theorem isFS (v : Value) (f : List Nd) (w : World) (fp : List Nat) (hR : R_F1 fp w [v] f) (hlen : f.length ≤ 2000000) (hl : ∀ n ∈ f, n.lb.length ≤ 2000000) :
    Calls Tryz.prog 60 #[v] w fun e w' => e = .returned (.bool (frmOk f)) ∧ Upd [] w w' := by
  rw [← frmOk_same]
  have HR := Lib.hid hR
  have S1 := Lib.hid (shapeCS v f w fp hR hlen hl)
  obtain ⟨a, cap, rfl, h1, h2, hc⟩ := slF4_open hR
  unfold maxLen at h2
  have HC := Lib.hid hc
  have HOK := Lib.hid (show frmOkS f = ((inB f.length 1 30 && shapeS 1 f) && allF (ndkS f) 0 f.length) from rfl)
  clear hR hc hl
  cases hsh : (inB (f.length : Int) 1 30 && shapeS 1 f) with
  | false =>
    rw [hsh] at S1
    have HF := Lib.hid (show frmOkS f = false by rw [HOK.out, hsh]; rfl)
    clear hsh HOK
    go_enter Tryz.func60, Tryz.ntmps60
    go_wp2_with fail
    refine S1.out.mono ?_
    rintro e w1 ⟨rfl, hu⟩
    have HU := Lib.hid hu
    clear S1 hu
    go_wp2_with fail
    go_ret
    exact ⟨by rw [HF.out]; rfl, HU.out⟩
  | true =>
    rw [hsh] at S1 HOK
    have HSH := Lib.hid (show shapeF arS 1 f = true from by
      simp only [Bool.and_eq_true] at hsh
      exact shapeS_ar f 1 hsh.2)
    have HF := Lib.hid (show frmOkS f = allF (ndkS f) 0 f.length by rw [HOK.out]; rfl)
    clear hsh HOK
    go_enter Tryz.func60, Tryz.ntmps60
    go_wp2_with fail
    refine S1.out.mono ?_
    rintro e w1 ⟨rfl, hu⟩
    have HU := Lib.hid hu
    clear S1 hu
    go_wp2_with fail
    go_loopw [3] (fun iv wr => ∃ k : Nat, k ≤ f.length ∧ iv = .int .i64 k ∧ Hid (allF (ndkS f) k (f.length - k) = frmOkS f) ∧ Hid (Upd [] w wr)) (fun iv _ => f.length - (intOf iv).toNat)
    case atStart => exact ⟨0, Nat.zero_le _, rfl, Lib.hid (by rw [HF.out]; rfl), HU⟩
    case round =>
      clear HU HF
      obtain ⟨wo, rfl⟩ : ∃ wo : World, wo = wr := ⟨_, rfl⟩
      obtain ⟨k, hk, rfl, HA, HU⟩ := hrel
      by_cases hlt : k < f.length
      · obtain ⟨b1, o1, rfl, -, -, p1, p2, -, -⟩ := HC.out k hlt
        have q1 := HU.out.keep p1
        have q2 := HU.out.keep p2
        have gk : f.getD k nd0 = f[k] := by rw [List.getD_eq_getElem?_getD, List.getElem?_eq_getElem hlt]; rfl
        have HN := Lib.hid (show frmOkS f = ((if fixF f[k].kd || f[k].kd == 6 then inB f[k].vr 0 2 else f[k].vr == 0) && !(f[k].kd == 6 && decide (bindF arS f k k < 0)) && allF (ndkS f) (k + 1) (f.length - (k + 1))) by
          rw [← HA.out, frmS_step f k hlt]
          unfold ndkS varP boundF
          rw [gk])
        have SB := Lib.hid (bindS _ f k wo fp (R_F1k.upd HR.out HU.out (by simp)) hlen hlt HSH.out)
        have SF := Lib.hid (fixS b1 (o1 + k * 4) f[k].kd wo q1)
        have hkl : (k : Int) < (f.length : Int) := by omega
        have H67 := Lib.hid (show fixF f[k].kd = true → (f[k].kd == 6) = false from fun h => by
          unfold fixF at h
          simp at h
          simp; omega)
        clear p1 p2 HA gk
        generalize bindF arS f k k = B at *
        generalize f[k].kd = x1 at *
        generalize f[k].vr = x2 at *
        have SW := Lib.hid (fun W : World => l00In x2 0 2 W)
        cases hfx : fixF x1 with
        | true =>
          rw [hfx] at SF HN
          have b6 := H67.out hfx
          have HN2 := Lib.hid (show frmOkS f = (inB x2 0 2 && allF (ndkS f) (k + 1) (f.length - (k + 1))) by rw [HN.out, b6]; simp)
          clear HN hfx H67 SB
          cases hin : inB x2 0 2 with
          | false =>
            rw [hin] at SW
            have HZ := Lib.hid (show frmOkS f = false by rw [HN2.out, hin]; rfl)
            clear HN2 hin
            go_wp2_with fail
            refine SF.out.mono ?_
            rintro e w1 ⟨rfl, rfl⟩
            clear SF
            go_wp2_with fail
            refine (SW.out _).mono ?_
            rintro e w1 ⟨rfl, rfl⟩
            clear SW
            go_wp2_with fail
            go_ret
            exact ⟨by rw [HZ.out]; rfl, HU.out⟩
          | true =>
            rw [hin] at SW
            have HZ := Lib.hid (show allF (ndkS f) (k + 1) (f.length - (k + 1)) = frmOkS f by rw [HN2.out, hin]; rfl)
            clear HN2 hin
            go_wp2_with fail
            refine SF.out.mono ?_
            rintro e w1 ⟨rfl, rfl⟩
            clear SF
            go_wp2_with fail
            refine (SW.out _).mono ?_
            rintro e w1 ⟨rfl, rfl⟩
            clear SW
            go_wp2_with fail
            go_roundw
            case rel => exact ⟨k + 1, by omega, by go_num, HZ, HU⟩
            case measure => simp [intOf]; omega
        | false =>
          rw [hfx] at SF HN
          clear hfx H67
          by_cases h6 : x1 = 6
          · have b6 : (x1 == 6) = true := by simpa using h6
            have HN2 := Lib.hid (show frmOkS f = (inB x2 0 2 && !decide (B < 0) && allF (ndkS f) (k + 1) (f.length - (k + 1))) by rw [HN.out, b6]; simp)
            clear HN h6
            cases hin : inB x2 0 2 with
            | false =>
              rw [hin] at SW
              have HZ := Lib.hid (show frmOkS f = false by rw [HN2.out, hin]; rfl)
              clear HN2 hin SB
              go_wp2_with fail
              refine SF.out.mono ?_
              rintro e w1 ⟨rfl, rfl⟩
              clear SF
              go_wp2_with fail
              refine (SW.out _).mono ?_
              rintro e w1 ⟨rfl, rfl⟩
              clear SW
              go_wp2_with fail
              go_ret
              exact ⟨by rw [HZ.out]; rfl, HU.out⟩
            | true =>
              rw [hin] at SW
              by_cases hB : B < 0
              · have HZ := Lib.hid (show frmOkS f = false by rw [HN2.out, hin, decide_eq_true hB]; rfl)
                clear HN2 hin
                go_wp2_with fail
                refine SF.out.mono ?_
                rintro e w1 ⟨rfl, rfl⟩
                clear SF
                go_wp2_with fail
                refine (SW.out _).mono ?_
                rintro e w1 ⟨rfl, rfl⟩
                clear SW
                go_wp2_with fail
                refine SB.out.mono ?_
                rintro e w1 ⟨rfl, hu1⟩
                have HU1 := Lib.hid (HU.out.trans hu1)
                clear SB hu1
                go_wp2_with fail
                go_ret
                exact ⟨by rw [HZ.out]; rfl, HU1.out⟩
              · have HZ := Lib.hid (show allF (ndkS f) (k + 1) (f.length - (k + 1)) = frmOkS f by rw [HN2.out, hin, decide_eq_false hB]; rfl)
                clear HN2 hin
                go_wp2_with fail
                refine SF.out.mono ?_
                rintro e w1 ⟨rfl, rfl⟩
                clear SF
                go_wp2_with fail
                refine (SW.out _).mono ?_
                rintro e w1 ⟨rfl, rfl⟩
                clear SW
                go_wp2_with fail
                refine SB.out.mono ?_
                rintro e w1 ⟨rfl, hu1⟩
                have HU1 := Lib.hid (HU.out.trans hu1)
                clear SB hu1
                go_wp2_with fail
                go_roundw
                case rel => exact ⟨k + 1, by omega, by go_num, HZ, HU1⟩
                case measure => simp [intOf]; omega
          · have b6 : (x1 == 6) = false := by simpa using h6
            have HN2 := Lib.hid (show frmOkS f = ((x2 == 0) && allF (ndkS f) (k + 1) (f.length - (k + 1))) by rw [HN.out, b6]; simp)
            clear HN h6 SB SW
            by_cases h0 : x2 = 0
            · have b0 : (x2 != 0) = false := by simpa using h0
              have HZ := Lib.hid (show allF (ndkS f) (k + 1) (f.length - (k + 1)) = frmOkS f by rw [HN2.out, h0]; rfl)
              clear HN2 h0
              go_wp2_with fail
              refine SF.out.mono ?_
              rintro e w1 ⟨rfl, rfl⟩
              clear SF
              go_wp2_with fail
              go_roundw
              case rel => exact ⟨k + 1, by omega, by go_num, HZ, HU⟩
              case measure => simp [intOf]; omega
            · have b0 : (x2 != 0) = true := by simpa using h0
              have HZ := Lib.hid (show frmOkS f = false by rw [HN2.out, beq_eq_false_iff_ne.2 h0]; rfl)
              clear HN2 h0
              go_wp2_with fail
              refine SF.out.mono ?_
              rintro e w1 ⟨rfl, rfl⟩
              clear SF
              go_wp2_with fail
              go_ret
              exact ⟨by rw [HZ.out]; rfl, HU.out⟩
      · obtain rfl : k = f.length := by omega
        have HZ := Lib.hid (show frmOkS f = true by rw [← HA.out]; exact allF_end _ _)
        clear HA
        go_wp2_with fail
        go_ret
        exact ⟨by rw [HZ.out]; rfl, HU.out⟩

end Go.Proofs.YtghocakjhfflbaaGreatDoor

/-
  Claims: what the reference's checks return.
-/
namespace Go.Proofs.YtghocakjhfflbaaGreatDoor
open Go.RowKit

set_option maxRecDepth 20000 in
set_option maxHeartbeats 1000000 in
theorem twoS (k : Int) (w : World) : Calls Tryz.prog 34 #[.int .i64 k] w fun e w' => e = .returned (.bool (decide (k ≤ 3))) ∧ w = w' := by
  go_enter Tryz.func34, Tryz.ntmps34
  go_wp2_with fail
  go_ret
  exact ⟨rfl, rfl⟩

set_option maxRecDepth 20000 in
set_option maxHeartbeats 1000000 in
theorem formulaS (k : Int) (w : World) : Calls Tryz.prog 59 #[.int .i64 k] w fun e w' => e = .returned (.bool (inB k 3 5)) ∧ w = w' := by
  by_cases h3 : k = 3
  · subst h3
    go_enter Tryz.func59, Tryz.ntmps59
    go_wp2_with fail
    go_ret
    exact ⟨rfl, rfl⟩
  · have e3 : (k == 3) = false := by simpa using h3
    by_cases h4 : k = 4
    · subst h4
      go_enter Tryz.func59, Tryz.ntmps59
      go_wp2_with fail
      go_ret
      exact ⟨rfl, rfl⟩
    · have e4 : (k == 4) = false := by simpa using h4
      have HB := Lib.hid (show inB k 3 5 = (k == 5) by
        unfold inB
        by_cases h5 : k = 5
        · subst h5; rfl
        · have e5 : (k == 5) = false := by simpa using h5
          rw [e5]
          by_cases a : (3 : Int) ≤ k
          · rw [decide_eq_false (show ¬ k ≤ 5 by omega), Bool.and_false]
          · rw [decide_eq_false a, Bool.false_and])
      clear h3 h4
      go_enter Tryz.func59, Tryz.ntmps59
      go_wp2_with fail
      go_ret
      exact ⟨by rw [HB.out]; rfl, rfl⟩

set_option maxRecDepth 20000 in
set_option maxHeartbeats 8000000 in
theorem claimS (Q P o n : Nat) (a1 : Option Addr) (c1 : Nat) (c : Cl) (v4 : Value) (w : World) (f4 : List Nat) (x1 : w.cell? ⟨Q, 1, none⟩ = some (.slice a1 n c1))
    (y0 : w.cell? ⟨P, o, none⟩ = some (ei c.kind)) (y1 : w.cell? ⟨P, o + 1, none⟩ = some (ei c.left)) (y2 : w.cell? ⟨P, o + 2, none⟩ = some (ei c.right)) (y4 : w.cell? ⟨P, o + 4, none⟩ = some v4)
    (h4 : R_F1 f4 w [v4] c.form) (hF : ClFit c) (hn : n ≤ 1000000) :
    Calls Tryz.prog 32 #[.pointer (some ⟨Q, 0, none⟩), .pointer (some ⟨P, o, none⟩)] w fun e w' => e = .returned (.bool (clOk n c)) ∧ Upd [] w w' := by
  have h4' := h4
  obtain ⟨a4, c4, rfl, l4, m4, -⟩ := slF4_open h4
  unfold maxLen at m4
  have S1 := Lib.hid (l00In c.kind 0 7 w)
  have S2 := Lib.hid (l00In c.left 0 ((n : Int) - 1) w)
  have S3 := Lib.hid (l00In c.right 0 ((n : Int) - 1) w)
  have T4 := Lib.hid (twoS c.kind w)
  have T6 := Lib.hid (isFS _ c.form w f4 h4' hF.1 hF.2)
  have HM := Lib.hid (show clOk n c = (inB c.kind 0 7 && inB c.left 0 ((n : Int) - 1) && inB c.right 0 ((n : Int) - 1) && (decide (c.kind ≤ 3) || c.right == 0) && (if inB c.kind 3 5 then frmOk c.form else decide (c.form.length = 0))) from rfl)
  have iw : IntKind.i64.wrap ((n : Int) - 1) = (n : Int) - 1 := IntWalk.i64_in _ (by omega)
  clear h4 h4' hF
  generalize clOk n c = Z at *
  obtain ⟨kind, left, right, pairs, form⟩ := c
  simp only at *
  obtain ⟨qa, hqa⟩ : ∃ q, inB kind 0 7 = q := ⟨_, rfl⟩
  obtain ⟨ql, hql⟩ : ∃ q, inB left 0 ((n : Int) - 1) = q := ⟨_, rfl⟩
  obtain ⟨qr, hqr⟩ : ∃ q, inB right 0 ((n : Int) - 1) = q := ⟨_, rfl⟩
  obtain ⟨qf, hqf⟩ : ∃ q, inB kind 3 5 = q := ⟨_, rfl⟩
  obtain ⟨qu, hqu⟩ : ∃ q, decide (kind ≤ 3) = q := ⟨_, rfl⟩
  obtain ⟨qz, hqz⟩ : ∃ q, (right == 0) = q := ⟨_, rfl⟩
  obtain ⟨q0, hq0⟩ : ∃ q, decide (form.length = 0) = q := ⟨_, rfl⟩
  have hnz : (right != 0) = !qz := by rw [← hqz]; rfl
  have hq9 : ((form.length : Int) == 0) = q0 := by
    rw [← hq0]
    by_cases e : form.length = 0
    · rw [e]; rfl
    · rw [decide_eq_false e, beq_eq_false_iff_ne]; omega
  rw [hqa] at S1 HM
  rw [hql] at S2 HM
  rw [hqr] at S3 HM
  rw [hqu] at T4 HM
  rw [hqz, hqf, hq0] at HM
  clear hqa hql hqr hqu hqz hq0
  go_enter Tryz.func32, Tryz.ntmps32
  go_wp2_with fail
  refine S1.out.mono ?_
  rintro e w1 ⟨rfl, rfl⟩
  clear S1
  cases qa with
  | false =>
    have HZ := Lib.hid (show Z = false by rw [HM.out]; simp)
    clear HM T6
    go_wp2_with fail
    go_ret
    exact ⟨by rw [HZ.out]; rfl, Upd.refl _ _⟩
  | true =>
    go_wp2_with fail
    refine S2.out.mono ?_
    rintro e w1 ⟨rfl, rfl⟩
    clear S2
    cases ql with
    | false =>
      have HZ := Lib.hid (show Z = false by rw [HM.out]; simp)
      clear HM T6
      go_wp2_with fail
      go_ret
      exact ⟨by rw [HZ.out]; rfl, Upd.refl _ _⟩
    | true =>
      go_wp2_with fail
      refine S3.out.mono ?_
      rintro e w1 ⟨rfl, rfl⟩
      clear S3
      cases qr with
      | false =>
        have HZ := Lib.hid (show Z = false by rw [HM.out]; simp)
        clear HM T6
        go_wp2_with fail
        go_ret
        exact ⟨by rw [HZ.out]; rfl, Upd.refl _ _⟩
      | true =>
        go_wp2_with fail
        refine T4.out.mono ?_
        rintro e w2 ⟨rfl, rfl⟩
        clear T4
        cases qu with
        | true =>
          have T5 := Lib.hid (formulaS kind w)
          go_wp2_with fail
          refine T5.out.mono ?_
          rintro e w3 ⟨rfl, rfl⟩
          clear T5
          rw [hqf]
          cases qf with
          | true =>
            have HZ := Lib.hid (show Z = frmOk form by rw [HM.out]; simp)
            clear HM y0 y1 y2 x1
            go_wp2_with fail
            refine T6.out.mono ?_
            rintro e w4 ⟨rfl, hu4⟩
            have HU4 := Lib.hid hu4
            clear T6 hu4 y4
            go_wp2_with fail
            go_ret
            exact ⟨by rw [HZ.out]; rfl, HU4.out⟩
          | false =>
            have HZ := Lib.hid (show Z = q0 by rw [HM.out]; simp)
            clear HM T6
            go_wp2_with fail
            go_ret
            exact ⟨by rw [HZ.out]; first | rfl | simp [hq9], Upd.refl _ _⟩
        | false =>
          cases qz with
          | true =>
            have T5 := Lib.hid (formulaS kind w)
            go_wp2_with fail
            refine T5.out.mono ?_
            rintro e w3 ⟨rfl, rfl⟩
            clear T5
            rw [hqf]
            cases qf with
            | true =>
              have HZ := Lib.hid (show Z = frmOk form by rw [HM.out]; simp)
              clear HM y0 y1 y2 x1
              go_wp2_with fail
              refine T6.out.mono ?_
              rintro e w4 ⟨rfl, hu4⟩
              have HU4 := Lib.hid hu4
              clear T6 hu4 y4
              go_wp2_with fail
              go_ret
              exact ⟨by rw [HZ.out]; rfl, HU4.out⟩
            | false =>
              have HZ := Lib.hid (show Z = q0 by rw [HM.out]; simp)
              clear HM T6
              go_wp2_with fail
              go_ret
              exact ⟨by rw [HZ.out]; first | rfl | simp [hq9], Upd.refl _ _⟩
          | false =>
            have HZ := Lib.hid (show Z = false by rw [HM.out]; simp)
            clear HM T6
            go_wp2_with fail
            go_ret
            exact ⟨by rw [HZ.out]; rfl, Upd.refl _ _⟩

end Go.Proofs.YtghocakjhfflbaaGreatDoor

/-
  Labels in order: what the reference's call returns.
-/
namespace Go.Proofs.YtghocakjhfflbaaGreatDoor
open Go.RowKit

theorem isLab_tau : isLab tauL = true := by
  unfold isLab; rw [readF_labT (name := tauL) (vs := []) (by simp [labT])]; rfl

set_option maxRecDepth 20000 in
set_option maxHeartbeats 4000000 in
theorem namesS (labs : List (List UInt8)) (v : Value) (w : World) (fp : List Nat) (hR : RS fp w [v] labs) (hp : ∀ p ∈ labs, p.length ≤ 2000000) :
    Calls Tryz.prog 79 #[v] w fun e w' => e = .returned (.bool (labsOk labs)) ∧ Upd [] w w' := by
  have HLO := Lib.hid (show labsOk labs = (decide (1 ≤ labs.length) && decide (labs.length ≤ 12) && allF (labP labs) 0 labs.length) from rfl)
  have HR1 := Lib.hid hR
  have HP := Lib.hid hp
  obtain ⟨a1, c1, rfl, hl1, hm1, hc⟩ := slF1_open hR
  unfold maxLen at hm1
  clear hR hp
  by_cases h0 : labs.length = 0
  · have HF := Lib.hid (show labsOk labs = false by rw [HLO.out, h0]; rfl)
    clear HLO HR1 hc HP
    rw [h0]
    go_enter Tryz.func79, Tryz.ntmps79
    go_wp2_with fail
    go_ret
    exact ⟨by rw [HF.out]; rfl, Upd.refl _ _⟩
  · have h0b : ((labs.length : Int) == 0) = false := beq_eq_false_iff_ne.2 (by omega)
    have h0c : ¬ (labs.length : Int) = 0 := by omega
    by_cases h12 : 12 < labs.length
    · have HF := Lib.hid (show labsOk labs = false by rw [HLO.out, decide_eq_false (show ¬ labs.length ≤ 12 by omega)]; simp)
      have h12i : (12 : Int) < (labs.length : Int) := by omega
      clear HLO HR1 hc HP
      go_enter Tryz.func79, Tryz.ntmps79
      go_wp2_with fail
      go_ret
      exact ⟨by rw [HF.out]; rfl, Upd.refl _ _⟩
    · have HLO2 := Lib.hid (show labsOk labs = allF (labP labs) 0 labs.length by rw [HLO.out, decide_eq_true (show labs.length ≤ 12 by omega), decide_eq_true (show 1 ≤ labs.length by omega)]; simp)
      have h12i : ¬ (12 : Int) < (labs.length : Int) := by omega
      have hpos : 0 < labs.length := by omega
      have hposi : (0 : Int) < (labs.length : Int) := by omega
      obtain ⟨b1, o1, rfl, -, -, p0⟩ := hc 0 hpos
      rw [Nat.add_zero] at p0
      have HA0 := Lib.hid (allF_step (labP labs) 0 labs.length hpos)
      have HLP0 := Lib.hid (labP_at labs 0 hpos)
      generalize labs[0] = s0 at *
      clear HLO hc h0
      by_cases ht0 : s0 = tauL
      · have HA := Lib.hid (show allF (labP labs) 1 (labs.length - 1) = allF (labP labs) 0 labs.length by
          have := HA0.out
          rw [HLP0.out, ht0, isLab_tau] at this
          rw [Nat.sub_zero] at this
          rw [this]; simp)
        have g1 : (s0 == [116, 97, 117]) = true := by simpa [tauL] using ht0
        have g1n : (s0 != [116, 97, 117]) = false := by simp [bne, g1]
        clear HA0 HLP0 ht0
        go_enter Tryz.func79, Tryz.ntmps79
        go_wp2_with fail
        go_loopw [3] (fun iv wr => ∃ k : Nat, 1 ≤ k ∧ k ≤ labs.length ∧ iv = .int .i64 k ∧ Hid (allF (labP labs) k (labs.length - k) = allF (labP labs) 0 labs.length) ∧ Upd [] w wr) (fun iv _ => labs.length - (intOf iv).toNat)
        case atStart => exact ⟨1, Nat.le_refl _, hpos, rfl, HA, Upd.refl _ _⟩
        case round =>
          clear HA
          obtain ⟨k, hk1, hk, rfl, HA, hU⟩ := hrel
          by_cases hlt : k < labs.length
          · obtain ⟨a', c', hv, -, -, hc⟩ := slF1_open (RSk.upd HR1.out hU (by simp))
            cases hv
            obtain ⟨b2, o2, hv2, -, -, x0⟩ := hc k hlt
            cases hv2
            obtain ⟨b2, o2, hv2, -, -, q0⟩ := hc (k - 1) (by omega)
            cases hv2
            have HA2 := Lib.hid (HA.out.symm.trans (allF_step (labP labs) k labs.length hlt))
            have HLP := Lib.hid (labP_at labs k hlt)
            have hpv : labs.getD (k - 1) [] = labs[k - 1] := by rw [List.getD_eq_getElem?_getD, List.getElem?_eq_getElem (by omega)]; rfl
            rw [← hpv] at q0
            have SL := Lib.hid (fun W => labelS labs[k] W (HP.out labs[k] (List.getElem_mem hlt)))
            generalize labs.getD (k - 1) [] = pv at *
            generalize labs[k] = s at *
            have HU := Lib.hid hU
            have k0 : decide (k = 0) = false := decide_eq_false (by omega)
            rw [k0] at HLP
            clear hc HA hU hpv k0 p0
            cases hls : isLab s with
            | false =>
              have HRR := Lib.hid (show labsOk labs = false by rw [HLO2.out, HA2.out, HLP.out, hls]; rfl)
              rw [hls] at SL
              clear HLO2 HA2 HLP hls
              go_wp2_with fail
              refine wp_region_held_drew (S := fun w' => w'.cell? ⟨b1, o1 + k, none⟩ = some (es s) ∧ w'.cell? ⟨b1, o1 + (k - 1), none⟩ = some (es pv)) (by kernel_rfl) ?_ (fun hHeld => ?_)
              · exact ⟨x0, q0⟩
              refine wpAnyH_take (i := 0) (v := ?_) rfl (by kernel_rfl) (by kernel_rfl) (by kernel_rfl) (fun _ _ _ h => h) (Or.inl ⟨by rfl, ?_⟩) (by assumption) ?_
              rotate_left
              · (intro w hSw; (try dsimp only at hSw); go_simp)
                first | done | with_reducible rfl
              simp only [Act.put, List.getElem_toArray, List.getElem_cons_zero, List.setIfInBounds_toArray, List.set_cons_zero, List.set_cons_succ]
              refine wpAnyH_take (i := 1) (v := ?_) rfl (by kernel_rfl) (by kernel_rfl) (by kernel_rfl) (fun _ _ _ h => h) (Or.inl ⟨by rfl, ?_⟩) (by assumption) ?_
              rotate_left
              · (intro w hSw; (try dsimp only at hSw); go_simp)
                first | done | with_reducible rfl
              simp only [Act.put, List.getElem_toArray, List.getElem_cons_zero, List.getElem_cons_succ, List.setIfInBounds_toArray, List.set_cons_zero, List.set_cons_succ]
              refine wpAnyH_take (i := 2) (v := ?_) rfl (by kernel_rfl) (by kernel_rfl) (by kernel_rfl) (fun _ _ _ h => h) (Or.inl ⟨by rfl, ?_⟩) (by assumption) ?_
              rotate_left
              · (intro w hSw; (try dsimp only at hSw); go_simp)
                first | done | with_reducible rfl
              simp only [Act.put, List.getElem_toArray, List.getElem_cons_zero, List.getElem_cons_succ, List.setIfInBounds_toArray, List.set_cons_zero, List.set_cons_succ]
              refine wpAnyH_take (i := 3) (v := ?_) rfl (by kernel_rfl) (by kernel_rfl) (by kernel_rfl) (fun _ _ _ h => h) (Or.inl ⟨by rfl, ?_⟩) (by assumption) ?_
              rotate_left
              · (intro w hSw; (try dsimp only at hSw); go_simp)
                first | done | with_reducible rfl
              simp only [Act.put, List.getElem_toArray, List.getElem_cons_zero, List.getElem_cons_succ, List.setIfInBounds_toArray, List.set_cons_zero, List.set_cons_succ]
              refine wpAnyH_ready (rs := [4]) (by kernel_rfl) (by simp) ?_
              refine AllReadyH.cons rfl (fun K hK => ?_) AllReadyH.nil
              go_simp
              refine (SL.out _).mono ?_
              rintro e w4 ⟨rfl, hu1⟩
              refine hK.out _ _ ?_ (fun hHeld => ?_)
              · exact ⟨hu1.keep hHeld.1, hu1.keep hHeld.2⟩
              clear hK K
              try simp only [Act.put, List.getElem_toArray, List.getElem_cons_zero, List.getElem_cons_succ, List.setIfInBounds_toArray, List.set_cons_zero, List.set_cons_succ]
              refine wpAnyH_take (i := 5) (v := ?_) rfl (by kernel_rfl) (by kernel_rfl) (by kernel_rfl) (fun _ _ _ h => h) (Or.inl ⟨by rfl, ?_⟩) (by assumption) ?_
              rotate_left
              · (intro w hSw; (try dsimp only at hSw); go_simp)
                first | done | with_reducible rfl
              simp only [Act.put, List.getElem_toArray, List.getElem_cons_zero, List.getElem_cons_succ, List.setIfInBounds_toArray, List.set_cons_zero, List.set_cons_succ]
              refine wpAnyH_take (i := 6) (v := ?_) rfl (by kernel_rfl) (by kernel_rfl) (by kernel_rfl) (fun _ _ _ h => h) (Or.inl ⟨by rfl, ?_⟩) (by assumption) ?_
              rotate_left
              · (intro w hSw; (try dsimp only at hSw); go_simp)
                first | done | with_reducible rfl
              simp only [Act.put, List.getElem_toArray, List.getElem_cons_zero, List.getElem_cons_succ, List.setIfInBounds_toArray, List.set_cons_zero, List.set_cons_succ]
              refine wpAnyH_take (i := 7) rfl (by kernel_rfl) (by kernel_rfl) (by kernel_rfl) (fun _ _ _ h => h) (Or.inr ⟨by rfl, rfl⟩) (by assumption) ?_
              simp only [Act.put, List.getElem_toArray, List.getElem_cons_zero, List.getElem_cons_succ, List.setIfInBounds_toArray, List.set_cons_zero, List.set_cons_succ]
              refine wpAnyH_take (i := 8) rfl (by kernel_rfl) (by kernel_rfl) (by kernel_rfl) (fun _ _ _ h => h) (Or.inr ⟨by rfl, rfl⟩) (by assumption) ?_
              simp only [Act.put, List.getElem_toArray, List.getElem_cons_zero, List.getElem_cons_succ, List.setIfInBounds_toArray, List.set_cons_zero, List.set_cons_succ]
              refine wpAnyH_take (i := 9) rfl (by kernel_rfl) (by kernel_rfl) (by kernel_rfl) (fun _ _ _ h => h) (Or.inr ⟨by rfl, rfl⟩) (by assumption) ?_
              simp only [Act.put, List.getElem_toArray, List.getElem_cons_zero, List.getElem_cons_succ, List.setIfInBounds_toArray, List.set_cons_zero, List.set_cons_succ]
              refine wpAnyH_take (i := 10) rfl (by kernel_rfl) (by kernel_rfl) (by kernel_rfl) (fun _ _ _ h => h) (Or.inr ⟨by rfl, rfl⟩) (by assumption) ?_
              simp only [Act.put, List.getElem_toArray, List.getElem_cons_zero, List.getElem_cons_succ, List.setIfInBounds_toArray, List.set_cons_zero, List.set_cons_succ]
              refine wpAnyH_take (i := 11) rfl (by kernel_rfl) (by kernel_rfl) (by kernel_rfl) (fun _ _ _ h => h) (Or.inr ⟨by rfl, rfl⟩) (by assumption) ?_
              simp only [Act.put, List.getElem_toArray, List.getElem_cons_zero, List.getElem_cons_succ, List.setIfInBounds_toArray, List.set_cons_zero, List.set_cons_succ]
              refine wpAnyH_take (i := 12) (v := ?_) rfl (by kernel_rfl) (by kernel_rfl) (by kernel_rfl) (fun _ _ _ h => h) (Or.inl ⟨by rfl, ?_⟩) (by assumption) ?_
              rotate_left
              · (intro w hSw; (try dsimp only at hSw); go_simp)
                first | done | with_reducible rfl
              simp only [Act.put, List.getElem_toArray, List.getElem_cons_zero, List.getElem_cons_succ, List.setIfInBounds_toArray, List.set_cons_zero, List.set_cons_succ]
              refine wpAnyH_take (i := 13) (v := ?_) rfl (by kernel_rfl) (by kernel_rfl) (by kernel_rfl) (fun _ _ _ h => h) (Or.inl ⟨by rfl, ?_⟩) (by assumption) ?_
              rotate_left
              · (intro w hSw; (try dsimp only at hSw); go_simp)
                first | done | with_reducible rfl
              simp only [Act.put, List.getElem_toArray, List.getElem_cons_zero, List.getElem_cons_succ, List.setIfInBounds_toArray, List.set_cons_zero, List.set_cons_succ]
              refine wpAnyH_take (i := 14) rfl (by kernel_rfl) (by kernel_rfl) (by kernel_rfl) (fun _ _ _ h => h) (Or.inr ⟨by rfl, rfl⟩) (by assumption) ?_
              simp only [Act.put, List.getElem_toArray, List.getElem_cons_zero, List.getElem_cons_succ, List.setIfInBounds_toArray, List.set_cons_zero, List.set_cons_succ]
              refine wpAnyH_take (i := 15) rfl (by kernel_rfl) (by kernel_rfl) (by kernel_rfl) (fun _ _ _ h => h) (Or.inr ⟨by rfl, rfl⟩) (by assumption) ?_
              simp only [Act.put, List.getElem_toArray, List.getElem_cons_zero, List.getElem_cons_succ, List.setIfInBounds_toArray, List.set_cons_zero, List.set_cons_succ]
              refine wpAnyH_take (i := 16) rfl (by kernel_rfl) (by kernel_rfl) (by kernel_rfl) (fun _ _ _ h => h) (Or.inr ⟨by rfl, rfl⟩) (by assumption) ?_
              simp only [Act.put, List.getElem_toArray, List.getElem_cons_zero, List.getElem_cons_succ, List.setIfInBounds_toArray, List.set_cons_zero, List.set_cons_succ]
              refine wpAnyH_take (i := 17) rfl (by kernel_rfl) (by kernel_rfl) (by kernel_rfl) (fun _ _ _ h => h) (Or.inr ⟨by rfl, rfl⟩) (by assumption) ?_
              simp only [Act.put, List.getElem_toArray, List.getElem_cons_zero, List.getElem_cons_succ, List.setIfInBounds_toArray, List.set_cons_zero, List.set_cons_succ]
              refine wpAnyH_take (i := 18) rfl (by kernel_rfl) (by kernel_rfl) (by kernel_rfl) (fun _ _ _ h => h) (Or.inr ⟨by rfl, rfl⟩) (by assumption) ?_
              simp only [Act.put, List.getElem_toArray, List.getElem_cons_zero, List.getElem_cons_succ, List.setIfInBounds_toArray, List.set_cons_zero, List.set_cons_succ]
              refine wpAnyH_take (i := 19) rfl (by kernel_rfl) (by kernel_rfl) (by kernel_rfl) (fun _ _ _ h => h) (Or.inr ⟨by rfl, rfl⟩) (by assumption) ?_
              simp only [Act.put, List.getElem_toArray, List.getElem_cons_zero, List.getElem_cons_succ, List.setIfInBounds_toArray, List.set_cons_zero, List.set_cons_succ]
              refine wpAnyH_take (i := 20) rfl (by kernel_rfl) (by kernel_rfl) (by kernel_rfl) (fun _ _ _ h => h) (Or.inr ⟨by rfl, rfl⟩) (by assumption) ?_
              simp only [Act.put, List.getElem_toArray, List.getElem_cons_zero, List.getElem_cons_succ, List.setIfInBounds_toArray, List.set_cons_zero, List.set_cons_succ]
              refine wpAnyH_take (i := 21) rfl (by kernel_rfl) (by kernel_rfl) (by kernel_rfl) (fun _ _ _ h => h) (Or.inr ⟨by rfl, rfl⟩) (by assumption) ?_
              simp only [Act.put, List.getElem_toArray, List.getElem_cons_zero, List.getElem_cons_succ, List.setIfInBounds_toArray, List.set_cons_zero, List.set_cons_succ]
              refine wpAnyH_take (i := 22) rfl (by kernel_rfl) (by kernel_rfl) (by kernel_rfl) (fun _ _ _ h => h) (Or.inr ⟨by rfl, rfl⟩) (by assumption) ?_
              simp only [Act.put, List.getElem_toArray, List.getElem_cons_zero, List.getElem_cons_succ, List.setIfInBounds_toArray, List.set_cons_zero, List.set_cons_succ]
              refine wpAnyH_take (i := 23) rfl (by kernel_rfl) (by kernel_rfl) (by kernel_rfl) (fun _ _ _ h => h) (Or.inr ⟨by rfl, rfl⟩) (by assumption) ?_
              simp only [Act.put, List.getElem_toArray, List.getElem_cons_zero, List.getElem_cons_succ, List.setIfInBounds_toArray, List.set_cons_zero, List.set_cons_succ]
              refine wpAnyH_take (i := 24) rfl (by kernel_rfl) (by kernel_rfl) (by kernel_rfl) (fun _ _ _ h => h) (Or.inr ⟨by rfl, rfl⟩) (by assumption) ?_
              simp only [Act.put, List.getElem_toArray, List.getElem_cons_zero, List.getElem_cons_succ, List.setIfInBounds_toArray, List.set_cons_zero, List.set_cons_succ]
              refine wpAnyH_take (i := 25) rfl (by kernel_rfl) (by kernel_rfl) (by kernel_rfl) (fun _ _ _ h => h) (Or.inr ⟨by rfl, rfl⟩) (by assumption) ?_
              simp only [Act.put, List.getElem_toArray, List.getElem_cons_zero, List.getElem_cons_succ, List.setIfInBounds_toArray, List.set_cons_zero, List.set_cons_succ]
              refine wpAnyH_take (i := 26) rfl (by kernel_rfl) (by kernel_rfl) (by kernel_rfl) (fun _ _ _ h => h) (Or.inr ⟨by rfl, rfl⟩) (by assumption) ?_
              simp only [Act.put, List.getElem_toArray, List.getElem_cons_zero, List.getElem_cons_succ, List.setIfInBounds_toArray, List.set_cons_zero, List.set_cons_succ]
              refine wpAnyH_take (i := 27) rfl (by kernel_rfl) (by kernel_rfl) (by kernel_rfl) (fun _ _ _ h => h) (Or.inr ⟨by rfl, rfl⟩) (by assumption) ?_
              simp only [Act.put, List.getElem_toArray, List.getElem_cons_zero, List.getElem_cons_succ, List.setIfInBounds_toArray, List.set_cons_zero, List.set_cons_succ]
              refine wpAnyH_take (i := 28) (v := ?_) rfl (by kernel_rfl) (by kernel_rfl) (by kernel_rfl) (fun _ _ _ h => h) (Or.inl ⟨by rfl, ?_⟩) (by assumption) ?_
              rotate_left
              · (intro w hSw; (try dsimp only at hSw); go_simp)
                first | done | with_reducible rfl
              simp only [Act.put, List.getElem_toArray, List.getElem_cons_zero, List.getElem_cons_succ, List.setIfInBounds_toArray, List.set_cons_zero, List.set_cons_succ]
              refine wpAnyH_done (by kernel_rfl) ?_ _
              have HU9 := Lib.hid (HU.out.drew.trans hu1)
              clear HU hHeld x0 q0
              go_wp2_with fail
              go_ret
              exact ⟨by rw [HRR.out]; rfl, HU9.out⟩
            | true =>
              rw [hls] at SL HLP
              by_cases ht : s = tauL
              · have HRR := Lib.hid (show labsOk labs = false by rw [HLO2.out, HA2.out, HLP.out, ht]; simp)
                have g2 : (s == [116, 97, 117]) = true := by simpa [tauL] using ht
                clear HLO2 HA2 HLP hls ht
                go_wp2_with fail
                refine wp_region_held_drew (S := fun w' => w'.cell? ⟨b1, o1 + k, none⟩ = some (es s) ∧ w'.cell? ⟨b1, o1 + (k - 1), none⟩ = some (es pv)) (by kernel_rfl) ?_ (fun hHeld => ?_)
                · exact ⟨x0, q0⟩
                refine wpAnyH_take (i := 0) (v := ?_) rfl (by kernel_rfl) (by kernel_rfl) (by kernel_rfl) (fun _ _ _ h => h) (Or.inl ⟨by rfl, ?_⟩) (by assumption) ?_
                rotate_left
                · (intro w hSw; (try dsimp only at hSw); go_simp)
                  first | done | with_reducible rfl
                simp only [Act.put, List.getElem_toArray, List.getElem_cons_zero, List.setIfInBounds_toArray, List.set_cons_zero, List.set_cons_succ]
                refine wpAnyH_take (i := 1) (v := ?_) rfl (by kernel_rfl) (by kernel_rfl) (by kernel_rfl) (fun _ _ _ h => h) (Or.inl ⟨by rfl, ?_⟩) (by assumption) ?_
                rotate_left
                · (intro w hSw; (try dsimp only at hSw); go_simp)
                  first | done | with_reducible rfl
                simp only [Act.put, List.getElem_toArray, List.getElem_cons_zero, List.getElem_cons_succ, List.setIfInBounds_toArray, List.set_cons_zero, List.set_cons_succ]
                refine wpAnyH_take (i := 2) (v := ?_) rfl (by kernel_rfl) (by kernel_rfl) (by kernel_rfl) (fun _ _ _ h => h) (Or.inl ⟨by rfl, ?_⟩) (by assumption) ?_
                rotate_left
                · (intro w hSw; (try dsimp only at hSw); go_simp)
                  first | done | with_reducible rfl
                simp only [Act.put, List.getElem_toArray, List.getElem_cons_zero, List.getElem_cons_succ, List.setIfInBounds_toArray, List.set_cons_zero, List.set_cons_succ]
                refine wpAnyH_take (i := 3) (v := ?_) rfl (by kernel_rfl) (by kernel_rfl) (by kernel_rfl) (fun _ _ _ h => h) (Or.inl ⟨by rfl, ?_⟩) (by assumption) ?_
                rotate_left
                · (intro w hSw; (try dsimp only at hSw); go_simp)
                  first | done | with_reducible rfl
                simp only [Act.put, List.getElem_toArray, List.getElem_cons_zero, List.getElem_cons_succ, List.setIfInBounds_toArray, List.set_cons_zero, List.set_cons_succ]
                refine wpAnyH_ready (rs := [4]) (by kernel_rfl) (by simp) ?_
                refine AllReadyH.cons rfl (fun K hK => ?_) AllReadyH.nil
                go_simp
                refine (SL.out _).mono ?_
                rintro e w4 ⟨rfl, hu1⟩
                refine hK.out _ _ ?_ (fun hHeld => ?_)
                · exact ⟨hu1.keep hHeld.1, hu1.keep hHeld.2⟩
                clear hK K
                try simp only [Act.put, List.getElem_toArray, List.getElem_cons_zero, List.getElem_cons_succ, List.setIfInBounds_toArray, List.set_cons_zero, List.set_cons_succ]
                refine wpAnyH_take (i := 5) (v := ?_) rfl (by kernel_rfl) (by kernel_rfl) (by kernel_rfl) (fun _ _ _ h => h) (Or.inl ⟨by rfl, ?_⟩) (by assumption) ?_
                rotate_left
                · (intro w hSw; (try dsimp only at hSw); go_simp)
                  first | done | with_reducible rfl
                simp only [Act.put, List.getElem_toArray, List.getElem_cons_zero, List.getElem_cons_succ, List.setIfInBounds_toArray, List.set_cons_zero, List.set_cons_succ]
                refine wpAnyH_take (i := 6) (v := ?_) rfl (by kernel_rfl) (by kernel_rfl) (by kernel_rfl) (fun _ _ _ h => h) (Or.inl ⟨by rfl, ?_⟩) (by assumption) ?_
                rotate_left
                · (intro w hSw; (try dsimp only at hSw); go_simp)
                  first | done | with_reducible rfl
                simp only [Act.put, List.getElem_toArray, List.getElem_cons_zero, List.getElem_cons_succ, List.setIfInBounds_toArray, List.set_cons_zero, List.set_cons_succ]
                refine wpAnyH_take (i := 7) (v := ?_) rfl (by kernel_rfl) (by kernel_rfl) (by kernel_rfl) (fun _ _ _ h => h) (Or.inl ⟨by rfl, ?_⟩) (by assumption) ?_
                rotate_left
                · (intro w hSw; (try dsimp only at hSw); go_simp)
                  first | done | with_reducible rfl
                simp only [Act.put, List.getElem_toArray, List.getElem_cons_zero, List.getElem_cons_succ, List.setIfInBounds_toArray, List.set_cons_zero, List.set_cons_succ]
                refine wpAnyH_take (i := 8) (v := ?_) rfl (by kernel_rfl) (by kernel_rfl) (by kernel_rfl) (fun _ _ _ h => h) (Or.inl ⟨by rfl, ?_⟩) (by assumption) ?_
                rotate_left
                · (intro w hSw; (try dsimp only at hSw); go_simp)
                  first | done | with_reducible rfl
                simp only [Act.put, List.getElem_toArray, List.getElem_cons_zero, List.getElem_cons_succ, List.setIfInBounds_toArray, List.set_cons_zero, List.set_cons_succ]
                refine wpAnyH_take (i := 9) (v := ?_) rfl (by kernel_rfl) (by kernel_rfl) (by kernel_rfl) (fun _ _ _ h => h) (Or.inl ⟨by rfl, ?_⟩) (by assumption) ?_
                rotate_left
                · (intro w hSw; (try dsimp only at hSw); go_simp)
                  first | done | with_reducible rfl
                simp only [Act.put, List.getElem_toArray, List.getElem_cons_zero, List.getElem_cons_succ, List.setIfInBounds_toArray, List.set_cons_zero, List.set_cons_succ]
                refine wpAnyH_take (i := 10) (v := ?_) rfl (by kernel_rfl) (by kernel_rfl) (by kernel_rfl) (fun _ _ _ h => h) (Or.inl ⟨by rfl, ?_⟩) (by assumption) ?_
                rotate_left
                · (intro w hSw; (try dsimp only at hSw); go_simp)
                  first | done | with_reducible rfl
                simp only [Act.put, List.getElem_toArray, List.getElem_cons_zero, List.getElem_cons_succ, List.setIfInBounds_toArray, List.set_cons_zero, List.set_cons_succ]
                refine wpAnyH_take (i := 11) (v := ?_) rfl (by kernel_rfl) (by kernel_rfl) (by kernel_rfl) (fun _ _ _ h => h) (Or.inl ⟨by rfl, ?_⟩) (by assumption) ?_
                rotate_left
                · (intro w hSw; (try dsimp only at hSw); go_simp)
                  first | done | with_reducible rfl
                simp only [Act.put, List.getElem_toArray, List.getElem_cons_zero, List.getElem_cons_succ, List.setIfInBounds_toArray, List.set_cons_zero, List.set_cons_succ]
                refine wpAnyH_take (i := 12) (v := ?_) rfl (by kernel_rfl) (by kernel_rfl) (by kernel_rfl) (fun _ _ _ h => h) (Or.inl ⟨by rfl, ?_⟩) (by assumption) ?_
                rotate_left
                · (intro w hSw; (try dsimp only at hSw); go_simp)
                  first | done | with_reducible rfl
                simp only [Act.put, List.getElem_toArray, List.getElem_cons_zero, List.getElem_cons_succ, List.setIfInBounds_toArray, List.set_cons_zero, List.set_cons_succ]
                refine wpAnyH_take (i := 13) (v := ?_) rfl (by kernel_rfl) (by kernel_rfl) (by kernel_rfl) (fun _ _ _ h => h) (Or.inl ⟨by rfl, ?_⟩) (by assumption) ?_
                rotate_left
                · (intro w hSw; (try dsimp only at hSw); go_simp)
                  first | done | with_reducible rfl
                simp only [Act.put, List.getElem_toArray, List.getElem_cons_zero, List.getElem_cons_succ, List.setIfInBounds_toArray, List.set_cons_zero, List.set_cons_succ]
                refine wpAnyH_take (i := 14) rfl (by kernel_rfl) (by kernel_rfl) (by kernel_rfl) (fun _ _ _ h => h) (Or.inr ⟨by rfl, rfl⟩) (by assumption) ?_
                simp only [Act.put, List.getElem_toArray, List.getElem_cons_zero, List.getElem_cons_succ, List.setIfInBounds_toArray, List.set_cons_zero, List.set_cons_succ]
                refine wpAnyH_take (i := 15) rfl (by kernel_rfl) (by kernel_rfl) (by kernel_rfl) (fun _ _ _ h => h) (Or.inr ⟨by rfl, rfl⟩) (by assumption) ?_
                simp only [Act.put, List.getElem_toArray, List.getElem_cons_zero, List.getElem_cons_succ, List.setIfInBounds_toArray, List.set_cons_zero, List.set_cons_succ]
                refine wpAnyH_take (i := 16) rfl (by kernel_rfl) (by kernel_rfl) (by kernel_rfl) (fun _ _ _ h => h) (Or.inr ⟨by rfl, rfl⟩) (by assumption) ?_
                simp only [Act.put, List.getElem_toArray, List.getElem_cons_zero, List.getElem_cons_succ, List.setIfInBounds_toArray, List.set_cons_zero, List.set_cons_succ]
                refine wpAnyH_take (i := 17) rfl (by kernel_rfl) (by kernel_rfl) (by kernel_rfl) (fun _ _ _ h => h) (Or.inr ⟨by rfl, rfl⟩) (by assumption) ?_
                simp only [Act.put, List.getElem_toArray, List.getElem_cons_zero, List.getElem_cons_succ, List.setIfInBounds_toArray, List.set_cons_zero, List.set_cons_succ]
                refine wpAnyH_take (i := 18) rfl (by kernel_rfl) (by kernel_rfl) (by kernel_rfl) (fun _ _ _ h => h) (Or.inr ⟨by rfl, rfl⟩) (by assumption) ?_
                simp only [Act.put, List.getElem_toArray, List.getElem_cons_zero, List.getElem_cons_succ, List.setIfInBounds_toArray, List.set_cons_zero, List.set_cons_succ]
                refine wpAnyH_take (i := 19) rfl (by kernel_rfl) (by kernel_rfl) (by kernel_rfl) (fun _ _ _ h => h) (Or.inr ⟨by rfl, rfl⟩) (by assumption) ?_
                simp only [Act.put, List.getElem_toArray, List.getElem_cons_zero, List.getElem_cons_succ, List.setIfInBounds_toArray, List.set_cons_zero, List.set_cons_succ]
                refine wpAnyH_take (i := 20) rfl (by kernel_rfl) (by kernel_rfl) (by kernel_rfl) (fun _ _ _ h => h) (Or.inr ⟨by rfl, rfl⟩) (by assumption) ?_
                simp only [Act.put, List.getElem_toArray, List.getElem_cons_zero, List.getElem_cons_succ, List.setIfInBounds_toArray, List.set_cons_zero, List.set_cons_succ]
                refine wpAnyH_take (i := 21) rfl (by kernel_rfl) (by kernel_rfl) (by kernel_rfl) (fun _ _ _ h => h) (Or.inr ⟨by rfl, rfl⟩) (by assumption) ?_
                simp only [Act.put, List.getElem_toArray, List.getElem_cons_zero, List.getElem_cons_succ, List.setIfInBounds_toArray, List.set_cons_zero, List.set_cons_succ]
                refine wpAnyH_take (i := 22) rfl (by kernel_rfl) (by kernel_rfl) (by kernel_rfl) (fun _ _ _ h => h) (Or.inr ⟨by rfl, rfl⟩) (by assumption) ?_
                simp only [Act.put, List.getElem_toArray, List.getElem_cons_zero, List.getElem_cons_succ, List.setIfInBounds_toArray, List.set_cons_zero, List.set_cons_succ]
                refine wpAnyH_take (i := 23) rfl (by kernel_rfl) (by kernel_rfl) (by kernel_rfl) (fun _ _ _ h => h) (Or.inr ⟨by rfl, rfl⟩) (by assumption) ?_
                simp only [Act.put, List.getElem_toArray, List.getElem_cons_zero, List.getElem_cons_succ, List.setIfInBounds_toArray, List.set_cons_zero, List.set_cons_succ]
                refine wpAnyH_take (i := 24) rfl (by kernel_rfl) (by kernel_rfl) (by kernel_rfl) (fun _ _ _ h => h) (Or.inr ⟨by rfl, rfl⟩) (by assumption) ?_
                simp only [Act.put, List.getElem_toArray, List.getElem_cons_zero, List.getElem_cons_succ, List.setIfInBounds_toArray, List.set_cons_zero, List.set_cons_succ]
                refine wpAnyH_take (i := 25) rfl (by kernel_rfl) (by kernel_rfl) (by kernel_rfl) (fun _ _ _ h => h) (Or.inr ⟨by rfl, rfl⟩) (by assumption) ?_
                simp only [Act.put, List.getElem_toArray, List.getElem_cons_zero, List.getElem_cons_succ, List.setIfInBounds_toArray, List.set_cons_zero, List.set_cons_succ]
                refine wpAnyH_take (i := 26) rfl (by kernel_rfl) (by kernel_rfl) (by kernel_rfl) (fun _ _ _ h => h) (Or.inr ⟨by rfl, rfl⟩) (by assumption) ?_
                simp only [Act.put, List.getElem_toArray, List.getElem_cons_zero, List.getElem_cons_succ, List.setIfInBounds_toArray, List.set_cons_zero, List.set_cons_succ]
                refine wpAnyH_take (i := 27) rfl (by kernel_rfl) (by kernel_rfl) (by kernel_rfl) (fun _ _ _ h => h) (Or.inr ⟨by rfl, rfl⟩) (by assumption) ?_
                simp only [Act.put, List.getElem_toArray, List.getElem_cons_zero, List.getElem_cons_succ, List.setIfInBounds_toArray, List.set_cons_zero, List.set_cons_succ]
                refine wpAnyH_take (i := 28) (v := ?_) rfl (by kernel_rfl) (by kernel_rfl) (by kernel_rfl) (fun _ _ _ h => h) (Or.inl ⟨by rfl, ?_⟩) (by assumption) ?_
                rotate_left
                · (intro w hSw; (try dsimp only at hSw); go_simp)
                  first | done | with_reducible rfl
                simp only [Act.put, List.getElem_toArray, List.getElem_cons_zero, List.getElem_cons_succ, List.setIfInBounds_toArray, List.set_cons_zero, List.set_cons_succ]
                refine wpAnyH_done (by kernel_rfl) ?_ _
                have HU9 := Lib.hid (HU.out.drew.trans hu1)
                clear HU hHeld x0 q0
                go_wp2_with fail
                go_ret
                exact ⟨by rw [HRR.out]; rfl, HU9.out⟩
              · have g2 : (s == [116, 97, 117]) = false := by simpa [tauL] using ht
                have hst0 : (s == tauL) = false := by simpa using ht
                rw [hst0] at HLP
                clear hls ht hst0
                by_cases h1k : 1 < k
                · have kI : decide ((1 : Int) < (k : Int)) = true := decide_eq_true (by omega)
                  have kN : decide (1 < k) = true := decide_eq_true h1k
                  have kP : (1 : Int) < (k : Int) := by omega
                  have i0 : IntKind.i64.wrap ((k : Int) - 1) = (k : Int) - 1 := IntWalk.i64_in _ (by omega)
                  have i1 : ((k : Int) - 1).toNat = k - 1 := by omega
                  have i3 : (0 : Int) ≤ (k : Int) - 1 := by omega
                  have i4 : (k : Int) - 1 < (labs.length : Int) := by omega
                  have i5 : (1 : Int) ≤ (k : Int) := by omega
                  rw [kN] at HLP
                  have hcmp : (Op.bytesLess s pv || s == pv) = !bl pv s := bl_total s pv
                  have hcmp2 : (Op.bytesLess s pv || pv == s) = !bl pv s := by rw [← hcmp]; congr 1; rw [Bool.eq_iff_iff]; simp; exact eq_comm
                  cases hbl : bl pv s with
                  | false =>
                    rw [hbl] at HLP hcmp hcmp2
                    have hbl3 : Op.bytesLess pv s = false := hbl
                    have HRR := Lib.hid (show labsOk labs = false by rw [HLO2.out, HA2.out, HLP.out]; rfl)
                    clear HLO2 HA2 HLP hbl
                    go_wp2_with fail
                    refine wp_region_held_drew (S := fun w' => w'.cell? ⟨b1, o1 + k, none⟩ = some (es s) ∧ w'.cell? ⟨b1, o1 + (k - 1), none⟩ = some (es pv)) (by kernel_rfl) ?_ (fun hHeld => ?_)
                    · exact ⟨x0, q0⟩
                    refine wpAnyH_take (i := 0) (v := ?_) rfl (by kernel_rfl) (by kernel_rfl) (by kernel_rfl) (fun _ _ _ h => h) (Or.inl ⟨by rfl, ?_⟩) (by assumption) ?_
                    rotate_left
                    · (intro w hSw; (try dsimp only at hSw); go_simp)
                      first | done | with_reducible rfl
                    simp only [Act.put, List.getElem_toArray, List.getElem_cons_zero, List.setIfInBounds_toArray, List.set_cons_zero, List.set_cons_succ]
                    refine wpAnyH_take (i := 1) (v := ?_) rfl (by kernel_rfl) (by kernel_rfl) (by kernel_rfl) (fun _ _ _ h => h) (Or.inl ⟨by rfl, ?_⟩) (by assumption) ?_
                    rotate_left
                    · (intro w hSw; (try dsimp only at hSw); go_simp)
                      first | done | with_reducible rfl
                    simp only [Act.put, List.getElem_toArray, List.getElem_cons_zero, List.getElem_cons_succ, List.setIfInBounds_toArray, List.set_cons_zero, List.set_cons_succ]
                    refine wpAnyH_take (i := 2) (v := ?_) rfl (by kernel_rfl) (by kernel_rfl) (by kernel_rfl) (fun _ _ _ h => h) (Or.inl ⟨by rfl, ?_⟩) (by assumption) ?_
                    rotate_left
                    · (intro w hSw; (try dsimp only at hSw); go_simp)
                      first | done | with_reducible rfl
                    simp only [Act.put, List.getElem_toArray, List.getElem_cons_zero, List.getElem_cons_succ, List.setIfInBounds_toArray, List.set_cons_zero, List.set_cons_succ]
                    refine wpAnyH_take (i := 3) (v := ?_) rfl (by kernel_rfl) (by kernel_rfl) (by kernel_rfl) (fun _ _ _ h => h) (Or.inl ⟨by rfl, ?_⟩) (by assumption) ?_
                    rotate_left
                    · (intro w hSw; (try dsimp only at hSw); go_simp)
                      first | done | with_reducible rfl
                    simp only [Act.put, List.getElem_toArray, List.getElem_cons_zero, List.getElem_cons_succ, List.setIfInBounds_toArray, List.set_cons_zero, List.set_cons_succ]
                    refine wpAnyH_ready (rs := [4]) (by kernel_rfl) (by simp) ?_
                    refine AllReadyH.cons rfl (fun K hK => ?_) AllReadyH.nil
                    go_simp
                    refine (SL.out _).mono ?_
                    rintro e w4 ⟨rfl, hu1⟩
                    refine hK.out _ _ ?_ (fun hHeld => ?_)
                    · exact ⟨hu1.keep hHeld.1, hu1.keep hHeld.2⟩
                    clear hK K
                    try simp only [Act.put, List.getElem_toArray, List.getElem_cons_zero, List.getElem_cons_succ, List.setIfInBounds_toArray, List.set_cons_zero, List.set_cons_succ]
                    refine wpAnyH_take (i := 5) (v := ?_) rfl (by kernel_rfl) (by kernel_rfl) (by kernel_rfl) (fun _ _ _ h => h) (Or.inl ⟨by rfl, ?_⟩) (by assumption) ?_
                    rotate_left
                    · (intro w hSw; (try dsimp only at hSw); go_simp)
                      first | done | with_reducible rfl
                    simp only [Act.put, List.getElem_toArray, List.getElem_cons_zero, List.getElem_cons_succ, List.setIfInBounds_toArray, List.set_cons_zero, List.set_cons_succ]
                    refine wpAnyH_take (i := 6) (v := ?_) rfl (by kernel_rfl) (by kernel_rfl) (by kernel_rfl) (fun _ _ _ h => h) (Or.inl ⟨by rfl, ?_⟩) (by assumption) ?_
                    rotate_left
                    · (intro w hSw; (try dsimp only at hSw); go_simp)
                      first | done | with_reducible rfl
                    simp only [Act.put, List.getElem_toArray, List.getElem_cons_zero, List.getElem_cons_succ, List.setIfInBounds_toArray, List.set_cons_zero, List.set_cons_succ]
                    refine wpAnyH_take (i := 7) (v := ?_) rfl (by kernel_rfl) (by kernel_rfl) (by kernel_rfl) (fun _ _ _ h => h) (Or.inl ⟨by rfl, ?_⟩) (by assumption) ?_
                    rotate_left
                    · (intro w hSw; (try dsimp only at hSw); go_simp)
                      first | done | with_reducible rfl
                    simp only [Act.put, List.getElem_toArray, List.getElem_cons_zero, List.getElem_cons_succ, List.setIfInBounds_toArray, List.set_cons_zero, List.set_cons_succ]
                    refine wpAnyH_take (i := 8) (v := ?_) rfl (by kernel_rfl) (by kernel_rfl) (by kernel_rfl) (fun _ _ _ h => h) (Or.inl ⟨by rfl, ?_⟩) (by assumption) ?_
                    rotate_left
                    · (intro w hSw; (try dsimp only at hSw); go_simp)
                      first | done | with_reducible rfl
                    simp only [Act.put, List.getElem_toArray, List.getElem_cons_zero, List.getElem_cons_succ, List.setIfInBounds_toArray, List.set_cons_zero, List.set_cons_succ]
                    refine wpAnyH_take (i := 9) (v := ?_) rfl (by kernel_rfl) (by kernel_rfl) (by kernel_rfl) (fun _ _ _ h => h) (Or.inl ⟨by rfl, ?_⟩) (by assumption) ?_
                    rotate_left
                    · (intro w hSw; (try dsimp only at hSw); go_simp)
                      first | done | with_reducible rfl
                    simp only [Act.put, List.getElem_toArray, List.getElem_cons_zero, List.getElem_cons_succ, List.setIfInBounds_toArray, List.set_cons_zero, List.set_cons_succ]
                    refine wpAnyH_take (i := 10) (v := ?_) rfl (by kernel_rfl) (by kernel_rfl) (by kernel_rfl) (fun _ _ _ h => h) (Or.inl ⟨by rfl, ?_⟩) (by assumption) ?_
                    rotate_left
                    · (intro w hSw; (try dsimp only at hSw); go_simp)
                      first | done | with_reducible rfl
                    simp only [Act.put, List.getElem_toArray, List.getElem_cons_zero, List.getElem_cons_succ, List.setIfInBounds_toArray, List.set_cons_zero, List.set_cons_succ]
                    refine wpAnyH_take (i := 11) (v := ?_) rfl (by kernel_rfl) (by kernel_rfl) (by kernel_rfl) (fun _ _ _ h => h) (Or.inl ⟨by rfl, ?_⟩) (by assumption) ?_
                    rotate_left
                    · (intro w hSw; (try dsimp only at hSw); go_simp)
                      first | done | with_reducible rfl
                    simp only [Act.put, List.getElem_toArray, List.getElem_cons_zero, List.getElem_cons_succ, List.setIfInBounds_toArray, List.set_cons_zero, List.set_cons_succ]
                    refine wpAnyH_take (i := 12) (v := ?_) rfl (by kernel_rfl) (by kernel_rfl) (by kernel_rfl) (fun _ _ _ h => h) (Or.inl ⟨by rfl, ?_⟩) (by assumption) ?_
                    rotate_left
                    · (intro w hSw; (try dsimp only at hSw); go_simp)
                      first | done | with_reducible rfl
                    simp only [Act.put, List.getElem_toArray, List.getElem_cons_zero, List.getElem_cons_succ, List.setIfInBounds_toArray, List.set_cons_zero, List.set_cons_succ]
                    refine wpAnyH_take (i := 13) (v := ?_) rfl (by kernel_rfl) (by kernel_rfl) (by kernel_rfl) (fun _ _ _ h => h) (Or.inl ⟨by rfl, ?_⟩) (by assumption) ?_
                    rotate_left
                    · (intro w hSw; (try dsimp only at hSw); go_simp)
                      first | done | with_reducible rfl
                    simp only [Act.put, List.getElem_toArray, List.getElem_cons_zero, List.getElem_cons_succ, List.setIfInBounds_toArray, List.set_cons_zero, List.set_cons_succ]
                    refine wpAnyH_take (i := 14) (v := ?_) rfl (by kernel_rfl) (by kernel_rfl) (by kernel_rfl) (fun _ _ _ h => h) (Or.inl ⟨by rfl, ?_⟩) (by assumption) ?_
                    rotate_left
                    · (intro w hSw; (try dsimp only at hSw); go_simp)
                      first | done | with_reducible rfl
                    simp only [Act.put, List.getElem_toArray, List.getElem_cons_zero, List.getElem_cons_succ, List.setIfInBounds_toArray, List.set_cons_zero, List.set_cons_succ]
                    refine wpAnyH_take (i := 15) (v := ?_) rfl (by kernel_rfl) (by kernel_rfl) (by kernel_rfl) (fun _ _ _ h => h) (Or.inl ⟨by rfl, ?_⟩) (by assumption) ?_
                    rotate_left
                    · (intro w hSw; (try dsimp only at hSw); go_simp)
                      first | done | with_reducible rfl
                    simp only [Act.put, List.getElem_toArray, List.getElem_cons_zero, List.getElem_cons_succ, List.setIfInBounds_toArray, List.set_cons_zero, List.set_cons_succ]
                    try simp only [kN]
                    try simp only [kI]
                    refine wpAnyH_take (i := 16) (v := ?_) rfl (by kernel_rfl) (by kernel_rfl) (by kernel_rfl) (fun _ _ _ h => h) (Or.inl ⟨by rfl, ?_⟩) (by assumption) ?_
                    rotate_left
                    · (intro w hSw; (try dsimp only at hSw); go_simp)
                      first | done | with_reducible rfl
                    simp only [Act.put, List.getElem_toArray, List.getElem_cons_zero, List.getElem_cons_succ, List.setIfInBounds_toArray, List.set_cons_zero, List.set_cons_succ]
                    refine wpAnyH_take (i := 17) (v := ?_) rfl (by kernel_rfl) (by kernel_rfl) (by kernel_rfl) (fun _ _ _ h => h) (Or.inl ⟨by rfl, ?_⟩) (by assumption) ?_
                    rotate_left
                    · (intro w hSw; (try dsimp only at hSw); go_simp)
                      first | done | with_reducible rfl
                    simp only [Act.put, List.getElem_toArray, List.getElem_cons_zero, List.getElem_cons_succ, List.setIfInBounds_toArray, List.set_cons_zero, List.set_cons_succ]
                    refine wpAnyH_take (i := 18) (v := ?_) rfl (by kernel_rfl) (by kernel_rfl) (by kernel_rfl) (fun _ _ _ h => h) (Or.inl ⟨by rfl, ?_⟩) (by assumption) ?_
                    rotate_left
                    · (intro w hSw; (try dsimp only at hSw); go_simp)
                      first | done | with_reducible rfl
                    simp only [Act.put, List.getElem_toArray, List.getElem_cons_zero, List.getElem_cons_succ, List.setIfInBounds_toArray, List.set_cons_zero, List.set_cons_succ]
                    refine wpAnyH_take (i := 19) (v := ?_) rfl (by kernel_rfl) (by kernel_rfl) (by kernel_rfl) (fun _ _ _ h => h) (Or.inl ⟨by rfl, ?_⟩) (by assumption) ?_
                    rotate_left
                    · (intro w hSw; (try dsimp only at hSw); go_simp)
                      first | done | with_reducible rfl
                    simp only [Act.put, List.getElem_toArray, List.getElem_cons_zero, List.getElem_cons_succ, List.setIfInBounds_toArray, List.set_cons_zero, List.set_cons_succ]
                    try simp only [i0]
                    refine wpAnyH_take (i := 20) (v := ?_) rfl (by kernel_rfl) (by kernel_rfl) (by kernel_rfl) (fun _ _ _ h => h) (Or.inl ⟨by rfl, ?_⟩) (by assumption) ?_
                    rotate_left
                    · (intro w hSw; (try dsimp only at hSw); go_simp)
                      first | done | with_reducible rfl
                    simp only [Act.put, List.getElem_toArray, List.getElem_cons_zero, List.getElem_cons_succ, List.setIfInBounds_toArray, List.set_cons_zero, List.set_cons_succ]
                    try simp only [i1]
                    refine wpAnyH_take (i := 21) (v := ?_) rfl (by kernel_rfl) (by kernel_rfl) (by kernel_rfl) (fun _ _ _ h => h) (Or.inl ⟨by rfl, ?_⟩) (by assumption) ?_
                    rotate_left
                    · (intro w hSw; (try dsimp only at hSw); go_simp)
                      first | done | with_reducible rfl
                    simp only [Act.put, List.getElem_toArray, List.getElem_cons_zero, List.getElem_cons_succ, List.setIfInBounds_toArray, List.set_cons_zero, List.set_cons_succ]
                    refine wpAnyH_take (i := 22) (v := ?_) rfl (by kernel_rfl) (by kernel_rfl) (by kernel_rfl) (fun _ _ _ h => h) (Or.inl ⟨by rfl, ?_⟩) (by assumption) ?_
                    rotate_left
                    · (intro w hSw; (try dsimp only at hSw); go_simp)
                      first | done | with_reducible rfl
                    simp only [Act.put, List.getElem_toArray, List.getElem_cons_zero, List.getElem_cons_succ, List.setIfInBounds_toArray, List.set_cons_zero, List.set_cons_succ]
                    refine wpAnyH_take (i := 23) (v := ?_) rfl (by kernel_rfl) (by kernel_rfl) (by kernel_rfl) (fun _ _ _ h => h) (Or.inl ⟨by rfl, ?_⟩) (by assumption) ?_
                    rotate_left
                    · (intro w hSw; (try dsimp only at hSw); go_simp)
                      first | done | with_reducible rfl
                    simp only [Act.put, List.getElem_toArray, List.getElem_cons_zero, List.getElem_cons_succ, List.setIfInBounds_toArray, List.set_cons_zero, List.set_cons_succ]
                    refine wpAnyH_take (i := 24) (v := ?_) rfl (by kernel_rfl) (by kernel_rfl) (by kernel_rfl) (fun _ _ _ h => h) (Or.inl ⟨by rfl, ?_⟩) (by assumption) ?_
                    rotate_left
                    · (intro w hSw; (try dsimp only at hSw); go_simp)
                      first | done | with_reducible rfl
                    simp only [Act.put, List.getElem_toArray, List.getElem_cons_zero, List.getElem_cons_succ, List.setIfInBounds_toArray, List.set_cons_zero, List.set_cons_succ]
                    refine wpAnyH_take (i := 25) (v := ?_) rfl (by kernel_rfl) (by kernel_rfl) (by kernel_rfl) (fun _ _ _ h => h) (Or.inl ⟨by rfl, ?_⟩) (by assumption) ?_
                    rotate_left
                    · (intro w hSw; (try dsimp only at hSw); go_simp)
                      first | done | with_reducible rfl
                    simp only [Act.put, List.getElem_toArray, List.getElem_cons_zero, List.getElem_cons_succ, List.setIfInBounds_toArray, List.set_cons_zero, List.set_cons_succ]
                    refine wpAnyH_take (i := 26) (v := ?_) rfl (by kernel_rfl) (by kernel_rfl) (by kernel_rfl) (fun _ _ _ h => h) (Or.inl ⟨by rfl, ?_⟩) (by assumption) ?_
                    rotate_left
                    · (intro w hSw; (try dsimp only at hSw); go_simp)
                      first | done | with_reducible rfl
                    simp only [Act.put, List.getElem_toArray, List.getElem_cons_zero, List.getElem_cons_succ, List.setIfInBounds_toArray, List.set_cons_zero, List.set_cons_succ]
                    refine wpAnyH_take (i := 27) (v := ?_) rfl (by kernel_rfl) (by kernel_rfl) (by kernel_rfl) (fun _ _ _ h => h) (Or.inl ⟨by rfl, ?_⟩) (by assumption) ?_
                    rotate_left
                    · (intro w hSw; (try dsimp only at hSw); go_simp)
                      first | done | with_reducible rfl
                    simp only [Act.put, List.getElem_toArray, List.getElem_cons_zero, List.getElem_cons_succ, List.setIfInBounds_toArray, List.set_cons_zero, List.set_cons_succ]
                    refine wpAnyH_take (i := 28) (v := ?_) rfl (by kernel_rfl) (by kernel_rfl) (by kernel_rfl) (fun _ _ _ h => h) (Or.inl ⟨by rfl, ?_⟩) (by assumption) ?_
                    rotate_left
                    · (intro w hSw; (try dsimp only at hSw); go_simp)
                      first | done | with_reducible rfl
                    simp only [Act.put, List.getElem_toArray, List.getElem_cons_zero, List.getElem_cons_succ, List.setIfInBounds_toArray, List.set_cons_zero, List.set_cons_succ]
                    refine wpAnyH_done (by kernel_rfl) ?_ _
                    have HU9 := Lib.hid (HU.out.drew.trans hu1)
                    clear HU hHeld x0 q0
                    go_wp2_with fail
                    go_ret
                    exact ⟨by rw [HRR.out]; rfl, HU9.out⟩
                  | true =>
                    rw [hbl] at HLP hcmp hcmp2
                    have hbl3 : Op.bytesLess pv s = true := hbl
                    have HA3 := Lib.hid (show allF (labP labs) (k + 1) (labs.length - (k + 1)) = allF (labP labs) 0 labs.length by rw [HA2.out, HLP.out]; simp)
                    clear HA2 HLP hbl
                    go_wp2_with fail
                    refine wp_region_held_drew (S := fun w' => w'.cell? ⟨b1, o1 + k, none⟩ = some (es s) ∧ w'.cell? ⟨b1, o1 + (k - 1), none⟩ = some (es pv)) (by kernel_rfl) ?_ (fun hHeld => ?_)
                    · exact ⟨x0, q0⟩
                    refine wpAnyH_take (i := 0) (v := ?_) rfl (by kernel_rfl) (by kernel_rfl) (by kernel_rfl) (fun _ _ _ h => h) (Or.inl ⟨by rfl, ?_⟩) (by assumption) ?_
                    rotate_left
                    · (intro w hSw; (try dsimp only at hSw); go_simp)
                      first | done | with_reducible rfl
                    simp only [Act.put, List.getElem_toArray, List.getElem_cons_zero, List.setIfInBounds_toArray, List.set_cons_zero, List.set_cons_succ]
                    refine wpAnyH_take (i := 1) (v := ?_) rfl (by kernel_rfl) (by kernel_rfl) (by kernel_rfl) (fun _ _ _ h => h) (Or.inl ⟨by rfl, ?_⟩) (by assumption) ?_
                    rotate_left
                    · (intro w hSw; (try dsimp only at hSw); go_simp)
                      first | done | with_reducible rfl
                    simp only [Act.put, List.getElem_toArray, List.getElem_cons_zero, List.getElem_cons_succ, List.setIfInBounds_toArray, List.set_cons_zero, List.set_cons_succ]
                    refine wpAnyH_take (i := 2) (v := ?_) rfl (by kernel_rfl) (by kernel_rfl) (by kernel_rfl) (fun _ _ _ h => h) (Or.inl ⟨by rfl, ?_⟩) (by assumption) ?_
                    rotate_left
                    · (intro w hSw; (try dsimp only at hSw); go_simp)
                      first | done | with_reducible rfl
                    simp only [Act.put, List.getElem_toArray, List.getElem_cons_zero, List.getElem_cons_succ, List.setIfInBounds_toArray, List.set_cons_zero, List.set_cons_succ]
                    refine wpAnyH_take (i := 3) (v := ?_) rfl (by kernel_rfl) (by kernel_rfl) (by kernel_rfl) (fun _ _ _ h => h) (Or.inl ⟨by rfl, ?_⟩) (by assumption) ?_
                    rotate_left
                    · (intro w hSw; (try dsimp only at hSw); go_simp)
                      first | done | with_reducible rfl
                    simp only [Act.put, List.getElem_toArray, List.getElem_cons_zero, List.getElem_cons_succ, List.setIfInBounds_toArray, List.set_cons_zero, List.set_cons_succ]
                    refine wpAnyH_ready (rs := [4]) (by kernel_rfl) (by simp) ?_
                    refine AllReadyH.cons rfl (fun K hK => ?_) AllReadyH.nil
                    go_simp
                    refine (SL.out _).mono ?_
                    rintro e w4 ⟨rfl, hu1⟩
                    refine hK.out _ _ ?_ (fun hHeld => ?_)
                    · exact ⟨hu1.keep hHeld.1, hu1.keep hHeld.2⟩
                    clear hK K
                    try simp only [Act.put, List.getElem_toArray, List.getElem_cons_zero, List.getElem_cons_succ, List.setIfInBounds_toArray, List.set_cons_zero, List.set_cons_succ]
                    refine wpAnyH_take (i := 5) (v := ?_) rfl (by kernel_rfl) (by kernel_rfl) (by kernel_rfl) (fun _ _ _ h => h) (Or.inl ⟨by rfl, ?_⟩) (by assumption) ?_
                    rotate_left
                    · (intro w hSw; (try dsimp only at hSw); go_simp)
                      first | done | with_reducible rfl
                    simp only [Act.put, List.getElem_toArray, List.getElem_cons_zero, List.getElem_cons_succ, List.setIfInBounds_toArray, List.set_cons_zero, List.set_cons_succ]
                    refine wpAnyH_take (i := 6) (v := ?_) rfl (by kernel_rfl) (by kernel_rfl) (by kernel_rfl) (fun _ _ _ h => h) (Or.inl ⟨by rfl, ?_⟩) (by assumption) ?_
                    rotate_left
                    · (intro w hSw; (try dsimp only at hSw); go_simp)
                      first | done | with_reducible rfl
                    simp only [Act.put, List.getElem_toArray, List.getElem_cons_zero, List.getElem_cons_succ, List.setIfInBounds_toArray, List.set_cons_zero, List.set_cons_succ]
                    refine wpAnyH_take (i := 7) (v := ?_) rfl (by kernel_rfl) (by kernel_rfl) (by kernel_rfl) (fun _ _ _ h => h) (Or.inl ⟨by rfl, ?_⟩) (by assumption) ?_
                    rotate_left
                    · (intro w hSw; (try dsimp only at hSw); go_simp)
                      first | done | with_reducible rfl
                    simp only [Act.put, List.getElem_toArray, List.getElem_cons_zero, List.getElem_cons_succ, List.setIfInBounds_toArray, List.set_cons_zero, List.set_cons_succ]
                    refine wpAnyH_take (i := 8) (v := ?_) rfl (by kernel_rfl) (by kernel_rfl) (by kernel_rfl) (fun _ _ _ h => h) (Or.inl ⟨by rfl, ?_⟩) (by assumption) ?_
                    rotate_left
                    · (intro w hSw; (try dsimp only at hSw); go_simp)
                      first | done | with_reducible rfl
                    simp only [Act.put, List.getElem_toArray, List.getElem_cons_zero, List.getElem_cons_succ, List.setIfInBounds_toArray, List.set_cons_zero, List.set_cons_succ]
                    refine wpAnyH_take (i := 9) (v := ?_) rfl (by kernel_rfl) (by kernel_rfl) (by kernel_rfl) (fun _ _ _ h => h) (Or.inl ⟨by rfl, ?_⟩) (by assumption) ?_
                    rotate_left
                    · (intro w hSw; (try dsimp only at hSw); go_simp)
                      first | done | with_reducible rfl
                    simp only [Act.put, List.getElem_toArray, List.getElem_cons_zero, List.getElem_cons_succ, List.setIfInBounds_toArray, List.set_cons_zero, List.set_cons_succ]
                    refine wpAnyH_take (i := 10) (v := ?_) rfl (by kernel_rfl) (by kernel_rfl) (by kernel_rfl) (fun _ _ _ h => h) (Or.inl ⟨by rfl, ?_⟩) (by assumption) ?_
                    rotate_left
                    · (intro w hSw; (try dsimp only at hSw); go_simp)
                      first | done | with_reducible rfl
                    simp only [Act.put, List.getElem_toArray, List.getElem_cons_zero, List.getElem_cons_succ, List.setIfInBounds_toArray, List.set_cons_zero, List.set_cons_succ]
                    refine wpAnyH_take (i := 11) (v := ?_) rfl (by kernel_rfl) (by kernel_rfl) (by kernel_rfl) (fun _ _ _ h => h) (Or.inl ⟨by rfl, ?_⟩) (by assumption) ?_
                    rotate_left
                    · (intro w hSw; (try dsimp only at hSw); go_simp)
                      first | done | with_reducible rfl
                    simp only [Act.put, List.getElem_toArray, List.getElem_cons_zero, List.getElem_cons_succ, List.setIfInBounds_toArray, List.set_cons_zero, List.set_cons_succ]
                    refine wpAnyH_take (i := 12) (v := ?_) rfl (by kernel_rfl) (by kernel_rfl) (by kernel_rfl) (fun _ _ _ h => h) (Or.inl ⟨by rfl, ?_⟩) (by assumption) ?_
                    rotate_left
                    · (intro w hSw; (try dsimp only at hSw); go_simp)
                      first | done | with_reducible rfl
                    simp only [Act.put, List.getElem_toArray, List.getElem_cons_zero, List.getElem_cons_succ, List.setIfInBounds_toArray, List.set_cons_zero, List.set_cons_succ]
                    refine wpAnyH_take (i := 13) (v := ?_) rfl (by kernel_rfl) (by kernel_rfl) (by kernel_rfl) (fun _ _ _ h => h) (Or.inl ⟨by rfl, ?_⟩) (by assumption) ?_
                    rotate_left
                    · (intro w hSw; (try dsimp only at hSw); go_simp)
                      first | done | with_reducible rfl
                    simp only [Act.put, List.getElem_toArray, List.getElem_cons_zero, List.getElem_cons_succ, List.setIfInBounds_toArray, List.set_cons_zero, List.set_cons_succ]
                    refine wpAnyH_take (i := 14) (v := ?_) rfl (by kernel_rfl) (by kernel_rfl) (by kernel_rfl) (fun _ _ _ h => h) (Or.inl ⟨by rfl, ?_⟩) (by assumption) ?_
                    rotate_left
                    · (intro w hSw; (try dsimp only at hSw); go_simp)
                      first | done | with_reducible rfl
                    simp only [Act.put, List.getElem_toArray, List.getElem_cons_zero, List.getElem_cons_succ, List.setIfInBounds_toArray, List.set_cons_zero, List.set_cons_succ]
                    refine wpAnyH_take (i := 15) (v := ?_) rfl (by kernel_rfl) (by kernel_rfl) (by kernel_rfl) (fun _ _ _ h => h) (Or.inl ⟨by rfl, ?_⟩) (by assumption) ?_
                    rotate_left
                    · (intro w hSw; (try dsimp only at hSw); go_simp)
                      first | done | with_reducible rfl
                    simp only [Act.put, List.getElem_toArray, List.getElem_cons_zero, List.getElem_cons_succ, List.setIfInBounds_toArray, List.set_cons_zero, List.set_cons_succ]
                    try simp only [kN]
                    try simp only [kI]
                    refine wpAnyH_take (i := 16) (v := ?_) rfl (by kernel_rfl) (by kernel_rfl) (by kernel_rfl) (fun _ _ _ h => h) (Or.inl ⟨by rfl, ?_⟩) (by assumption) ?_
                    rotate_left
                    · (intro w hSw; (try dsimp only at hSw); go_simp)
                      first | done | with_reducible rfl
                    simp only [Act.put, List.getElem_toArray, List.getElem_cons_zero, List.getElem_cons_succ, List.setIfInBounds_toArray, List.set_cons_zero, List.set_cons_succ]
                    refine wpAnyH_take (i := 17) (v := ?_) rfl (by kernel_rfl) (by kernel_rfl) (by kernel_rfl) (fun _ _ _ h => h) (Or.inl ⟨by rfl, ?_⟩) (by assumption) ?_
                    rotate_left
                    · (intro w hSw; (try dsimp only at hSw); go_simp)
                      first | done | with_reducible rfl
                    simp only [Act.put, List.getElem_toArray, List.getElem_cons_zero, List.getElem_cons_succ, List.setIfInBounds_toArray, List.set_cons_zero, List.set_cons_succ]
                    refine wpAnyH_take (i := 18) (v := ?_) rfl (by kernel_rfl) (by kernel_rfl) (by kernel_rfl) (fun _ _ _ h => h) (Or.inl ⟨by rfl, ?_⟩) (by assumption) ?_
                    rotate_left
                    · (intro w hSw; (try dsimp only at hSw); go_simp)
                      first | done | with_reducible rfl
                    simp only [Act.put, List.getElem_toArray, List.getElem_cons_zero, List.getElem_cons_succ, List.setIfInBounds_toArray, List.set_cons_zero, List.set_cons_succ]
                    refine wpAnyH_take (i := 19) (v := ?_) rfl (by kernel_rfl) (by kernel_rfl) (by kernel_rfl) (fun _ _ _ h => h) (Or.inl ⟨by rfl, ?_⟩) (by assumption) ?_
                    rotate_left
                    · (intro w hSw; (try dsimp only at hSw); go_simp)
                      first | done | with_reducible rfl
                    simp only [Act.put, List.getElem_toArray, List.getElem_cons_zero, List.getElem_cons_succ, List.setIfInBounds_toArray, List.set_cons_zero, List.set_cons_succ]
                    try simp only [i0]
                    refine wpAnyH_take (i := 20) (v := ?_) rfl (by kernel_rfl) (by kernel_rfl) (by kernel_rfl) (fun _ _ _ h => h) (Or.inl ⟨by rfl, ?_⟩) (by assumption) ?_
                    rotate_left
                    · (intro w hSw; (try dsimp only at hSw); go_simp)
                      first | done | with_reducible rfl
                    simp only [Act.put, List.getElem_toArray, List.getElem_cons_zero, List.getElem_cons_succ, List.setIfInBounds_toArray, List.set_cons_zero, List.set_cons_succ]
                    try simp only [i1]
                    refine wpAnyH_take (i := 21) (v := ?_) rfl (by kernel_rfl) (by kernel_rfl) (by kernel_rfl) (fun _ _ _ h => h) (Or.inl ⟨by rfl, ?_⟩) (by assumption) ?_
                    rotate_left
                    · (intro w hSw; (try dsimp only at hSw); go_simp)
                      first | done | with_reducible rfl
                    simp only [Act.put, List.getElem_toArray, List.getElem_cons_zero, List.getElem_cons_succ, List.setIfInBounds_toArray, List.set_cons_zero, List.set_cons_succ]
                    refine wpAnyH_take (i := 22) (v := ?_) rfl (by kernel_rfl) (by kernel_rfl) (by kernel_rfl) (fun _ _ _ h => h) (Or.inl ⟨by rfl, ?_⟩) (by assumption) ?_
                    rotate_left
                    · (intro w hSw; (try dsimp only at hSw); go_simp)
                      first | done | with_reducible rfl
                    simp only [Act.put, List.getElem_toArray, List.getElem_cons_zero, List.getElem_cons_succ, List.setIfInBounds_toArray, List.set_cons_zero, List.set_cons_succ]
                    refine wpAnyH_take (i := 23) (v := ?_) rfl (by kernel_rfl) (by kernel_rfl) (by kernel_rfl) (fun _ _ _ h => h) (Or.inl ⟨by rfl, ?_⟩) (by assumption) ?_
                    rotate_left
                    · (intro w hSw; (try dsimp only at hSw); go_simp)
                      first | done | with_reducible rfl
                    simp only [Act.put, List.getElem_toArray, List.getElem_cons_zero, List.getElem_cons_succ, List.setIfInBounds_toArray, List.set_cons_zero, List.set_cons_succ]
                    refine wpAnyH_take (i := 24) (v := ?_) rfl (by kernel_rfl) (by kernel_rfl) (by kernel_rfl) (fun _ _ _ h => h) (Or.inl ⟨by rfl, ?_⟩) (by assumption) ?_
                    rotate_left
                    · (intro w hSw; (try dsimp only at hSw); go_simp)
                      first | done | with_reducible rfl
                    simp only [Act.put, List.getElem_toArray, List.getElem_cons_zero, List.getElem_cons_succ, List.setIfInBounds_toArray, List.set_cons_zero, List.set_cons_succ]
                    refine wpAnyH_take (i := 25) (v := ?_) rfl (by kernel_rfl) (by kernel_rfl) (by kernel_rfl) (fun _ _ _ h => h) (Or.inl ⟨by rfl, ?_⟩) (by assumption) ?_
                    rotate_left
                    · (intro w hSw; (try dsimp only at hSw); go_simp)
                      first | done | with_reducible rfl
                    simp only [Act.put, List.getElem_toArray, List.getElem_cons_zero, List.getElem_cons_succ, List.setIfInBounds_toArray, List.set_cons_zero, List.set_cons_succ]
                    refine wpAnyH_take (i := 26) (v := ?_) rfl (by kernel_rfl) (by kernel_rfl) (by kernel_rfl) (fun _ _ _ h => h) (Or.inl ⟨by rfl, ?_⟩) (by assumption) ?_
                    rotate_left
                    · (intro w hSw; (try dsimp only at hSw); go_simp)
                      first | done | with_reducible rfl
                    simp only [Act.put, List.getElem_toArray, List.getElem_cons_zero, List.getElem_cons_succ, List.setIfInBounds_toArray, List.set_cons_zero, List.set_cons_succ]
                    refine wpAnyH_take (i := 27) (v := ?_) rfl (by kernel_rfl) (by kernel_rfl) (by kernel_rfl) (fun _ _ _ h => h) (Or.inl ⟨by rfl, ?_⟩) (by assumption) ?_
                    rotate_left
                    · (intro w hSw; (try dsimp only at hSw); go_simp)
                      first | done | with_reducible rfl
                    simp only [Act.put, List.getElem_toArray, List.getElem_cons_zero, List.getElem_cons_succ, List.setIfInBounds_toArray, List.set_cons_zero, List.set_cons_succ]
                    refine wpAnyH_take (i := 28) (v := ?_) rfl (by kernel_rfl) (by kernel_rfl) (by kernel_rfl) (fun _ _ _ h => h) (Or.inl ⟨by rfl, ?_⟩) (by assumption) ?_
                    rotate_left
                    · (intro w hSw; (try dsimp only at hSw); go_simp)
                      first | done | with_reducible rfl
                    simp only [Act.put, List.getElem_toArray, List.getElem_cons_zero, List.getElem_cons_succ, List.setIfInBounds_toArray, List.set_cons_zero, List.set_cons_succ]
                    refine wpAnyH_done (by kernel_rfl) ?_ _
                    have HU9 := Lib.hid (HU.out.drew.trans hu1)
                    clear HU hHeld x0 q0
                    go_wp2_with fail
                    go_roundw
                    case rel => exact ⟨k + 1, by omega, by omega, by go_num, HA3, HU9.out⟩
                    case measure => simp [intOf]; omega
                · have kI : decide ((1 : Int) < (k : Int)) = false := decide_eq_false (by omega)
                  have kN : decide (1 < k) = false := decide_eq_false h1k
                  have kP : ¬ (1 : Int) < (k : Int) := by omega
                  rw [kN] at HLP
                  have HA3 := Lib.hid (show allF (labP labs) (k + 1) (labs.length - (k + 1)) = allF (labP labs) 0 labs.length by rw [HA2.out, HLP.out]; simp)
                  clear HA2 HLP
                  go_wp2_with fail
                  refine wp_region_held_drew (S := fun w' => w'.cell? ⟨b1, o1 + k, none⟩ = some (es s) ∧ w'.cell? ⟨b1, o1 + (k - 1), none⟩ = some (es pv)) (by kernel_rfl) ?_ (fun hHeld => ?_)
                  · exact ⟨x0, q0⟩
                  refine wpAnyH_take (i := 0) (v := ?_) rfl (by kernel_rfl) (by kernel_rfl) (by kernel_rfl) (fun _ _ _ h => h) (Or.inl ⟨by rfl, ?_⟩) (by assumption) ?_
                  rotate_left
                  · (intro w hSw; (try dsimp only at hSw); go_simp)
                    first | done | with_reducible rfl
                  simp only [Act.put, List.getElem_toArray, List.getElem_cons_zero, List.setIfInBounds_toArray, List.set_cons_zero, List.set_cons_succ]
                  refine wpAnyH_take (i := 1) (v := ?_) rfl (by kernel_rfl) (by kernel_rfl) (by kernel_rfl) (fun _ _ _ h => h) (Or.inl ⟨by rfl, ?_⟩) (by assumption) ?_
                  rotate_left
                  · (intro w hSw; (try dsimp only at hSw); go_simp)
                    first | done | with_reducible rfl
                  simp only [Act.put, List.getElem_toArray, List.getElem_cons_zero, List.getElem_cons_succ, List.setIfInBounds_toArray, List.set_cons_zero, List.set_cons_succ]
                  refine wpAnyH_take (i := 2) (v := ?_) rfl (by kernel_rfl) (by kernel_rfl) (by kernel_rfl) (fun _ _ _ h => h) (Or.inl ⟨by rfl, ?_⟩) (by assumption) ?_
                  rotate_left
                  · (intro w hSw; (try dsimp only at hSw); go_simp)
                    first | done | with_reducible rfl
                  simp only [Act.put, List.getElem_toArray, List.getElem_cons_zero, List.getElem_cons_succ, List.setIfInBounds_toArray, List.set_cons_zero, List.set_cons_succ]
                  refine wpAnyH_take (i := 3) (v := ?_) rfl (by kernel_rfl) (by kernel_rfl) (by kernel_rfl) (fun _ _ _ h => h) (Or.inl ⟨by rfl, ?_⟩) (by assumption) ?_
                  rotate_left
                  · (intro w hSw; (try dsimp only at hSw); go_simp)
                    first | done | with_reducible rfl
                  simp only [Act.put, List.getElem_toArray, List.getElem_cons_zero, List.getElem_cons_succ, List.setIfInBounds_toArray, List.set_cons_zero, List.set_cons_succ]
                  refine wpAnyH_ready (rs := [4]) (by kernel_rfl) (by simp) ?_
                  refine AllReadyH.cons rfl (fun K hK => ?_) AllReadyH.nil
                  go_simp
                  refine (SL.out _).mono ?_
                  rintro e w4 ⟨rfl, hu1⟩
                  refine hK.out _ _ ?_ (fun hHeld => ?_)
                  · exact ⟨hu1.keep hHeld.1, hu1.keep hHeld.2⟩
                  clear hK K
                  try simp only [Act.put, List.getElem_toArray, List.getElem_cons_zero, List.getElem_cons_succ, List.setIfInBounds_toArray, List.set_cons_zero, List.set_cons_succ]
                  refine wpAnyH_take (i := 5) (v := ?_) rfl (by kernel_rfl) (by kernel_rfl) (by kernel_rfl) (fun _ _ _ h => h) (Or.inl ⟨by rfl, ?_⟩) (by assumption) ?_
                  rotate_left
                  · (intro w hSw; (try dsimp only at hSw); go_simp)
                    first | done | with_reducible rfl
                  simp only [Act.put, List.getElem_toArray, List.getElem_cons_zero, List.getElem_cons_succ, List.setIfInBounds_toArray, List.set_cons_zero, List.set_cons_succ]
                  refine wpAnyH_take (i := 6) (v := ?_) rfl (by kernel_rfl) (by kernel_rfl) (by kernel_rfl) (fun _ _ _ h => h) (Or.inl ⟨by rfl, ?_⟩) (by assumption) ?_
                  rotate_left
                  · (intro w hSw; (try dsimp only at hSw); go_simp)
                    first | done | with_reducible rfl
                  simp only [Act.put, List.getElem_toArray, List.getElem_cons_zero, List.getElem_cons_succ, List.setIfInBounds_toArray, List.set_cons_zero, List.set_cons_succ]
                  refine wpAnyH_take (i := 7) (v := ?_) rfl (by kernel_rfl) (by kernel_rfl) (by kernel_rfl) (fun _ _ _ h => h) (Or.inl ⟨by rfl, ?_⟩) (by assumption) ?_
                  rotate_left
                  · (intro w hSw; (try dsimp only at hSw); go_simp)
                    first | done | with_reducible rfl
                  simp only [Act.put, List.getElem_toArray, List.getElem_cons_zero, List.getElem_cons_succ, List.setIfInBounds_toArray, List.set_cons_zero, List.set_cons_succ]
                  refine wpAnyH_take (i := 8) (v := ?_) rfl (by kernel_rfl) (by kernel_rfl) (by kernel_rfl) (fun _ _ _ h => h) (Or.inl ⟨by rfl, ?_⟩) (by assumption) ?_
                  rotate_left
                  · (intro w hSw; (try dsimp only at hSw); go_simp)
                    first | done | with_reducible rfl
                  simp only [Act.put, List.getElem_toArray, List.getElem_cons_zero, List.getElem_cons_succ, List.setIfInBounds_toArray, List.set_cons_zero, List.set_cons_succ]
                  refine wpAnyH_take (i := 9) (v := ?_) rfl (by kernel_rfl) (by kernel_rfl) (by kernel_rfl) (fun _ _ _ h => h) (Or.inl ⟨by rfl, ?_⟩) (by assumption) ?_
                  rotate_left
                  · (intro w hSw; (try dsimp only at hSw); go_simp)
                    first | done | with_reducible rfl
                  simp only [Act.put, List.getElem_toArray, List.getElem_cons_zero, List.getElem_cons_succ, List.setIfInBounds_toArray, List.set_cons_zero, List.set_cons_succ]
                  refine wpAnyH_take (i := 10) (v := ?_) rfl (by kernel_rfl) (by kernel_rfl) (by kernel_rfl) (fun _ _ _ h => h) (Or.inl ⟨by rfl, ?_⟩) (by assumption) ?_
                  rotate_left
                  · (intro w hSw; (try dsimp only at hSw); go_simp)
                    first | done | with_reducible rfl
                  simp only [Act.put, List.getElem_toArray, List.getElem_cons_zero, List.getElem_cons_succ, List.setIfInBounds_toArray, List.set_cons_zero, List.set_cons_succ]
                  refine wpAnyH_take (i := 11) (v := ?_) rfl (by kernel_rfl) (by kernel_rfl) (by kernel_rfl) (fun _ _ _ h => h) (Or.inl ⟨by rfl, ?_⟩) (by assumption) ?_
                  rotate_left
                  · (intro w hSw; (try dsimp only at hSw); go_simp)
                    first | done | with_reducible rfl
                  simp only [Act.put, List.getElem_toArray, List.getElem_cons_zero, List.getElem_cons_succ, List.setIfInBounds_toArray, List.set_cons_zero, List.set_cons_succ]
                  refine wpAnyH_take (i := 12) (v := ?_) rfl (by kernel_rfl) (by kernel_rfl) (by kernel_rfl) (fun _ _ _ h => h) (Or.inl ⟨by rfl, ?_⟩) (by assumption) ?_
                  rotate_left
                  · (intro w hSw; (try dsimp only at hSw); go_simp)
                    first | done | with_reducible rfl
                  simp only [Act.put, List.getElem_toArray, List.getElem_cons_zero, List.getElem_cons_succ, List.setIfInBounds_toArray, List.set_cons_zero, List.set_cons_succ]
                  refine wpAnyH_take (i := 13) (v := ?_) rfl (by kernel_rfl) (by kernel_rfl) (by kernel_rfl) (fun _ _ _ h => h) (Or.inl ⟨by rfl, ?_⟩) (by assumption) ?_
                  rotate_left
                  · (intro w hSw; (try dsimp only at hSw); go_simp)
                    first | done | with_reducible rfl
                  simp only [Act.put, List.getElem_toArray, List.getElem_cons_zero, List.getElem_cons_succ, List.setIfInBounds_toArray, List.set_cons_zero, List.set_cons_succ]
                  refine wpAnyH_take (i := 14) (v := ?_) rfl (by kernel_rfl) (by kernel_rfl) (by kernel_rfl) (fun _ _ _ h => h) (Or.inl ⟨by rfl, ?_⟩) (by assumption) ?_
                  rotate_left
                  · (intro w hSw; (try dsimp only at hSw); go_simp)
                    first | done | with_reducible rfl
                  simp only [Act.put, List.getElem_toArray, List.getElem_cons_zero, List.getElem_cons_succ, List.setIfInBounds_toArray, List.set_cons_zero, List.set_cons_succ]
                  refine wpAnyH_take (i := 15) (v := ?_) rfl (by kernel_rfl) (by kernel_rfl) (by kernel_rfl) (fun _ _ _ h => h) (Or.inl ⟨by rfl, ?_⟩) (by assumption) ?_
                  rotate_left
                  · (intro w hSw; (try dsimp only at hSw); go_simp)
                    first | done | with_reducible rfl
                  simp only [Act.put, List.getElem_toArray, List.getElem_cons_zero, List.getElem_cons_succ, List.setIfInBounds_toArray, List.set_cons_zero, List.set_cons_succ]
                  try simp only [kN]
                  try simp only [kI]
                  refine wpAnyH_take (i := 16) (v := ?_) rfl (by kernel_rfl) (by kernel_rfl) (by kernel_rfl) (fun _ _ _ h => h) (Or.inl ⟨by rfl, ?_⟩) (by assumption) ?_
                  rotate_left
                  · (intro w hSw; (try dsimp only at hSw); go_simp)
                    first | done | with_reducible rfl
                  simp only [Act.put, List.getElem_toArray, List.getElem_cons_zero, List.getElem_cons_succ, List.setIfInBounds_toArray, List.set_cons_zero, List.set_cons_succ]
                  refine wpAnyH_take (i := 17) rfl (by kernel_rfl) (by kernel_rfl) (by kernel_rfl) (fun _ _ _ h => h) (Or.inr ⟨by rfl, rfl⟩) (by assumption) ?_
                  simp only [Act.put, List.getElem_toArray, List.getElem_cons_zero, List.getElem_cons_succ, List.setIfInBounds_toArray, List.set_cons_zero, List.set_cons_succ]
                  refine wpAnyH_take (i := 18) rfl (by kernel_rfl) (by kernel_rfl) (by kernel_rfl) (fun _ _ _ h => h) (Or.inr ⟨by rfl, rfl⟩) (by assumption) ?_
                  simp only [Act.put, List.getElem_toArray, List.getElem_cons_zero, List.getElem_cons_succ, List.setIfInBounds_toArray, List.set_cons_zero, List.set_cons_succ]
                  refine wpAnyH_take (i := 19) rfl (by kernel_rfl) (by kernel_rfl) (by kernel_rfl) (fun _ _ _ h => h) (Or.inr ⟨by rfl, rfl⟩) (by assumption) ?_
                  simp only [Act.put, List.getElem_toArray, List.getElem_cons_zero, List.getElem_cons_succ, List.setIfInBounds_toArray, List.set_cons_zero, List.set_cons_succ]
                  refine wpAnyH_take (i := 20) rfl (by kernel_rfl) (by kernel_rfl) (by kernel_rfl) (fun _ _ _ h => h) (Or.inr ⟨by rfl, rfl⟩) (by assumption) ?_
                  simp only [Act.put, List.getElem_toArray, List.getElem_cons_zero, List.getElem_cons_succ, List.setIfInBounds_toArray, List.set_cons_zero, List.set_cons_succ]
                  refine wpAnyH_take (i := 21) rfl (by kernel_rfl) (by kernel_rfl) (by kernel_rfl) (fun _ _ _ h => h) (Or.inr ⟨by rfl, rfl⟩) (by assumption) ?_
                  simp only [Act.put, List.getElem_toArray, List.getElem_cons_zero, List.getElem_cons_succ, List.setIfInBounds_toArray, List.set_cons_zero, List.set_cons_succ]
                  refine wpAnyH_take (i := 22) rfl (by kernel_rfl) (by kernel_rfl) (by kernel_rfl) (fun _ _ _ h => h) (Or.inr ⟨by rfl, rfl⟩) (by assumption) ?_
                  simp only [Act.put, List.getElem_toArray, List.getElem_cons_zero, List.getElem_cons_succ, List.setIfInBounds_toArray, List.set_cons_zero, List.set_cons_succ]
                  refine wpAnyH_take (i := 23) rfl (by kernel_rfl) (by kernel_rfl) (by kernel_rfl) (fun _ _ _ h => h) (Or.inr ⟨by rfl, rfl⟩) (by assumption) ?_
                  simp only [Act.put, List.getElem_toArray, List.getElem_cons_zero, List.getElem_cons_succ, List.setIfInBounds_toArray, List.set_cons_zero, List.set_cons_succ]
                  refine wpAnyH_take (i := 24) rfl (by kernel_rfl) (by kernel_rfl) (by kernel_rfl) (fun _ _ _ h => h) (Or.inr ⟨by rfl, rfl⟩) (by assumption) ?_
                  simp only [Act.put, List.getElem_toArray, List.getElem_cons_zero, List.getElem_cons_succ, List.setIfInBounds_toArray, List.set_cons_zero, List.set_cons_succ]
                  refine wpAnyH_take (i := 25) rfl (by kernel_rfl) (by kernel_rfl) (by kernel_rfl) (fun _ _ _ h => h) (Or.inr ⟨by rfl, rfl⟩) (by assumption) ?_
                  simp only [Act.put, List.getElem_toArray, List.getElem_cons_zero, List.getElem_cons_succ, List.setIfInBounds_toArray, List.set_cons_zero, List.set_cons_succ]
                  refine wpAnyH_take (i := 26) rfl (by kernel_rfl) (by kernel_rfl) (by kernel_rfl) (fun _ _ _ h => h) (Or.inr ⟨by rfl, rfl⟩) (by assumption) ?_
                  simp only [Act.put, List.getElem_toArray, List.getElem_cons_zero, List.getElem_cons_succ, List.setIfInBounds_toArray, List.set_cons_zero, List.set_cons_succ]
                  refine wpAnyH_take (i := 27) (v := ?_) rfl (by kernel_rfl) (by kernel_rfl) (by kernel_rfl) (fun _ _ _ h => h) (Or.inl ⟨by rfl, ?_⟩) (by assumption) ?_
                  rotate_left
                  · (intro w hSw; (try dsimp only at hSw); go_simp)
                    first | done | with_reducible rfl
                  simp only [Act.put, List.getElem_toArray, List.getElem_cons_zero, List.getElem_cons_succ, List.setIfInBounds_toArray, List.set_cons_zero, List.set_cons_succ]
                  refine wpAnyH_take (i := 28) (v := ?_) rfl (by kernel_rfl) (by kernel_rfl) (by kernel_rfl) (fun _ _ _ h => h) (Or.inl ⟨by rfl, ?_⟩) (by assumption) ?_
                  rotate_left
                  · (intro w hSw; (try dsimp only at hSw); go_simp)
                    first | done | with_reducible rfl
                  simp only [Act.put, List.getElem_toArray, List.getElem_cons_zero, List.getElem_cons_succ, List.setIfInBounds_toArray, List.set_cons_zero, List.set_cons_succ]
                  refine wpAnyH_done (by kernel_rfl) ?_ _
                  have HU9 := Lib.hid (HU.out.drew.trans hu1)
                  clear HU hHeld x0 q0
                  go_wp2_with fail
                  go_roundw
                  case rel => exact ⟨k + 1, by omega, by omega, by go_num, HA3, HU9.out⟩
                  case measure => simp [intOf]; omega
          · obtain rfl : k = labs.length := by omega
            have HRR := Lib.hid (show labsOk labs = true by rw [HLO2.out, ← HA.out]; exact allF_end _ _)
            have HU := Lib.hid hU
            clear hlt hk HA hU HLO2 p0 HR1
            go_wp2_with fail
            go_ret
            exact ⟨by rw [HRR.out]; rfl, HU.out⟩
      · have HRR := Lib.hid (show labsOk labs = false by
          have := HA0.out
          rw [HLP0.out, show (s0 == tauL) = false by simpa using ht0] at this
          rw [Nat.sub_zero] at this
          rw [HLO2.out, this]; simp)
        have g1 : (s0 == [116, 97, 117]) = false := by simpa [tauL] using ht0
        have g1n : (s0 != [116, 97, 117]) = true := by simp [bne, g1]
        clear HA0 HLP0 ht0 HLO2 HR1 HP
        go_enter Tryz.func79, Tryz.ntmps79
        go_wp2_with fail
        go_ret
        exact ⟨by rw [HRR.out]; rfl, Upd.refl _ _⟩

end Go.Proofs.YtghocakjhfflbaaGreatDoor
