/-
  Comparing terms, small calls of Go's library, and canonical forms, the program's side.
-/
import Derived.Test.YtnioopbficcbeaaCanon
import Derived.Test.YtnioopbficcbeaaFoldW
import Derived.Deep.RegionHeld3
import Derived.Deep.RegionLaw
namespace Go.Proofs.Ytnioopbficcbeaa
open Go.RowKit

set_option maxHeartbeats 400000 in
theorem isNaNint (a : Int) (w : World) : Calls Try.prog 91 #[.int .i64 a] w fun e w' => e = .returned (.bool false) ∧ w = w' := by
  go_enter Try.func91, Try.ntmps91
  go_wp2
  go_ret
  exact ⟨by simp, rfl⟩

set_option maxHeartbeats 400000 in
theorem compareInt (a b : Int) (w : World) : Calls Try.prog 71 #[.int .i64 a, .int .i64 b] w fun e w' => e = .returned (.int .i64 (cmpI a b)) ∧ w = w' := by
  rcases Int.lt_trichotomy a b with h | h | h
  · have e : cmpI a b = -1 := by simp [cmpI, h]
    go_enter Try.func71, Try.ntmps71
    go_wp2_with (go_at_call 91; refine (isNaNint _ _).mono ?_; rintro e w' ⟨rfl, rfl⟩)
    go_ret
    exact ⟨by simp [e], rfl⟩
  · have e : cmpI a b = 0 := by simp [cmpI, h]
    have h1 : ¬ a < b := by omega
    have h2 : ¬ b < a := by omega
    clear h
    go_enter Try.func71, Try.ntmps71
    go_wp2_with (go_at_call 91; refine (isNaNint _ _).mono ?_; rintro e w' ⟨rfl, rfl⟩)
    go_ret
    exact ⟨by simp [e], rfl⟩
  · have h1 : ¬ a < b := by omega
    have e : cmpI a b = 1 := by simp [cmpI, h, h1]
    go_enter Try.func71, Try.ntmps71
    go_wp2_with (go_at_call 91; refine (isNaNint _ _).mono ?_; rintro e w' ⟨rfl, rfl⟩)
    go_ret
    exact ⟨by simp [e], rfl⟩


def orV (x y : Int) : Int := if x ≠ 0 then x else y

set_option maxRecDepth 20000 in
theorem orI (b off cap : Nat) (x y : Int) (w : World) (c0 : w.cell? ⟨b, off, none⟩ = some (ei x)) (c1 : w.cell? ⟨b, off + 1, none⟩ = some (ei y)) :
    Calls Try.prog 70 #[.slice (some ⟨b, off, none⟩) 2 cap] w fun e w' => e = .returned (.int .i64 (orV x y)) ∧ w = w' := by
  by_cases hx : x = 0
  · subst hx
    by_cases hy : y = 0
    · subst hy
      go_enter Try.func70, Try.ntmps70
      go_wp2
      go_loop [8] (fun i => ∃ k : Nat, k ≤ 2 ∧ i = .int .i64 k) (fun i => 2 - (intOf i).toNat)
      case atStart => exact ⟨0, by omega, rfl⟩
      case round =>
        obtain ⟨k, hk, rfl⟩ := hrel
        rcases (by omega : k = 0 ∨ k = 1 ∨ k = 2) with rfl | rfl | rfl
        · go_wp2
          go_round
          case rel => exact ⟨1, by omega, rfl⟩
          case measure => simp [intOf]
        · go_wp2
          go_round
          case rel => exact ⟨2, by omega, rfl⟩
          case measure => simp [intOf]
        · go_wp2
          go_ret
          exact ⟨by simp [orV], rfl⟩
    · go_enter Try.func70, Try.ntmps70
      go_wp2
      go_loop [8] (fun i => ∃ k : Nat, k ≤ 1 ∧ i = .int .i64 k) (fun i => 2 - (intOf i).toNat)
      case atStart => exact ⟨0, by omega, rfl⟩
      case round =>
        obtain ⟨k, hk, rfl⟩ := hrel
        rcases (by omega : k = 0 ∨ k = 1) with rfl | rfl
        · go_wp2
          go_round
          case rel => exact ⟨1, by omega, rfl⟩
          case measure => simp [intOf]
        · have hy' : (y != 0) = true := by simpa using hy
          go_wp2
          go_ret
          exact ⟨by simp [orV], rfl⟩
  · have hx' : (x != 0) = true := by simpa using hx
    go_enter Try.func70, Try.ntmps70
    go_wp2
    go_loop [8] (fun i => i = .int .i64 0) (fun i => 2 - (intOf i).toNat)
    case atStart => rfl
    case round =>
      obtain rfl := hrel
      go_wp2
      go_ret
      exact ⟨by simp [orV, hx], rfl⟩

set_option maxRecDepth 20000 in
set_option maxHeartbeats 2000000 in
theorem compareTerms (a b c d : Int) (w : World) : Calls Try.prog 73 #[.agg #[ei a, ei b], .agg #[ei c, ei d]] w fun e w' => e = .returned (.int .i64 (cmpT (a, b) (c, d))) ∧ Upd [] w w' := by
  have S1 := Lib.hid (compareI a c)
  have S2 := Lib.hid (compareI b d)
  have hres : cmpT (a, b) (c, d) = orV (cmpI a c) (cmpI b d) := rfl
  have HR := Lib.hid hres
  clear hres
  generalize cmpI a c = x at *
  generalize cmpI b d = y at *
  have S3 := Lib.hid (fun (B : Nat) (w : World) h0 h1 => orI B 0 2 x y w h0 h1)
  go_enter Try.func73, Try.ntmps73
  go_wp2_with fail
  go_region_held3 (fun w' => w'.cell? ⟨w.heap.size, 0, none⟩ = some (ei a) ∧ w'.cell? ⟨w.heap.size, 1, none⟩ = some (ei b) ∧ w'.cell? ⟨w.heap.size + 1, 0, none⟩ = some (ei c) ∧ w'.cell? ⟨w.heap.size + 1, 1, none⟩ = some (ei d)) (go_keep)
    (first | (go_at_call 92; (with_reducible refine (S1.out _).mono ?_); rintro r w4 ⟨rfl, rfl⟩) | (go_at_call 92; (with_reducible refine (S2.out _).mono ?_); rintro r w4 ⟨rfl, rfl⟩) | (go_at_call 70; refine (S3.out _ _ (by simp; exact cell_new _ _ _ _ (by simp) _ _ rfl) (by simp; exact cell_new _ _ _ _ (by simp) _ _ rfl)).mono ?_; rintro r w4 ⟨rfl, rfl⟩))
  all_goals
    go_wp2_with fail
    go_ret
    exact ⟨by rw [HR.out]; rfl, ((((Upd.refl [] w).alloc _).alloc _).alloc _).drew⟩


set_option maxRecDepth 20000 in
set_option maxHeartbeats 2000000 in
theorem compareFuncT (v1 v2 : Value) (xs ys : List Tm) (w : World) (f1 f2 : List Nat) (h1 : R_T1 f1 w [v1] xs) (h2 : R_T1 f2 w [v2] ys) :
    Calls Try.prog 72 #[v1, v2, .func (.func 73) #[] #[]] w fun e w' => e = .returned (.int .i64 (cmpTL xs ys)) ∧ Upd [] w w' := by
  obtain ⟨a1, c1, rfl, hl1, hm1, hc1⟩ := slF2_open h1
  obtain ⟨a2, c2, rfl, hl2, hm2, hc2⟩ := slF2_open h2
  unfold maxLen at hm1 hm2
  clear h1 h2
  go_enter Try.func72, Try.ntmps72
  go_wp2_with fail
  go_loopw [13] (fun i wr => ∃ k : Nat, k ≤ xs.length ∧ k ≤ ys.length ∧ i = .int .i64 k ∧ Upd [] w wr ∧ cmpTL (xs.drop k) (ys.drop k) = cmpTL xs ys) (fun i _ => xs.length - (intOf i).toNat)
  case atStart => exact ⟨0, Nat.zero_le _, Nat.zero_le _, rfl, Upd.refl _ _, rfl⟩
  case round =>
    obtain ⟨k, hk1, hk2, rfl, hU, hF⟩ := hrel
    by_cases hlt : k < xs.length
    · obtain ⟨b1, o1, rfl, -, -, p1, p2⟩ := hc1 k hlt
      have p1' := hU.keep p1
      have p2' := hU.keep p2
      by_cases hlt2 : k < ys.length
      · obtain ⟨b2, o2, rfl, -, hb2, q1, q2⟩ := hc2 k hlt2
        have hb2' : b2 < wr.heap.size := Nat.lt_of_lt_of_le hb2 hU.size
        have q1' := hU.keep q1
        have q2' := hU.keep q2
        have hst := cmpTL_step xs ys k hlt hlt2
        rw [hF] at hst
        have HST := Lib.hid hst
        have HF := Lib.hid hF
        have HU := Lib.hid hU
        have hbd := cmpT_bd xs[k] ys[k]
        generalize xs[k] = x at *
        generalize ys[k] = y at *
        obtain ⟨x1, x2⟩ := x
        obtain ⟨y1, y2⟩ := y
        have S2 := Lib.hid (fun w => compareTerms x1 x2 y1 y2 w)
        have hbx : wr.heap.size ≤ wr.heap.size := Nat.le_refl _
        clear hst hF hc1 hc2 p1 p2 q1 q2 hU hbx
        generalize cmpT (x1, x2) (y1, y2) = c at *
        go_wp2_with fail
        refine (S2.out _).mono ?_
        rintro e w3 ⟨rfl, hu3⟩
        have HU3 := Lib.hid (((HU.out.alloc _).alloc _).trans hu3)
        clear hu3
        by_cases hc : c = 0
        · subst hc
          go_wp2_with fail
          go_roundw
          case rel => exact ⟨k + 1, by omega, by omega, by go_num, HU3.out, by rw [HST.out]; simp⟩
          case measure => simp [intOf]; omega
        · have hc' : (c != 0) = true := by simpa using hc
          go_wp2_with fail
          go_ret
          exact ⟨by rw [HST.out, if_pos hc]; rfl, HU3.out⟩
      · have hge : ys.length ≤ k := by omega
        have hres : cmpTL xs ys = 1 := by rw [← hF, List.drop_eq_getElem_cons hlt, List.drop_of_length_le hge]; rfl
        have HR := Lib.hid hres
        have HU := Lib.hid hU
        clear hres hF hc1 hc2 p1 p2 hU
        go_wp2_with fail
        go_ret
        exact ⟨by rw [HR.out]; rfl, HU.out.alloc _⟩
    · obtain rfl : k = xs.length := by omega
      rw [List.drop_length] at hF
      clear hc1 hc2
      by_cases hlt2 : xs.length < ys.length
      · have hres : cmpTL xs ys = -1 := by rw [← hF, List.drop_eq_getElem_cons hlt2]; rfl
        have HR := Lib.hid hres
        clear hres hF
        go_wp2_with fail
        go_ret
        exact ⟨by rw [HR.out]; rfl, hU⟩
      · have hres : cmpTL xs ys = 0 := by rw [← hF, List.drop_of_length_le (by omega)]; rfl
        have HR := Lib.hid hres
        clear hres hF
        go_wp2_with fail
        go_ret
        exact ⟨by rw [HR.out]; rfl, hU⟩

def IdxP (xs : List Int) (n : Int) (w : World) (e : Ending) (w' : World) : Prop := (∃ q : Int, e = .returned (.int .i64 q) ∧ -1 ≤ q ∧ q ≤ 9223372036854775807 ∧ (decide (0 ≤ q)) = xs.contains n) ∧ w = w'

set_option maxRecDepth 20000 in
set_option maxHeartbeats 1000000 in
theorem indexI (v : Value) (xs : List Int) (n : Int) (w : World) (fp : List Nat) (hR : R1 fp w [v] xs) :
    Calls Try.prog 90 #[v, .int .i64 n] w (IdxP xs n w) := by
  obtain ⟨a1, c1, rfl, hl1, hm1, hc1⟩ := slF1_open hR
  unfold maxLen at hm1
  clear hR
  go_enter Try.func90, Try.ntmps90
  go_wp2_with fail
  go_loop [8] (fun i => ∃ k : Nat, k ≤ xs.length ∧ i = .int .i64 k ∧ (xs.drop k).contains n = xs.contains n) (fun i => xs.length - (intOf i).toNat)
  case atStart => exact ⟨0, Nat.zero_le _, rfl, rfl⟩
  case round =>
    obtain ⟨k, hk, rfl, hF⟩ := hrel
    by_cases hlt : k < xs.length
    · obtain ⟨b1, o1, rfl, -, -, p1⟩ := hc1 k hlt
      rw [List.drop_eq_getElem_cons hlt] at hF
      have HF := Lib.hid hF
      clear hF hc1
      generalize xs[k] = x at *
      by_cases hx : n = x
      · subst hx
        go_wp2_with fail
        go_ret
        exact ⟨⟨k, rfl, by omega, by omega, by rw [← HF.out]; simp⟩, rfl⟩
      · have hx' : (n == x) = false := by simpa using hx
        go_wp2_with fail
        go_round
        case rel => exact ⟨k + 1, by omega, by go_num, by rw [← HF.out]; simp [hx]⟩
        case measure => simp [intOf]; omega
    · rw [List.drop_of_length_le (by omega)] at hF
      have HF := Lib.hid hF
      clear hF hc1
      go_wp2_with fail
      go_ret
      exact ⟨⟨-1, rfl, by omega, by omega, by rw [← HF.out]; simp⟩, rfl⟩

set_option maxRecDepth 20000 in
theorem containsI (v : Value) (xs : List Int) (n : Int) (w : World) (fp : List Nat) (hR : R1 fp w [v] xs) :
    Calls Try.prog 69 #[v, .int .i64 n] w fun e w' => e = .returned (.bool (xs.contains n)) ∧ w = w' := by
  have S2 := Lib.hid (indexI v xs n w fp hR)
  go_enter Try.func69, Try.ntmps69
  go_wp2_with fail
  refine S2.out.mono ?_
  rintro e w1 ⟨⟨q, rfl, h1, h2, h3⟩, rfl⟩
  have H3 := Lib.hid h3
  clear h3
  go_wp2_with fail
  go_ret
  exact ⟨by rw [← H3.out]; rfl, rfl⟩

/-- Reverse on two elements. -/
theorem reverse2 (g cap base : Nat) (e : TypeId) (u0 u1 : Value) (w : World) (p0 p1 : Nat) (hp0 : u0 = .pointer (some ⟨p0, 0, none⟩)) (hp1 : u1 = .pointer (some ⟨p1, 0, none⟩)) (hown : w.ownsRow base e 1 (.slice (some ⟨g, 0, none⟩) 2 cap) 2 [u0, u1]) :
    Calls Try.prog 74 #[.slice (some ⟨g, 0, none⟩) 2 cap] w fun r w' => r = .returned (.tuple #[]) ∧ w'.ownsRow base e 1 (.slice (some ⟨g, 0, none⟩) 2 cap) 2 [u1, u0] ∧ Upd [g] w w' := by
  subst hp0 hp1
  have c0 : w.cell? ⟨g, 0, none⟩ = some (.pointer (some ⟨p0, 0, none⟩)) := by have := hown.cellAt 0 (by omega); simpa using this
  have c1 : w.cell? ⟨g, 1, none⟩ = some (.pointer (some ⟨p1, 0, none⟩)) := by have := hown.cellAt 1 (by omega); simpa using this
  have f0 : w.frozen? ⟨g, 0, none⟩ = false := by have := hown.frozenAt 0; simpa using this
  have f1 : w.frozen? ⟨g, 1, none⟩ = false := by have := hown.frozenAt 1; simpa using this
  have hcap : 2 ≤ cap ∧ cap ≤ 9223372036854775807 := by
    rcases hown.2 with ⟨h, -⟩ | ⟨_, _, _, h, -, -, h2, h3, -⟩
    · cases h
    · cases h; unfold maxLen at h3; omega
  go_enter Try.func74, Try.ntmps74
  have HW := Lib.hid (show ∀ n, (((w.drewN n).setCell ⟨g, 0, none⟩ (.pointer (some ⟨p1, 0, none⟩))).setCell ⟨g, 1, none⟩ (.pointer (some ⟨p0, 0, none⟩))).ownsRow base e 1 (.slice (some ⟨g, 0, none⟩) 2 cap) 2 [.pointer (some ⟨p1, 0, none⟩), .pointer (some ⟨p0, 0, none⟩)] from fun n => by
    have q0 : (w.drewN n).ownsRow base e 1 (.slice (some ⟨g, 0, none⟩) 2 cap) 2 [.pointer (some ⟨p0, 0, none⟩), .pointer (some ⟨p1, 0, none⟩)] := hown
    have q1 := (q0.stored 0 (.pointer (some ⟨p1, 0, none⟩))).1
    have q2 := (q1.stored 1 (.pointer (some ⟨p0, 0, none⟩))).1
    simpa using q2)
  clear hown
  go_wp2_with fail
  go_loopw [2, 3] (fun i j wr => (i = .int .i64 0 ∧ j = .int .i64 1 ∧ wr = w) ∨ (i = .int .i64 1 ∧ j = .int .i64 0 ∧ ∃ n, wr = ((w.drewN n).setCell ⟨g, 0, none⟩ (.pointer (some ⟨p1, 0, none⟩))).setCell ⟨g, 1, none⟩ (.pointer (some ⟨p0, 0, none⟩)))) (fun i _ _ => 1 - (intOf i).toNat)
  case atStart => exact Or.inl ⟨rfl, rfl, rfl⟩
  case round =>
    rcases hrel with ⟨rfl, rfl, rfl⟩ | ⟨rfl, rfl, n, hw⟩
    · go_wp2_with fail
      go_region
      all_goals
        go_wp2_with fail
        go_roundw
        case rel => exact Or.inr ⟨rfl, rfl, 1, rfl⟩
        case measure => simp [intOf]
    · go_wp2_with fail
      go_end0
      subst hw
      exact ⟨rfl, HW.out n, (((Upd.refl [g] w).drewN n).setCell (by simp) _).setCell (by simp) _⟩

end Go.Proofs.Ytnioopbficcbeaa
