/-
  Values of operations and of trees: what the calls return.
-/
import Derived.Test.YtnfghgaadnobbaaFold
import Derived.Test.YtnfghgaadnobbaaTreeW
namespace Go.Proofs.Ytnfghgaadnobbaa
open Go.RowKit

theorem truthI (b : Bool) (w : World) : Calls Try.prog 125 #[.bool b] w fun e w' => e = .returned (.int .i64 (truthV b)) ∧ w = w' := by
  cases b
  · go_enter Try.func125, Try.ntmps125
    go_wp2
    go_ret
    exact ⟨rfl, rfl⟩
  · go_enter Try.func125, Try.ntmps125
    go_wp2
    go_ret
    exact ⟨rfl, rfl⟩

set_option maxHeartbeats 1000000 in
theorem operateI (op a b : Int) (w : World) (ho : 0 ≤ op ∧ op ≤ 8) (ha : 0 ≤ a ∧ a ≤ 63) (hb : 0 ≤ b ∧ b ≤ 63) :
    Calls Try.prog 126 #[.int .i64 op, .int .i64 a, .int .i64 b] w fun e w' => e = .returned (.int .i64 (opV op a b)) ∧ w = w' := by
  obtain ⟨ha1, ha2⟩ := ha
  obtain ⟨hb1, hb2⟩ := hb
  have hm1 : 0 ≤ a * b := Int.mul_nonneg ha1 hb1
  have hm2 : a * b ≤ 63 * 63 := Int.mul_le_mul ha2 hb2 hb1 (by decide)
  by_cases hlt : op < 7
  · rcases (by omega : op = 0 ∨ op = 1 ∨ op = 2 ∨ op = 3 ∨ op = 4 ∨ op = 5 ∨ op = 6) with rfl | rfl | rfl | rfl | rfl | rfl | rfl
    all_goals
      clear ho hlt
      go_enter Try.func126, Try.ntmps126
      go_wp2_with (go_at_call 125; refine (truthI _ _).mono ?_; rintro e w' ⟨rfl, rfl⟩)
      go_ret
      exact ⟨by simp [opV], rfl⟩
  · rcases (by omega : op = 7 ∨ op = 8) with rfl | rfl
    all_goals
      clear ho hlt
      by_cases h0 : a = 0 <;> by_cases h1 : b = 0
      all_goals
        first | subst h0 | (have h0' : (a != 0) = true := by simpa using h0)
        first | subst h1 | (have h1' : (b != 0) = true := by simpa using h1)
        go_enter Try.func126, Try.ntmps126
        go_wp2_with (go_at_call 125; refine (truthI _ _).mono ?_; rintro e w' ⟨rfl, rfl⟩)
        go_ret
        exact ⟨by simp [opV, *], rfl⟩

theorem truthS (b : Bool) (w : World) : Calls Try.prog 78 #[.bool b] w fun e w' => e = .returned (.int .i64 (truthV b)) ∧ w = w' := by
  cases b
  · go_enter Try.func78, Try.ntmps78
    go_wp2
    go_ret
    exact ⟨rfl, rfl⟩
  · go_enter Try.func78, Try.ntmps78
    go_wp2
    go_ret
    exact ⟨rfl, rfl⟩

set_option maxHeartbeats 1000000 in
theorem operateS (op a b : Int) (w : World) (ho : 0 ≤ op ∧ op ≤ 8) (ha : 0 ≤ a ∧ a ≤ 63) (hb : 0 ≤ b ∧ b ≤ 63) :
    Calls Try.prog 79 #[.int .i64 op, .int .i64 a, .int .i64 b] w fun e w' => e = .returned (.int .i64 (opV op a b)) ∧ w = w' := by
  obtain ⟨ha1, ha2⟩ := ha
  obtain ⟨hb1, hb2⟩ := hb
  have hm1 : 0 ≤ a * b := Int.mul_nonneg ha1 hb1
  have hm2 : a * b ≤ 63 * 63 := Int.mul_le_mul ha2 hb2 hb1 (by decide)
  by_cases hlt : op < 7
  · rcases (by omega : op = 0 ∨ op = 1 ∨ op = 2 ∨ op = 3 ∨ op = 4 ∨ op = 5 ∨ op = 6) with rfl | rfl | rfl | rfl | rfl | rfl | rfl
    all_goals
      clear ho hlt
      go_enter Try.func79, Try.ntmps79
      go_wp2_with (go_at_call 78; refine (truthS _ _).mono ?_; rintro e w' ⟨rfl, rfl⟩)
      go_ret
      exact ⟨by simp [opV], rfl⟩
  · rcases (by omega : op = 7 ∨ op = 8) with rfl | rfl
    all_goals
      clear ho hlt
      by_cases h0 : a = 0 <;> by_cases h1 : b = 0
      all_goals
        first | subst h0 | (have h0' : (a != 0) = true := by simpa using h0)
        first | subst h1 | (have h1' : (b != 0) = true := by simpa using h1)
        go_enter Try.func79, Try.ntmps79
        go_wp2_with (go_at_call 78; refine (truthS _ _).mono ?_; rintro e w' ⟨rfl, rfl⟩)
        go_ret
        exact ⟨by simp [opV, *], rfl⟩


set_option maxRecDepth 20000 in
set_option maxHeartbeats 2000000 in
theorem valueE (n : Nat) : ∀ (x : Ex) (w : World) (v vv : Value) (fp fv : List Nat) (vals : List Int) (nv : Int), (flatE x).length ≤ n → goodE nv x = true → nv ≤ vals.length →
    (∀ k, 0 ≤ vals.getD k 0 ∧ vals.getD k 0 ≤ 63) → R_E fp w [v] x → R1 fv w [vv] vals →
    Calls Try.prog 87 #[v, vv] w fun r w' => r = .returned (.int .i64 (valE vals x)) ∧ ∃ m, w' = w.drewN m := by
  induction n with
  | zero => intro x w v vv fp fv vals nv hn; have := flatE_pos x; omega
  | succ n ih =>
    intro x w v vv fp fv vals nv hn hg hnv hvals hR hV
    obtain ⟨⟨t1, t2⟩, args⟩ := x
    have hg0 := hg
    rw [goodE_mk] at hg
    simp only [Bool.and_eq_true, decide_eq_true_eq] at hg
    obtain ⟨⟨hlen, hok⟩, hgs⟩ := hg
    obtain ⟨b0, s, fa, rfl, rfl, c0, c1, c2, hargs⟩ := R_E_open hR
    obtain ⟨a, cap, rfl, h1, h2, hc⟩ := slP_open hargs
    simp only [flatE, List.length_cons] at hn
    have HG0 := Lib.hid hg0
    rcases tOk_kind hok with h | h | h | h
    · subst h
      clear hR hargs hc c2 ih hlen hok hgs hg0 hvals
      have hres : valE vals (.mk (0, t2) args) = t2 := by simp [valE]
      have HRES := Lib.hid hres
      clear hres
      go_enter Try.func87, Try.ntmps87
      go_wp2_with fail
      go_ret
      exact ⟨by rw [HRES.out]; rfl, 0, rfl⟩
    · subst h
      have ht2 : 0 ≤ t2 ∧ t2 ≤ nv - 1 := by simp [tOk] at hok; exact inB_true hok
      obtain ⟨q, rfl⟩ : ∃ q : Nat, t2 = q := ⟨t2.toNat, by omega⟩
      have hq : q < vals.length := by omega
      obtain ⟨av, cv, rfl, hv1, hv2, hvc⟩ := slF1_open hV
      obtain ⟨bv, ov, rfl, -, -, hcv⟩ := hvc q hq
      have hres : valE vals (.mk (1, (q : Int)) args) = vals[q] := by simp [valE, hq]
      have HRES := Lib.hid hres
      unfold maxLen at hv2
      clear hres hvc hR hargs hc c2 ih hlen hok hgs hg0 hvals hV
      go_enter Try.func87, Try.ntmps87
      go_wp2_with fail
      go_ret
      exact ⟨by rw [HRES.out]; rfl, 0, rfl⟩
    · subst h
      have hop : 0 ≤ t2 ∧ t2 ≤ 8 := by simp [tOk] at hok; exact inB_true hok
      simp [arity] at hlen
      match args, hlen with
      | [x, y], _ =>
        obtain ⟨b, off, u, f, rfl, -, -, hcell, -, hr⟩ := hc 0 (by simp)
        obtain ⟨b', off', u', f', hb, -, -, hcell', -, hr'⟩ := hc 1 (by simp)
        cases hb
        simp only [List.getElem_cons_zero, List.getElem_cons_succ, Nat.add_zero, List.length_cons, List.length_nil] at *
        rw [goodEs_cons, goodEs_cons, Bool.and_eq_true, Bool.and_eq_true] at hgs
        simp only [flatEs, List.length_append] at hn
        have hbx := valE_bd vals nv hvals x hgs.1
        have hby := valE_bd vals nv hvals y hgs.2.1
        have H1 : ∀ n', Calls Try.prog 87 #[u, vv] (w.drewN n') fun e w'' => e = .returned (.int .i64 (valE vals x)) ∧ ∃ m, w'' = w.drewN m :=
          fun n' => Calls.quiet_of (ih x _ u vv f fv vals nv (by omega) hgs.1 hnv hvals (R_Ek.drewN hr _) ((slF_kept _ _).drewN hV _))
        have H2 : ∀ n', Calls Try.prog 87 #[u', vv] (w.drewN n') fun e w'' => e = .returned (.int .i64 (valE vals y)) ∧ ∃ m, w'' = w.drewN m :=
          fun n' => Calls.quiet_of (ih y _ u' vv f' fv vals nv (by omega) hgs.2.1 hnv hvals (R_Ek.drewN hr' _) ((slF_kept _ _).drewN hV _))
        have hres : valE vals (.mk (2, t2) [x, y]) = opV t2 (valE vals x) (valE vals y) := by simp [valE, valEs]
        have HRES := Lib.hid hres
        generalize hVX : valE vals x = vx at *
        generalize hVY : valE vals y = vy at *
        have H3 : ∀ n', Calls Try.prog 126 #[.int .i64 t2, .int .i64 vx, .int .i64 vy] (w.drewN n') fun e w'' => e = .returned (.int .i64 (opV t2 vx vy)) ∧ ∃ m, w'' = w.drewN m :=
          fun n' => Calls.quiet_of_same (by refine (operateI t2 vx vy _ hop hbx hby).mono ?_; rintro e w' ⟨h1, h2⟩; exact ⟨h1, h2.symm⟩)
        have HH1 := Lib.hid H1
        have HH2 := Lib.hid H2
        have HH3 := Lib.hid H3
        unfold maxLen at h2
        clear hres hR hargs hc ih hlen hok hgs hg0 hvals hV H1 H2 H3 hr hr' hVX hVY
        go_enter Try.func87, Try.ntmps87
        go_wp2_with fail
        go_quiet ((first | (go_at_call 87; first | (with_reducible exact HH1.out _) | (with_reducible exact HH2.out _)) | (go_at_call 126; with_reducible exact HH3.out _)))
        go_wp2_with fail
        go_ret
        exact ⟨by rw [HRES.out]; rfl, _, rfl⟩
    · subst h
      simp [arity] at hlen
      match args, hlen with
      | [x], _ =>
        obtain ⟨b, off, u, f, rfl, -, -, hcell, -, hr⟩ := hc 0 (by simp)
        simp only [List.getElem_cons_zero, Nat.add_zero, List.length_cons, List.length_nil] at *
        rw [goodEs_cons, Bool.and_eq_true] at hgs
        simp only [flatEs, List.length_append] at hn
        have H1 := ih x w u vv f fv vals nv (by omega) hgs.1 hnv hvals hr hV
        have hres : valE vals (.mk (3, t2) [x]) = truthV (valE vals x == 0) := by simp [valE, valEs]
        have HRES := Lib.hid hres
        generalize hVX : valE vals x = vx at *
        have HH1 := Lib.hid H1
        unfold maxLen at h2
        clear hres hR hargs hc ih hlen hok hgs hg0 hvals hV H1 hr hVX
        go_enter Try.func87, Try.ntmps87
        go_wp2_with fail
        refine HH1.out.mono ?_
        rintro e w1 ⟨rfl, m, rfl⟩
        go_wp2_with fail
        refine (truthI _ _).mono ?_
        rintro e w1 ⟨rfl, rfl⟩
        go_wp2_with fail
        go_ret
        exact ⟨by rw [HRES.out]; rfl, _, rfl⟩

end Go.Proofs.Ytnfghgaadnobbaa
