/-
  Evaluate, the reference's side.
-/
import Derived.Test.YtnioopbficcbeaaEval
namespace Go.Proofs.Ytnioopbficcbeaa
open Go.RowKit

set_option maxRecDepth 20000 in
set_option maxHeartbeats 2000000 in
theorem l03At (n : Nat) : ∀ (x : Ex) (e rest : List Tm) (k : Nat) (v vv : Value) (w : World) (fp fv : List Nat) (vals : List Int) (nv : Int), (flatE x).length ≤ n → goodE nv x = true → nv ≤ vals.length →
    (∀ k, 0 ≤ vals.getD k 0 ∧ vals.getD k 0 ≤ 63) → e.length ≤ 60 → e.drop k = flatE x ++ rest → R_T1 fp w [v] e → R1 fv w [vv] vals →
    Calls Try.prog 88 #[v, vv, .int .i64 k] w fun r w' => r = .returned (.int .i64 (valE vals x)) ∧ w = w' := by
  induction n with
  | zero => intro x e rest k v vv w fp fv vals nv hn; have := flatE_pos x; omega
  | succ n ih =>
    intro x e rest k v vv w fp fv vals nv hn hg hnv hvals hle hd hR hV
    have HR := Lib.hid hR
    have HV := Lib.hid hV
    obtain ⟨⟨t1, t2⟩, args⟩ := x
    have hg0 := hg
    rw [goodE_mk] at hg
    simp only [Bool.and_eq_true, decide_eq_true_eq] at hg
    obtain ⟨⟨hlen, hok⟩, hgs⟩ := hg
    have hke : k < e.length := by
      rcases Nat.lt_or_ge k e.length with h | h
      · exact h
      · rw [List.drop_of_length_le h] at hd; simp [flatE] at hd
    obtain ⟨a, cap, rfl, h1, h2, hc⟩ := slF2_open hR
    unfold maxLen at h2
    obtain ⟨b, off, rfl, -, -, c0, c1⟩ := hc k hke
    have hek : e[k] = (t1, t2) := by
      rw [List.drop_eq_getElem_cons hke] at hd
      simp only [flatE, List.cons_append, List.cons.injEq] at hd
      exact hd.1
    rw [hek] at c0 c1
    have hd1 : e.drop (k + 1) = flatEs args ++ rest := by
      rw [List.drop_eq_getElem_cons hke] at hd
      simp only [flatE, List.cons_append, List.cons.injEq] at hd
      exact hd.2
    simp only [flatE, List.length_cons] at hn
    clear hc hR
    rcases tOk_kind hok with h | h | h | h
    · subst h
      have HRES := Lib.hid (show valE vals (.mk (0, t2) args) = t2 by simp [valE])
      clear ih hlen hok hgs hg0 hvals hd hd1 hek hV
      go_enter Try.func88, Try.ntmps88
      go_wp2_with fail
      go_ret
      exact ⟨by rw [HRES.out]; rfl, rfl⟩
    · subst h
      have ht2 : 0 ≤ t2 ∧ t2 ≤ nv - 1 := by simp [tOk] at hok; exact inB_true hok
      obtain ⟨q, rfl⟩ : ∃ q : Nat, t2 = q := ⟨t2.toNat, by omega⟩
      have hq : q < vals.length := by omega
      obtain ⟨av, cv, rfl, hv1, hv2, hvc⟩ := slF1_open hV
      obtain ⟨bv, ov, rfl, -, -, hcv⟩ := hvc q hq
      have HRES := Lib.hid (show valE vals (.mk (1, (q : Int)) args) = vals[q] by simp [valE, hq])
      unfold maxLen at hv2
      clear hvc ih hlen hok hgs hg0 hvals hV hd hd1 hek
      go_enter Try.func88, Try.ntmps88
      go_wp2_with fail
      go_ret
      exact ⟨by rw [HRES.out]; rfl, rfl⟩
    · subst h
      have hop : 0 ≤ t2 ∧ t2 ≤ 8 := by simp [tOk] at hok; exact inB_true hok
      simp [arity] at hlen
      match args, hlen with
      | [x, y], _ =>
        rw [goodEs_cons, goodEs_cons, Bool.and_eq_true, Bool.and_eq_true] at hgs
        simp only [flatEs, List.append_nil, List.length_append] at hn hd1
        have hbx := valE_bd vals nv hvals x hgs.1
        have hby := valE_bd vals nv hvals y hgs.2.1
        have hokx : okE x = true := by have := hgs.1; unfold goodE at this; rw [Bool.and_eq_true] at this; exact this.1
        rw [List.append_assoc] at hd1
        have hd2 : e.drop (k + 1 + (flatE x).length) = flatE y ++ rest := by rw [← List.drop_drop, hd1, List.drop_left]
        have hkl : k + 1 + (flatE x).length ≤ 60 := by
          have := congrArg List.length hd1
          have := flatE_pos y
          simp only [List.length_drop, List.length_append] at *; omega
        have S1 := Lib.hid (ih x e _ (k + 1) _ vv w fp fv vals nv (by omega) hgs.1 hnv hvals hle hd1 HR.out hV)
        have S2 := Lib.hid (ih y e rest (k + 1 + (flatE x).length) _ vv w fp fv vals nv (by omega) hgs.2.1 hnv hvals hle hd2 HR.out hV)
        have S3 := Lib.hid (l03End x e _ (k + 1) _ w fp hokx hle hd1 HR.out)
        have HRES := Lib.hid (show valE vals (.mk (2, t2) [x, y]) = opV t2 (valE vals x) (valE vals y) by simp [valE, valEs])
        have S4 := Lib.hid (operateS t2 (valE vals x) (valE vals y) w hop hbx hby)
        generalize hX : (flatE x).length = X at *
        clear ih hok hgs hg0 hvals hV hd hd1 hd2 hek hokx hX
        go_enter Try.func88, Try.ntmps88
        go_wp2_with fail
        refine S1.out.mono ?_
        rintro r w1 ⟨rfl, rfl⟩
        go_wp2_with fail
        refine S3.out.mono ?_
        rintro r w1 ⟨rfl, rfl⟩
        go_wp2_with fail
        refine S2.out.mono ?_
        rintro r w1 ⟨rfl, rfl⟩
        go_wp2_with fail
        refine S4.out.mono ?_
        rintro r w1 ⟨rfl, rfl⟩
        go_wp2_with fail
        go_ret
        exact ⟨by rw [HRES.out]; rfl, rfl⟩
    · subst h
      simp [arity] at hlen
      match args, hlen with
      | [x], _ =>
        rw [goodEs_cons, Bool.and_eq_true] at hgs
        simp only [flatEs, List.append_nil] at hn hd1
        have S1 := Lib.hid (ih x e _ (k + 1) _ vv w fp fv vals nv (by omega) hgs.1 hnv hvals hle hd1 HR.out hV)
        have HRES := Lib.hid (show valE vals (.mk (3, t2) [x]) = truthV (valE vals x == 0) by simp [valE, valEs])
        clear ih hok hgs hg0 hvals hV hd hd1 hek
        go_enter Try.func88, Try.ntmps88
        go_wp2_with fail
        refine S1.out.mono ?_
        rintro r w1 ⟨rfl, rfl⟩
        go_wp2_with fail
        refine (truthS _ _).mono ?_
        rintro r w1 ⟨rfl, rfl⟩
        go_wp2_with fail
        go_ret
        exact ⟨by rw [HRES.out]; rfl, rfl⟩

set_option maxRecDepth 20000 in
theorem l03Data (v : Value) (xs : List Int) (w : World) (fp : List Nat) (h : xs.all isV = true) (hR : R1 fp w [v] xs) :
    Calls Try.prog 55 #[v] w fun e w' => e = .returned (.bool true) ∧ w = w' := by
  obtain ⟨a1, c1, rfl, hl1, hm1, hc1⟩ := slF1_open hR
  unfold maxLen at hm1
  have HA := Lib.hid h
  clear hR h
  go_enter Try.func55, Try.ntmps55
  go_wp2_with fail
  go_loop [3] (fun i => ∃ k : Nat, k ≤ xs.length ∧ i = .int .i64 k) (fun i => xs.length - (intOf i).toNat)
  case atStart => exact ⟨0, Nat.zero_le _, rfl⟩
  case round =>
    obtain ⟨k, hk, rfl⟩ := hrel
    by_cases hlt : k < xs.length
    · obtain ⟨b1, o1, rfl, -, -, p1⟩ := hc1 k hlt
      have hx := List.all_eq_true.1 HA.out xs[k] (by simp)
      unfold isV at hx
      generalize xs[k] = x at *
      have S1 := l00In x 0 63 w
      rw [hx] at S1
      have HS1 := Lib.hid S1
      clear hx S1 hc1
      go_wp2_with fail
      refine HS1.out.mono ?_
      rintro e w1 ⟨rfl, rfl⟩
      go_wp2_with fail
      go_round
      case rel => exact ⟨k + 1, by omega, by go_num⟩
      case measure => simp [intOf]; omega
    · clear hc1
      go_wp2_with fail
      go_ret
      exact ⟨rfl, rfl⟩

theorem isE_of_good {x : Ex} {nv : Int} (h : goodE nv x = true) (hl : (flatE x).length ≤ 60) : isE (flatE x) nv 60 = true := by
  unfold goodE at h
  rw [Bool.and_eq_true] at h
  have := run_tree nv x [] 0 h.1 h.2
  simp only [List.append_nil, run] at this
  rw [show ((0 + 1 : Nat) : Int) = 1 from rfl] at this
  unfold isE
  rw [this]
  simp; omega

set_option maxRecDepth 20000 in
set_option maxHeartbeats 1000000 in
theorem evalS (x : Ex) (vals : List Int) (v vv : Value) (w : World) (fp fv : List Nat) (hg : goodE vals.length x = true) (hl : vals.length ≤ 29) (hlen : (flatE x).length ≤ 60) (hv : vals.all isV = true)
    (hR : R_T1 fp w [v] (flatE x)) (hV : R1 fv w [vv] vals) :
    Calls Try.prog 26 #[v, vv] w fun e w' => e = .returned (.tuple #[.int .i64 (valE vals x), .int .i64 0]) ∧ w = w' := by
  have S1 := l03Is v (flatE x) vals.length 60 w fp (by omega) (by omega) (by omega) hR
  rw [isE_of_good hg hlen] at S1
  have HS1 := Lib.hid S1
  have HS2 := Lib.hid (l03Data vv vals w fv hv hV)
  have HS3 := Lib.hid (l03At _ x (flatE x) [] 0 v vv w fp fv vals vals.length (Nat.le_refl _) hg (by omega) (fun k => vals_bd hv k) hlen (by simp) hR hV)
  obtain ⟨av, cv, rfl, v1, v2, -⟩ := slF1_open hV
  unfold maxLen at v2
  clear S1 hg hR hV hv
  go_enter Try.func26, Try.ntmps26
  go_wp2_with fail
  refine HS1.out.mono ?_
  rintro e w1 ⟨rfl, rfl⟩
  go_wp2_with fail
  refine HS2.out.mono ?_
  rintro e w1 ⟨rfl, rfl⟩
  have S4 : Hid (Calls Try.prog 56 #[v, .slice av vals.length cv] w fun e w' => e = .returned (.int .i64 (valE vals x)) ∧ w = w') := Lib.hid (by
    go_enter Try.func56, Try.ntmps56
    go_wp2_with fail
    refine HS3.out.mono ?_
    rintro e w1 ⟨rfl, rfl⟩
    go_wp2_with fail
    go_ret
    exact ⟨rfl, rfl⟩)
  go_wp2_with fail
  refine S4.out.mono ?_
  rintro e w1 ⟨rfl, rfl⟩
  go_wp2_with fail
  go_ret2
  exact ⟨rfl, rfl⟩

end Go.Proofs.Ytnioopbficcbeaa
