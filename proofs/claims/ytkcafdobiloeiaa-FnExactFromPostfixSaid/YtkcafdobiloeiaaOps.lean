/-
  OperandsOf, both sides.
-/
import Derived.Test.YtkcafdobiloeiaaTreeW
namespace Go.Proofs.Ytkcafdobiloeiaa
open Go.RowKit

abbrev R_T2' : Rp (List (List Tm)) := slP R_T1

noncomputable def treeOf (e : List Tm) (h : eOk e = true) : Ex := Classical.choose (tree_of_ok h)
theorem treeOf_ok (e : List Tm) (h : eOk e = true) : okE (treeOf e h) = true ∧ flatE (treeOf e h) = e := Classical.choose_spec (tree_of_ok h)
def argsOf : Ex → List Ex | .mk _ args => args
def termOf : Ex → Tm | .mk t _ => t
open Classical in
noncomputable def opsRes (e : List Tm) : List (List Tm) × Int := if h : eOk e = true then ((argsOf (treeOf e h)).map flatE, 0) else ([], 1)

theorem eOk_len {e : List Tm} (h : eOk e = true) : 1 ≤ e.length ∧ e.length ≤ 60 := by have := isE_len h; omega

set_option maxHeartbeats 400000 in
theorem treeE (x : Ex) (w : World) (v : Value) (fp : List Nat) (hok : okE x = true) (hl : (flatE x).length ≤ 100) (hR : R_T1 fp w [v] (flatE x)) :
    Calls Try.prog 64 #[v] w fun e w' => (∃ v', e = .returned v' ∧ New R_E w w' v' x) ∧ Upd [] w w' := by
  have S2 := treeFrom _ x [] w v fp (Nat.le_refl _) hok hl (by simpa using hR)
  obtain ⟨a, cap, rfl, g1, g2, -⟩ := slF2_open hR
  go_enter Try.func64, Try.ntmps64
  go_wp2_with fail
  refine S2.mono ?_
  rintro e w1 ⟨⟨v1, vr, fr, rfl, hn, -, -⟩, hu⟩
  go_wp2_with fail
  go_ret
  exact ⟨⟨_, rfl, hn⟩, hu⟩

theorem Try.infoTS : (Try.prog.info? 24).map (fun i => (i.zero, i.size, i.bytes)) = some (some (.slice none 0 0), 1, 24) := by kernel_rfl

theorem flatE_arg_le (x : Ex) (k : Nat) (h : k < (argsOf x).length) : (flatE (argsOf x)[k]).length ≤ (flatE x).length := by
  obtain ⟨t, args⟩ := x
  simp only [argsOf, flatE, List.length_cons] at *
  have e1 : flatEs args = flatEs (args.take k) ++ (flatE args[k] ++ flatEs (args.drop (k + 1))) := by
    conv => lhs; rw [← List.take_append_drop k args, flatEs_append, List.drop_eq_getElem_cons (show k < args.length from h)]
    rfl
  rw [e1, List.length_append, List.length_append]; omega

set_option maxHeartbeats 1000000 in
theorem ops_i (e : List Tm) (v : Value) (w : World) (fp : List Nat) (hR : R_T1 fp w [v] e) :
    Calls Try.prog 32 #[v] w fun r w' => (∃ v', r = .returned (.tuple #[v', .int .i64 (opsRes e).2]) ∧ New R_T2' w w' v' (opsRes e).1) ∧ Upd [] w w' := by
  obtain ⟨i0, hi, hz0, hz1, hz2⟩ := info_parts Try.infoTS
  have hR0 := Lib.hid hR
  obtain ⟨a, cap, rfl, g1, g2, -⟩ := slF2_open hR
  unfold maxLen at g2
  cases hb : eOk e
  · have hres : opsRes e = ([], 1) := by simp [opsRes, hb]
    have HR := Lib.hid hres
    clear hres
    go_enter Try.func32, Try.ntmps32
    go_wp2_with fail
    refine (termsOk _ e _ fp hR0.out).mono ?_
    rintro r w1 ⟨rfl, hu⟩
    rw [hb]
    go_wp2_with fail
    go_ret2
    rw [HR.out]
    exact ⟨⟨_, rfl, New.nilP _ _ _⟩, hu⟩
  · have hres : opsRes e = ((argsOf (treeOf e hb)).map flatE, 0) := by simp [opsRes, hb]
    obtain ⟨hok, hfl⟩ := treeOf_ok e hb
    have hlen := eOk_len hb
    have HR := Lib.hid hres
    have HB := Lib.hid hb
    generalize treeOf e hb = x at *
    have HOK := Lib.hid hok
    have HFL := Lib.hid hfl
    clear hres hok hfl
    go_enter Try.func32, Try.ntmps32
    go_wp2_with fail
    refine (termsOk _ e _ fp hR0.out).mono ?_
    rintro r w1 ⟨rfl, hu⟩
    rw [HB.out]
    clear hb
    go_wp2_with fail
    refine (treeE x _ _ fp HOK.out (by rw [HFL.out]; omega) (by rw [HFL.out]; exact R_T1k.upd hR0.out hu (by simp))).mono ?_
    rintro r w2 ⟨⟨vt, rfl, ft, ht, hto, htg⟩, hu2⟩
    have hU := hu.trans hu2
    have hargl : (argsOf x).length ≤ 2 := by
      have := HOK.out
      obtain ⟨t, args⟩ := x
      simp only [okE, Bool.and_eq_true, decide_eq_true_eq] at this
      have := arity_bd t
      simp only [argsOf]; omega
    have HLE := Lib.hid (fun k h => flatE_arg_le x k h)
    rw [HFL.out] at HLE
    obtain ⟨t, args⟩ := x
    obtain ⟨b0, s, fa, rfl, rfl, c0, c1, c2, hargs⟩ := R_E_open ht
    obtain ⟨a3, cap3, rfl, k1, k2, hc⟩ := slP_open hargs
    simp only [argsOf] at *
    unfold maxLen at k2
    clear hu hu2 ht hto htg hargs c0 c1 HOK HFL
    go_wp2_with fail
    go_loopw [4, 16] (fun vo i wr => ∃ k : Nat, k ≤ args.length ∧ i = .int .i64 k ∧ Upd [] w2 wr ∧ Acc R_T1 w2 24 wr vo ((args.take k).map flatE)) (fun _ i _ => args.length - (intOf i).toNat)
    case atStart => exact ⟨0, Nat.zero_le _, rfl, Upd.refl _ _, Acc.nil _ _ _ _⟩
    case round =>
      clear c2
      obtain ⟨k, hk, rfl, hU2, hacc⟩ := hrel
      by_cases hlt : k < args.length
      · obtain ⟨b, off, u, f, rfl, -, hbl, hcell, hsub, hr⟩ := hc k hlt
        have hcell' := hU2.keep hcell
        have hr' := R_Ek.upd hr hU2 (by simp)
        have hle := HLE.out k hlt
        have hts : (args.take (k + 1)).map flatE = (args.take k).map flatE ++ [flatE args[k]] := by rw [List.take_succ_eq_append_getElem hlt, List.map_append]; rfl
        have HTS := Lib.hid hts
        clear hc hcell hr hts
        go_wp2_with fail
        refine (listE args[k] _ u f (by omega) hr').mono ?_
        rintro r w3 ⟨⟨v3, rfl, hn3⟩, hu3⟩
        obtain ⟨us, hou, hrows⟩ := hacc
        have hou3 := ownsRow_upd hou hu3
        obtain ⟨a4, c4, rfl⟩ := hn3.form
        have hsz := hU2.size
        have hsz3 := hu3.size
        have hmk : ((args.take k).map flatE).length = k := by simp; omega
        rw [hmk] at hou hou3
        have HMK := Lib.hid hmk
        clear hmk hr'
        go_wp2_with (first
          | (at_builtin; refine wpList_append_tight _ rfl _ _ 48 rfl w2.heap.size 24 i0 (.slice none 0 0) 1 24 Try.underlying48 hi hz0 hz1 hz2 rfl (by decide) _ _ _ rfl (hou3.alloc _) ⟨w3.heap.size, 0, none⟩ 1 1 [.slice a4 (flatE args[k]).length c4] rfl rfl ?c1 ?c2 ?c3 ?c4 ?c5 ?_)
          | fail)
        case c1 => intro j u hj; match j, hj with | 0, hj => simp at hj; subst hj; simp [Addr.add]
        case c2 => intro u hu; simp at hu; subst hu; rfl
        case c3 => unfold maxLen; omega
        case c4 => omega
        case c5 => simp; omega
        intro v4 w4 hown4 hg4 ht4
        have hacc2 := Acc.push R_T1k (by rw [HMK.out]; exact hou) hrows hsz hu3 hn3 _ (by rw [HMK.out]; simpa using hown4) hg4 (by simpa using ht4)
        rw [← HTS.out] at hacc2
        have hlt0 := hou.lt
        have hU24 : Upd [] w2 w4 := ((hU2.trans hu3).alloc _).grown hg4 (fun k hk => Or.inl (hlt0 k hk).1)
        clear hown4 hg4 ht4 hou hou3 hrows hn3 hu3 hU2 hlt0
        go_wp2_with fail
        go_roundw
        case rel => exact ⟨k + 1, by omega, by go_num, hU24, hacc2⟩
        case measure => simp [intOf]; omega
      · obtain rfl : args.length = k := by omega
        rw [List.take_length] at hacc
        clear hc
        go_wp2_with fail
        go_ret2
        rw [HR.out]
        exact ⟨⟨_, rfl, hacc.new.mono hU.size⟩, hU.trans hU2⟩

theorem slF_sub {α : Type} {n : Nat} {enc : α → List Value} (he : ∀ x, (enc x).length = n) {fp : List Nat} {w : World} {b off len cap : Nat} {xs : List α}
    (h : slF n enc fp w [.slice (some ⟨b, off, none⟩) len cap] xs) (i j : Nat) (hij : i ≤ j) (hj : j ≤ xs.length) :
    ∃ fp', slF n enc fp' w [.slice (some ⟨b, off + i * n, none⟩) (j - i) (cap - i)] ((xs.take j).drop i) ∧ (∀ c ∈ fp', c ∈ fp) := by
  obtain ⟨v, hv, a, cap', hv2, h1, h2, h3, h4⟩ := h
  cases hv
  simp only [Value.slice.injEq] at hv2
  obtain ⟨rfl, rfl, rfl⟩ := hv2
  have hfl : ∀ ys : List α, (ys.flatMap enc).length = ys.length * n := by
    intro ys
    induction ys with
    | nil => simp
    | cons y ys ih => rw [List.flatMap_cons, List.length_append, he, ih, List.length_cons, Nat.add_mul]; omega
  have hlen : ((xs.take j).drop i).length = j - i := by simp; omega
  rcases h4 with ⟨h0, rfl⟩ | ⟨b', off', hb', rfl, hbl, hc⟩
  · have : j = 0 := by omega
    subst this
    obtain rfl : i = 0 := by omega
    exact ⟨[], ⟨_, rfl, some ⟨b, off + 0 * n, none⟩, cap - 0, by simp, by simp, by omega, by simp, Or.inl ⟨by simp, rfl⟩⟩, by simp⟩
  · simp only [Option.some.injEq, Addr.mk.injEq, and_true] at hb'
    obtain ⟨rfl, rfl⟩ := hb'
    refine ⟨[b], ⟨_, rfl, some ⟨b, off + i * n, none⟩, cap - i, by rw [hlen], by omega, by omega, hfl _, Or.inr ⟨b, off + i * n, rfl, rfl, hbl, fun q u hu => ?_⟩⟩, by simp⟩
    have e1 : xs.flatMap enc = (xs.take i).flatMap enc ++ (((xs.take j).drop i).flatMap enc ++ (xs.drop j).flatMap enc) := by
      rw [← List.flatMap_append, ← List.flatMap_append]
      congr 1
      rw [← List.append_assoc]
      conv => lhs; rw [← List.take_append_drop j xs]
      congr 1
      conv => lhs; rw [← List.take_append_drop i (xs.take j)]
      rw [List.take_take, Nat.min_eq_left hij]
    have hti : ((xs.take i).flatMap enc).length = i * n := by rw [hfl]; congr 1; simp; omega
    have hq : q < (((xs.take j).drop i).flatMap enc).length := (List.getElem?_eq_some_iff.1 hu).1
    have := hc (i * n + q) u (by rw [e1, List.getElem?_append_right (by omega), hti, Nat.add_sub_cancel_left, List.getElem?_append_left hq]; exact hu)
    rw [Nat.add_assoc]; exact this

set_option maxHeartbeats 1000000 in
theorem l03Own (e : List Tm) (b off cap : Nat) (w : World) (fp : List Nat) (he : e ≠ []) (hl : e.length ≤ 1000000) (hR : R_T1 fp w [.slice (some ⟨b, off, none⟩) e.length cap] e) :
    Calls Try.prog 63 #[.slice (some ⟨b, off, none⟩) e.length cap] w fun r w' => (∃ v', r = .returned v' ∧ New R_T1 w w' v' e) ∧ Upd [] w w' := by
  obtain ⟨i0, hi, hz0, hz1, hz2⟩ := info_parts Try.infoT
  obtain ⟨v, hv, a, cap', hv2, h1, h2, h3, h4⟩ := hR
  cases hv
  simp only [Value.slice.injEq, true_and] at hv2
  obtain ⟨rfl, rfl⟩ := hv2
  have hpos : e.length ≠ 0 := by simpa using he
  rcases h4 with ⟨h0, -⟩ | ⟨b', off', hb', rfl, hbl, hc⟩
  · exact absurd h0 hpos
  · simp only [Option.some.injEq, Addr.mk.injEq, and_true] at hb'
    obtain ⟨rfl, rfl⟩ := hb'
    have hown : (w.alloc (.cells #[] 56)).ownsRow w.heap.size 56 2 (.slice (some ⟨w.heap.size, 0, none⟩) 0 0) 0 [] := by
      simpa using World.ownsRow_lit (base := w.heap.size) (e := 56) (size := 2) w #[] 0 (Nat.le_refl _) (by simp [maxLen]) (by simp)
    have hcell : ∀ j u, (e.flatMap encT)[j]? = some u → (w.alloc (.cells #[] 56)).cell? ((⟨b, off, none⟩ : Addr).add j) = some u := by
      intro j u hu
      have := hc j u hu
      have ha : (⟨b, off, none⟩ : Addr).add j = ⟨b, off + j, none⟩ := by simp only [Addr.add]; split <;> simp_all
      rw [ha]
      exact ((Upd.refl [] w).alloc (.cells #[] 56)).keep this
    have hone : ∀ u ∈ e.flatMap encT, u.oneCell' = true := by
      intro u hu
      obtain ⟨t, -, ht⟩ := List.mem_flatMap.1 hu
      simp at ht
      rcases ht with rfl | rfl <;> rfl
    have HC := Lib.hid hcell
    have HO := Lib.hid hone
    clear hcell hone hc
    unfold maxLen at h2
    go_enter Try.func63, Try.ntmps63
    go_wp2_with (first
      | (at_builtin; refine wpList_append_tight _ rfl _ _ 24 rfl w.heap.size 56 i0 (.agg #[.int .i64 0, .int .i64 0]) 2 16 Try.underlying24 hi hz0 hz1 hz2 rfl (by decide) _ _ _ rfl hown ⟨b, off, none⟩ e.length cap (e.flatMap encT) rfl h3 HC.out HO.out ?c3 ?c4 ?c5 ?_)
      | fail)
    case c3 => unfold maxLen; omega
    case c4 => omega
    case c5 => simp
    intro v2 w2 hown2 hg2 ht2
    have hU : Upd [] w w2 := ((Upd.refl [] w).alloc _).grown hg2 (fun k hk => Or.inl (hown.lt k hk).1)
    have hn : New R_T1 w w2 v2 e := New.ofOwns2 (e := 56) (by simpa using hown2)
    clear hown2 hg2 ht2 hown
    go_wp2_with fail
    go_ret
    exact ⟨⟨_, rfl, hn⟩, hU⟩

set_option maxHeartbeats 1000000 in
theorem l03End (x : Ex) (e rest : List Tm) (k : Nat) (v : Value) (w : World) (fp : List Nat) (hok : okE x = true) (hle : e.length ≤ 60) (hd : e.drop k = flatE x ++ rest) (hR : R_T1 fp w [v] e) :
    Calls Try.prog 62 #[v, .int .i64 k] w fun r w' => r = .returned (.int .i64 ((k + (flatE x).length : Nat) : Int)) ∧ w = w' := by
  obtain ⟨a, cap, rfl, g1, g2, hc⟩ := slF2_open hR
  unfold maxLen at g2
  have hk60 : k ≤ 60 := by
    have h1 := flatE_pos x
    have h2 : (e.drop k).length = (flatE x ++ rest).length := by rw [hd]
    rw [List.length_drop, List.length_append] at h2; omega
  have h0 : e.drop k = flatEs [x] ++ rest ∧ okEs [x] = true ∧ k + (flatEs [x]).length = k + (flatE x).length := by simp [flatEs, okEs, hok, hd]
  have H0 := Lib.hid h0
  clear hd hR hok h0
  go_enter Try.func62, Try.ntmps62
  go_wp2
  go_loop [1, 5] (fun kk nn => ∃ (p : Nat) (xs : List Ex), p ≤ 60 ∧ kk = .int .i64 p ∧ nn = .int .i64 xs.length ∧ okEs xs = true ∧ e.drop p = flatEs xs ++ rest ∧ p + (flatEs xs).length = k + (flatE x).length) (fun kk _ => 61 - (intOf kk).toNat)
  case atStart => exact ⟨k, [x], hk60, rfl, rfl, H0.out.2.1, H0.out.1, H0.out.2.2⟩
  case round =>
    obtain ⟨p, xs, hp, rfl, rfl, hx1, hx2, hx3⟩ := hrel
    match xs, hx1, hx2, hx3 with
    | [], hx1, hx2, hx3 =>
      simp only [flatEs, List.length_nil, Nat.add_zero] at hx3
      have HX := Lib.hid hx3
      clear hx1 hx2 hx3 hc
      go_wp2_with fail
      go_ret
      have e9 : (p : Int) = (k : Int) + ((flatE x).length : Int) := by have := HX.out; omega
      exact ⟨by show Ending.returned (.int .i64 (p : Int)) = _; rw [e9], rfl⟩
    | .mk t args :: ys, hx1, hx2, hx3 =>
      simp only [okEs, okE, Bool.and_eq_true, decide_eq_true_eq] at hx1
      simp only [flatEs, flatE, List.cons_append, List.length_cons, List.append_assoc] at hx2 hx3
      have hpl : p < e.length := by
        rcases Nat.lt_or_ge p e.length with h | h
        · exact h
        · rw [List.drop_of_length_le h] at hx2; cases hx2
      rw [List.drop_eq_getElem_cons hpl] at hx2
      simp only [List.cons.injEq] at hx2
      obtain ⟨b, off, rfl, -, -, q1, q2⟩ := hc p hpl
      rw [hx2.1] at q1
      have har := arity_bd t
      have hylen : (ys.length : Int) ≤ 100 := by
        have h1 : ys.length ≤ (flatEs ys).length := by
          clear hx1 hx2 hx3
          induction ys with
          | nil => simp
          | cons y ys ih => simp only [flatEs, List.length_append, List.length_cons]; have := flatE_pos y; omega
        have h2 : (e.drop (p + 1)).length = (flatEs args ++ (flatEs ys ++ rest)).length := by rw [hx2.2]
        simp only [List.length_drop, List.length_append] at h2
        omega
      have HA := Lib.hid hx1
      have H2 := Lib.hid hx2
      have H3 := Lib.hid hx3
      obtain ⟨t1, t2⟩ := t
      have S2 := Lib.hid (l03Arity t1 t2 b (off + p * 2) w q1)
      clear hx1 hx2 hx3 hc q2
      generalize hA : arity (t1, t2) = A at *
      have HAA := Lib.hid hA
      clear hA
      go_wp2_with fail
      refine S2.out.mono ?_
      rintro r w1 ⟨rfl, rfl⟩
      go_wp2_with fail
      go_round
      case rel =>
        refine ⟨p + 1, args ++ ys, by omega, by go_num, ?_, ?_, ?_, ?_⟩
        · have h1 := HA.out.1.1
          rw [List.length_append]
          congr 1
          push_cast
          omega
        · rw [okEs_append, HA.out.1.2, HA.out.2]; rfl
        · rw [H2.out.2, flatEs_append, List.append_assoc]
        · rw [flatEs_append, List.length_append]
          have := H3.out
          rw [List.length_append] at this
          omega
      case measure => simp [intOf]; omega

set_option maxHeartbeats 1000000 in
theorem ops_s (e : List Tm) (v : Value) (w : World) (fp : List Nat) (hR : R_T1 fp w [v] e) :
    Calls Try.prog 31 #[v] w fun r w' => (∃ v', r = .returned (.tuple #[v', .int .i64 (opsRes e).2]) ∧ New R_T2' w w' v' (opsRes e).1) ∧ Upd [] w w' := by
  obtain ⟨i0, hi, hz0, hz1, hz2⟩ := info_parts Try.infoTS
  have hR0 := Lib.hid hR
  obtain ⟨a, cap, rfl, g1, g2, hc⟩ := slF2_open hR
  unfold maxLen at g2
  cases hb : eOk e
  · have hres : opsRes e = ([], 1) := by simp [opsRes, hb]
    have HR := Lib.hid hres
    clear hres hc
    go_enter Try.func31, Try.ntmps31
    go_wp2_with fail
    refine (l03Any _ e _ fp hR0.out).mono ?_
    rintro r w1 ⟨rfl, rfl⟩
    rw [hb]
    go_wp2_with fail
    go_ret2
    rw [HR.out]
    exact ⟨⟨_, rfl, New.nilP _ _ _⟩, Upd.refl _ _⟩
  · have hres : opsRes e = ((argsOf (treeOf e hb)).map flatE, 0) := by simp [opsRes, hb]
    obtain ⟨hok, hfl⟩ := treeOf_ok e hb
    have hlen := eOk_len hb
    have HR := Lib.hid hres
    have HB := Lib.hid hb
    generalize treeOf e hb = x at *
    obtain ⟨⟨t1, t2⟩, args⟩ := x
    simp only [argsOf, flatE, okE, Bool.and_eq_true, decide_eq_true_eq] at hok hfl HR
    have hargl : args.length ≤ 2 := by have := arity_bd (t1, t2); omega
    obtain ⟨b, off, rfl, -, hbl, q1, -⟩ := hc 0 (by omega)
    have q1' : w.cell? ⟨b, off, none⟩ = some (ei t1) := by
      rw [Nat.zero_mul, Nat.add_zero] at q1; rw [q1]; simp [← hfl]
    have har : arity (t1, t2) = (args.length : Int) := hok.1.symm
    have hel : (flatEs args).length + 1 = e.length := by rw [← hfl]; rfl
    have HOK := Lib.hid hok.2
    have HFL := Lib.hid hfl
    have HAR := Lib.hid har
    clear hres hok hfl hc q1 har
    go_enter Try.func31, Try.ntmps31
    go_wp2_with fail
    refine (l03Any _ e _ fp hR0.out).mono ?_
    rintro r w1 ⟨rfl, rfl⟩
    rw [HB.out]
    clear hb
    have he0 : 0 < e.length := by omega
    have S1 := Lib.hid (l03Arity t1 t2 b off (w.alloc (.cells #[] 24)) (((Upd.refl [] w).alloc _).keep q1'))
    go_wp2_with fail
    refine S1.out.mono ?_
    rintro r w1 ⟨rfl, rfl⟩
    rw [HAR.out]
    clear S1
    go_wp2_with fail
    go_loopw [4, 5, 6] (fun vo at' i wr => ∃ k : Nat, k ≤ args.length ∧ i = .int .i64 ((args.length : Int) - k) ∧ at' = .int .i64 ((1 + (flatEs (args.take k)).length : Nat) : Int) ∧ Upd [] w wr ∧ Acc R_T1 w 24 wr vo ((args.take k).map flatE)) (fun _ _ i _ => (intOf i).toNat)
    case atStart => exact ⟨0, Nat.zero_le _, by simp, by simp [flatEs], (Upd.refl _ _).alloc _, Acc.lit0 _ _ _ _ (Nat.le_refl _)⟩
    case round =>
      obtain ⟨k, hk, rfl, rfl, hU, hacc⟩ := hrel
      by_cases hlt : k < args.length
      · have hts := flatEs_take args k hlt
        have hle2 := flatEs_take_le args (k + 1)
        rw [hts, List.length_append] at hle2
        have hpos := flatE_pos args[k]
        generalize hP : 1 + (flatEs (args.take k)).length = P at *
        have hdr : e.drop P = flatE args[k] ++ flatEs (args.drop (k + 1)) := by
          rw [← HFL.out, ← hP, Nat.add_comm 1, List.drop_succ_cons]
          have e1 : flatEs args = flatEs (args.take k) ++ (flatE args[k] ++ flatEs (args.drop (k + 1))) := by
            conv => lhs; rw [← List.take_append_drop k args, flatEs_append, List.drop_eq_getElem_cons hlt]
            rfl
          rw [e1, List.drop_left]
        have hoky : okE args[k] = true := by
          have h2 := HOK.out
          rw [← List.take_append_drop k args, okEs_append, List.drop_eq_getElem_cons hlt] at h2
          simp only [okEs, Bool.and_eq_true] at h2
          exact h2.2.1
        have hRr := R_T1k.upd hR0.out hU (by simp)
        have S2 := Lib.hid (l03End args[k] e _ P _ wr fp hoky hlen.2 hdr hRr)
        have hsub : (e.take (P + (flatE args[k]).length)).drop P = flatE args[k] := by
          rw [List.drop_take, Nat.add_sub_cancel_left, hdr, List.take_left]
        obtain ⟨f9, hs9, -⟩ := slF_sub (n := 2) (by intro x; rfl) hRr P (P + (flatE args[k]).length) (by omega) (by omega)
        rw [hsub, Nat.add_sub_cancel_left] at hs9
        have S3 := Lib.hid (l03Own (flatE args[k]) b (off + P * 2) (cap - P) wr f9 (by intro h; rw [h] at hpos; simp at hpos) (by omega) hs9)
        have hP1 : 1 ≤ P := by omega
        have hPcap : cap ≠ P := by omega
        have hPF : P + (flatE args[k]).length ≤ e.length := by omega
        have hmap : (args.take (k + 1)).map flatE = (args.take k).map flatE ++ [flatE args[k]] := by rw [List.take_succ_eq_append_getElem hlt, List.map_append]; rfl
        have HTS := Lib.hid (And.intro hts (And.intro hP hmap))
        generalize hF : (flatE args[k]).length = F at *
        have HF := Lib.hid hF
        have HACC := Lib.hid hacc
        clear hdr hoky hRr hsub hs9 hts hP hmap hF hacc
        go_wp2_with fail
        refine S2.out.mono ?_
        rintro r w1 ⟨rfl, rfl⟩
        go_wp2_with fail
        refine S3.out.mono ?_
        rintro r w3 ⟨⟨v3, rfl, hn3⟩, hu3⟩
        obtain ⟨us, hou, hrows⟩ := HACC.out
        have hou3 := ownsRow_upd hou hu3
        obtain ⟨a4, c4, rfl⟩ := hn3.form
        have hsz := hU.size
        have hsz3 := hu3.size
        have hmk : ((args.take k).map flatE).length = k := by simp; omega
        rw [hmk] at hou hou3
        have HMK := Lib.hid hmk
        clear hmk S2 S3 HACC
        go_wp2_with (first
          | (at_builtin; refine wpList_append_tight _ rfl _ _ 48 rfl w.heap.size 24 i0 (.slice none 0 0) 1 24 Try.underlying48 hi hz0 hz1 hz2 rfl (by decide) _ _ _ rfl (hou3.alloc _) ⟨w3.heap.size, 0, none⟩ 1 1 [.slice a4 (flatE args[k]).length c4] rfl rfl ?c1 ?c2 ?c3 ?c4 ?c5 ?_)
          | fail)
        case c1 => intro j u hj; match j, hj with | 0, hj => simp at hj; subst hj; simp [Addr.add]
        case c2 => intro u hu; simp at hu; subst hu; rfl
        case c3 => unfold maxLen; omega
        case c4 => omega
        case c5 => simp; omega
        intro v4 w4 hown4 hg4 ht4
        have hacc2 := Acc.push R_T1k (by rw [HMK.out]; exact hou) hrows hsz hu3 hn3 _ (by rw [HMK.out]; simpa using hown4) hg4 (by simpa using ht4)
        rw [← HTS.out.2.2] at hacc2
        have hlt0 := hou.lt
        have hU4 : Upd [] w w4 := ((hU.trans hu3).alloc _).grown hg4 (fun k hk => Or.inl (hlt0 k hk).1)
        clear hown4 hg4 ht4 hou hou3 hrows hn3 hu3 hU hlt0
        go_wp2_with fail
        go_roundw
        case rel => exact ⟨k + 1, by omega, by go_num, by rw [HTS.out.1, List.length_append, HF.out]; have := HTS.out.2.1; congr 1; omega, hU4, hacc2⟩
        case measure => simp [intOf]; omega
      · obtain rfl : args.length = k := by omega
        rw [List.take_length] at hacc
        have h00 : (args.length : Int) - (args.length : Int) = 0 := by omega
        go_wp2_with fail
        go_ret2
        rw [HR.out]
        exact ⟨⟨_, rfl, hacc.new⟩, hU⟩

theorem ops_b (e : List Tm) : mkF_T2 (opsRes e).1 ≤ 300 := by
  unfold opsRes
  split
  · rename_i h
    obtain ⟨-, hfl⟩ := treeOf_ok e h
    have hlen := eOk_len h
    generalize treeOf e h = x at *
    obtain ⟨t, args⟩ := x
    simp only [flatE] at hfl
    have h1 : (flatEs args).length ≤ 60 := by have : (flatEs args).length + 1 = e.length := by rw [← hfl]; rfl
                                              omega
    have h2 : ∀ xs : List Ex, mkF_T2 (xs.map flatE) = 2 * (flatEs xs).length := by
      intro xs
      induction xs with
      | nil => rfl
      | cons y ys ih =>
        unfold mkF_T2 at *
        simp only [List.map_cons, List.sum_cons, flatEs, List.length_append, ih, mkF_T1]
        omega
    simp only [argsOf]
    rw [h2]; omega
  · simp [mkF_T2]

theorem opsL_i (e : List Tm) (v : Value) (w : World) (fp : List Nat) (hR : R_T1 fp w [v] e) :
    Calls Try.prog 32 #[v] w fun r w' => (∃ v', r = .returned (.tuple #[v', .int .i64 (opsRes e).2]) ∧ New R_T2 w w' v' (opsRes e).1) ∧ Upd [] w w' := ops_i e v w fp hR

end Go.Proofs.Ytkcafdobiloeiaa
