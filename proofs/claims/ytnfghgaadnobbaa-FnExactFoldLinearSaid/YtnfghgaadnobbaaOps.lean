/-
  OperandsOf, both sides.
-/
import Derived.Test.YtnfghgaadnobbaaTreeW
namespace Go.Proofs.Ytnfghgaadnobbaa
open Go.RowKit

abbrev R_T2' : Rp (List (List Tm)) := slP R_T1

noncomputable def treeOf (e : List Tm) (h : eOk e = true) : Ex := Classical.choose (tree_of_ok h)
theorem treeOf_ok (e : List Tm) (h : eOk e = true) : okE (treeOf e h) = true ∧ flatE (treeOf e h) = e := Classical.choose_spec (tree_of_ok h)
def argsOf : Ex → List Ex | .mk _ args => args
def termOf : Ex → Tm | .mk t _ => t
open Classical in
noncomputable def opsRes (e : List Tm) : List (List Tm) × Int := if h : eOk e = true then ((argsOf (treeOf e h)).map flatE, 0) else ([], 1)

theorem eOk_len {e : List Tm} (h : eOk e = true) : 1 ≤ e.length ∧ e.length ≤ 60 := by have := isE_len h; omega

set_option maxHeartbeats 400000 in
theorem treeE (x : Ex) (w : World) (v : Value) (fp : List Nat) (hok : okE x = true) (hl : (flatE x).length ≤ 100) (hR : R_T1 fp w [v] (flatE x)) :
    Calls Try.prog 43 #[v] w fun e w' => (∃ v', e = .returned v' ∧ New R_E w w' v' x) ∧ Upd [] w w' := by
  have S2 := treeFrom _ x [] w v fp (Nat.le_refl _) hok hl (by simpa using hR)
  obtain ⟨a, cap, rfl, g1, g2, -⟩ := slF2_open hR
  go_enter Try.func43, Try.ntmps43
  go_wp2_with fail
  refine S2.mono ?_
  rintro e w1 ⟨⟨v1, vr, fr, rfl, hn, -, -⟩, hu⟩
  go_wp2_with fail
  go_ret
  exact ⟨⟨_, rfl, hn⟩, hu⟩

theorem Try.infoTS : (Try.prog.info? 53).map (fun i => (i.zero, i.size, i.bytes)) = some (some (.slice none 0 0), 1, 24) := by kernel_rfl

theorem flatE_arg_le (x : Ex) (k : Nat) (h : k < (argsOf x).length) : (flatE (argsOf x)[k]).length ≤ (flatE x).length := by
  obtain ⟨t, args⟩ := x
  simp only [argsOf, flatE, List.length_cons] at *
  have e1 : flatEs args = flatEs (args.take k) ++ (flatE args[k] ++ flatEs (args.drop (k + 1))) := by
    conv => lhs; rw [← List.take_append_drop k args, flatEs_append, List.drop_eq_getElem_cons (show k < args.length from h)]
    rfl
  rw [e1, List.length_append, List.length_append]; omega

theorem slF_sub {α : Type} {n : Nat} {enc : α → List Value} (he : ∀ x, (enc x).length = n) {fp : List Nat} {w : World} {b off len cap : Nat} {xs : List α}
    (h : slF n enc fp w [.slice (some ⟨b, off, none⟩) len cap] xs) (i j : Nat) (hij : i ≤ j) (hj : j ≤ xs.length) :
    ∃ fp', slF n enc fp' w [.slice (some ⟨b, off + i * n, none⟩) (j - i) (cap - i)] ((xs.take j).drop i) ∧ (∀ c ∈ fp', c ∈ fp) := by
  obtain ⟨v, hv, a, cap', hv2, h1, h2, h3, h4⟩ := h
  cases hv
  simp only [Value.slice.injEq] at hv2
  obtain ⟨rfl, rfl, rfl⟩ := hv2
  have hfl : ∀ ys : List α, (ys.flatMap enc).length = ys.length * n := by
    intro ys
    induction ys with
    | nil => simp
    | cons y ys ih => rw [List.flatMap_cons, List.length_append, he, ih, List.length_cons, Nat.add_mul]; omega
  have hlen : ((xs.take j).drop i).length = j - i := by simp; omega
  rcases h4 with ⟨h0, rfl⟩ | ⟨b', off', hb', rfl, hbl, hc⟩
  · have : j = 0 := by omega
    subst this
    obtain rfl : i = 0 := by omega
    exact ⟨[], ⟨_, rfl, some ⟨b, off + 0 * n, none⟩, cap - 0, by simp, by simp, by omega, by simp, Or.inl ⟨by simp, rfl⟩⟩, by simp⟩
  · simp only [Option.some.injEq, Addr.mk.injEq, and_true] at hb'
    obtain ⟨rfl, rfl⟩ := hb'
    refine ⟨[b], ⟨_, rfl, some ⟨b, off + i * n, none⟩, cap - i, by rw [hlen], by omega, by omega, hfl _, Or.inr ⟨b, off + i * n, rfl, rfl, hbl, fun q u hu => ?_⟩⟩, by simp⟩
    have e1 : xs.flatMap enc = (xs.take i).flatMap enc ++ (((xs.take j).drop i).flatMap enc ++ (xs.drop j).flatMap enc) := by
      rw [← List.flatMap_append, ← List.flatMap_append]
      congr 1
      rw [← List.append_assoc]
      conv => lhs; rw [← List.take_append_drop j xs]
      congr 1
      conv => lhs; rw [← List.take_append_drop i (xs.take j)]
      rw [List.take_take, Nat.min_eq_left hij]
    have hti : ((xs.take i).flatMap enc).length = i * n := by rw [hfl]; congr 1; simp; omega
    have hq : q < (((xs.take j).drop i).flatMap enc).length := (List.getElem?_eq_some_iff.1 hu).1
    have := hc (i * n + q) u (by rw [e1, List.getElem?_append_right (by omega), hti, Nat.add_sub_cancel_left, List.getElem?_append_left hq]; exact hu)
    rw [Nat.add_assoc]; exact this

set_option maxHeartbeats 1000000 in
theorem l03Own (e : List Tm) (b off cap : Nat) (w : World) (fp : List Nat) (he : e ≠ []) (hl : e.length ≤ 1000000) (hR : R_T1 fp w [.slice (some ⟨b, off, none⟩) e.length cap] e) :
    Calls Try.prog 76 #[.slice (some ⟨b, off, none⟩) e.length cap] w fun r w' => (∃ v', r = .returned v' ∧ New R_T1 w w' v' e) ∧ Upd [] w w' := by
  obtain ⟨i0, hi, hz0, hz1, hz2⟩ := info_parts Try.infoT
  obtain ⟨v, hv, a, cap', hv2, h1, h2, h3, h4⟩ := hR
  cases hv
  simp only [Value.slice.injEq, true_and] at hv2
  obtain ⟨rfl, rfl⟩ := hv2
  have hpos : e.length ≠ 0 := by simpa using he
  rcases h4 with ⟨h0, -⟩ | ⟨b', off', hb', rfl, hbl, hc⟩
  · exact absurd h0 hpos
  · simp only [Option.some.injEq, Addr.mk.injEq, and_true] at hb'
    obtain ⟨rfl, rfl⟩ := hb'
    have hown : (w.alloc (.cells #[] 59)).ownsRow w.heap.size 59 2 (.slice (some ⟨w.heap.size, 0, none⟩) 0 0) 0 [] := by
      simpa using World.ownsRow_lit (base := w.heap.size) (e := 59) (size := 2) w #[] 0 (Nat.le_refl _) (by simp [maxLen]) (by simp)
    have hcell : ∀ j u, (e.flatMap encT)[j]? = some u → (w.alloc (.cells #[] 59)).cell? ((⟨b, off, none⟩ : Addr).add j) = some u := by
      intro j u hu
      have := hc j u hu
      have ha : (⟨b, off, none⟩ : Addr).add j = ⟨b, off + j, none⟩ := by simp only [Addr.add]; split <;> simp_all
      rw [ha]
      exact ((Upd.refl [] w).alloc (.cells #[] 59)).keep this
    have hone : ∀ u ∈ e.flatMap encT, u.oneCell' = true := by
      intro u hu
      obtain ⟨t, -, ht⟩ := List.mem_flatMap.1 hu
      simp at ht
      rcases ht with rfl | rfl <;> rfl
    have HC := Lib.hid hcell
    have HO := Lib.hid hone
    clear hcell hone hc
    unfold maxLen at h2
    go_enter Try.func76, Try.ntmps76
    go_wp2_with (first
      | (at_builtin; refine wpList_append_tight _ rfl _ _ 53 rfl w.heap.size 59 i0 (.agg #[.int .i64 0, .int .i64 0]) 2 16 Try.underlying53 hi hz0 hz1 hz2 rfl (by decide) _ _ _ rfl hown ⟨b, off, none⟩ e.length cap (e.flatMap encT) rfl h3 HC.out HO.out ?c3 ?c4 ?c5 ?_)
      | fail)
    case c3 => unfold maxLen; omega
    case c4 => omega
    case c5 => simp
    intro v2 w2 hown2 hg2 ht2
    have hU : Upd [] w w2 := ((Upd.refl [] w).alloc _).grown hg2 (fun k hk => Or.inl (hown.lt k hk).1)
    have hn : New R_T1 w w2 v2 e := New.ofOwns2 (e := 59) (by simpa using hown2)
    clear hown2 hg2 ht2 hown
    go_wp2_with fail
    go_ret
    exact ⟨⟨_, rfl, hn⟩, hU⟩

set_option maxHeartbeats 1000000 in
theorem l03End (x : Ex) (e rest : List Tm) (k : Nat) (v : Value) (w : World) (fp : List Nat) (hok : okE x = true) (hle : e.length ≤ 60) (hd : e.drop k = flatE x ++ rest) (hR : R_T1 fp w [v] e) :
    Calls Try.prog 77 #[v, .int .i64 k] w fun r w' => r = .returned (.int .i64 ((k + (flatE x).length : Nat) : Int)) ∧ w = w' := by
  obtain ⟨a, cap, rfl, g1, g2, hc⟩ := slF2_open hR
  unfold maxLen at g2
  have hk60 : k ≤ 60 := by
    have h1 := flatE_pos x
    have h2 : (e.drop k).length = (flatE x ++ rest).length := by rw [hd]
    rw [List.length_drop, List.length_append] at h2; omega
  have h0 : e.drop k = flatEs [x] ++ rest ∧ okEs [x] = true ∧ k + (flatEs [x]).length = k + (flatE x).length := by simp [flatEs, okEs, hok, hd]
  have H0 := Lib.hid h0
  clear hd hR hok h0
  go_enter Try.func77, Try.ntmps77
  go_wp2
  go_loop [1, 5] (fun kk nn => ∃ (p : Nat) (xs : List Ex), p ≤ 60 ∧ kk = .int .i64 p ∧ nn = .int .i64 xs.length ∧ okEs xs = true ∧ e.drop p = flatEs xs ++ rest ∧ p + (flatEs xs).length = k + (flatE x).length) (fun kk _ => 61 - (intOf kk).toNat)
  case atStart => exact ⟨k, [x], hk60, rfl, rfl, H0.out.2.1, H0.out.1, H0.out.2.2⟩
  case round =>
    obtain ⟨p, xs, hp, rfl, rfl, hx1, hx2, hx3⟩ := hrel
    match xs, hx1, hx2, hx3 with
    | [], hx1, hx2, hx3 =>
      simp only [flatEs, List.length_nil, Nat.add_zero] at hx3
      have HX := Lib.hid hx3
      clear hx1 hx2 hx3 hc
      go_wp2_with fail
      go_ret
      have e9 : (p : Int) = (k : Int) + ((flatE x).length : Int) := by have := HX.out; omega
      exact ⟨by show Ending.returned (.int .i64 (p : Int)) = _; rw [e9], rfl⟩
    | .mk t args :: ys, hx1, hx2, hx3 =>
      simp only [okEs, okE, Bool.and_eq_true, decide_eq_true_eq] at hx1
      simp only [flatEs, flatE, List.cons_append, List.length_cons, List.append_assoc] at hx2 hx3
      have hpl : p < e.length := by
        rcases Nat.lt_or_ge p e.length with h | h
        · exact h
        · rw [List.drop_of_length_le h] at hx2; cases hx2
      rw [List.drop_eq_getElem_cons hpl] at hx2
      simp only [List.cons.injEq] at hx2
      obtain ⟨b, off, rfl, -, -, q1, q2⟩ := hc p hpl
      rw [hx2.1] at q1
      have har := arity_bd t
      have hylen : (ys.length : Int) ≤ 100 := by
        have h1 : ys.length ≤ (flatEs ys).length := by
          clear hx1 hx2 hx3
          induction ys with
          | nil => simp
          | cons y ys ih => simp only [flatEs, List.length_append, List.length_cons]; have := flatE_pos y; omega
        have h2 : (e.drop (p + 1)).length = (flatEs args ++ (flatEs ys ++ rest)).length := by rw [hx2.2]
        simp only [List.length_drop, List.length_append] at h2
        omega
      have HA := Lib.hid hx1
      have H2 := Lib.hid hx2
      have H3 := Lib.hid hx3
      obtain ⟨t1, t2⟩ := t
      have S2 := Lib.hid (l03Arity t1 t2 b (off + p * 2) w q1)
      clear hx1 hx2 hx3 hc q2
      generalize hA : arity (t1, t2) = A at *
      have HAA := Lib.hid hA
      clear hA
      go_wp2_with fail
      refine S2.out.mono ?_
      rintro r w1 ⟨rfl, rfl⟩
      go_wp2_with fail
      go_round
      case rel =>
        refine ⟨p + 1, args ++ ys, by omega, by go_num, ?_, ?_, ?_, ?_⟩
        · have h1 := HA.out.1.1
          rw [List.length_append]
          congr 1
          push_cast
          omega
        · rw [okEs_append, HA.out.1.2, HA.out.2]; rfl
        · rw [H2.out.2, flatEs_append, List.append_assoc]
        · rw [flatEs_append, List.length_append]
          have := H3.out
          rw [List.length_append] at this
          omega
      case measure => simp [intOf]; omega

theorem ops_b (e : List Tm) : mkF_T2 (opsRes e).1 ≤ 300 := by
  unfold opsRes
  split
  · rename_i h
    obtain ⟨-, hfl⟩ := treeOf_ok e h
    have hlen := eOk_len h
    generalize treeOf e h = x at *
    obtain ⟨t, args⟩ := x
    simp only [flatE] at hfl
    have h1 : (flatEs args).length ≤ 60 := by have : (flatEs args).length + 1 = e.length := by rw [← hfl]; rfl
                                              omega
    have h2 : ∀ xs : List Ex, mkF_T2 (xs.map flatE) = 2 * (flatEs xs).length := by
      intro xs
      induction xs with
      | nil => rfl
      | cons y ys ih =>
        unfold mkF_T2 at *
        simp only [List.map_cons, List.sum_cons, flatEs, List.length_append, ih, mkF_T1]
        omega
    simp only [argsOf]
    rw [h2]; omega
  · simp [mkF_T2]

end Go.Proofs.Ytnfghgaadnobbaa
