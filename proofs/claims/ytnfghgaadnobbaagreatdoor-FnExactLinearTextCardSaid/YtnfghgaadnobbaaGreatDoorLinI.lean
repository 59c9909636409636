/-
  The program's check of a linear process: what the calls return.
-/
import Derived.Test.YtnfghgaadnobbaaGreatDoorLinC
import Derived.Test.YtnfghgaadnobbaaGreatDoorLabE
import Derived.Test.YtnfghgaadnobbaaGreatDoorLinIs
namespace Go.Proofs.YtnfghgaadnobbaaGreatDoor
open Go.RowKit

theorem lit_slP {α : Type} {R : Rp α} (w : World) (T : TypeId) (us : List Value) (xs : List α) (hl : us.length = xs.length) (hm : xs.length ≤ 1000) (h : ∀ (i : Nat) (u : Value) (x : α), us[i]? = some u → xs[i]? = some x → ∃ f, R f (w.alloc (.cells us.toArray T)) [u] x) :
    ∃ fp, slP R fp (w.alloc (.cells us.toArray T)) [.slice (some ⟨w.heap.size, 0, none⟩) xs.length xs.length] xs :=
  slP_join (fb := [w.heap.size]) ⟨_, _, rfl, Nat.le_refl _, by unfold maxLen; omega, by simpa using hl, Or.inr ⟨w.heap.size, 0, rfl, rfl, by simp, fun j u hj => by rw [Nat.zero_add]; exact cell_new w us.toArray T _ rfl j u (by simpa using hj)⟩⟩ h

set_option maxRecDepth 20000 in
set_option maxHeartbeats 1000000 in
theorem expressionsI (cs : List Value) (x : Sm) (w : World) (fp : List Nat) (hR : R_Sm fp w cs x) (hb : x.args.length + x.next.length ≤ 1900000) :
    Calls Tryz.prog 65 #[.agg cs.toArray] w fun e w' => (∃ v' f', e = .returned v' ∧ R_T2 f' w' [v'] (x.guard :: (x.args ++ x.next))) ∧ Upd [] w w' := by
  obtain ⟨v0, v1, v3, v4, f0, f1, f3, f4, rfl, h0, h1, h3, h4, rfl⟩ := hR
  obtain ⟨e1, hv1, he1⟩ : ∃ e1 : Value, v1 = e1 ∧ ∃ a n c, e1 = .slice a n c := ⟨v1, rfl, by obtain ⟨a, c, h, -⟩ := slF2_open h1; exact ⟨a, _, c, h⟩⟩
  obtain ⟨e3, hv3, he3⟩ : ∃ e3 : Value, v3 = e3 ∧ ∃ a n c, e3 = .slice a n c := ⟨v3, rfl, by obtain ⟨a, c, h, -⟩ := slP_open h3; exact ⟨a, _, c, h⟩⟩
  obtain ⟨e4, hv4, he4⟩ : ∃ e4 : Value, v4 = e4 ∧ ∃ a n c, e4 = .slice a n c := ⟨v4, rfl, by obtain ⟨a, c, h, -⟩ := slP_open h4; exact ⟨a, _, c, h⟩⟩
  obtain ⟨a1, n1, q1, rfl⟩ := he1
  obtain ⟨a3, n3, q3, rfl⟩ := he3
  obtain ⟨a4, n4, q4, rfl⟩ := he4
  subst hv1 hv3 hv4
  obtain ⟨v1, hv1⟩ : ∃ v1, v1 = Value.slice a1 n1 q1 := ⟨_, rfl⟩
  obtain ⟨v3, hv3⟩ : ∃ v3, v3 = Value.slice a3 n3 q3 := ⟨_, rfl⟩
  obtain ⟨v4, hv4⟩ : ∃ v4, v4 = Value.slice a4 n4 q4 := ⟨_, rfl⟩
  rw [← hv1] at h1
  rw [← hv3] at h3
  rw [← hv4] at h4
  rw [← hv1, ← hv3, ← hv4]
  obtain ⟨wA, hwA⟩ : ∃ wA, wA = w.alloc (.cells #[v0, v1, es x.name, v3, v4] 48) := ⟨_, rfl⟩
  obtain ⟨wB, hwB⟩ : ∃ wB, wB = wA.alloc (.cells #[v1] 45) := ⟨_, rfl⟩
  obtain ⟨wC, hwC⟩ : ∃ wC, wC = wB.alloc (.cells #[.slice (some ⟨wA.heap.size, 0, none⟩) 1 1, v3, v4] 46) := ⟨_, rfl⟩
  have uA : Upd [] w wA := by rw [hwA]; exact (Upd.refl _ _).alloc _
  have uB : Upd [] wA wB := by rw [hwB]; exact (Upd.refl _ _).alloc _
  have uC : Upd [] wB wC := by rw [hwC]; exact (Upd.refl _ _).alloc _
  have sA : wA.heap.size = w.heap.size + 1 := by rw [hwA]; simp
  have sB : wB.heap.size = w.heap.size + 2 := by rw [hwB]; simp [sA]
  obtain ⟨g1, r1⟩ := lit_slP (R := R_T1) wA 45 [v1] [x.guard] rfl (by simp) (fun i u y hu hy => by
    match i, hu, hy with
    | 0, hu, hy => cases hu; cases hy; exact ⟨f1, R_T1k.upd (R_T1k.upd h1 uA (by simp)) ((Upd.refl [] _).alloc _) (by simp)⟩)
  have r1' : R_T2 g1 wB [.slice (some ⟨wA.heap.size, 0, none⟩) 1 1] [x.guard] := by rw [hwB]; exact r1
  obtain ⟨g2, r2⟩ := lit_slP (R := R_T2) wB 46 [.slice (some ⟨wA.heap.size, 0, none⟩) 1 1, v3, v4] [[x.guard], x.args, x.next] rfl (by simp) (fun i u y hu hy => by
    match i, hu, hy with
    | 0, hu, hy => cases hu; cases hy; exact ⟨g1, R_T2k.upd r1' ((Upd.refl [] _).alloc _) (by simp)⟩
    | 1, hu, hy => cases hu; cases hy; exact ⟨f3, R_T2k.upd (R_T2k.upd h3 (uA.trans uB) (by simp)) ((Upd.refl [] _).alloc _) (by simp)⟩
    | 2, hu, hy => cases hu; cases hy; exact ⟨f4, R_T2k.upd (R_T2k.upd h4 (uA.trans uB) (by simp)) ((Upd.refl [] _).alloc _) (by simp)⟩)
  have r2' : R_T3 g2 wC [.slice (some ⟨w.heap.size + 2, 0, none⟩) 3 3] [[x.guard], x.args, x.next] := by rw [hwC, ← sB]; exact r2
  have S1 := Lib.hid (concatE _ [[x.guard], x.args, x.next] wC g2 (by simp [lensP]; omega) (by simp [lensP]; omega) r2')
  have HF := Lib.hid (show [[x.guard], x.args, x.next].flatten = x.guard :: (x.args ++ x.next) by simp)
  have HU := Lib.hid ((uA.trans uB).trans uC)
  rw [sA] at hwC
  clear h0 h1 h3 h4 r1 r1' r2 r2' uA uB uC sB
  subst hv1 hv3 hv4
  go_enter Tryz.func65, Tryz.ntmps65
  go_wp2_with fail
  rw [← hwA, ← hwB, ← hwC]
  refine S1.out.mono ?_
  rintro e w1 ⟨⟨v', f', rfl, hr⟩, hu⟩
  have HR := Lib.hid (And.intro hr (HU.out.trans hu))
  clear hr hu S1
  go_wp2_with fail
  go_ret
  exact ⟨⟨_, f', rfl, by rw [← HF.out]; exact HR.out.1⟩, HR.out.2⟩

def IdxE (P : List Tm → Bool) (xs : List (List Tm)) (w : World) (e : Ending) (w' : World) : Prop := (∃ q : Int, e = .returned (.int .i64 q) ∧ -1 ≤ q ∧ q ≤ 9223372036854775807 ∧ decide (0 ≤ q) = xs.any P) ∧ Upd [] w w'
set_option maxRecDepth 20000 in
set_option maxHeartbeats 1000000 in
theorem indexFuncE (P : List Tm → Bool) (fn : FuncId) (caps : Array Value) (v : Value) (xs : List (List Tm)) (w : World) (fp : List Nat) (hR : R_T2 fp w [v] xs)
    (hent : ∀ args w, Sem.run Tryz.prog (callFunc fn args) w = .ok (.enter fn args) w)
    (hby : ∀ wr u f x, Upd [] w wr → R_T1 f wr [u] x → Calls Tryz.prog fn (#[u] ++ caps) wr fun e w' => e = .returned (.bool (P x)) ∧ Upd [] wr w') :
    Calls Tryz.prog 83 #[v, .func (.func fn) #[] caps] w (IdxE P xs w) := by
  obtain ⟨a1, c1, rfl, hl1, hm1, hc1⟩ := slP_open hR
  unfold maxLen at hm1
  have HBY := Lib.hid hby
  have HC := Lib.hid hc1
  clear hR hby hc1
  go_enter Tryz.func83, Tryz.ntmps83
  go_wp2_with fail
  go_loopw [8] (fun i wr => ∃ k : Nat, k ≤ xs.length ∧ i = .int .i64 k ∧ Hid (Upd [] w wr) ∧ Hid ((xs.drop k).any P = xs.any P)) (fun i _ => xs.length - (intOf i).toNat)
  case atStart => exact ⟨0, Nat.zero_le _, rfl, Lib.hid (Upd.refl _ _), Lib.hid rfl⟩
  case round =>
    obtain ⟨k, hk, rfl, HU, HF⟩ := hrel
    by_cases hlt : k < xs.length
    · obtain ⟨b1, o1, u, f, rfl, -, -, p0, -, hr⟩ := HC.out k hlt
      have p0 := HU.out.keep p0
      have hf := HF.out
      rw [List.drop_eq_getElem_cons hlt, List.any_cons] at hf
      have HD := Lib.hid hf
      have hkl : (k : Int) < (xs.length : Int) := by omega
      have S1 := Lib.hid (HBY.out wr u f xs[k] HU.out (R_T1k.upd hr HU.out (by simp)))
      generalize P xs[k] = bb at *
      clear hf hr
      go_wp2_with fail
      refine S1.out.mono ?_
      rintro e w1 ⟨rfl, hu1⟩
      have HU1 := Lib.hid (HU.out.trans hu1)
      clear S1 hu1
      cases bb
      · go_wp2_with fail
        go_roundw
        case rel => exact ⟨k + 1, by omega, by go_num, HU1, Lib.hid (by rw [← HD.out]; rfl)⟩
        case measure => simp [intOf]; omega
      · have HZ := Lib.hid (show decide (0 ≤ (k : Int)) = xs.any P by rw [← HD.out]; simp)
        go_wp2_with fail
        go_ret
        exact ⟨⟨k, rfl, by omega, by omega, HZ.out⟩, HU1.out⟩
    · have hf := HF.out
      rw [List.drop_of_length_le (by omega)] at hf
      have HZ := Lib.hid (show decide (0 ≤ (-1 : Int)) = xs.any P by rw [← hf]; rfl)
      clear hf
      go_wp2_with fail
      go_ret
      exact ⟨⟨-1, rfl, by omega, by omega, HZ.out⟩, HU.out⟩

set_option maxRecDepth 20000 in
theorem containsFuncE (P : List Tm → Bool) (fn : FuncId) (caps : Array Value) (v : Value) (xs : List (List Tm)) (w : World) (fp : List Nat) (hR : R_T2 fp w [v] xs)
    (hent : ∀ args w, Sem.run Tryz.prog (callFunc fn args) w = .ok (.enter fn args) w)
    (hby : ∀ wr u f x, Upd [] w wr → R_T1 f wr [u] x → Calls Tryz.prog fn (#[u] ++ caps) wr fun e w' => e = .returned (.bool (P x)) ∧ Upd [] wr w') :
    Calls Tryz.prog 64 #[v, .func (.func fn) #[] caps] w fun e w' => e = .returned (.bool (xs.any P)) ∧ Upd [] w w' := by
  have S2 := Lib.hid (indexFuncE P fn caps v xs w fp hR hent hby)
  clear hby hent hR
  go_enter Tryz.func64, Tryz.ntmps64
  go_wp2_with fail
  refine S2.out.mono ?_
  rintro e w1 ⟨⟨q, rfl, h1, h2, h3⟩, hu⟩
  have H3 := Lib.hid (And.intro h3 hu)
  clear h3 hu
  go_wp2_with fail
  go_ret
  exact ⟨by rw [← H3.out.1]; rfl, H3.out.2⟩

set_option maxRecDepth 20000 in
theorem valid1I (u : Value) (x : List Tm) (p : Int) (sums : List Int) (v0 : Value) (T3 T2 : Nat) (W : World) (f f0 : List Nat) (hp0 : 0 ≤ p) (hp1 : p ≤ 21) (h8 : sums.length ≤ 8) (hR : R_T1 f W [u] x) (c3 : W.cell? ⟨T3, 0, none⟩ = some (ei p)) (c2 : W.cell? ⟨T2, 0, none⟩ = some v0) (h0 : R_I1 f0 W [v0] sums) :
    Calls Tryz.prog 66 #[u, .pointer (some ⟨T3, 0, none⟩), .pointer (some ⟨T2, 0, none⟩)] W fun e w' => e = .returned (.bool (!isE x (p + sums.length) 60)) ∧ Upd [] W w' := by
  have hv : validE x (p + sums.length) 60 = isE x (p + sums.length) 60 := by
    unfold validE; rw [inB_mk (by omega), inB_mk (by omega)]; rfl
  have S1 := Lib.hid (validTerms u x (p + sums.length) 60 W f hR)
  rw [hv] at S1
  obtain ⟨a0, q0, rfl, l0, m0, -⟩ := slF1_open h0
  unfold maxLen at m0
  obtain ⟨nv, hnv⟩ : ∃ nv : Int, p + (sums.length : Int) = nv := ⟨_, rfl⟩
  rw [hnv] at S1 ⊢
  have hn0 : 0 ≤ nv := by omega
  have hn1 : nv ≤ 29 := by omega
  clear hv hR h0
  generalize isE x nv 60 = q at *
  go_enter Tryz.func66, Tryz.ntmps66
  go_wp2_with fail
  refine S1.out.mono ?_
  rintro e w1 ⟨rfl, hu⟩
  have HU := Lib.hid hu
  clear hu S1
  go_wp2_with fail
  go_ret
  exact ⟨rfl, HU.out⟩

end Go.Proofs.YtnfghgaadnobbaaGreatDoor
