/-
  What replaces the expressions of a summand, one list at a time: what the program's calls return and make.
-/
import Derived.Test.YtnfghgaadnobbaaLib6
import Derived.Test.YtnfghgaadnobbaaLinO
namespace Go.Proofs.Ytnfghgaadnobbaa
open Go.RowKit

/-- a function's value that takes a summand and an expression, and makes an expression. -/
def ToOk (W0 : World) (fn : FuncId) (caps : Array Value) (F : Sm → List Tm → List Tm) (G : Sm → List Tm → Prop) : Prop :=
  (∀ args w, Sem.run Try.prog (callFunc fn args) w = .ok (.enter fn args) w) ∧
  ∀ wr us s fs u e fe, Upd [] W0 wr → R_Sm fs wr us s → R_T1 fe wr [u] e → G s e → Calls Try.prog fn (#[.agg us.toArray, u] ++ caps) wr fun r w' => (∃ v', r = .returned v' ∧ New R_T1 wr w' v' (F s e)) ∧ Upd [] wr w'
theorem ToOk.later {W0 W1 : World} {fn : FuncId} {caps : Array Value} {F : Sm → List Tm → List Tm} {G : Sm → List Tm → Prop} (h : ToOk W0 fn caps F G) (hu : Upd [] W0 W1) : ToOk W1 fn caps F G :=
  ⟨h.1, fun wr us s fs u e fe hw => h.2 wr us s fs u e fe (hu.trans hw)⟩

set_option maxRecDepth 20000 in
set_option maxHeartbeats 2000000 in
theorem allI (v : Value) (xs : List (List Tm)) (w : World) (fp : List Nat) (fn : FuncId) (caps : Array Value) (F : Sm → List Tm → List Tm) (G : Sm → List Tm → Prop) (T3 T7 : Nat) (us : List Value) (s : Sm) (fs : List Nat) (hT : ToOk w fn caps F G) (hl : xs.length ≤ 1000000) (hG : ∀ e ∈ xs, G s e)
    (hR : R_T2 fp w [v] xs) (hS : R_Sm fs w us s) (c3 : w.cell? ⟨T3, 0, none⟩ = some (.func (.func fn) #[] caps)) (c7 : ∀ (j : Nat) c, us[j]? = some c → w.cell? ⟨T7, j, none⟩ = some c) :
    Calls Try.prog 84 #[v, .pointer (some ⟨T3, 0, none⟩), .pointer (some ⟨T7, 0, none⟩)] w fun r w' => (∃ v', r = .returned v' ∧ New R_T2 w w' v' (xs.map (F s))) ∧ Upd [] w w' := by
  obtain ⟨i0, hi, hz0, hz1, hz2⟩ := info_parts Try.infoTS
  obtain ⟨a, cap, rfl, g1, g2, hc⟩ := slP_open hR
  unfold maxLen at g2
  have HC := Lib.hid hc
  have HGG := Lib.hid hG
  have HT := Lib.hid hT.2
  have hent := hT.1
  have HSM := Lib.hid hS
  have HC3 := Lib.hid c3
  obtain ⟨v0, v1, v3, v4, f0, f1, f3, f4, rfl, -, -, -, -, -⟩ := hS
  have HC7 := Lib.hid (show w.cell? ⟨T7, 0, none⟩ = some v0 ∧ w.cell? ⟨T7, 1, none⟩ = some v1 ∧ w.cell? ⟨T7, 2, none⟩ = some (es s.name) ∧ w.cell? ⟨T7, 3, none⟩ = some v3 ∧ w.cell? ⟨T7, 4, none⟩ = some v4 from ⟨c7 0 _ rfl, c7 1 _ rfl, c7 2 _ rfl, c7 3 _ rfl, c7 4 _ rfl⟩)
  clear hR hc hG hT c3 c7
  go_enter Try.func84, Try.ntmps84
  go_wp2_with fail
  go_loopw [5, 10] (fun cv iv wr => ∃ k : Nat, k ≤ xs.length ∧ iv = .int .i64 k ∧ Hid (Upd [] w wr) ∧ w.heap.size ≤ wr.heap.size ∧ Hid (Acc R_T1 w 53 wr cv ((xs.take k).map (F s)))) (fun _ iv _ => xs.length - (intOf iv).toNat)
  case atStart => exact ⟨0, Nat.zero_le _, rfl, Lib.hid (Upd.refl _ _), Nat.le_refl _, Lib.hid (Acc.nil _ _ _ _)⟩
  case round =>
    obtain ⟨wo, rfl⟩ : ∃ wo : World, wo = wr := ⟨_, rfl⟩
    obtain ⟨k, hk, rfl, HU, hsz, HA⟩ := hrel
    by_cases hlt : k < xs.length
    · obtain ⟨b, off, u, f, rfl, -, -, p0, -, hr⟩ := HC.out k hlt
      have p0 := HU.out.keep p0
      have c3 := HU.out.keep HC3.out
      obtain ⟨q0, q1, q2, q3, q4⟩ := HC7.out
      have q0 := HU.out.keep q0
      have q1 := HU.out.keep q1
      have q2 := HU.out.keep q2
      have q3 := HU.out.keep q3
      have q4 := HU.out.keep q4
      have hkl : (k : Int) < (xs.length : Int) := by omega
      have S1 := Lib.hid (HT.out wo _ s fs u xs[k] f HU.out (R_Smk.upd HSM.out HU.out (by simp)) (R_T1k.upd hr HU.out (by simp)) (HGG.out _ (List.getElem_mem hlt)))
      have HTK := Lib.hid (show (xs.take (k + 1)).map (F s) = (xs.take k).map (F s) ++ [F s xs[k]] by rw [List.take_succ_eq_append_getElem hlt, List.map_append]; rfl)
      have htl : ((xs.take k).map (F s)).length = k := by rw [List.length_map, List.length_take]; omega
      have HTL := Lib.hid htl
      generalize hx : F s xs[k] = y at *
      clear hx hr
      obtain ⟨us, hown, hrows⟩ := HA.out
      rw [htl] at hown
      have HOW := Lib.hid hown
      have HRW := Lib.hid hrows
      obtain ⟨ca, cc, rfl⟩ := ownsRow_form hown
      obtain ⟨N, hN⟩ : ∃ N, N = s.name := ⟨_, rfl⟩
      rw [← hN] at q2 S1
      clear htl hown hrows HA hN
      go_wp2_with fail
      refine S1.out.mono ?_
      rintro e w1 ⟨⟨v', rfl, hnew⟩, hu1⟩
      obtain ⟨va, vc, rfl⟩ := hnew.form
      have hown1 := ownsRow_upd HOW.out hu1
      have hle1 := hu1.size
      clear S1
      go_wp2_with (first
        | (at_builtin; refine wpList_append_tight _ rfl _ _ 54 rfl w.heap.size 53 i0 (.slice none 0 0) 1 24 Try.underlying54 hi hz0 hz1 hz2 rfl (by decide) _ _ _ rfl (hown1.alloc _) ⟨w1.heap.size, 0, none⟩ 1 1 [.slice va y.length vc] rfl rfl (fun j u hj => by rw [addr_add, Nat.zero_add]; exact cell_new w1 #[.slice va y.length vc] _ _ rfl j u (by simpa using hj)) (by simp [Value.oneCell']) (by unfold maxLen; omega) (by omega) (by simp; omega) ?_)
        | fail)
      intro v2 w2 hown2 hg2 ht2
      have hacc := Acc.push (w := wo) R_T1k (by rw [HTL.out]; exact HOW.out) HRW.out hsz hu1 hnew (.cells #[.slice va y.length vc] 53) (by rw [HTL.out]; exact hown2) hg2 (fun b hb => by
        rcases ht2 b hb with h | h
        · exact Or.inl h
        · exact Or.inr (by simpa using h))
      rw [← HTK.out] at hacc
      have hU2 : Upd [] w w2 := ((HU.out.trans hu1).alloc _).grown hg2 (fun b hb => Or.inl (HOW.out.lt b hb).1)
      have HP := Lib.hid (And.intro hacc hU2)
      clear hacc hU2 hown2 hg2 ht2 hown1 hnew hu1
      go_wp2_with fail
      go_roundw
      case rel => exact ⟨k + 1, by omega, by go_num, Lib.hid HP.out.2, HP.out.2.size, Lib.hid HP.out.1⟩
      case measure => simp [intOf]; omega
    · obtain rfl : k = xs.length := by omega
      have ha := HA.out
      rw [List.take_length] at ha
      have HN := Lib.hid ha.new
      clear ha HA
      go_wp2_with fail
      go_ret
      exact ⟨⟨_, rfl, HN.out⟩, HU.out⟩

theorem enter_clone1 (args : Array Value) (w : World) : Sem.run Try.prog (callFunc 98 args) w = .ok (.enter 98 args) w := by go_simp
set_option maxRecDepth 20000 in
set_option maxHeartbeats 1000000 in
theorem clone1Ok (W0 : World) : ToOk W0 98 #[] (fun _ e => e) (fun _ e => e.length ≤ 1000000) := by
  refine ⟨enter_clone1, fun wr us s fs u e fe _ hS hR hl => ?_⟩
  obtain ⟨v0, v1, v3, v4, f0, f1, f3, f4, rfl, -, -, -, -, -⟩ := hS
  obtain ⟨wA, hwA⟩ : ∃ wA, wA = wr.alloc (.cells #[v0, v1, es s.name, v3, v4] 56) := ⟨_, rfl⟩
  have uA : Upd [] wr wA := by rw [hwA]; exact (Upd.refl _ _).alloc _
  have S1 := Lib.hid (cloneTI u e wA fe hl (R_T1k.upd hR uA (by simp)))
  have UA := Lib.hid uA
  generalize s.name = N at *
  clear uA hR
  show Calls Try.prog 98 #[.agg #[v0, v1, es N, v3, v4], u] wr _
  go_enter Try.func98, Try.ntmps98
  go_wp2_with fail
  rw [← hwA]
  clear hwA
  refine S1.out.mono ?_
  rintro r w1 ⟨⟨v', rfl, hn⟩, hu⟩
  have HN := Lib.hid (And.intro (hn.mono UA.out.size) (UA.out.trans hu))
  clear hn hu
  go_wp2_with fail
  go_ret
  exact ⟨⟨_, rfl, HN.out.1⟩, HN.out.2⟩

end Go.Proofs.Ytnfghgaadnobbaa
