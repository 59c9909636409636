/-
  Differing values: all assignments within bounds are gone through.
-/
import Derived.Test.YtnioopbficcbeaaEval
import Derived.Test.YtnioopbficcbeaaRepl
import Derived.Test.YtnioopbficcbeaaHarnT2
namespace Go.Proofs.Ytnioopbficcbeaa
open Go.RowKit

def IdxTT (P : List Tm → Bool) (xs : List (List Tm)) (w : World) (e : Ending) (w' : World) : Prop := (∃ q : Int, e = .returned (.int .i64 q) ∧ -1 ≤ q ∧ q ≤ 9223372036854775807 ∧ decide (0 ≤ q) = xs.any P) ∧ Upd [] w w'

set_option maxRecDepth 20000 in
set_option maxHeartbeats 1000000 in
theorem indexFuncTT (P : List Tm → Bool) (fn : FuncId) (caps : Array Value) (v : Value) (xs : List (List Tm)) (w : World) (fp : List Nat) (hR : R_T2 fp w [v] xs)
    (hent : ∀ args w, Sem.run Try.prog (callFunc fn args) w = .ok (.enter fn args) w)
    (hby : ∀ wr u f x, x ∈ xs → Upd [] w wr → R_T1 f wr [u] x → Calls Try.prog fn (#[u] ++ caps) wr fun e w' => e = .returned (.bool (P x)) ∧ Upd [] wr w') :
    Calls Try.prog 93 #[v, .func (.func fn) #[] caps] w (IdxTT P xs w) := by
  obtain ⟨a1, c1, rfl, hl1, hm1, hc1⟩ := slP_open hR
  unfold maxLen at hm1
  have HBY := Lib.hid hby
  clear hR hby
  go_enter Try.func93, Try.ntmps93
  go_wp2_with fail
  go_loopw [8] (fun i wr => ∃ k : Nat, k ≤ xs.length ∧ i = .int .i64 k ∧ Upd [] w wr ∧ (xs.drop k).any P = xs.any P) (fun i _ => xs.length - (intOf i).toNat)
  case atStart => exact ⟨0, Nat.zero_le _, rfl, Upd.refl _ _, rfl⟩
  case round =>
    obtain ⟨k, hk, rfl, hU, hF⟩ := hrel
    by_cases hlt : k < xs.length
    · obtain ⟨b1, o1, u, f, rfl, -, -, p1, -, hr⟩ := hc1 k hlt
      have p1' := hU.keep p1
      rw [List.drop_eq_getElem_cons hlt, List.any_cons] at hF
      have HF := Lib.hid hF
      have HU := Lib.hid hU
      have S1 := Lib.hid (HBY.out wr u f xs[k] (List.getElem_mem hlt) hU (R_T1k.upd hr hU (by simp)))
      generalize xs[k] = x at *
      generalize P x = bb at *
      clear hF hc1 p1 hU hr
      go_wp2_with fail
      refine S1.out.mono ?_
      rintro e w1 ⟨rfl, hu1⟩
      have HU1 := Lib.hid (HU.out.trans hu1)
      clear S1 hu1
      cases bb
      · go_wp2_with fail
        go_roundw
        case rel => exact ⟨k + 1, by omega, by go_num, HU1.out, by rw [← HF.out]; rfl⟩
        case measure => simp [intOf]; omega
      · go_wp2_with fail
        go_ret
        exact ⟨⟨k, rfl, by omega, by omega, by rw [← HF.out]; simp⟩, HU1.out⟩
    · rw [List.drop_of_length_le (by omega)] at hF
      have HF := Lib.hid hF
      clear hF hc1
      go_wp2_with fail
      go_ret
      exact ⟨⟨-1, rfl, by omega, by omega, by rw [← HF.out]; rfl⟩, hU⟩

set_option maxRecDepth 20000 in
theorem containsFuncTT (P : List Tm → Bool) (fn : FuncId) (caps : Array Value) (v : Value) (xs : List (List Tm)) (w : World) (fp : List Nat) (hR : R_T2 fp w [v] xs)
    (hent : ∀ args w, Sem.run Try.prog (callFunc fn args) w = .ok (.enter fn args) w)
    (hby : ∀ wr u f x, x ∈ xs → Upd [] w wr → R_T1 f wr [u] x → Calls Try.prog fn (#[u] ++ caps) wr fun e w' => e = .returned (.bool (P x)) ∧ Upd [] wr w') :
    Calls Try.prog 77 #[v, .func (.func fn) #[] caps] w fun e w' => e = .returned (.bool (xs.any P)) ∧ Upd [] w w' := by
  have S2 := Lib.hid (indexFuncTT P fn caps v xs w fp hR hent hby)
  clear hR hby
  go_enter Try.func77, Try.ntmps77
  go_wp2_with fail
  refine S2.out.mono ?_
  rintro e w1 ⟨⟨q, rfl, h1, h2, h3⟩, hu1⟩
  have H3 := Lib.hid (And.intro h3 hu1)
  clear h3 hu1
  go_wp2_with fail
  go_ret
  exact ⟨by rw [← H3.out.1]; rfl, H3.out.2⟩

theorem enter_bounds1 (args : Array Value) (w : World) : Sem.run Try.prog (callFunc 78 args) w = .ok (.enter 78 args) w := by go_simp

theorem bounds1 (e : List Tm) (v : Value) (b : Option Addr) (n c : Nat) (w : World) (fp : List Nat) (p : Nat) (hp : w.cell? ⟨p, 0, none⟩ = some (.slice b n c)) (hR : R_T1 fp w [v] e) :
    Calls Try.prog 78 #[v, .pointer (some ⟨p, 0, none⟩)] w fun r w' => r = .returned (.bool (e.any (lackV n))) ∧ Upd [] w w' := by
  have S1 := Lib.hid (covered v e n w fp hR)
  generalize e.any (lackV n) = bb at *
  clear hR
  go_enter Try.func78, Try.ntmps78
  go_wp2_with fail
  refine S1.out.mono ?_
  rintro e w1 ⟨rfl, hu1⟩
  have HU := Lib.hid hu1
  clear S1 hu1
  go_wp2_with fail
  go_ret
  exact ⟨by simp, HU.out⟩

set_option maxRecDepth 20000 in
set_option maxHeartbeats 1000000 in
theorem bounds322 (xs : List (List Tm)) (v vb : Value) (w : World) (fp fb : List Nat) (hR : R_T2 fp w [v] xs) (hB : R1 fb w [vb] [3, 2, 2]) (hcov : xs.any (fun e => e.any (lackV 3)) = false) :
    Calls Try.prog 42 #[vb, v] w fun r w' => r = .returned (.int .i64 0) ∧ Upd [] w w' := by
  obtain ⟨a, c, rfl, hl1, hm1, hc1⟩ := slF1_open hB
  unfold maxLen at hm1
  have HB := Lib.hid hB
  have HR := Lib.hid hR
  have HC := Lib.hid hcov
  have hu1 : Upd [] w (w.alloc (.cells #[.slice a 3 c] 34)) := (Upd.refl _ _).alloc _
  have S1 := areValues _ [3, 2, 2] _ fb (R1k.upd hB hu1 (by simp))
  rw [show ([3, 2, 2] : List Int).all isV = true from rfl] at S1
  have HS1 := Lib.hid S1
  have HU1 := Lib.hid hu1
  have hp0 := cell_new w #[.slice a 3 c] 34 _ rfl 0 _ rfl
  have hp0' : (w.alloc (.cells #[.slice a 3 c] 34)).cell? ⟨w.heap.size, 0, none⟩ = some (.slice a 3 c) := hp0
  have S2 := containsFuncTT (fun e => e.any (lackV 3)) 78 #[.pointer (some ⟨w.heap.size, 0, none⟩)] v xs _ fp (R_T2k.upd hR hu1 (by simp)) enter_bounds1
    (fun wr u f x _ hu hr => bounds1 x u a 3 c wr f w.heap.size (hu.keep hp0') hr)
  rw [HC.out] at S2
  have HS2 := Lib.hid S2
  have hc : ∀ i (h : i < 3), ∃ b off, a = some ⟨b, off, none⟩ ∧ w.cell? ⟨b, off + i, none⟩ = some (ei ([3, 2, 2][i]'h)) := fun i h => by
    obtain ⟨b, o, h1, -, -, h2⟩ := hc1 i h; exact ⟨b, o, h1, h2⟩
  have HCC := Lib.hid hc
  clear hB hR hcov S1 S2 hu1 hp0 hc1 hc
  go_enter Try.func42, Try.ntmps42
  go_wp2_with fail
  refine HS1.out.mono ?_
  rintro e w2 ⟨rfl, rfl⟩
  go_wp2_with fail
  refine HS2.out.mono ?_
  rintro e w2 ⟨rfl, hu2⟩
  have hq := hu2.keep hp0'
  have HU2 := Lib.hid (HU1.out.trans hu2)
  clear hu2 HU1 HS1 HS2 hp0'
  go_wp2_with fail
  go_loopw [5, 18] (fun mv kv wr => wr = w2 ∧ ((mv = .int .i64 1 ∧ kv = .int .i64 0) ∨ (mv = .int .i64 4 ∧ kv = .int .i64 1) ∨ (mv = .int .i64 12 ∧ kv = .int .i64 2) ∨ (mv = .int .i64 36 ∧ kv = .int .i64 3))) (fun _ kv _ => 3 - (intOf kv).toNat)
  case atStart => exact ⟨rfl, Or.inl ⟨rfl, rfl⟩⟩
  case round =>
    obtain ⟨rfl, ⟨rfl, rfl⟩ | ⟨rfl, rfl⟩ | ⟨rfl, rfl⟩ | ⟨rfl, rfl⟩⟩ := hrel
    · obtain ⟨b, o, rfl, h1⟩ := HCC.out 0 (by omega)
      have h2 : wr.cell? ⟨b, o, none⟩ = some (ei 3) := HU2.out.keep h1
      clear h1
      go_wp2_with fail
      go_roundw
      case rel => exact ⟨by trivial, Or.inr (Or.inl ⟨rfl, rfl⟩)⟩
      case measure => simp [intOf]
    · obtain ⟨b, o, rfl, h1⟩ := HCC.out 1 (by omega)
      have h2 : wr.cell? ⟨b, o + 1, none⟩ = some (ei 2) := HU2.out.keep h1
      clear h1
      go_wp2_with fail
      go_roundw
      case rel => exact ⟨by trivial, Or.inr (Or.inr (Or.inl ⟨rfl, rfl⟩))⟩
      case measure => simp [intOf]
    · obtain ⟨b, o, rfl, h1⟩ := HCC.out 2 (by omega)
      have h2 : wr.cell? ⟨b, o + 2, none⟩ = some (ei 2) := HU2.out.keep h1
      clear h1
      go_wp2_with fail
      go_roundw
      case rel => exact ⟨by trivial, Or.inr (Or.inr (Or.inr ⟨rfl, rfl⟩))⟩
      case measure => simp [intOf]
    · go_wp2_with fail
      go_ret
      exact ⟨rfl, HU2.out⟩

end Go.Proofs.Ytnioopbficcbeaa
