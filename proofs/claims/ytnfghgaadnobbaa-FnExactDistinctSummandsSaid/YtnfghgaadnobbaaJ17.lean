/-
  Proved: the law FnExactDistinctSummands, for every input, with no condition: the call returns true and each argument reads afterwards as it read before.
-/
import Derived.Test.YtnfghgaadnobbaaHarnSm
import Derived.Laws.StructEq
import Derived.Deep.QuietTactic
import Derived.BigQuiet
import Derived.Test.YtnfghgaadnobbaaLib5
import Derived.Test.YtnfghgaadnobbaaLinR
import Derived.Test.YtnfghgaadnobbaaLib7
import Derived.Test.YtnfghgaadnobbaaLib8
import Derived.Test.YtnfghgaadnobbaaLinSt
import Derived.Test.YtnfghgaadnobbaaOpenLn
import Derived.Test.YtnfghgaadnobbaaOpenC
namespace Go.Proofs.Ytnfghgaadnobbaa
open Go.RowKit

theorem dropEq {α : Type} [BEq α] (xs ys : List α) (k : Nat) (h1 : k < xs.length) (h2 : k < ys.length) : (xs.drop k == ys.drop k) = (xs[k] == ys[k] && (xs.drop (k + 1) == ys.drop (k + 1))) := by
  rw [List.drop_eq_getElem_cons h1, List.drop_eq_getElem_cons h2]; rfl

theorem tmFields : (Try.prog.fieldsOf 59).toList.map (fun f => (f.name, f.type, f.offset)) = [("Kind", 2, 0), ("Value", 2, 1)] := by kernel_rfl
theorem tmStood : Try.prog.stoodInHeld 59 = false := by kernel_rfl
theorem tmGuard : Try.prog.eqGuardType Try.prog.depth 59 = false := by kernel_rfl
theorem tmUnder : Try.prog.underlying 59 = some (.struct (Try.prog.fieldsOf 59)) := by kernel_rfl
theorem fieldsStep {P : Program} (w : World) (d : Nat) (xs ys : Array Value) (n : String) (T : TypeId) (o : Nat) (f : Field) (fs : List Field) (hf : (f.name, f.type, f.offset) = (n, T, o)) (hn : n ≠ "_") (a b : Value) (r : Bool)
    (h1 : (part T xs o).run P w = .ok a w) (h2 : (part T ys o).run P w = .ok b w) (h3 : (Op.equalIn d T a b).run P w = .ok r w) :
    (Op.eqFields d xs ys (f :: fs)).run P w = if r then (Op.eqFields d xs ys fs).run P w else .ok false w := by
  simp only [Prod.mk.injEq] at hf
  obtain ⟨rfl, rfl, rfl⟩ := hf
  simp only [Op.eqFields, Sem.run_bind, hn, ne_eq, not_false_eq_true, if_true, h1, h2, h3, Result.andThen_ok]
  cases r <;> simp
theorem neqTm (x1 x2 y1 y2 : Int) (w : World) :
    (binOp .neq 59 (.agg #[ei x1, ei x2]) (.agg #[ei y1, ei y2])).run Try.prog w = .ok (.bool (!(((x1, x2) : Tm) == (y1, y2)))) w := by
  rw [run_neq_struct, run_equalIn_agg w 9999 _ _ _ tmUnder tmStood]
  obtain ⟨f1, f2, hf⟩ : ∃ f1 f2, (Try.prog.fieldsOf 59).toList = [f1, f2] := by
    have := congrArg List.length tmFields
    match h : (Try.prog.fieldsOf 59).toList with
    | [f1, f2] => exact ⟨f1, f2, rfl⟩
    | [] => rw [h] at this; simp at this
    | [_] => rw [h] at this; simp at this
    | _ :: _ :: _ :: _ => rw [h] at this; simp at this
  have hff := tmFields
  rw [hf] at hff ⊢
  simp only [List.map_cons, List.map_nil, List.cons.injEq, and_true] at hff
  obtain ⟨g1, g2⟩ := hff
  rw [fieldsStep w 9999 _ _ _ _ _ f1 _ g1 (by decide) (ei x1) (ei y1) (x1 == y1) (by go_simp) (by go_simp) (run_equalIn_int w 9998 _ _ .i64 _ _ Try.underlying2),
    fieldsStep w 9999 _ _ _ _ _ f2 _ g2 (by decide) (ei x2) (ei y2) (x2 == y2) (by go_simp) (by go_simp) (run_equalIn_int w 9998 _ _ .i64 _ _ Try.underlying2)]
  have key : (((x1, x2) : Tm) == (y1, y2)) = (x1 == y1 && x2 == y2) := by
    rw [Bool.eq_iff_iff]
    simp only [beq_iff_eq, Bool.and_eq_true, Prod.mk.injEq]
  rw [key]
  cases h1 : (x1 == y1)
  · simp [Result.andThen]
  cases h2 : (x2 == y2)
  · simp [Result.andThen]
  simp [Result.andThen, Op.eqFields]

set_option maxRecDepth 20000 in
set_option maxHeartbeats 2000000 in
theorem equalIL (v1 v2 : Value) (xs ys : List Int) (w : World) (f1 f2 : List Nat) (h1 : R_I1 f1 w [v1] xs) (h2 : R_I1 f2 w [v2] ys) :
    Calls Try.prog 111 #[v1, v2] w fun e w' => e = .returned (.bool (xs == ys)) ∧ ∃ n, w' = w.drewN n := by
  obtain ⟨a1, c1, rfl, hl1, hm1, hc1⟩ := slF1_open h1
  obtain ⟨a2, c2, rfl, hl2, hm2, hc2⟩ := slF1_open h2
  unfold maxLen at hm1 hm2
  clear h1 h2
  by_cases hlen : xs.length = ys.length
  · have hbe : ((xs.length : Int) != (ys.length : Int)) = false := by simp [hlen]
    have HL := Lib.hid hlen
    have HC1 := Lib.hid hc1
    have HC2 := Lib.hid hc2
    clear hlen hc1 hc2
    go_enter Try.func111, Try.ntmps111
    go_wp2_with fail
    go_loopw [13] (fun i wr => ∃ k : Nat, k ≤ xs.length ∧ i = .int .i64 k ∧ Hid ((xs.drop k == ys.drop k) = (xs == ys)) ∧ ∃ n, wr = w.drewN n) (fun i _ => xs.length - (intOf i).toNat)
    case atStart => exact ⟨0, Nat.zero_le _, rfl, Lib.hid rfl, 0, rfl⟩
    case round =>
      obtain ⟨k, hk, rfl, HF, n, rfl⟩ := hrel
      by_cases hlt : k < xs.length
      · have hlt2 : k < ys.length := by have := HL.out; omega
        obtain ⟨b1, o1, rfl, -, hb1, p1⟩ := HC1.out k hlt
        obtain ⟨b2, o2, rfl, -, hb2, p3⟩ := HC2.out k hlt2
        have HF2 := Lib.hid ((dropEq xs ys k hlt hlt2).symm.trans HF.out)
        have k1 : (k : Int) < (xs.length : Int) := by omega
        have k2 : (k : Int) < (ys.length : Int) := by omega
        clear HF
        generalize xs[k] = x at *
        generalize ys[k] = y at *
        skip
        cases hq : (x == y) with
        | false =>
          rw [hq] at HF2
          have HF2 := Lib.hid (show (xs == ys) = false by rw [← HF2.out]; rfl)
          have hne : (x != y) = true := by simpa using hq
          have hne2 : (x == y) = false := hq
          clear hq
          go_wp2_with fail
          go_quiet (fail)
          clear hne hne2
          go_wp2_with fail
          go_ret
          exact ⟨by rw [HF2.out]; rfl, _, by rw [drewN_add]⟩
        | true =>
          rw [hq] at HF2
          have HF2 := Lib.hid (show (xs.drop (k + 1) == ys.drop (k + 1)) = (xs == ys) by rw [← HF2.out]; rfl)
          have hne : (x != y) = false := by simpa using hq
          have hne2 : (x == y) = true := hq
          clear hq
          go_wp2_with fail
          go_quiet (fail)
          clear hne hne2
          go_wp2_with fail
          go_roundw
          case rel => exact ⟨k + 1, by omega, by go_num, HF2, _, rfl⟩
          case measure => simp [intOf]; omega
      · have hd : (xs == ys) = true := by
          rw [← HF.out, List.drop_of_length_le (by omega), List.drop_of_length_le (by have := HL.out; omega)]; rfl
        have HD := Lib.hid hd
        clear HF hd
        go_wp2_with fail
        go_ret
        exact ⟨by rw [HD.out]; rfl, n, rfl⟩
  · have hbe : ((xs.length : Int) != (ys.length : Int)) = true := by simpa using fun h => hlen (by omega)
    have HD := Lib.hid (show (xs == ys) = false by
      rw [beq_eq_false_iff_ne]; intro h; exact hlen (by rw [h]))
    clear hlen hc1 hc2
    go_enter Try.func111, Try.ntmps111
    go_wp2_with fail
    go_ret
    exact ⟨by rw [HD.out]; rfl, 0, rfl⟩

set_option maxRecDepth 20000 in
set_option maxHeartbeats 2000000 in
theorem sameIL (v1 v2 : Value) (xs ys : List Int) (w : World) (f1 f2 : List Nat) (h1 : R_I1 f1 w [v1] xs) (h2 : R_I1 f2 w [v2] ys) :
    Calls Try.prog 106 #[v1, v2] w fun e w' => e = .returned (.bool (xs == ys)) ∧ ∃ n, w' = w.drewN n := by
  obtain ⟨a1, c1, rfl, hl1, hm1, hc1⟩ := slF1_open h1
  obtain ⟨a2, c2, rfl, hl2, hm2, hc2⟩ := slF1_open h2
  unfold maxLen at hm1 hm2
  clear h1 h2
  by_cases hlen : xs.length = ys.length
  · have hbe : ((xs.length : Int) != (ys.length : Int)) = false := by simp [hlen]
    have HL := Lib.hid hlen
    have HC1 := Lib.hid hc1
    have HC2 := Lib.hid hc2
    clear hlen hc1 hc2
    go_enter Try.func106, Try.ntmps106
    go_wp2_with fail
    go_loopw [5] (fun i wr => ∃ k : Nat, k ≤ xs.length ∧ i = .int .i64 k ∧ Hid ((xs.drop k == ys.drop k) = (xs == ys)) ∧ ∃ n, wr = w.drewN n) (fun i _ => xs.length - (intOf i).toNat)
    case atStart => exact ⟨0, Nat.zero_le _, rfl, Lib.hid rfl, 0, rfl⟩
    case round =>
      obtain ⟨k, hk, rfl, HF, n, rfl⟩ := hrel
      by_cases hlt : k < xs.length
      · have hlt2 : k < ys.length := by have := HL.out; omega
        obtain ⟨b1, o1, rfl, -, hb1, p1⟩ := HC1.out k hlt
        obtain ⟨b2, o2, rfl, -, hb2, p3⟩ := HC2.out k hlt2
        have HF2 := Lib.hid ((dropEq xs ys k hlt hlt2).symm.trans HF.out)
        have k1 : (k : Int) < (xs.length : Int) := by omega
        have k2 : (k : Int) < (ys.length : Int) := by omega
        clear HF
        generalize xs[k] = x at *
        generalize ys[k] = y at *
        skip
        cases hq : (x == y) with
        | false =>
          rw [hq] at HF2
          have HF2 := Lib.hid (show (xs == ys) = false by rw [← HF2.out]; rfl)
          have hne : (x != y) = true := by simpa using hq
          have hne2 : (x == y) = false := hq
          clear hq
          go_wp2_with fail
          go_quiet (fail)
          clear hne hne2
          go_wp2_with fail
          go_ret
          exact ⟨by rw [HF2.out]; rfl, _, by rw [drewN_add]⟩
        | true =>
          rw [hq] at HF2
          have HF2 := Lib.hid (show (xs.drop (k + 1) == ys.drop (k + 1)) = (xs == ys) by rw [← HF2.out]; rfl)
          have hne : (x != y) = false := by simpa using hq
          have hne2 : (x == y) = true := hq
          clear hq
          go_wp2_with fail
          go_quiet (fail)
          clear hne hne2
          go_wp2_with fail
          go_roundw
          case rel => exact ⟨k + 1, by omega, by go_num, HF2, _, rfl⟩
          case measure => simp [intOf]; omega
      · have hd : (xs == ys) = true := by
          rw [← HF.out, List.drop_of_length_le (by omega), List.drop_of_length_le (by have := HL.out; omega)]; rfl
        have HD := Lib.hid hd
        clear HF hd
        go_wp2_with fail
        go_ret
        exact ⟨by rw [HD.out]; rfl, n, rfl⟩
  · have hbe : ((xs.length : Int) != (ys.length : Int)) = true := by simpa using fun h => hlen (by omega)
    have HD := Lib.hid (show (xs == ys) = false by
      rw [beq_eq_false_iff_ne]; intro h; exact hlen (by rw [h]))
    clear hlen hc1 hc2
    go_enter Try.func106, Try.ntmps106
    go_wp2_with fail
    go_ret
    exact ⟨by rw [HD.out]; rfl, 0, rfl⟩

set_option maxRecDepth 20000 in
set_option maxHeartbeats 2000000 in
theorem equalTL (v1 v2 : Value) (xs ys : List Tm) (w : World) (f1 f2 : List Nat) (h1 : R_T1 f1 w [v1] xs) (h2 : R_T1 f2 w [v2] ys) :
    Calls Try.prog 48 #[v1, v2] w fun e w' => e = .returned (.bool (xs == ys)) ∧ ∃ n, w' = w.drewN n := by
  obtain ⟨a1, c1, rfl, hl1, hm1, hc1⟩ := slF2_open h1
  obtain ⟨a2, c2, rfl, hl2, hm2, hc2⟩ := slF2_open h2
  unfold maxLen at hm1 hm2
  clear h1 h2
  by_cases hlen : xs.length = ys.length
  · have hbe : ((xs.length : Int) != (ys.length : Int)) = false := by simp [hlen]
    have HL := Lib.hid hlen
    have HC1 := Lib.hid hc1
    have HC2 := Lib.hid hc2
    clear hlen hc1 hc2
    go_enter Try.func48, Try.ntmps48
    go_wp2_with fail
    go_loopw [13] (fun i wr => ∃ k : Nat, k ≤ xs.length ∧ i = .int .i64 k ∧ Hid ((xs.drop k == ys.drop k) = (xs == ys)) ∧ ∃ n, wr = w.drewN n) (fun i _ => xs.length - (intOf i).toNat)
    case atStart => exact ⟨0, Nat.zero_le _, rfl, Lib.hid rfl, 0, rfl⟩
    case round =>
      obtain ⟨k, hk, rfl, HF, n, rfl⟩ := hrel
      by_cases hlt : k < xs.length
      · have hlt2 : k < ys.length := by have := HL.out; omega
        obtain ⟨b1, o1, rfl, -, hb1, p1, p2⟩ := HC1.out k hlt
        obtain ⟨b2, o2, rfl, -, hb2, p3, p4⟩ := HC2.out k hlt2
        have HF2 := Lib.hid ((dropEq xs ys k hlt hlt2).symm.trans HF.out)
        have k1 : (k : Int) < (xs.length : Int) := by omega
        have k2 : (k : Int) < (ys.length : Int) := by omega
        clear HF
        generalize xs[k] = x at *
        generalize ys[k] = y at *
        obtain ⟨x1, x2⟩ := x
        obtain ⟨y1, y2⟩ := y
        simp only at p1 p2 p3 p4
        have hne := fun W => neqTm x1 x2 y1 y2 W
        have hgd := tmGuard
        cases hq : (((x1, x2) : Tm) == (y1, y2)) with
        | false =>
          rw [hq] at HF2 hne
          have HF2 := Lib.hid (show (xs == ys) = false by rw [← HF2.out]; rfl)
          clear hq
          go_wp2_with fail
          go_quiet (fail)
          clear hne hgd
          go_wp2_with fail
          go_ret
          exact ⟨by rw [HF2.out]; rfl, _, by rw [drewN_add]⟩
        | true =>
          rw [hq] at HF2 hne
          have HF2 := Lib.hid (show (xs.drop (k + 1) == ys.drop (k + 1)) = (xs == ys) by rw [← HF2.out]; rfl)
          clear hq
          go_wp2_with fail
          go_quiet (fail)
          clear hne hgd
          go_wp2_with fail
          go_roundw
          case rel => exact ⟨k + 1, by omega, by go_num, HF2, _, rfl⟩
          case measure => simp [intOf]; omega
      · have hd : (xs == ys) = true := by
          rw [← HF.out, List.drop_of_length_le (by omega), List.drop_of_length_le (by have := HL.out; omega)]; rfl
        have HD := Lib.hid hd
        clear HF hd
        go_wp2_with fail
        go_ret
        exact ⟨by rw [HD.out]; rfl, n, rfl⟩
  · have hbe : ((xs.length : Int) != (ys.length : Int)) = true := by simpa using fun h => hlen (by omega)
    have HD := Lib.hid (show (xs == ys) = false by
      rw [beq_eq_false_iff_ne]; intro h; exact hlen (by rw [h]))
    clear hlen hc1 hc2
    go_enter Try.func48, Try.ntmps48
    go_wp2_with fail
    go_ret
    exact ⟨by rw [HD.out]; rfl, 0, rfl⟩

set_option maxRecDepth 20000 in
set_option maxHeartbeats 2000000 in
theorem sameTL (v1 v2 : Value) (xs ys : List Tm) (w : World) (f1 f2 : List Nat) (h1 : R_T1 f1 w [v1] xs) (h2 : R_T1 f2 w [v2] ys) :
    Calls Try.prog 107 #[v1, v2] w fun e w' => e = .returned (.bool (xs == ys)) ∧ ∃ n, w' = w.drewN n := by
  obtain ⟨a1, c1, rfl, hl1, hm1, hc1⟩ := slF2_open h1
  obtain ⟨a2, c2, rfl, hl2, hm2, hc2⟩ := slF2_open h2
  unfold maxLen at hm1 hm2
  clear h1 h2
  by_cases hlen : xs.length = ys.length
  · have hbe : ((xs.length : Int) != (ys.length : Int)) = false := by simp [hlen]
    have HL := Lib.hid hlen
    have HC1 := Lib.hid hc1
    have HC2 := Lib.hid hc2
    clear hlen hc1 hc2
    go_enter Try.func107, Try.ntmps107
    go_wp2_with fail
    go_loopw [5] (fun i wr => ∃ k : Nat, k ≤ xs.length ∧ i = .int .i64 k ∧ Hid ((xs.drop k == ys.drop k) = (xs == ys)) ∧ ∃ n, wr = w.drewN n) (fun i _ => xs.length - (intOf i).toNat)
    case atStart => exact ⟨0, Nat.zero_le _, rfl, Lib.hid rfl, 0, rfl⟩
    case round =>
      obtain ⟨k, hk, rfl, HF, n, rfl⟩ := hrel
      by_cases hlt : k < xs.length
      · have hlt2 : k < ys.length := by have := HL.out; omega
        obtain ⟨b1, o1, rfl, -, hb1, p1, p2⟩ := HC1.out k hlt
        obtain ⟨b2, o2, rfl, -, hb2, p3, p4⟩ := HC2.out k hlt2
        have HF2 := Lib.hid ((dropEq xs ys k hlt hlt2).symm.trans HF.out)
        have k1 : (k : Int) < (xs.length : Int) := by omega
        have k2 : (k : Int) < (ys.length : Int) := by omega
        clear HF
        generalize xs[k] = x at *
        generalize ys[k] = y at *
        obtain ⟨x1, x2⟩ := x
        obtain ⟨y1, y2⟩ := y
        simp only at p1 p2 p3 p4
        have hne := fun W => neqTm x1 x2 y1 y2 W
        have hgd := tmGuard
        cases hq : (((x1, x2) : Tm) == (y1, y2)) with
        | false =>
          rw [hq] at HF2 hne
          have HF2 := Lib.hid (show (xs == ys) = false by rw [← HF2.out]; rfl)
          clear hq
          go_wp2_with fail
          go_quiet (fail)
          clear hne hgd
          go_wp2_with fail
          go_ret
          exact ⟨by rw [HF2.out]; rfl, _, by rw [drewN_add]⟩
        | true =>
          rw [hq] at HF2 hne
          have HF2 := Lib.hid (show (xs.drop (k + 1) == ys.drop (k + 1)) = (xs == ys) by rw [← HF2.out]; rfl)
          clear hq
          go_wp2_with fail
          go_quiet (fail)
          clear hne hgd
          go_wp2_with fail
          go_roundw
          case rel => exact ⟨k + 1, by omega, by go_num, HF2, _, rfl⟩
          case measure => simp [intOf]; omega
      · have hd : (xs == ys) = true := by
          rw [← HF.out, List.drop_of_length_le (by omega), List.drop_of_length_le (by have := HL.out; omega)]; rfl
        have HD := Lib.hid hd
        clear HF hd
        go_wp2_with fail
        go_ret
        exact ⟨by rw [HD.out]; rfl, n, rfl⟩
  · have hbe : ((xs.length : Int) != (ys.length : Int)) = true := by simpa using fun h => hlen (by omega)
    have HD := Lib.hid (show (xs == ys) = false by
      rw [beq_eq_false_iff_ne]; intro h; exact hlen (by rw [h]))
    clear hlen hc1 hc2
    go_enter Try.func107, Try.ntmps107
    go_wp2_with fail
    go_ret
    exact ⟨by rw [HD.out]; rfl, 0, rfl⟩

end Go.Proofs.Ytnfghgaadnobbaa

namespace Go.Proofs.Ytnfghgaadnobbaa
open Go.RowKit

theorem enter_eqTm (args : Array Value) (w : World) : Sem.run Try.prog (callFunc 48 args) w = .ok (.enter 48 args) w := by go_simp
theorem enter_same1 (args : Array Value) (w : World) : Sem.run Try.prog (callFunc 109 args) w = .ok (.enter 109 args) w := by go_simp

set_option maxRecDepth 20000 in
set_option maxHeartbeats 2000000 in
theorem eqFuncTT (v1 v2 : Value) (xs ys : List (List Tm)) (w : World) (f1 f2 : List Nat) (h1 : R_T2 f1 w [v1] xs) (h2 : R_T2 f2 w [v2] ys) :
    Calls Try.prog 110 #[v1, v2, .func (.func 48) #[] #[]] w fun e w' => e = .returned (.bool (xs == ys)) ∧ ∃ n, w' = w.drewN n := by
  obtain ⟨a1, c1, rfl, hl1, hm1, hc1⟩ := slP_open h1
  obtain ⟨a2, c2, rfl, hl2, hm2, hc2⟩ := slP_open h2
  unfold maxLen at hm1 hm2
  have hent := enter_eqTm
  clear h1 h2
  by_cases hlen : xs.length = ys.length
  · have hbe : ((xs.length : Int) != (ys.length : Int)) = false := by simp [hlen]
    have HL := Lib.hid hlen
    have HC1 := Lib.hid hc1
    have HC2 := Lib.hid hc2
    clear hlen hc1 hc2
    go_enter Try.func110, Try.ntmps110
    go_wp2_with fail
    go_loopw [17] (fun i wr => ∃ k : Nat, k ≤ xs.length ∧ i = .int .i64 k ∧ Hid ((xs.drop k == ys.drop k) = (xs == ys)) ∧ Hid (∃ n, wr = w.drewN n)) (fun i _ => xs.length - (intOf i).toNat)
    case atStart => exact ⟨0, Nat.zero_le _, rfl, Lib.hid rfl, Lib.hid ⟨0, rfl⟩⟩
    case round =>
      obtain ⟨wo, rfl⟩ : ∃ wo : World, wo = wr := ⟨_, rfl⟩
      obtain ⟨k, hk, rfl, HF, HN⟩ := hrel
      have HU := Lib.hid (show Upd [] w wo by obtain ⟨n, rfl⟩ := HN.out; exact (Upd.refl _ _).drewN n)
      have HM := Lib.hid (fun m : Nat => show ∃ n, wo.drewN m = w.drewN n by obtain ⟨n, hn⟩ := HN.out; exact ⟨n + m, by rw [hn, drewN_add]⟩)
      by_cases hlt : k < xs.length
      · have hlt2 : k < ys.length := by have := HL.out; omega
        obtain ⟨b1, o1, u1, g1, rfl, -, -, p1, -, q1⟩ := HC1.out k hlt
        obtain ⟨b2, o2, u2, g2, rfl, -, -, p2, -, q2⟩ := HC2.out k hlt2
        have p1 := HU.out.keep p1
        have p2 := HU.out.keep p2
        have HF2 := Lib.hid ((dropEq xs ys k hlt hlt2).symm.trans HF.out)
        have S1 := Lib.hid (equalTL u1 u2 xs[k] ys[k] wo g1 g2 (R_T1k.upd q1 HU.out (by simp)) (R_T1k.upd q2 HU.out (by simp)))
        have k1 : (k : Int) < (xs.length : Int) := by omega
        have k2 : (k : Int) < (ys.length : Int) := by omega
        obtain ⟨d1, e1, rfl, -⟩ := slF2_open q1
        obtain ⟨d2, e2, rfl, -⟩ := slF2_open q2
        clear HF q1 q2
        generalize (xs[k] == ys[k]) = q at *
        generalize xs[k].length = l1 at *
        generalize ys[k].length = l2 at *
        go_wp2_with fail
        refine S1.out.mono ?_
        rintro e w1 ⟨rfl, m, rfl⟩
        clear S1 p1 p2
        cases q with
        | false =>
          replace HF2 := Lib.hid (show (xs == ys) = false by rw [← HF2.out]; rfl)
          go_wp2_with fail
          go_ret
          exact ⟨by rw [HF2.out]; rfl, HM.out _⟩
        | true =>
          replace HF2 := Lib.hid (show (xs.drop (k + 1) == ys.drop (k + 1)) = (xs == ys) by rw [← HF2.out]; rfl)
          go_wp2_with fail
          go_roundw
          case rel => exact ⟨k + 1, by omega, by go_num, HF2, Lib.hid (HM.out _)⟩
          case measure => simp [intOf]; omega
      · have hd : (xs == ys) = true := by
          rw [← HF.out, List.drop_of_length_le (by omega), List.drop_of_length_le (by have := HL.out; omega)]; rfl
        have HD := Lib.hid hd
        clear HF hd
        go_wp2_with fail
        go_ret
        exact ⟨by rw [HD.out]; rfl, HN.out⟩
  · have hbe : ((xs.length : Int) != (ys.length : Int)) = true := by simpa using fun h => hlen (by omega)
    have HD := Lib.hid (show (xs == ys) = false by
      rw [beq_eq_false_iff_ne]; intro h; exact hlen (by rw [h]))
    clear hlen hc1 hc2
    go_enter Try.func110, Try.ntmps110
    go_wp2_with fail
    go_ret
    exact ⟨by rw [HD.out]; rfl, 0, rfl⟩

set_option maxRecDepth 20000 in
set_option maxHeartbeats 2000000 in
theorem sameAllS (v1 v2 : Value) (xs ys : List (List Tm)) (w : World) (f1 f2 : List Nat) (h1 : R_T2 f1 w [v1] xs) (h2 : R_T2 f2 w [v2] ys) :
    Calls Try.prog 108 #[v1, v2] w fun e w' => e = .returned (.bool (xs == ys)) ∧ ∃ n, w' = w.drewN n := by
  obtain ⟨a1, c1, rfl, hl1, hm1, hc1⟩ := slP_open h1
  obtain ⟨a2, c2, rfl, hl2, hm2, hc2⟩ := slP_open h2
  unfold maxLen at hm1 hm2
  clear h1 h2
  by_cases hlen : xs.length = ys.length
  · have hbe : ((xs.length : Int) != (ys.length : Int)) = false := by simp [hlen]
    have HL := Lib.hid hlen
    have HC1 := Lib.hid hc1
    have HC2 := Lib.hid hc2
    clear hlen hc1 hc2
    go_enter Try.func108, Try.ntmps108
    go_wp2_with fail
    go_loopw [5] (fun i wr => ∃ k : Nat, k ≤ xs.length ∧ i = .int .i64 k ∧ Hid ((xs.drop k == ys.drop k) = (xs == ys)) ∧ Hid (∃ n, wr = w.drewN n)) (fun i _ => xs.length - (intOf i).toNat)
    case atStart => exact ⟨0, Nat.zero_le _, rfl, Lib.hid rfl, Lib.hid ⟨0, rfl⟩⟩
    case round =>
      obtain ⟨wo, rfl⟩ : ∃ wo : World, wo = wr := ⟨_, rfl⟩
      obtain ⟨k, hk, rfl, HF, HN⟩ := hrel
      have HU := Lib.hid (show Upd [] w wo by obtain ⟨n, rfl⟩ := HN.out; exact (Upd.refl _ _).drewN n)
      have HM := Lib.hid (fun m : Nat => show ∃ n, wo.drewN m = w.drewN n by obtain ⟨n, hn⟩ := HN.out; exact ⟨n + m, by rw [hn, drewN_add]⟩)
      by_cases hlt : k < xs.length
      · have hlt2 : k < ys.length := by have := HL.out; omega
        obtain ⟨b1, o1, u1, g1, rfl, -, -, p1, -, q1⟩ := HC1.out k hlt
        obtain ⟨b2, o2, u2, g2, rfl, -, -, p2, -, q2⟩ := HC2.out k hlt2
        have p1 := HU.out.keep p1
        have p2 := HU.out.keep p2
        have HF2 := Lib.hid ((dropEq xs ys k hlt hlt2).symm.trans HF.out)
        have S1 := Lib.hid (fun n => (sameTL u1 u2 xs[k] ys[k] (wo.drewN n) g1 g2 (R_T1k.upd q1 (HU.out.drewN n) (by simp)) (R_T1k.upd q2 (HU.out.drewN n) (by simp))).mono (fun e w' h => (⟨h.1, by obtain ⟨m, hm⟩ := h.2; exact ⟨n + m, by rw [hm, drewN_add]⟩⟩ : e = .returned (.bool (xs[k] == ys[k])) ∧ ∃ m, w' = wo.drewN m)))
        have k1 : (k : Int) < (xs.length : Int) := by omega
        have k2 : (k : Int) < (ys.length : Int) := by omega
        obtain ⟨d1, e1, rfl, -⟩ := slF2_open q1
        obtain ⟨d2, e2, rfl, -⟩ := slF2_open q2
        clear HF q1 q2
        generalize (xs[k] == ys[k]) = q at *
        generalize xs[k].length = l1 at *
        generalize ys[k].length = l2 at *
        cases q with
        | false =>
          replace HF2 := Lib.hid (show (xs == ys) = false by rw [← HF2.out]; rfl)
          go_wp2_with fail
          go_quiet ((go_at_call 107; exact S1.out _))
          go_wp2_with fail
          go_ret
          exact ⟨by rw [HF2.out]; rfl, HM.out _⟩
        | true =>
          replace HF2 := Lib.hid (show (xs.drop (k + 1) == ys.drop (k + 1)) = (xs == ys) by rw [← HF2.out]; rfl)
          go_wp2_with fail
          go_quiet ((go_at_call 107; exact S1.out _))
          go_wp2_with fail
          go_roundw
          case rel => exact ⟨k + 1, by omega, by go_num, HF2, Lib.hid (HM.out _)⟩
          case measure => simp [intOf]; omega
      · have hd : (xs == ys) = true := by
          rw [← HF.out, List.drop_of_length_le (by omega), List.drop_of_length_le (by have := HL.out; omega)]; rfl
        have HD := Lib.hid hd
        clear HF hd
        go_wp2_with fail
        go_ret
        exact ⟨by rw [HD.out]; rfl, HN.out⟩
  · have hbe : ((xs.length : Int) != (ys.length : Int)) = true := by simpa using fun h => hlen (by omega)
    have HD := Lib.hid (show (xs == ys) = false by
      rw [beq_eq_false_iff_ne]; intro h; exact hlen (by rw [h]))
    clear hlen hc1 hc2
    go_enter Try.func108, Try.ntmps108
    go_wp2_with fail
    go_ret
    exact ⟨by rw [HD.out]; rfl, 0, rfl⟩

set_option maxRecDepth 20000 in
set_option maxHeartbeats 1000000 in
theorem same1I (v1 v2 : Value) (xs ys : List (List Tm)) (w : World) (f1 f2 : List Nat) (h1 : R_T2 f1 w [v1] xs) (h2 : R_T2 f2 w [v2] ys) :
    Calls Try.prog 109 #[v1, v2] w fun e w' => e = .returned (.bool (xs == ys)) ∧ ∃ n, w' = w.drewN n := by
  have S1 := Lib.hid (eqFuncTT v1 v2 xs ys w f1 f2 h1 h2)
  clear h1 h2
  generalize (xs == ys) = q at *
  go_enter Try.func109, Try.ntmps109
  go_wp2_with fail
  refine S1.out.mono ?_
  rintro e w1 ⟨rfl, m, rfl⟩
  go_wp2_with fail
  go_ret
  exact ⟨rfl, m, rfl⟩

def sameSm (s t : Sm) : Bool := s.name == t.name && (s.sums == t.sums && (s.guard == t.guard && (s.args == t.args && s.next == t.next)))

end Go.Proofs.Ytnfghgaadnobbaa

namespace Go.Proofs.Ytnfghgaadnobbaa
open Go.RowKit

def firstP {α : Type} (p : α → Bool) : List α → Int
  | [] => -1
  | s :: r => if p s then 0 else if firstP p r < 0 then -1 else firstP p r + 1
theorem firstP_at {α : Type} {p : α → Bool} : ∀ {l : List α} (k : Nat) (hk : k < l.length), (∀ j (_ : j < k) (hj : j < l.length), p l[j] = false) → p l[k] = true → firstP p l = k
  | [], k, hk, _, _ => by simp at hk
  | s :: r, 0, _, _, h => by simp at h; simp [firstP, h]
  | s :: r, k + 1, hk, hn, h => by
    have h0 : p s = false := hn 0 (by omega) (by simp)
    have ih := firstP_at (p := p) (l := r) k (by simpa using hk) (fun j hj hj2 => by have := hn (j + 1) (by omega) (by simpa using hj2); rwa [List.getElem_cons_succ] at this) (by rwa [List.getElem_cons_succ] at h)
    rw [firstP, h0, if_neg (by simp), ih, if_neg (by omega)]; omega
theorem firstP_none {α : Type} {p : α → Bool} : ∀ {l : List α}, (∀ j (hj : j < l.length), p l[j] = false) → firstP p l = -1
  | [], _ => rfl
  | s :: r, hn => by
    have h0 : p s = false := hn 0 (by simp)
    have ih := firstP_none (p := p) (l := r) (fun j hj => by have := hn (j + 1) (by simpa using hj); rwa [List.getElem_cons_succ] at this)
    rw [firstP, h0, if_neg (by simp), ih, if_pos (by omega)]
theorem firstP_nonneg {α : Type} (p : α → Bool) : ∀ l : List α, decide (0 ≤ firstP p l) = l.any p
  | [] => rfl
  | s :: r => by
    have ih := firstP_nonneg p r
    rw [List.any_cons, firstP]
    by_cases h : p s = true
    · simp [h]
    · rw [if_neg h, ← ih, show p s = false by simpa using h, Bool.false_or]
      by_cases h2 : firstP p r < 0
      · rw [if_pos h2]; rw [decide_eq_false (by omega), decide_eq_false (by omega)]
      · rw [if_neg h2]; rw [decide_eq_true (by omega), decide_eq_true (by omega)]
theorem firstP_cases {α : Type} (p : α → Bool) (l : List α) : (firstP p l = -1 ∧ ∀ j (hj : j < l.length), p l[j] = false) ∨ ∃ k, ∃ hk : k < l.length, firstP p l = k ∧ p l[k] = true ∧ ∀ j (_ : j < k) (hj : j < l.length), p l[j] = false := by
  cases h : l.findIdx? p with
  | none =>
    have hn : ∀ j (hj : j < l.length), p l[j] = false := fun j hj => by
      rw [List.findIdx?_eq_none_iff] at h
      exact h _ (List.getElem_mem hj)
    exact Or.inl ⟨firstP_none hn, hn⟩
  | some k =>
    rw [List.findIdx?_eq_some_iff_getElem] at h
    obtain ⟨hk, h1, h2⟩ := h
    have hn : ∀ j (_ : j < k) (hj : j < l.length), p l[j] = false := fun j hj hj2 => by simpa using h2 j hj
    exact Or.inr ⟨k, hk, firstP_at k hk hn h1, h1, hn⟩

/-- a function's value that asks something of a summand, while the blocks of f are written. -/
structure PredOk (W0 : World) (f : List Nat) (fn : FuncId) (caps : Array Value) (p : Sm → Bool) (G : Sm → Prop) : Prop where
  ent : ∀ args w, Sem.run Try.prog (callFunc fn args) w = .ok (.enter fn args) w
  call : ∀ wr us s g, Upd f W0 wr → R_Sm g wr us s → G s → Calls Try.prog fn (#[.agg us.toArray] ++ caps) wr fun e w' => e = .returned (.bool (p s)) ∧ Upd [] wr w'

set_option maxRecDepth 20000 in
set_option maxHeartbeats 2000000 in
theorem idxFuncSm (v : Value) (xs : List Sm) (W0 : World) (f : List Nat) (w : World) (fp : List Nat) (fn : FuncId) (caps : Array Value) (p : Sm → Bool) (G : Sm → Prop) (hP : PredOk W0 f fn caps p G) (hU : Upd f W0 w) (hR : R_Sm1 fp w [v] xs) (hG : ∀ s ∈ xs, G s) :
    Calls Try.prog 89 #[v, .func (.func fn) #[] caps] w fun e w' => e = .returned (.int .i64 (firstP p xs)) ∧ Upd [] w w' := by
  obtain ⟨a1, c1, rfl, hl1, hm1, hc1⟩ := slQ_open hR
  unfold maxLen at hm1
  have hent := hP.ent
  have HBY := Lib.hid hP.call
  have HU0 := Lib.hid hU
  have HC := Lib.hid hc1
  have HGG := Lib.hid hG
  have HF := Lib.hid (fun k (hk : k < xs.length) (h1 : ∀ j (_ : j < k) (hj : j < xs.length), p xs[j] = false) (h2 : p xs[k] = true) => firstP_at k hk h1 h2)
  have HN := Lib.hid (fun (h : ∀ j (hj : j < xs.length), p xs[j] = false) => firstP_none h)
  clear hR hP hc1 hG hU
  generalize firstP p xs = Z at *
  go_enter Try.func89, Try.ntmps89
  go_wp2_with fail
  go_loopw [8] (fun i wr => ∃ k : Nat, k ≤ xs.length ∧ i = .int .i64 k ∧ Hid (Upd [] w wr) ∧ Hid (∀ j (_ : j < k) (hj : j < xs.length), p xs[j] = false)) (fun i _ => xs.length - (intOf i).toNat)
  case atStart => exact ⟨0, Nat.zero_le _, rfl, Lib.hid (Upd.refl _ _), Lib.hid (fun j hj => absurd hj (Nat.not_lt_zero _))⟩
  case round =>
    obtain ⟨wo, rfl⟩ : ∃ wo : World, wo = wr := ⟨_, rfl⟩
    obtain ⟨k, hk, rfl, HU, HI⟩ := hrel
    by_cases hlt : k < xs.length
    · obtain ⟨bb, off, u, f', rfl, -, -, -, hcell, -, hr⟩ := HC.out k hlt
      have HFK := Lib.hid (HF.out k hlt HI.out)
      have HIK := Lib.hid (fun (h : p xs[k] = false) j (hjk : j < k + 1) (hj : j < xs.length) => (show p xs[j] = false by
        by_cases e : j = k
        · subst e; exact h
        · exact HI.out j (by omega) hj))
      have hr' := R_Smk.upd hr HU.out (by simp)
      have S1 := HBY.out wo u xs[k] f' (HU0.out.trans (HU.out.mono (by simp))) hr' (HGG.out _ (List.getElem_mem hlt))
      have hcell' : ∀ (j : Nat) c, u[j]? = some c → wo.cell? ⟨bb, off + k * 5 + j, none⟩ = some c := fun j c hj => HU.out.keep (hcell j c hj)
      obtain ⟨e0, e1, e3, e4, f0, f1', f3, f4, rfl, r0, r1, r3, r4, rfl⟩ := hr
      have s0 := hcell' 0 _ rfl
      have s1 := hcell' 1 _ rfl
      have s2 := hcell' 2 _ rfl
      have s3 := hcell' 3 _ rfl
      have s4 := hcell' 4 _ rfl
      simp only [Nat.add_zero] at s0
      have hkl : (k : Int) < (xs.length : Int) := by omega
      have HS1 := Lib.hid S1
      clear r0 r1 r3 r4 hcell hcell' hr' HF HN S1
      generalize xs[k] = s at *
      generalize p s = q at *
      generalize s.name = N at *
      go_wp2_with fail
      refine HS1.out.mono ?_
      rintro e w1 ⟨rfl, hu1⟩
      have HU1 := Lib.hid (HU.out.trans hu1)
      clear HS1 hu1 s0 s1 s2 s3 s4
      cases q with
      | false =>
        replace HIK := Lib.hid (HIK.out rfl)
        clear HFK
        go_wp2_with fail
        go_roundw
        case rel => exact ⟨k + 1, by omega, by go_num, HU1, HIK⟩
        case measure => simp [intOf]; omega
      | true =>
        have HZ := Lib.hid (HFK.out rfl)
        clear HIK HFK
        go_wp2_with fail
        go_ret
        exact ⟨by rw [HZ.out]; rfl, HU1.out⟩
    · have HZ := Lib.hid (HN.out (fun j hj => HI.out j (by omega) hj))
      clear HF HN
      go_wp2_with fail
      go_ret
      exact ⟨by rw [HZ.out]; rfl, HU.out⟩

set_option maxRecDepth 20000 in
theorem conFuncSm (v : Value) (xs : List Sm) (W0 : World) (f : List Nat) (w : World) (fp : List Nat) (fn : FuncId) (caps : Array Value) (p : Sm → Bool) (G : Sm → Prop) (hP : PredOk W0 f fn caps p G) (hU : Upd f W0 w) (hR : R_Sm1 fp w [v] xs) (hG : ∀ s ∈ xs, G s) :
    Calls Try.prog 69 #[v, .func (.func fn) #[] caps] w fun e w' => e = .returned (.bool (xs.any p)) ∧ Upd [] w w' := by
  have S1 := Lib.hid (idxFuncSm v xs W0 f w fp fn caps p G hP hU hR hG)
  have HB := Lib.hid (firstP_nonneg p xs)
  clear hP hU hR hG
  generalize firstP p xs = Z at *
  generalize xs.any p = q at *
  go_enter Try.func69, Try.ntmps69
  go_wp2_with fail
  refine S1.out.mono ?_
  rintro e w1 ⟨rfl, hu⟩
  have HU := Lib.hid hu
  clear hu
  go_wp2_with fail
  go_ret
  exact ⟨by show Ending.returned (.bool (decide (0 ≤ Z))) = _; rw [HB.out], HU.out⟩

end Go.Proofs.Ytnfghgaadnobbaa

namespace Go.Proofs.Ytnfghgaadnobbaa
open Go.RowKit

set_option maxRecDepth 20000 in
set_option maxHeartbeats 4000000 in
theorem sameSumI (us1 us2 : List Value) (s t : Sm) (w : World) (g1 g2 : List Nat) (h1 : R_Sm g1 w us1 s) (h2 : R_Sm g2 w us2 t) :
    Calls Try.prog 71 #[.agg us1.toArray, .agg us2.toArray] w fun e w' => e = .returned (.bool (sameSm s t)) ∧ Upd [] w w' := by
  obtain ⟨v0, v1, v3, v4, f0, f1, f3, f4, rfl, a0, a1, a3, a4, -⟩ := h1
  obtain ⟨u0, u1, u3, u4, k0, k1, k3, k4, rfl, b0, b1, b3, b4, -⟩ := h2
  obtain ⟨B, hB⟩ : ∃ B, B = w.heap.size := ⟨_, rfl⟩
  obtain ⟨wA, hwA⟩ : ∃ wA, wA = (w.alloc (.cells #[v0, v1, es s.name, v3, v4] 56)).alloc (.cells #[u0, u1, es t.name, u3, u4] 56) := ⟨_, rfl⟩
  have s1 : (w.alloc (.cells #[v0, v1, es s.name, v3, v4] 56)).heap.size = B + 1 := by rw [hB]; simp
  have uA : Upd [] w wA := by rw [hwA]; exact ((Upd.refl _ _).alloc _).alloc _
  have HB1 := Lib.hid (show RowAt wA B 56 [v0, v1, es s.name, v3, v4] by rw [hwA, hB]; exact (RowAt.new _ _ _).upd ((Upd.refl [] _).alloc _) (by simp))
  have HB2 := Lib.hid (show RowAt wA (B + 1) 56 [u0, u1, es t.name, u3, u4] by rw [hwA, ← s1]; exact RowAt.new _ _ _)
  have S1 := Lib.hid (fun W (hu : Upd [] wA W) => equalIL v0 u0 s.sums t.sums W f0 k0 (R_I1k.upd a0 (uA.trans hu) (by simp)) (R_I1k.upd b0 (uA.trans hu) (by simp)))
  have S2 := Lib.hid (fun W (hu : Upd [] wA W) => equalTL v1 u1 s.guard t.guard W f1 k1 (R_T1k.upd a1 (uA.trans hu) (by simp)) (R_T1k.upd b1 (uA.trans hu) (by simp)))
  have S3 := Lib.hid (fun W (hu : Upd [] wA W) => same1I v3 u3 s.args t.args W f3 k3 (R_T2k.upd a3 (uA.trans hu) (by simp)) (R_T2k.upd b3 (uA.trans hu) (by simp)))
  have S4 := Lib.hid (fun W (hu : Upd [] wA W) => same1I v4 u4 s.next t.next W f4 k4 (R_T2k.upd a4 (uA.trans hu) (by simp)) (R_T2k.upd b4 (uA.trans hu) (by simp)))
  have UA := Lib.hid uA
  have hent := enter_same1
  have HM : sameSm s t = (s.name == t.name && (s.sums == t.sums && (s.guard == t.guard && (s.args == t.args && s.next == t.next)))) := rfl
  obtain ⟨x0, y0, rfl, -⟩ := slF1_open a0
  obtain ⟨x1, y1, rfl, -⟩ := slF2_open a1
  obtain ⟨x3, y3, rfl, -⟩ := slP_open a3
  obtain ⟨x4, y4, rfl, -⟩ := slP_open a4
  obtain ⟨m0, n0, rfl, -⟩ := slF1_open b0
  obtain ⟨m1, n1, rfl, -⟩ := slF2_open b1
  obtain ⟨m3, n3, rfl, -⟩ := slP_open b3
  obtain ⟨m4, n4, rfl, -⟩ := slP_open b4
  clear a0 a1 a3 a4 b0 b1 b3 b4 uA s1
  generalize sameSm s t = Z at *
  obtain ⟨q0, hq0⟩ : ∃ q, (s.name == t.name) = q := ⟨_, rfl⟩
  rw [hq0] at HM
  generalize (s.sums == t.sums) = q1 at *
  generalize (s.guard == t.guard) = q2 at *
  generalize (s.args == t.args) = q3 at *
  generalize (s.next == t.next) = q4 at *
  have HZ := Lib.hid HM
  clear HM
  generalize s.sums.length = l0 at *
  generalize s.guard.length = l1 at *
  generalize s.args.length = l3 at *
  generalize s.next.length = l4 at *
  generalize t.sums.length = j0 at *
  generalize t.guard.length = j1 at *
  generalize t.args.length = j3 at *
  generalize t.next.length = j4 at *
  generalize s.name = N1 at *
  generalize t.name = N2 at *
  go_enter Try.func71, Try.ntmps71
  go_upto_region 2 with (fail)
  rw [← hwA, ← hB]
  clear hwA hB
  have U0 := Lib.hid (Upd.refl [] wA)
  have c0 := (HB1.out.upd U0.out (by simp)).cell 0 _ rfl
  have d0 := (HB2.out.upd U0.out (by simp)).cell 0 _ rfl
  have c1 := (HB1.out.upd U0.out (by simp)).cell 1 _ rfl
  have d1 := (HB2.out.upd U0.out (by simp)).cell 1 _ rfl
  have c2 := (HB1.out.upd U0.out (by simp)).cell 2 _ rfl
  have d2 := (HB2.out.upd U0.out (by simp)).cell 2 _ rfl
  have c3 := (HB1.out.upd U0.out (by simp)).cell 3 _ rfl
  have d3 := (HB2.out.upd U0.out (by simp)).cell 3 _ rfl
  have c4 := (HB1.out.upd U0.out (by simp)).cell 4 _ rfl
  have d4 := (HB2.out.upd U0.out (by simp)).cell 4 _ rfl
  cases q0 with
  | false =>
    go_wp2_with fail
    go_ret
    exact ⟨by rw [HZ.out]; rfl, UA.out.trans U0.out⟩
  | true =>
    go_wp2_with fail
    refine (S1.out _ U0.out).mono ?_
    rintro e w' ⟨rfl, n, hn⟩
    obtain ⟨w1, hw⟩ : ∃ w9, w9 = w' := ⟨_, rfl⟩
    rw [← hw]
    have U1 := Lib.hid (show Upd [] wA w1 by rw [hw, hn]; exact U0.out.drewN n)
    clear hw hn c0 d0 c1 d1 c2 d2 c3 d3 c4 d4
    have c0 := (HB1.out.upd U1.out (by simp)).cell 0 _ rfl
    have d0 := (HB2.out.upd U1.out (by simp)).cell 0 _ rfl
    have c1 := (HB1.out.upd U1.out (by simp)).cell 1 _ rfl
    have d1 := (HB2.out.upd U1.out (by simp)).cell 1 _ rfl
    have c2 := (HB1.out.upd U1.out (by simp)).cell 2 _ rfl
    have d2 := (HB2.out.upd U1.out (by simp)).cell 2 _ rfl
    have c3 := (HB1.out.upd U1.out (by simp)).cell 3 _ rfl
    have d3 := (HB2.out.upd U1.out (by simp)).cell 3 _ rfl
    have c4 := (HB1.out.upd U1.out (by simp)).cell 4 _ rfl
    have d4 := (HB2.out.upd U1.out (by simp)).cell 4 _ rfl
    cases q1 with
    | false =>
      go_wp2_with fail
      go_ret
      exact ⟨by rw [HZ.out]; rfl, UA.out.trans U1.out⟩
    | true =>
      go_wp2_with fail
      refine (S2.out _ U1.out).mono ?_
      rintro e w' ⟨rfl, n, hn⟩
      obtain ⟨w2, hw⟩ : ∃ w9, w9 = w' := ⟨_, rfl⟩
      rw [← hw]
      have U2 := Lib.hid (show Upd [] wA w2 by rw [hw, hn]; exact U1.out.drewN n)
      clear hw hn c0 d0 c1 d1 c2 d2 c3 d3 c4 d4
      have c0 := (HB1.out.upd U2.out (by simp)).cell 0 _ rfl
      have d0 := (HB2.out.upd U2.out (by simp)).cell 0 _ rfl
      have c1 := (HB1.out.upd U2.out (by simp)).cell 1 _ rfl
      have d1 := (HB2.out.upd U2.out (by simp)).cell 1 _ rfl
      have c2 := (HB1.out.upd U2.out (by simp)).cell 2 _ rfl
      have d2 := (HB2.out.upd U2.out (by simp)).cell 2 _ rfl
      have c3 := (HB1.out.upd U2.out (by simp)).cell 3 _ rfl
      have d3 := (HB2.out.upd U2.out (by simp)).cell 3 _ rfl
      have c4 := (HB1.out.upd U2.out (by simp)).cell 4 _ rfl
      have d4 := (HB2.out.upd U2.out (by simp)).cell 4 _ rfl
      cases q2 with
      | false =>
        go_wp2_with fail
        go_ret
        exact ⟨by rw [HZ.out]; rfl, UA.out.trans U2.out⟩
      | true =>
        go_wp2_with fail
        refine (S3.out _ U2.out).mono ?_
        rintro e w' ⟨rfl, n, hn⟩
        obtain ⟨w3, hw⟩ : ∃ w9, w9 = w' := ⟨_, rfl⟩
        rw [← hw]
        have U3 := Lib.hid (show Upd [] wA w3 by rw [hw, hn]; exact U2.out.drewN n)
        clear hw hn c0 d0 c1 d1 c2 d2 c3 d3 c4 d4
        have c0 := (HB1.out.upd U3.out (by simp)).cell 0 _ rfl
        have d0 := (HB2.out.upd U3.out (by simp)).cell 0 _ rfl
        have c1 := (HB1.out.upd U3.out (by simp)).cell 1 _ rfl
        have d1 := (HB2.out.upd U3.out (by simp)).cell 1 _ rfl
        have c2 := (HB1.out.upd U3.out (by simp)).cell 2 _ rfl
        have d2 := (HB2.out.upd U3.out (by simp)).cell 2 _ rfl
        have c3 := (HB1.out.upd U3.out (by simp)).cell 3 _ rfl
        have d3 := (HB2.out.upd U3.out (by simp)).cell 3 _ rfl
        have c4 := (HB1.out.upd U3.out (by simp)).cell 4 _ rfl
        have d4 := (HB2.out.upd U3.out (by simp)).cell 4 _ rfl
        cases q3 with
        | false =>
          go_wp2_with fail
          go_ret
          exact ⟨by rw [HZ.out]; rfl, UA.out.trans U3.out⟩
        | true =>
          go_wp2_with fail
          refine (S4.out _ U3.out).mono ?_
          rintro e w' ⟨rfl, n, hn⟩
          obtain ⟨w4, hw⟩ : ∃ w9, w9 = w' := ⟨_, rfl⟩
          rw [← hw]
          have U4 := Lib.hid (show Upd [] wA w4 by rw [hw, hn]; exact U3.out.drewN n)
          clear hw hn c0 d0 c1 d1 c2 d2 c3 d3 c4 d4
          have c0 := (HB1.out.upd U4.out (by simp)).cell 0 _ rfl
          have d0 := (HB2.out.upd U4.out (by simp)).cell 0 _ rfl
          have c1 := (HB1.out.upd U4.out (by simp)).cell 1 _ rfl
          have d1 := (HB2.out.upd U4.out (by simp)).cell 1 _ rfl
          have c2 := (HB1.out.upd U4.out (by simp)).cell 2 _ rfl
          have d2 := (HB2.out.upd U4.out (by simp)).cell 2 _ rfl
          have c3 := (HB1.out.upd U4.out (by simp)).cell 3 _ rfl
          have d3 := (HB2.out.upd U4.out (by simp)).cell 3 _ rfl
          have c4 := (HB1.out.upd U4.out (by simp)).cell 4 _ rfl
          have d4 := (HB2.out.upd U4.out (by simp)).cell 4 _ rfl
          cases q4
          all_goals
            go_wp2_with fail
            go_ret
            exact ⟨by rw [HZ.out]; rfl, UA.out.trans U4.out⟩

set_option maxRecDepth 20000 in
set_option maxHeartbeats 4000000 in
theorem sameSumS (b1 o1 b2 o2 : Nat) (us1 us2 : List Value) (s t : Sm) (w : World) (g1 g2 : List Nat) (hc1 : ∀ (j : Nat) c, us1[j]? = some c → w.cell? ⟨b1, o1 + j, none⟩ = some c) (hc2 : ∀ (j : Nat) c, us2[j]? = some c → w.cell? ⟨b2, o2 + j, none⟩ = some c) (h1 : R_Sm g1 w us1 s) (h2 : R_Sm g2 w us2 t) :
    Calls Try.prog 68 #[.pointer (some ⟨b1, o1, none⟩), .pointer (some ⟨b2, o2, none⟩)] w fun e w' => e = .returned (.bool (sameSm s t)) ∧ ∃ n, w' = w.drewN n := by
  obtain ⟨v0, v1, v3, v4, f0, f1, f3, f4, rfl, a0, a1, a3, a4, -⟩ := h1
  obtain ⟨u0, u1, u3, u4, k0, k1, k3, k4, rfl, b0, b1', b3, b4, -⟩ := h2
  have c0 := hc1 0 _ rfl
  have c1 := hc1 1 _ rfl
  have c2 := hc1 2 _ rfl
  have c3 := hc1 3 _ rfl
  have c4 := hc1 4 _ rfl
  have d0 := hc2 0 _ rfl
  have d1 := hc2 1 _ rfl
  have d2 := hc2 2 _ rfl
  have d3 := hc2 3 _ rfl
  have d4 := hc2 4 _ rfl
  simp only [Nat.add_zero] at c0 d0
  have dn : ∀ (q : Bool) W (n : Nat) e w', W = w.drewN n → (e = .returned (.bool q) ∧ ∃ m, w' = W.drewN m) → (e = Ending.returned (.bool q) ∧ ∃ m, w' = w.drewN m) := fun q W n e w' hW h => ⟨h.1, by obtain ⟨m, hm⟩ := h.2; exact ⟨n + m, by rw [hm, hW, drewN_add]⟩⟩
  have S1 := Lib.hid (fun n => (sameIL v0 u0 s.sums t.sums (w.drewN n) f0 k0 (R_I1k.drewN a0 n) (R_I1k.drewN b0 n)).mono (fun e w' h => dn _ _ n e w' rfl h))
  have S2 := Lib.hid (fun n => (sameTL v1 u1 s.guard t.guard (w.drewN n) f1 k1 (R_T1k.drewN a1 n) (R_T1k.drewN b1' n)).mono (fun e w' h => dn _ _ n e w' rfl h))
  have S3 := Lib.hid (fun n => (sameAllS v3 u3 s.args t.args (w.drewN n) f3 k3 (R_T2k.drewN a3 n) (R_T2k.drewN b3 n)).mono (fun e w' h => dn _ _ n e w' rfl h))
  have S4 := Lib.hid (fun n => (sameAllS v4 u4 s.next t.next (w.drewN n) f4 k4 (R_T2k.drewN a4 n) (R_T2k.drewN b4 n)).mono (fun e w' h => dn _ _ n e w' rfl h))
  have HM : sameSm s t = (s.name == t.name && (s.sums == t.sums && (s.guard == t.guard && (s.args == t.args && s.next == t.next)))) := rfl
  obtain ⟨x0, y0, rfl, -⟩ := slF1_open a0
  obtain ⟨x1, y1, rfl, -⟩ := slF2_open a1
  obtain ⟨x3, y3, rfl, -⟩ := slP_open a3
  obtain ⟨x4, y4, rfl, -⟩ := slP_open a4
  obtain ⟨m0, n0, rfl, -⟩ := slF1_open b0
  obtain ⟨m1, n1, rfl, -⟩ := slF2_open b1'
  obtain ⟨m3, n3, rfl, -⟩ := slP_open b3
  obtain ⟨m4, n4, rfl, -⟩ := slP_open b4
  clear a0 a1 a3 a4 b0 b1' b3 b4 hc1 hc2 dn
  generalize sameSm s t = Z at *
  obtain ⟨q0, hq0⟩ : ∃ q, (s.name == t.name) = q := ⟨_, rfl⟩
  rw [hq0] at HM
  generalize (s.sums == t.sums) = q1 at *
  generalize (s.guard == t.guard) = q2 at *
  generalize (s.args == t.args) = q3 at *
  generalize (s.next == t.next) = q4 at *
  have HZ := Lib.hid HM
  clear HM
  generalize s.sums.length = l0 at *
  generalize s.guard.length = l1 at *
  generalize s.args.length = l3 at *
  generalize s.next.length = l4 at *
  generalize t.sums.length = j0 at *
  generalize t.guard.length = j1 at *
  generalize t.args.length = j3 at *
  generalize t.next.length = j4 at *
  generalize s.name = N1 at *
  generalize t.name = N2 at *
  go_enter Try.func68, Try.ntmps68
  go_upto_region 1 with (fail)
  cases q1 with
  | false =>
    go_quiet ((first | (go_at_call 106; exact S1.out _) | (go_at_call 107; exact S2.out _) | (go_at_call 108; first | (with_reducible exact S3.out _) | (with_reducible exact S4.out _))))
    go_wp2_with fail
    go_ret
    exact ⟨by rw [HZ.out]; simp, by first | exact ⟨_, rfl⟩ | exact ⟨0, rfl⟩⟩
  | true =>
    cases q2 with
    | false =>
      go_quiet ((first | (go_at_call 106; exact S1.out _) | (go_at_call 107; exact S2.out _) | (go_at_call 108; first | (with_reducible exact S3.out _) | (with_reducible exact S4.out _))))
      go_wp2_with fail
      go_ret
      exact ⟨by rw [HZ.out]; simp, by first | exact ⟨_, rfl⟩ | exact ⟨0, rfl⟩⟩
    | true =>
      cases q0 with
      | false =>
        go_quiet ((first | (go_at_call 106; exact S1.out _) | (go_at_call 107; exact S2.out _) | (go_at_call 108; first | (with_reducible exact S3.out _) | (with_reducible exact S4.out _))))
        go_wp2_with fail
        go_ret
        exact ⟨by rw [HZ.out]; simp, by first | exact ⟨_, rfl⟩ | exact ⟨0, rfl⟩⟩
      | true =>
        cases q3 with
        | false =>
          go_quiet ((first | (go_at_call 106; exact S1.out _) | (go_at_call 107; exact S2.out _) | (go_at_call 108; first | (with_reducible exact S3.out _) | (with_reducible exact S4.out _))))
          go_wp2_with fail
          go_ret
          exact ⟨by rw [HZ.out]; simp, by first | exact ⟨_, rfl⟩ | exact ⟨0, rfl⟩⟩
        | true =>
          cases q4
          all_goals
            go_quiet ((first | (go_at_call 106; exact S1.out _) | (go_at_call 107; exact S2.out _) | (go_at_call 108; first | (with_reducible exact S3.out _) | (with_reducible exact S4.out _))))
            go_wp2_with fail
            go_ret
            exact ⟨by rw [HZ.out]; simp, by first | exact ⟨_, rfl⟩ | exact ⟨0, rfl⟩⟩

theorem enter_dist1 (args : Array Value) (w : World) : Sem.run Try.prog (callFunc 70 args) w = .ok (.enter 70 args) w := by go_simp
set_option maxRecDepth 20000 in
set_option maxHeartbeats 2000000 in
theorem dist1Ok (W0 : World) (M : Nat) (us : List Value) (t : Sm) (g : List Nat) (hM : RowAt W0 M 56 us) (hR : R_Sm g W0 us t) :
    PredOk W0 [] 70 #[.pointer (some ⟨M, 0, none⟩)] (fun s => sameSm s t) (fun _ => True) := by
  refine ⟨enter_dist1, fun wr vs s gs hu hS _ => ?_⟩
  have hMr := hM.upd hu (by simp)
  have hRr := R_Smk.upd hR hu (by simp)
  obtain ⟨v0, v1, v3, v4, f0, f1, f3, f4, rfl, a0, a1, a3, a4, -⟩ := id hS
  obtain ⟨u0, u1, u3, u4, k0, k1, k3, k4, rfl, b0, b1, b3, b4, -⟩ := id hRr
  obtain ⟨wA, hwA⟩ : ∃ wA, wA = wr.alloc (.cells #[v0, v1, es s.name, v3, v4] 56) := ⟨_, rfl⟩
  obtain ⟨B, hBB⟩ : ∃ B, B = wr.heap.size := ⟨_, rfl⟩
  have uA : Upd [] wr wA := by rw [hwA]; exact (Upd.refl _ _).alloc _
  have hrB : RowAt wA B 56 [v0, v1, es s.name, v3, v4] := by rw [hwA, hBB]; exact RowAt.new _ _ _
  have hMA := hMr.upd uA (by simp)
  have S1 := Lib.hid (sameSumI _ _ s t wA gs g (R_Smk.upd hS uA (by simp)) (R_Smk.upd hRr uA (by simp)))
  have UA := Lib.hid uA
  have c0 := hrB.cell 0 _ rfl
  have c1 := hrB.cell 1 _ rfl
  have c2 := hrB.cell 2 _ rfl
  have c3 := hrB.cell 3 _ rfl
  have c4 := hrB.cell 4 _ rfl
  have d0 := hMA.cell 0 _ rfl
  have d1 := hMA.cell 1 _ rfl
  have d2 := hMA.cell 2 _ rfl
  have d3 := hMA.cell 3 _ rfl
  have d4 := hMA.cell 4 _ rfl
  clear hMr hRr hM hR hMA hrB uA hS hu a0 a1 a3 a4 b0 b1 b3 b4
  generalize sameSm s t = q at *
  generalize s.name = N1 at *
  generalize t.name = N2 at *
  show Calls Try.prog 70 #[.agg #[v0, v1, es N1, v3, v4], .pointer (some ⟨M, 0, none⟩)] wr _
  go_enter Try.func70, Try.ntmps70
  go_upto_region 1 with (fail)
  rw [← hwA, ← hBB]
  clear hwA hBB
  go_wp2_with fail
  refine S1.out.mono ?_
  rintro e w1 ⟨rfl, hu1⟩
  have HU := Lib.hid (UA.out.trans hu1)
  clear hu1 S1
  go_wp2_with fail
  go_ret
  exact ⟨rfl, HU.out⟩

end Go.Proofs.Ytnfghgaadnobbaa

namespace Go.Proofs.Ytnfghgaadnobbaa
open Go.RowKit

def addD (S : List Sm) (s : Sm) : List Sm := if S.any (fun k => sameSm k s) then S else S ++ [s]
/-- each summand once. -/
def distL (xs : List Sm) : List Sm := xs.foldl addD []
def distF (x : Ln) : Ln × Int := if lnOk x then (⟨x.pars, x.start, distL x.sms⟩, 0) else (zeroLn, 1)
def addT (S : List (Trip Sm)) (t : Trip Sm) : List (Trip Sm) := if (S.map (·.2.2)).any (fun k => sameSm k t.2.2) then S else S ++ [t]
def pickT (T : List (Trip Sm)) (k : Nat) : List (Trip Sm) := (T.take k).foldl addT []
theorem addT_map (S : List (Trip Sm)) (t : Trip Sm) : (addT S t).map (·.2.2) = addD (S.map (·.2.2)) t.2.2 := by
  unfold addT addD
  split <;> simp
theorem foldT_map : ∀ (T : List (Trip Sm)) (S : List (Trip Sm)), (T.foldl addT S).map (·.2.2) = (T.map (·.2.2)).foldl addD (S.map (·.2.2))
  | [], _ => rfl
  | t :: T, S => by rw [List.foldl_cons, foldT_map T, addT_map, List.map_cons, List.foldl_cons]
theorem foldT_sub : ∀ (T : List (Trip Sm)) (S : List (Trip Sm)), (T.foldl addT S).Sublist (S ++ T)
  | [], S => by simp
  | t :: T, S => by
    rw [List.foldl_cons]
    refine (foldT_sub T (addT S t)).trans ?_
    unfold addT
    split
    · exact List.Sublist.append (List.Sublist.refl _) (List.sublist_cons_self _ _)
    · rw [List.append_assoc]; exact List.Sublist.refl _
theorem foldD_sub : ∀ (T : List Sm) (S : List Sm), (T.foldl addD S).Sublist (S ++ T)
  | [], S => by simp
  | t :: T, S => by
    rw [List.foldl_cons]
    refine (foldD_sub T (addD S t)).trans ?_
    unfold addD
    split
    · exact List.Sublist.append (List.Sublist.refl _) (List.sublist_cons_self _ _)
    · rw [List.append_assoc]; exact List.Sublist.refl _
theorem pickT_sub (T : List (Trip Sm)) (k : Nat) : (pickT T k).Sublist T := (foldT_sub (T.take k) [] : (pickT T k).Sublist (T.take k)).trans (List.take_sublist _ _)
theorem pickT_le (T : List (Trip Sm)) (k : Nat) : (pickT T k).length ≤ k := by
  have hs : (pickT T k).Sublist (T.take k) := foldT_sub (T.take k) []
  have h1 := hs.length_le
  have h2 : (T.take k).length ≤ k := by simp; omega
  omega
theorem pickT_step (T : List (Trip Sm)) (k : Nat) (h : k < T.length) : pickT T (k + 1) = addT (pickT T k) T[k] := by
  unfold pickT
  rw [List.take_succ_eq_append_getElem h, List.foldl_append]; rfl
theorem pickT_end (T : List (Trip Sm)) : (pickT T T.length).map (·.2.2) = distL (T.map (·.2.2)) := by
  unfold pickT distL
  rw [List.take_length, foldT_map]; rfl
theorem sm1_sub : ∀ {A B : List Sm}, A.Sublist B → mkF_Sm1 A ≤ mkF_Sm1 B
  | _, _, .slnil => Int.le_refl _
  | _, _, .cons a h => by
    have := sm1_sub h
    have := mkF_Sm_nonneg a
    simp only [mkF_Sm1, List.map_cons, List.sum_cons] at *
    omega
  | _, _, .cons_cons a h => by
    have := sm1_sub h
    simp only [mkF_Sm1, List.map_cons, List.sum_cons] at *
    omega
theorem dist_b (x : Ln) (h : 1 + mkF_Ln x ≤ 100000000) : 1 + mkF_Ln (distF x).1 ≤ 4611686018427387904 := by
  have hs : (distL x.sms).Sublist x.sms := foldD_sub x.sms []
  have h1 := sm1_sub hs
  unfold distF
  split
  · show 1 + (mkF_I1 x.start + mkF_Sm1 (distL x.sms)) ≤ _
    unfold mkF_Ln at h
    omega
  · show (1 : Int) + 0 ≤ _; omega

set_option maxRecDepth 20000 in
set_option maxHeartbeats 4000000 in
theorem distI (cs : List Value) (x : Ln) (w : World) (fp : List Nat) (hR : R_Ln fp w cs x) (hF : LnFit x) :
    Calls Try.prog 32 #[.agg cs.toArray] w (GaveLn w (distF x)) := by
  obtain ⟨i0, hi, hz0, hz1, hz2⟩ := info_parts Try.infoSm
  have hR' := hR
  obtain ⟨v1, v2, f1, f2, rfl, r1, r2, rfl⟩ := hR
  obtain ⟨B, hB⟩ : ∃ B, B = w.heap.size := ⟨_, rfl⟩
  obtain ⟨wA, hwA⟩ : ∃ wA, wA = (w.alloc (.cells #[ei x.pars, v1, v2] 29)).alloc (.cells #[.int .i64 0, .slice none 0 0, .slice none 0 0] 29) := ⟨_, rfl⟩
  have s1 : (w.alloc (.cells #[ei x.pars, v1, v2] 29)).heap.size = B + 1 := by rw [hB]; simp
  have uA : Upd [] w wA := by rw [hwA]; exact ((Upd.refl _ _).alloc _).alloc _
  have hA1 : RowAt wA (B + 1) 29 zerosLn := by rw [hwA, ← s1]; exact RowAt.new _ _ _
  have hL : RowAt wA B 29 [ei x.pars, v1, v2] := by rw [hwA, hB]; exact (RowAt.new _ _ _).upd ((Upd.refl [] _).alloc _) (by simp)
  have HL := Lib.hid hL
  have HA := Lib.hid hA1
  have S1 := Lib.hid (validLnI _ x wA _ (R_Lnk.upd hR' uA (by simp)) hF)
  have S3 := Lib.hid (fun W (hu : Upd [] wA W) (hk : lnOk x = true) => cloneLnI _ x W _ (R_Lnk.upd hR' (uA.trans hu) (by simp)) (ln_fits hk hF))
  have HSM := Lib.hid (fun (hk : lnOk x = true) => (ln_fits hk hF).sm)
  have UA := Lib.hid uA
  have HMS := Lib.hid (show distF x = if lnOk x then (⟨x.pars, x.start, distL x.sms⟩, 0) else (zeroLn, 1) from rfl)
  have hL1 := hL
  unfold RowAt at hL1
  clear r1 r2 hR' uA s1 hF hL hA1
  generalize distF x = Z at *
  generalize hok : lnOk x = ok at *
  go_enter Try.func32, Try.ntmps32
  go_upto_region 1 with (fail)
  rw [← hwA, ← hB]
  have HBB := Lib.hid hB
  clear hwA hB
  go_wp2_with (first
    | (refine wpList_load_row rfl 29 _ rfl B rfl 29 #[ei x.pars, v1, v2] (0, 0) _ hL1 Try.underlying29 rfl Ln_size ?_)
    | fail)
  refine S1.out.mono ?_
  rintro e w1 ⟨rfl, hu1⟩
  have HU1 := Lib.hid (UA.out.trans hu1)
  have HV1 := Lib.hid hu1
  have ha1 := HA.out.upd hu1 (by simp)
  have hL2 := HL.out.upd hu1 (by simp)
  have HA1 := Lib.hid ha1
  unfold RowAt at ha1 hL2
  clear S1 hu1 HL HA hL1
  cases ok with
  | false =>
    have HZ := Lib.hid (show Z = (zeroLn, 1) by rw [HMS.out]; rfl)
    clear S3 HMS hL2 HSM
    go_wp2_with (first
      | (refine wpList_store_row rfl 29 _ _ rfl (B + 1) #[.int .i64 0, .slice none 0 0, .slice none 0 0] rfl rfl 29 _ ha1 Ln_size rfl (by simp [Value.oneCell']) ?_)
      | fail)
    have hr : RowAt (w1.setRow (B + 1) #[.int .i64 0, .slice none 0 0, .slice none 0 0]) (B + 1) 29 [.int .i64 0, .slice none 0 0, .slice none 0 0] := HA1.out.row [.int .i64 0, .slice none 0 0, .slice none 0 0]
    have n0 := hr.cell 0 _ rfl
    have n1 := hr.cell 1 _ rfl
    have n2 := hr.cell 2 _ rfl
    refine bodyPost_ret (v := .tuple #[.agg #[.int .i64 0, .slice none 0 0, .slice none 0 0], .int .i64 1]) (by simp [results, Try.results32, go_sem, n0, n1, n2]) rfl ?_
    rw [HZ.out]
    exact gaveLn_zero _ _ _ (HU1.out.row (Or.inl (by have := HBB.out; omega)) _)
  | true =>
    have HZ := Lib.hid (show Z = (⟨x.pars, x.start, distL x.sms⟩, 0) by rw [HMS.out]; rfl)
    have T3 := Lib.hid (S3.out w1 HV1.out (by first | trivial | rfl))
    have hsm := HSM.out (by first | trivial | rfl)
    clear S3 HMS ha1 HSM
    go_wp2_with (first
      | (refine wpList_load_row rfl 29 _ rfl B rfl 29 #[ei x.pars, v1, v2] (0, 0) _ hL2 Try.underlying29 rfl Ln_size ?_)
      | fail)
    refine T3.out.mono ?_
    rintro e w3 ⟨⟨us, rfl, hl, hc, hn⟩, hu3⟩
    obtain ⟨p1, q1, p2, q2, rfl⟩ := ln_form hn
    obtain ⟨fx, ⟨vv1, vv2, g1, g2, hvv, rr1, rr2, rfl⟩, oo, ge⟩ := hn
    simp only [List.cons.injEq, and_true] at hvv
    obtain ⟨-, rfl, rfl⟩ := hvv
    obtain ⟨oo1, oo2, dd⟩ := own_split oo
    have lt1 := R_I1k.lt rr1
    have lt2 := R_Sm1k.lt rr2
    obtain ⟨wB, hwB⟩ : ∃ wB, wB = w3.alloc (.cells #[ei x.pars, .slice p1 x.start.length q1, .slice p2 x.sms.length q2] 29) := ⟨_, rfl⟩
    have uB : Upd [] w3 wB := by rw [hwB]; exact (Upd.refl _ _).alloc _
    obtain ⟨C, hC⟩ : ∃ C, C = w3.heap.size := ⟨_, rfl⟩
    have hrC : RowAt wB C 29 [ei x.pars, .slice p1 x.start.length q1, .slice p2 x.sms.length q2] := by rw [hwB, hC]; exact RowAt.new _ _ _
    have HUB := Lib.hid ((HU1.out.trans hu3).trans uB)
    have HRC := Lib.hid hrC
    have HAB := Lib.hid ((HA1.out.upd hu3 (by simp)).upd uB (by simp))
    have HG1 := Lib.hid (show R_I1 g1 wB [.slice p1 x.start.length q1] x.start ∧ Own g1 wB from ⟨R_I1k.upd rr1 uB (by simp), oo1.upd uB (by simp)⟩)
    obtain ⟨b, off, aa, cap, T, hv, l2, m2, hxs, hraw, hOT, hTg, haa⟩ := slQ_rows (R_Sm1k.upd rr2 uB (by simp)) (oo2.upd uB (by simp)) C hrC.own
    simp only [Value.slice.injEq] at hv
    obtain ⟨rfl, -, rfl⟩ := hv
    unfold maxLen at m2
    have HRAW := Lib.hid hraw
    have HOT := Lib.hid hOT
    have HXS := Lib.hid hxs
    have HTL := Lib.hid (show T.length = x.sms.length by rw [hxs]; simp)
    have HAA := Lib.hid haa
    have HD := Lib.hid (show (∀ c ∈ g1, w1.heap.size ≤ c ∧ c ∉ g2 ∧ c < C) from fun c hc => ⟨ge c (by simp [hc]), dd c hc, by have := lt1 c hc; omega⟩)
    have HTG := Lib.hid (show ∀ c ∈ (T.map (·.2.1)).flatten, w1.heap.size ≤ c ∧ c < C ∧ c ∈ g2 from fun c hc => ⟨ge c (by simp [hTg c hc]), by have := lt2 c (hTg c hc); omega, hTg c hc⟩)
    have HCB := Lib.hid hrC.lt
    have HBW := Lib.hid (show B + 1 < w1.heap.size from HA1.out.lt)
    have HBN := Lib.hid (show w.heap.size ≤ B + 1 by have := HBB.out; omega)
    have hCS : w1.heap.size ≤ C := by have := hu3.size; omega
    have HCS := Lib.hid hCS
    have hC2 := hrC.cell 2 _ rfl
    clear T3 hu3 uB HA1 hc rr1 rr2 oo ge oo1 oo2 dd lt1 lt2 hrC hraw hOT hxs hTg haa hCS HV1 hL2 hok
    go_upto_region 4 with (fail)
    rw [← hwB, ← hC]
    clear hwB hC
    go_wp2_with fail
    go_loopw [5, 17] (fun sp iv wr => ∃ (k : Nat) (sv : Value), sv = sp ∧ k ≤ x.sms.length ∧ iv = .int .i64 k ∧ Hid (Upd [] wB wr) ∧ Hid (PickQ 5 wB.heap.size 56 [] wr sv (pickT T k))) (fun _ iv _ => x.sms.length - (intOf iv).toNat)
    case atStart => exact ⟨0, _, rfl, Nat.zero_le _, rfl, Lib.hid (Upd.refl _ _), Lib.hid (PickQ.nil (by simp))⟩
    case round =>
      clear hC2
      obtain ⟨wo, rfl⟩ : ∃ wo : World, wo = wr := ⟨_, rfl⟩
      obtain ⟨k, sv, rfl, hk, rfl, HU, HAC⟩ := hrel
      by_cases hlt : k < x.sms.length
      · obtain rfl := HAA.out (by omega)
        have hkT : k < T.length := by rw [HTL.out]; exact hlt
        have hraw := HRAW.out.upd R_Smk HU.out (by simp) (by simp)
        have hr := (hraw.each _ (List.getElem_mem hkT)).2
        have hrow5 : ∀ (j : Nat) c, T[k].1[j]? = some c → wo.cell? ⟨b, off + k * 5 + j, none⟩ = some c := fun j c hj => hraw.rows k _ (by simp [hkT]) j c hj
        have HSTEP := Lib.hid (pickT_step T k hkT)
        have hml : (pickT T k).length ≤ k := pickT_le _ _
        have HPUSH := Lib.hid (fun W (h : PickQ 5 wB.heap.size 56 [] W sv (pickT T k)) (o : Obj) (W2 : World) (v2 : Value) => PickQ.push (w2 := W2) (v2 := v2) h T[k] o)
        have HFIN := Lib.hid (fun W (hu : Upd [] wo W) => (HAC.out.upd hu).fin (HRAW.out.upd R_Smk (HU.out.trans hu) (by simp) (by simp)) (HOT.out.upd (HU.out.trans hu) (by simp)) (fun c hc => by have := HTG.out c hc; have := HCB.out; omega) (pickT_sub T k))
        obtain ⟨S5, hS5⟩ : ∃ S5, pickT T k = S5 := ⟨_, rfl⟩
        rw [hS5] at HSTEP hml HPUSH HAC HFIN
        clear hS5
        generalize T[k] = tr at *
        obtain ⟨u, f, s⟩ := tr
        simp only at hr hrow5 HSTEP HPUSH
        have hr' := hr
        obtain ⟨e0, e1, e3, e4, q0, q1', q3, q4, rfl, r0, r1, r3, r4, -⟩ := hr
        obtain ⟨d0, o0, rfl, -⟩ := slF1_open r0
        obtain ⟨d1, o1, rfl, -⟩ := slF2_open r1
        obtain ⟨d3, o3, rfl, -⟩ := slP_open r3
        obtain ⟨d4, o4, rfl, -⟩ := slP_open r4
        have s0 := hrow5 0 _ rfl
        have s1 := hrow5 1 _ rfl
        have s2 := hrow5 2 _ rfl
        have s3 := hrow5 3 _ rfl
        have s4 := hrow5 4 _ rfl
        simp only [Nat.add_zero] at s0
        have hkl : (k : Int) < (x.sms.length : Int) := by omega
        obtain ⟨wm, hwm⟩ : ∃ wm, wm = wo.alloc (.cells #[.slice d0 s.sums.length o0, .slice d1 s.guard.length o1, es s.name, .slice d3 s.args.length o3, .slice d4 s.next.length o4] 56) := ⟨_, rfl⟩
        have um : Upd [] wo wm := by rw [hwm]; exact (Upd.refl _ _).alloc _
        obtain ⟨M, hM⟩ : ∃ M, M = wo.heap.size := ⟨_, rfl⟩
        have hrM : RowAt wm M 56 [.slice d0 s.sums.length o0, .slice d1 s.guard.length o1, es s.name, .slice d3 s.args.length o3, .slice d4 s.next.length o4] := by rw [hwm, hM]; exact RowAt.new _ _ _
        obtain ⟨fq, hsl, -, -⟩ := HFIN.out wm um
        have SQ := Lib.hid (conFuncSm sv (S5.map (·.2.2)) wm [] wm fq _ _ (fun k => sameSm k s) _ (dist1Ok wm M _ s f hrM (R_Smk.upd hr' um (by simp))) (Upd.refl _ _) hsl (fun _ _ => trivial))
        have HAD : addT S5 ([.slice d0 s.sums.length o0, .slice d1 s.guard.length o1, es s.name, .slice d3 s.args.length o3, .slice d4 s.next.length o4], f, s) = if (S5.map (·.2.2)).any (fun k => sameSm k s) then S5 else S5 ++ [([.slice d0 s.sums.length o0, .slice d1 s.guard.length o1, es s.name, .slice d3 s.args.length o3, .slice d4 s.next.length o4], f, s)] := rfl
        have HUM := Lib.hid um
        have HRM := Lib.hid hrM
        clear hraw r0 r1 r3 r4 hrow5 um hrM hr' hsl HFIN
        generalize (S5.map (·.2.2)).any (fun k => sameSm k s) = q at *
        generalize s.name = N at *
        have HADD := Lib.hid HAD
        clear HAD
        obtain ⟨ca, cc, rfl⟩ := HAC.out.form
        generalize hm5 : S5.length = m at *
        have HM5 := Lib.hid hm5
        clear hm5
        go_upto_region 8 with (fail)
        rw [← hwm, ← hM]
        clear hwm hM s0 s1 s2 s3 s4
        go_wp2_with fail
        refine SQ.out.mono ?_
        rintro e wn ⟨rfl, hun⟩
        have HUN := Lib.hid (HUM.out.trans hun)
        have HRN := Lib.hid (HRM.out.upd hun (by simp))
        clear SQ hun HUM HRM
        cases q with
        | true =>
          replace HSTEP := Lib.hid (show pickT T (k + 1) = S5 by rw [HSTEP.out, HADD.out]; rfl)
          clear HADD HPUSH
          go_wp2_with fail
          go_roundw
          case rel => exact ⟨k + 1, _, rfl, by omega, by go_num, Lib.hid (HU.out.trans HUN.out), Lib.hid (by rw [HSTEP.out]; exact HAC.out.upd HUN.out)⟩
          case measure => simp [intOf]; omega
        | false =>
          replace HSTEP := Lib.hid (show pickT T (k + 1) = S5 ++ [([.slice d0 s.sums.length o0, .slice d1 s.guard.length o1, es N, .slice d3 s.args.length o3, .slice d4 s.next.length o4], f, s)] by rw [HSTEP.out, HADD.out]; rfl)
          clear HADD
          have t0 := HRN.out.cell 0 _ rfl
          have t1 := HRN.out.cell 1 _ rfl
          have t2 := HRN.out.cell 2 _ rfl
          have t3 := HRN.out.cell 3 _ rfl
          have t4 := HRN.out.cell 4 _ rfl
          have hac := HAC.out.upd HUN.out
          have hown1 := hac.own
          rw [HM5.out] at hown1
          have HLO := Lib.hid (fun c hc => (hown1.lt c hc).1)
          have HPU := Lib.hid (HPUSH.out _ hac (.cells #[.slice d0 s.sums.length o0, .slice d1 s.guard.length o1, es N, .slice d3 s.args.length o3, .slice d4 s.next.length o4] 56))
          have HU2 := Lib.hid (HU.out.trans HUN.out)
          have hszn : wB.heap.size ≤ wn.heap.size := HU2.out.size
          clear hac HAC HPUSH
          go_wp2_with (first
            | (at_builtin; refine wpList_append_tight _ rfl _ _ 27 rfl wB.heap.size 56 i0 (.agg #[.slice none 0 0, .slice none 0 0, .string ⟨#[]⟩, .slice none 0 0, .slice none 0 0]) 5 112 Try.underlying27 hi hz0 hz1 hz2 rfl (by decide) _ _ _ rfl (hown1.alloc _) ⟨wn.heap.size, 0, none⟩ 1 1 [.slice d0 s.sums.length o0, .slice d1 s.guard.length o1, es N, .slice d3 s.args.length o3, .slice d4 s.next.length o4] rfl rfl (fun j u hj => by rw [addr_add, Nat.zero_add]; exact cell_new wn #[.slice d0 s.sums.length o0, .slice d1 s.guard.length o1, es N, .slice d3 s.args.length o3, .slice d4 s.next.length o4] _ _ rfl j u (by simpa using hj)) (by simp [Value.oneCell']) (by unfold maxLen; omega) (by omega) (by simp; omega) ?_)
            | fail)
          intro v2 w2 hown2 hg2 ht2
          have hpick := HPU.out w2 v2 (by first | (simpa using hown2) | (rw [HM5.out]; simpa using hown2)) hg2 (by simpa using ht2)
          have hU2 : Upd [] wB w2 := (HU2.out.alloc (.cells #[.slice d0 s.sums.length o0, .slice d1 s.guard.length o1, es N, .slice d3 s.args.length o3, .slice d4 s.next.length o4] 56)).grown hg2 (fun c hc => Or.inl (HLO.out c hc))
          have HP := Lib.hid (And.intro hpick hU2)
          clear hpick hU2 hown2 hg2 ht2 hown1 HPU
          go_wp2_with fail
          go_roundw
          case rel => exact ⟨k + 1, _, rfl, by omega, by go_num, Lib.hid HP.out.2, Lib.hid (by rw [HSTEP.out]; exact HP.out.1)⟩
          case measure => simp [intOf]; omega
      · obtain rfl : k = x.sms.length := by omega
        obtain ⟨ca, cc, rfl⟩ := HAC.out.form
        have hfin := HAC.out.fin (HRAW.out.upd R_Smk HU.out (by simp) (by simp)) (HOT.out.upd HU.out (by simp)) (fun c hc => by have := HTG.out c hc; have := HCB.out; omega) (pickT_sub _ _)
        have hll : (pickT T x.sms.length).map (·.2.2) = distL x.sms := by rw [← HTL.out, pickT_end, ← HXS.out]
        rw [hll] at hfin
        have hlen : (pickT T x.sms.length).length = (distL x.sms).length := by rw [← hll, List.length_map]
        obtain ⟨fq, hsl, hso, hsb⟩ := hfin
        have HS := Lib.hid (And.intro hsl (And.intro hso hsb))
        have HLEN := Lib.hid hlen
        have HRO := Lib.hid (HRC.out.upd HU.out (by simp))
        have HAO := Lib.hid (HAB.out.upd HU.out (by simp))
        have z2 := HRO.out.cell 2 _ rfl
        have zf := HRO.out.fz 2
        clear hsl hso hsb HAC hll hlen
        generalize distL x.sms = Y at *
        generalize (pickT T x.sms.length).length = ml at *
        obtain rfl := HLEN.out
        go_upto_region 12 with (fail)
        obtain ⟨w5, hw5⟩ : ∃ w5, w5 = wo.setCell ⟨C, 2, none⟩ (.slice ca Y.length cc) := ⟨_, rfl⟩
        rw [← hw5]
        have hU5 : Upd [C] wo w5 := by rw [hw5]; exact (Upd.refl _ _).setCell (Or.inr (by simp)) _
        have hr5 : RowAt w5 C 29 [ei x.pars, .slice p1 x.start.length q1, .slice ca Y.length cc] := by rw [hw5]; exact HRO.out.store 2 _
        have ha5 := HAO.out.upd hU5 (by have := HBW.out; have := HCS.out; simp; omega)
        have HA5 := Lib.hid ha5
        have HU5 := Lib.hid ((HUB.out.trans HU.out).fresh hU5 (fun b hb => Or.inl (by simp at hb; have := HU1.out.size; have := HCS.out; omega)))
        have HG5 := Lib.hid (show R_I1 g1 w5 [.slice p1 x.start.length q1] x.start ∧ Own g1 w5 from ⟨R_I1k.upd (R_I1k.upd HG1.out.1 HU.out (by simp)) hU5 (fun c hc hm => by simp at hm; have := HD.out c hc; omega), (HG1.out.2.upd HU.out (by simp)).upd hU5 (fun c hc hm => by simp at hm; have := HD.out c hc; omega)⟩)
        have hfC : ∀ c ∈ fq, c ∉ [C] := fun c hc hm => by
          simp at hm
          have := HCB.out
          rcases HS.out.2.2 c hc with h | h
          · omega
          · have := HTG.out c h; omega
        have HR5 := Lib.hid (show R_Sm1 fq w5 [.slice ca Y.length cc] Y ∧ Own fq w5 from ⟨R_Sm1k.upd HS.out.1 hU5 hfC, HS.out.2.1.upd hU5 hfC⟩)
        unfold RowAt at hr5 ha5
        clear hw5 hU5 z2 zf hfC
        go_wp2_with (first
          | (refine wpList_load_row rfl 29 _ rfl C rfl 29 #[ei x.pars, .slice p1 x.start.length q1, .slice ca Y.length cc] (0, 0) _ hr5 Try.underlying29 rfl Ln_size ?_)
          | (refine wpList_store_row rfl 29 _ _ rfl (B + 1) #[ei x.pars, .slice p1 x.start.length q1, .slice ca Y.length cc] rfl rfl 29 _ ha5 Ln_size rfl (by simp [Value.oneCell']) ?_)
          | fail)
        have hr : RowAt (w5.setRow (B + 1) #[ei x.pars, .slice p1 x.start.length q1, .slice ca Y.length cc]) (B + 1) 29 [ei x.pars, .slice p1 x.start.length q1, .slice ca Y.length cc] := HA5.out.row [ei x.pars, .slice p1 x.start.length q1, .slice ca Y.length cc]
        have n0 := hr.cell 0 _ rfl
        have n1 := hr.cell 1 _ rfl
        have n2 := hr.cell 2 _ rfl
        refine bodyPost_ret (v := .tuple #[.agg #[ei x.pars, .slice p1 x.start.length q1, .slice ca Y.length cc], .int .i64 0]) (by simp [results, Try.results32, go_sem, n0, n1, n2]) rfl ?_
        rw [HZ.out]
        refine gaveLn (us := [ei x.pars, .slice p1 x.start.length q1, .slice ca Y.length cc]) (W := w1) (x := ⟨x.pars, x.start, Y⟩) ⟨g1 ++ fq, ⟨_, _, g1, fq, rfl, HG5.out.1, HR5.out.1, rfl⟩, own_join HG5.out.2 HR5.out.2 (fun c h1 h2 => ?_), fun c hc => ?_⟩ rfl (by simp [Value.oneCell']) HU5.out HBN.out HBW.out HU1.out.size
        · rcases HS.out.2.2 c h2 with h | h
          · have := HD.out c h1; have := HCB.out; omega
          · exact (HD.out c h1).2.1 (HTG.out c h).2.2
        · rcases List.mem_append.1 hc with h | h
          · exact (HD.out c h).1
          · have := HCS.out
            have := HCB.out
            rcases HS.out.2.2 c h with h | h
            · omega
            · have := HTG.out c h; omega

end Go.Proofs.Ytnfghgaadnobbaa

namespace Go.Proofs.Ytnfghgaadnobbaa
open Go.RowKit

theorem any_take (S : List (Trip Sm)) (s : Sm) (j : Nat) (h : j < S.length) : (((S.take (j + 1)).map (·.2.2)).any fun k => sameSm k s) = (((S.take j).map (·.2.2)).any (fun k => sameSm k s) || sameSm S[j].2.2 s) := by
  rw [List.take_succ_eq_append_getElem h, List.map_append, List.any_append]; simp

set_option maxRecDepth 20000 in
set_option maxHeartbeats 4000000 in
theorem distS (cs : List Value) (x : Ln) (w : World) (fp : List Nat) (hR : R_Ln fp w cs x) (hF : LnFit x) :
    Calls Try.prog 31 #[.agg cs.toArray] w (GaveLn w (distF x)) := by
  obtain ⟨i0, hi, hz0, hz1, hz2⟩ := info_parts Try.infoSm
  obtain ⟨v1, v2, f1, f2, rfl, r1, r2, rfl⟩ := hR
  obtain ⟨P, hB⟩ : ∃ B, B = w.heap.size := ⟨_, rfl⟩
  obtain ⟨wS, hwS⟩ : ∃ wS, wS = (w.alloc (.cells #[ei x.pars, v1, v2] 29)).alloc (.cells #[.int .i64 0, .slice none 0 0, .slice none 0 0] 29) := ⟨_, rfl⟩
  have s1 : (w.alloc (.cells #[ei x.pars, v1, v2] 29)).heap.size = P + 1 := by rw [hB]; simp
  have uS : Upd [] w wS := by rw [hwS]; exact ((Upd.refl _ _).alloc _).alloc _
  have hB1 : RowAt wS (P + 1) 29 zerosLn := by rw [hwS, ← s1]; exact RowAt.new _ _ _
  have hAt : LnAt wS P v1 v2 f1 f2 x := by rw [hwS, hB]; exact (LnAt.new w _ v1 v2 f1 f2 x r1 r2).upd ((Upd.refl [] _).alloc _)
  have HB := Lib.hid hB1
  have S1 := Lib.hid (isLnS P v1 v2 x wS f1 f2 hAt (fun s hs => (hF s hs).1))
  have S3 := Lib.hid (fun W (hu : Upd [] wS W) (hk : lnOk x = true) => ownLnS P v1 v2 x W f1 f2 (hAt.upd hu) (ln_fits hk hF).sf (ln_fits hk hF).st (ln_fits hk hF).sm)
  have S00 := Lib.hid (fun (hk : lnOk x = true) W (hu : Upd [] w W) => ownIS v1 x.start W f1 (ln_fits hk hF).st (R_I1k.upd r1 hu (by simp)))
  have HSM := Lib.hid (fun (hk : lnOk x = true) => (ln_fits hk hF).sm)
  have US := Lib.hid uS
  have HMS := Lib.hid (show distF x = if lnOk x then (⟨x.pars, x.start, distL x.sms⟩, 0) else (zeroLn, 1) from rfl)
  obtain ⟨p0, p1, p2, -, -⟩ := hAt
  have HP0 := Lib.hid (And.intro p0 p1)
  clear r1 r2 uS s1 hF hB1 p0 p1 p2
  generalize distF x = Zf at *
  generalize hok : lnOk x = ok at *
  go_enter Try.func31, Try.ntmps31
  go_upto_region 1 with (fail)
  rw [← hwS, ← hB]
  have HBB := Lib.hid hB
  clear hwS hB
  go_wp2_with fail
  refine S1.out.mono ?_
  rintro e w1 ⟨rfl, nq, hw1⟩
  have hu1 : Upd [] wS w1 := by rw [hw1]; exact (Upd.refl _ _).drewN nq
  clear hw1
  have HU1 := Lib.hid (US.out.trans hu1)
  have HV1 := Lib.hid hu1
  have ha1 := HB.out.upd hu1 (by simp)
  have HB1 := Lib.hid ha1
  unfold RowAt at ha1
  clear S1 hu1 HB
  cases ok with
  | false =>
    have HZ := Lib.hid (show Zf = (zeroLn, 1) by rw [HMS.out]; rfl)
    clear S3 HMS S00 HSM HP0
    go_wp2_with (first
      | (refine wpList_store_row rfl 29 _ _ rfl (P + 1) #[.int .i64 0, .slice none 0 0, .slice none 0 0] rfl rfl 29 _ ha1 Ln_size rfl (by simp [Value.oneCell']) ?_)
      | fail)
    have hr : RowAt (w1.setRow (P + 1) #[.int .i64 0, .slice none 0 0, .slice none 0 0]) (P + 1) 29 [.int .i64 0, .slice none 0 0, .slice none 0 0] := HB1.out.row [.int .i64 0, .slice none 0 0, .slice none 0 0]
    have n0 := hr.cell 0 _ rfl
    have n1 := hr.cell 1 _ rfl
    have n2 := hr.cell 2 _ rfl
    refine bodyPost_ret (v := .tuple #[.agg #[.int .i64 0, .slice none 0 0, .slice none 0 0], .int .i64 1]) (by simp [results, Try.results31, go_sem, n0, n1, n2]) rfl ?_
    rw [HZ.out]
    exact gaveLn_zero _ _ _ (HU1.out.row (Or.inl (by have := HBB.out; omega)) _)
  | true =>
    have HZ := Lib.hid (show Zf = (⟨x.pars, x.start, distL x.sms⟩, 0) by rw [HMS.out]; rfl)
    have T3 := Lib.hid (S3.out w1 HV1.out (by first | trivial | rfl))
    have S0 := Lib.hid (S00.out (by first | trivial | rfl))
    have hsm := HSM.out (by first | trivial | rfl)
    clear S3 HMS ha1 HSM S00
    go_wp2_with fail
    refine T3.out.mono ?_
    rintro e w3 ⟨⟨us, rfl, hl, hc, hn⟩, hu3⟩
    obtain ⟨pz1, qz1, pz2, qz2, rfl⟩ := ln_form hn
    obtain ⟨fx, ⟨vv1, vv2, g1, g2, hvv, rr1, rr2, rfl⟩, oo, ge⟩ := hn
    simp only [List.cons.injEq, and_true] at hvv
    obtain ⟨-, rfl, rfl⟩ := hvv
    obtain ⟨oo1, oo2, dd⟩ := own_split oo
    have lt2 := R_Sm1k.lt rr2
    obtain ⟨wA, hwA⟩ : ∃ wA, wA = w3.alloc (.cells #[ei x.pars, .slice pz1 x.start.length qz1, .slice pz2 x.sms.length qz2] 29) := ⟨_, rfl⟩
    have uA : Upd [] w3 wA := by rw [hwA]; exact (Upd.refl _ _).alloc _
    obtain ⟨C, hC⟩ : ∃ C, C = w3.heap.size := ⟨_, rfl⟩
    have hrC : RowAt wA C 29 [ei x.pars, .slice pz1 x.start.length qz1, .slice pz2 x.sms.length qz2] := by rw [hwA, hC]; exact RowAt.new _ _ _
    have UA := Lib.hid ((HU1.out.trans hu3).trans uA)
    have HRC := Lib.hid hrC
    have HA := Lib.hid ((HB1.out.upd hu3 (by simp)).upd uA (by simp))
    have a0 := (HV1.out.trans (hu3.trans uA)).keep HP0.out.1
    have a1 := (HV1.out.trans (hu3.trans uA)).keep HP0.out.2
    have hblA := World.block_lt_of_cell? _ _ a0
    obtain ⟨b, off, aa, cap, T, hv, l2, m2, hxs, hraw, hOT, hTg, haa⟩ := slQ_rows (R_Sm1k.upd rr2 uA (by simp)) (oo2.upd uA (by simp)) C hrC.own
    simp only [Value.slice.injEq] at hv
    obtain ⟨rfl, -, rfl⟩ := hv
    unfold maxLen at m2
    have HRAW := Lib.hid hraw
    have HOT := Lib.hid hOT
    have HXS := Lib.hid hxs
    have HTL := Lib.hid (show T.length = x.sms.length by rw [hxs]; simp)
    have HAA := Lib.hid haa
    have HTG := Lib.hid (show ∀ c ∈ (T.map (·.2.1)).flatten, w1.heap.size ≤ c ∧ c < C from fun c hc => ⟨ge c (by simp [hTg c hc]), by have := lt2 c (hTg c hc); omega⟩)
    have HCA := Lib.hid hrC.lt
    have HBW := Lib.hid (show P + 1 < w1.heap.size from HB1.out.lt)
    have HBN := Lib.hid (show w.heap.size ≤ P + 1 by have := HBB.out; omega)
    have hCS : w1.heap.size ≤ C := by have := hu3.size; omega
    have HCS := Lib.hid hCS
    clear T3 hu3 uA HB1 rr1 rr2 oo ge oo1 oo2 dd lt2 hrC hraw hOT hxs hTg haa hCS hc HP0 HV1 hok
    go_upto_region 4 with (fail)
    rw [← hwA, ← hC]
    clear hwA hC
    go_cut [5] (fun p wx => MidL wA wx p x)
    case first =>
      go_region_held3 (fun w' => w'.cell? ⟨P, 0, none⟩ = some (ei x.pars) ∧ w'.cell? ⟨P, 1, none⟩ = some v1) (first | go_keep | (go_split_ands; refine ⟨?_, ?_⟩ <;> (rw [World.cell?_setCell_other _ _ _ _ (by intro h; simp only [Addr.mk.injEq] at h; omega), World.cell?_setCell_other _ _ _ _ (by intro h; simp only [Addr.mk.injEq] at h; omega), World.cell?_setCell_other _ _ _ _ (by intro h; simp only [Addr.mk.injEq] at h; omega)]; first | assumption | (exact ((Upd.refl [] _).alloc _).keep (by assumption)) | (exact (((Upd.refl [] _).alloc _).alloc _).keep (by assumption)) | simp [*])))
        (first
          | (go_at_call 36; (with_reducible refine (S0.out ((wA.alloc (.cells #[.int .i64 0, .slice none 0 0, .slice none 0 0] 29)).alloc (.cells #[] 56)).drew (((UA.out.alloc _).alloc _).drew)).mono ?_); rintro e w1 ⟨⟨n0, rfl, hn0⟩, hu1⟩; obtain ⟨x0, y0, rfl⟩ := hn0.form; have hw1 : Upd [] wA w1 := ((((Upd.refl [] wA).alloc _).alloc _).drew).trans hu1; have b0 := hw1.keep a0; have hbl1 := World.block_lt_of_cell? _ _ b0; have b1 := hw1.keep a1; have rz : RowAt w1 wA.heap.size 29 zerosLn := (RowAt.new wA _ zerosLn).upd ((((Upd.refl [] _).alloc _).drew).trans hu1) (by simp); have cz0 := rz.cell 0 _ rfl; have fz0 := rz.fz 0; have cz1 := rz.cell 1 _ rfl; have fz1 := rz.fz 1; have cz2 := rz.cell 2 _ rfl; have fz2 := rz.fz 2; have re : RowAt w1 (wA.heap.size + 1) 56 [] := (show RowAt (((wA.alloc (.cells #[.int .i64 0, .slice none 0 0, .slice none 0 0] 29)).alloc (.cells #[] 56))) (wA.heap.size + 1) 56 [] from by have := RowAt.new (wA.alloc (.cells #[.int .i64 0, .slice none 0 0, .slice none 0 0] 29)) 56 []; simpa using this).upd (((Upd.refl [] _).drew).trans hu1) (by simp); skip)
          | (go_at_call 36; (with_reducible refine (S0.out ((wA.alloc (.cells #[] 56)).alloc (.cells #[.int .i64 0, .slice none 0 0, .slice none 0 0] 29)).drew (((UA.out.alloc _).alloc _).drew)).mono ?_); rintro e w1 ⟨⟨n0, rfl, hn0⟩, hu1⟩; obtain ⟨x0, y0, rfl⟩ := hn0.form; have hw1 : Upd [] wA w1 := ((((Upd.refl [] wA).alloc _).alloc _).drew).trans hu1; have b0 := hw1.keep a0; have hbl1 := World.block_lt_of_cell? _ _ b0; have b1 := hw1.keep a1; have rz : RowAt w1 (wA.heap.size + 1) 29 zerosLn := (show RowAt (((wA.alloc (.cells #[] 56)).alloc (.cells #[.int .i64 0, .slice none 0 0, .slice none 0 0] 29))) (wA.heap.size + 1) 29 zerosLn from by have := RowAt.new (wA.alloc (.cells #[] 56)) 29 zerosLn; simpa using this).upd (((Upd.refl [] _).drew).trans hu1) (by simp); have cz0 := rz.cell 0 _ rfl; have fz0 := rz.fz 0; have cz1 := rz.cell 1 _ rfl; have fz1 := rz.fz 1; have cz2 := rz.cell 2 _ rfl; have fz2 := rz.fz 2; have re : RowAt w1 wA.heap.size 56 [] := (RowAt.new wA _ []).upd ((((Upd.refl [] _).alloc _).drew).trans hu1) (by simp); skip)
          | (go_at_call 36; (with_reducible refine (S0.out (wA.alloc (.cells #[.int .i64 0, .slice none 0 0, .slice none 0 0] 29)).drew ((UA.out.alloc _).drew)).mono ?_); rintro e w1 ⟨⟨n0, rfl, hn0⟩, hu1⟩; obtain ⟨x0, y0, rfl⟩ := hn0.form; have hw1 : Upd [] wA w1 := (((Upd.refl [] wA).alloc _).drew).trans hu1; have b0 := hw1.keep a0; have hbl1 := World.block_lt_of_cell? _ _ b0; have b1 := hw1.keep a1; have rz : RowAt w1 wA.heap.size 29 zerosLn := (RowAt.new wA _ zerosLn).upd (((Upd.refl [] _).drew).trans hu1) (by simp); have cz0 := rz.cell 0 _ rfl; have fz0 := rz.fz 0; have cz1 := rz.cell 1 _ rfl; have fz1 := rz.fz 1; have cz2 := rz.cell 2 _ rfl; have fz2 := rz.fz 2; have ry : RowAt (w1.alloc (.cells #[] 56)) wA.heap.size 29 zerosLn := rz.upd ((Upd.refl [] w1).alloc _) (by simp); have yc0 := ry.cell 0 _ rfl; have yf0 := ry.fz 0; have yc1 := ry.cell 1 _ rfl; have yf1 := ry.fz 1; have yc2 := ry.cell 2 _ rfl; have yf2 := ry.fz 2; skip)
          | (go_at_call 36; (with_reducible refine (S0.out (wA.alloc (.cells #[] 56)).drew ((UA.out.alloc _).drew)).mono ?_); rintro e w1 ⟨⟨n0, rfl, hn0⟩, hu1⟩; obtain ⟨x0, y0, rfl⟩ := hn0.form; have hw1 : Upd [] wA w1 := (((Upd.refl [] wA).alloc _).drew).trans hu1; have b0 := hw1.keep a0; have hbl1 := World.block_lt_of_cell? _ _ b0; have b1 := hw1.keep a1; have re : RowAt w1 wA.heap.size 56 [] := (RowAt.new wA _ []).upd (((Upd.refl [] _).drew).trans hu1) (by simp); skip)
          | (go_at_call 36; (with_reducible refine (S0.out wA.drew (UA.out.drew)).mono ?_); rintro e w1 ⟨⟨n0, rfl, hn0⟩, hu1⟩; obtain ⟨x0, y0, rfl⟩ := hn0.form; have hw1 : Upd [] wA w1 := ((Upd.refl [] wA).drew).trans hu1; have b0 := hw1.keep a0; have hbl1 := World.block_lt_of_cell? _ _ b0; have b1 := hw1.keep a1; have ry : RowAt ((w1.alloc (.cells #[.int .i64 0, .slice none 0 0, .slice none 0 0] 29)).alloc (.cells #[] 56)) w1.heap.size 29 zerosLn := (RowAt.new w1 _ zerosLn).upd ((Upd.refl [] _).alloc _) (by simp); have yc0 := ry.cell 0 _ rfl; have yf0 := ry.fz 0; have yc1 := ry.cell 1 _ rfl; have yf1 := ry.fz 1; have yc2 := ry.cell 2 _ rfl; have yf2 := ry.fz 2; have rx : RowAt ((w1.alloc (.cells #[] 56)).alloc (.cells #[.int .i64 0, .slice none 0 0, .slice none 0 0] 29)) (w1.heap.size + 1) 29 zerosLn := (by have := RowAt.new (w1.alloc (.cells #[] 56)) 29 zerosLn; simpa using this); have xc0 := rx.cell 0 _ rfl; have xf0 := rx.fz 0; have xc1 := rx.cell 1 _ rfl; have xf1 := rx.fz 1; have xc2 := rx.cell 2 _ rfl; have xf2 := rx.fz 2; skip))
      · have hszA := hw1.size
        have hszU := hu1.size
        simp at hszU
        go_wp2_with fail
        go_meet
        exact midL_mk (Z := w1.heap.size + 1) (q := w1.heap.size) hn0 (by simp; try omega) (((Upd.refl [w1.heap.size + 1] w1).alloc _).alloc _) (by have := hw1.size; omega) (by have := hw1.size; omega) (by have := hw1.size; omega) (by first | (left; simp; done) | (left; simp; omega) | (right; omega)) (by first | (left; simp; done) | (left; simp; omega) | (right; omega)) (by have := RowAt.new (w1.alloc (.cells #[] 56)) 29 [ei x.pars, .slice x0 x.start.length y0, .slice (some ⟨w1.heap.size, 0, none⟩) 0 0]; simpa using this) ((RowAt.new w1 56 []).upd ((Upd.refl [] _).alloc _) (by simp)) ((hw1.alloc _).alloc _)
      · have hszA := hw1.size
        have hszU := hu1.size
        simp at hszU
        go_wp2_with fail
        go_meet
        exact midL_mk (Z := w1.heap.size) (q := w1.heap.size + 1) hn0 (by simp; try omega) (((Upd.refl [w1.heap.size] w1).alloc _).alloc _) (by have := hw1.size; omega) (by have := hw1.size; omega) (by have := hw1.size; omega) (by first | (left; simp; done) | (left; simp; omega) | (right; omega)) (by first | (left; simp; done) | (left; simp; omega) | (right; omega)) ((RowAt.new w1 29 [ei x.pars, .slice x0 x.start.length y0, .slice (some ⟨w1.heap.size + 1, 0, none⟩) 0 0]).upd ((Upd.refl [] _).alloc _) (by simp)) (by have := RowAt.new (w1.alloc (.cells #[ei x.pars, .slice x0 x.start.length y0, .slice (some ⟨w1.heap.size + 1, 0, none⟩) 0 0] 29)) 56 []; simpa using this) ((hw1.alloc _).alloc _)
      · have hszA := hw1.size
        have hszU := hu1.size
        simp at hszU
        go_wp2_with fail
        go_meet
        exact midL_mk (Z := w1.heap.size) (q := wA.heap.size) hn0 (by simp; try omega) ((Upd.refl [w1.heap.size] w1).alloc _) (by have := hw1.size; omega) (by have := hw1.size; omega) (by have := hw1.size; omega) (by first | (left; simp; done) | (left; simp; omega) | (right; omega)) (by first | (left; simp; done) | (left; simp; omega) | (right; omega)) (RowAt.new w1 29 [ei x.pars, .slice x0 x.start.length y0, .slice (some ⟨wA.heap.size, 0, none⟩) 0 0]) (re.upd ((Upd.refl [] w1).alloc _) (by simp)) (hw1.alloc _)
      · have hszA := hw1.size
        have hszU := hu1.size
        simp at hszU
        go_wp2_with fail
        go_meet
        exact midL_mk (Z := wA.heap.size + 1) (q := wA.heap.size) hn0 (by simp; try omega) ((((Upd.refl [wA.heap.size + 1] w1).setCell (p := ⟨wA.heap.size + 1, 0, none⟩) (Or.inr (by simp)) (ei x.pars)).setCell (p := ⟨wA.heap.size + 1, 1, none⟩) (Or.inr (by simp)) (.slice x0 x.start.length y0)).setCell (p := ⟨wA.heap.size + 1, 2, none⟩) (Or.inr (by simp)) (.slice (some ⟨wA.heap.size, 0, none⟩) 0 0)) (by have := hw1.size; omega) (by have := hw1.size; omega) (by have := hw1.size; omega) (by first | (left; simp; done) | (left; simp; omega) | (right; omega)) (by first | (left; simp; done) | (left; simp; omega) | (right; omega)) (((rz.store 0 (ei x.pars)).store 1 (.slice x0 x.start.length y0)).store 2 (.slice (some ⟨wA.heap.size, 0, none⟩) 0 0)) (((re.other (wA.heap.size + 1) 0 (ei x.pars) (by omega)).other (wA.heap.size + 1) 1 (.slice x0 x.start.length y0) (by omega)).other (wA.heap.size + 1) 2 (.slice (some ⟨wA.heap.size, 0, none⟩) 0 0) (by omega)) (hw1.fresh ((((Upd.refl [wA.heap.size + 1] w1).setCell (p := ⟨wA.heap.size + 1, 0, none⟩) (Or.inr (by simp)) (ei x.pars)).setCell (p := ⟨wA.heap.size + 1, 1, none⟩) (Or.inr (by simp)) (.slice x0 x.start.length y0)).setCell (p := ⟨wA.heap.size + 1, 2, none⟩) (Or.inr (by simp)) (.slice (some ⟨wA.heap.size, 0, none⟩) 0 0)) (by intro c hc; simp at hc; subst hc; left; omega))
      · have hszA := hw1.size
        have hszU := hu1.size
        simp at hszU
        go_wp2_with fail
        go_meet
        exact midL_mk (Z := wA.heap.size) (q := w1.heap.size) hn0 (by simp; try omega) (((((Upd.refl [wA.heap.size] w1).alloc _).setCell (p := ⟨wA.heap.size, 0, none⟩) (Or.inr (by simp)) (ei x.pars)).setCell (p := ⟨wA.heap.size, 1, none⟩) (Or.inr (by simp)) (.slice x0 x.start.length y0)).setCell (p := ⟨wA.heap.size, 2, none⟩) (Or.inr (by simp)) (.slice (some ⟨w1.heap.size, 0, none⟩) 0 0)) (by have := hw1.size; omega) (by have := hw1.size; omega) (by have := hw1.size; omega) (by first | (left; simp; done) | (left; simp; omega) | (right; omega)) (by first | (left; simp; done) | (left; simp; omega) | (right; omega)) (((ry.store 0 (ei x.pars)).store 1 (.slice x0 x.start.length y0)).store 2 (.slice (some ⟨w1.heap.size, 0, none⟩) 0 0)) ((((RowAt.new w1 56 []).other wA.heap.size 0 (ei x.pars) (by omega)).other wA.heap.size 1 (.slice x0 x.start.length y0) (by omega)).other wA.heap.size 2 (.slice (some ⟨w1.heap.size, 0, none⟩) 0 0) (by omega)) (hw1.fresh (((((Upd.refl [wA.heap.size] w1).alloc _).setCell (p := ⟨wA.heap.size, 0, none⟩) (Or.inr (by simp)) (ei x.pars)).setCell (p := ⟨wA.heap.size, 1, none⟩) (Or.inr (by simp)) (.slice x0 x.start.length y0)).setCell (p := ⟨wA.heap.size, 2, none⟩) (Or.inr (by simp)) (.slice (some ⟨w1.heap.size, 0, none⟩) 0 0)) (by intro c hc; simp at hc; subst hc; left; omega))
      · have hszA := hw1.size
        have hszU := hu1.size
        simp at hszU
        go_wp2_with fail
        go_meet
        exact midL_mk (Z := wA.heap.size) (q := wA.heap.size + 1) hn0 (by simp; try omega) ((((Upd.refl [wA.heap.size] w1).setCell (p := ⟨wA.heap.size, 0, none⟩) (Or.inr (by simp)) (ei x.pars)).setCell (p := ⟨wA.heap.size, 1, none⟩) (Or.inr (by simp)) (.slice x0 x.start.length y0)).setCell (p := ⟨wA.heap.size, 2, none⟩) (Or.inr (by simp)) (.slice (some ⟨wA.heap.size + 1, 0, none⟩) 0 0)) (by have := hw1.size; omega) (by have := hw1.size; omega) (by have := hw1.size; omega) (by first | (left; simp; done) | (left; simp; omega) | (right; omega)) (by first | (left; simp; done) | (left; simp; omega) | (right; omega)) (((rz.store 0 (ei x.pars)).store 1 (.slice x0 x.start.length y0)).store 2 (.slice (some ⟨wA.heap.size + 1, 0, none⟩) 0 0)) (((re.other wA.heap.size 0 (ei x.pars) (by omega)).other wA.heap.size 1 (.slice x0 x.start.length y0) (by omega)).other wA.heap.size 2 (.slice (some ⟨wA.heap.size + 1, 0, none⟩) 0 0) (by omega)) (hw1.fresh ((((Upd.refl [wA.heap.size] w1).setCell (p := ⟨wA.heap.size, 0, none⟩) (Or.inr (by simp)) (ei x.pars)).setCell (p := ⟨wA.heap.size, 1, none⟩) (Or.inr (by simp)) (.slice x0 x.start.length y0)).setCell (p := ⟨wA.heap.size, 2, none⟩) (Or.inr (by simp)) (.slice (some ⟨wA.heap.size + 1, 0, none⟩) 0 0)) (by intro c hc; simp at hc; subst hc; left; omega))

    case rest =>
      obtain ⟨Z, q, x0, y0, g0, rfl, hZA, hrow, hU, hown, hqZ, r0, o0, bd⟩ := hcut
      obtain ⟨wq, rfl⟩ : ∃ wq : World, wq = wc := ⟨_, rfl⟩
      have hex : ∀ c ∈ Z :: g0, c < wq.heap.size := fun c hc => by
        rcases List.mem_cons.1 hc with rfl | hc
        · exact hrow.lt
        · exact (bd c hc).2.2.2
      have hacc : PickQ 5 wA.heap.size 56 (Z :: g0) wq (.slice (some ⟨q, 0, none⟩) 0 0) (pickT T 0) := PickQ.start hown (fun h => by
        rcases List.mem_cons.1 h with h | h
        · exact hqZ h
        · exact (bd q h).2.2.1 rfl) hex
      have HR0 := Lib.hid hrow
      have HU0 := Lib.hid hU
      have HAC := Lib.hid hacc
      have HG := Lib.hid (And.intro r0 o0)
      have HBD := Lib.hid (show ∀ c ∈ g0, wA.heap.size ≤ c ∧ c ≠ Z from fun c hc => ⟨(bd c hc).1, (bd c hc).2.1⟩)
      have hCz := HRC.out.upd hU (by simp)
      have hbA := HA.out.lt
      have hzC := hCz.cell 2 _ rfl
      clear hrow hU hown r0 o0 bd hacc hex S0 a0 a1 hCz
      go_wp2_with fail
      go_loopw [6] (fun iv wr => ∃ (k : Nat) (sv : Value), k ≤ x.sms.length ∧ iv = .int .i64 k ∧ Hid (Upd [] wA wr) ∧ Hid (RowAt wr Z 29 [ei x.pars, .slice x0 x.start.length y0, sv]) ∧ Hid (PickQ 5 wA.heap.size 56 (Z :: g0) wr sv (pickT T k)) ∧ Hid (R_I1 g0 wr [.slice x0 x.start.length y0] x.start ∧ Own g0 wr)) (fun iv _ => x.sms.length - (intOf iv).toNat)
      case atStart => exact ⟨0, _, Nat.zero_le _, rfl, HU0, HR0, HAC, HG⟩
      case round =>
        clear HR0 HU0 HAC HG hzC
        obtain ⟨wo, rfl⟩ : ∃ wo : World, wo = wr := ⟨_, rfl⟩
        obtain ⟨k, sv, hk, rfl, HU, HR, HAC, HG⟩ := hrel
        have zc2 := (HRC.out.upd HU.out (by simp)).cell 2 _ rfl
        by_cases hlt : k < x.sms.length
        · obtain rfl := HAA.out (by omega)
          have hkT : k < T.length := by rw [HTL.out]; exact hlt
          have hraw := HRAW.out.upd R_Smk HU.out (by simp) (by simp)
          have hr := (hraw.each _ (List.getElem_mem hkT)).2
          have hrow5 : ∀ (j : Nat) c, T[k].1[j]? = some c → wo.cell? ⟨b, off + k * 5 + j, none⟩ = some c := fun j c hj => hraw.rows k _ (by simp [hkT]) j c hj
          have HSTEP := Lib.hid (pickT_step T k hkT)
          have hml : (pickT T k).length ≤ k := pickT_le _ _
          have HPUSH := Lib.hid (fun W (h : PickQ 5 wA.heap.size 56 (Z :: g0) W sv (pickT T k)) (o : Obj) (W2 : World) (v2 : Value) => PickQ.push (w2 := W2) (v2 := v2) h T[k] o)
          have hfin := HAC.out.fin hraw (HOT.out.upd HU.out (by simp)) (fun c hc => by have := HTG.out c hc; have := HCA.out; omega) (pickT_sub T k)
          obtain ⟨S5, hS5⟩ : ∃ S5, pickT T k = S5 := ⟨_, rfl⟩
          rw [hS5] at HSTEP hml HPUSH HAC hfin
          clear hS5
          generalize T[k] = tr at *
          obtain ⟨u, f, s⟩ := tr
          simp only at hr hrow5 HSTEP HPUSH
          have HRS := Lib.hid (And.intro hr hrow5)
          obtain ⟨e0, e1, e3, e4, q0, q1', q3, q4, rfl, r0, r1, r3, r4, -⟩ := id hr
          obtain ⟨d0, o0, rfl, -⟩ := slF1_open r0
          obtain ⟨d1, o1, rfl, -⟩ := slF2_open r1
          obtain ⟨d3, o3, rfl, -⟩ := slP_open r3
          obtain ⟨d4, o4, rfl, -⟩ := slP_open r4
          have s0 := hrow5 0 _ rfl
          have s1 := hrow5 1 _ rfl
          have s2 := hrow5 2 _ rfl
          have s3 := hrow5 3 _ rfl
          have s4 := hrow5 4 _ rfl
          simp only [Nat.add_zero] at s0
          have hkl : (k : Int) < (x.sms.length : Int) := by omega
          obtain ⟨fq, hsl, -, -⟩ := hfin
          obtain ⟨ca, cc, rfl⟩ := HAC.out.form
          obtain ⟨a9, c9, hv0, -, hmx, hkc⟩ := slQ_open hsl
          simp only [Value.slice.injEq] at hv0
          obtain ⟨rfl, -, rfl⟩ := hv0
          unfold maxLen at hmx
          have hk5 := Lib.hid (fun j (hj : j < S5.length) => hkc j (by simpa using hj))
          have HAD : addT S5 ([.slice d0 s.sums.length o0, .slice d1 s.guard.length o1, es s.name, .slice d3 s.args.length o3, .slice d4 s.next.length o4], f, s) = if (S5.map (·.2.2)).any (fun k => sameSm k s) then S5 else S5 ++ [([.slice d0 s.sums.length o0, .slice d1 s.guard.length o1, es s.name, .slice d3 s.args.length o3, .slice d4 s.next.length o4], f, s)] := rfl
          have z2 := HR.out.cell 2 _ rfl
          have HTK := Lib.hid (fun j (hj : j < S5.length) => any_take S5 s j hj)
          clear hraw r0 r1 r3 r4 hrow5 hr hsl hkc
          have HADD := Lib.hid HAD
          clear HAD
          go_wp2_with fail
          go_loopw [7, 8] (fun qv jv wr => ∃ (j n : Nat) (q : Bool), j ≤ S5.length ∧ jv = .int .i64 j ∧ qv = .bool q ∧ wr = wo.drewN n ∧ Hid ((((S5.take j).map (·.2.2)).any fun k => sameSm k s) = q)) (fun _ jv _ => S5.length - (intOf jv).toNat)
          case atStart => exact ⟨0, 0, false, Nat.zero_le _, rfl, rfl, rfl, Lib.hid rfl⟩
          case round =>
            obtain ⟨j, n, q, hj, rfl, rfl, hwr, HQ⟩ := hrel
            obtain ⟨wi, rfl⟩ : ∃ wi : World, wi = wr := ⟨_, rfl⟩
            have HWI := Lib.hid hwr
            have HUI := Lib.hid (show Upd [] wo wi by rw [hwr]; exact (Upd.refl _ _).drewN n)
            clear hwr
            have zi2 := HUI.out.keep z2
            have zci := HUI.out.keep zc2
            by_cases hjl : j < S5.length
            · have hji : (j : Int) < (S5.length : Int) := by omega
              have HQN := Lib.hid (HTK.out j hjl)
              cases q with
              | true =>
                replace HQN := Lib.hid (show (((S5.take (j + 1)).map (·.2.2)).any fun k => sameSm k s) = true by rw [HQN.out, HQ.out]; rfl)
                go_wp2_with fail
                go_quiet (fail)
                go_wp2_with fail
                go_roundw
                case rel => exact ⟨j + 1, _, true, by omega, by go_num, rfl, by rw [HWI.out, drewN_add], HQN⟩
                case measure => simp [intOf]; omega
              | false =>
                obtain ⟨b2, off2, u2, f2', hca, -, -, -, hc2, -, hr2⟩ := hk5.out j hjl
                obtain rfl := hca
                rw [List.getElem_map] at hr2
                have SQ := Lib.hid (fun n2 => (sameSumS b2 (off2 + j * 5) b (off + k * 5) u2 _ S5[j].2.2 s (wi.drewN n2) f2' f (fun q c hq => (HUI.out.drewN n2).keep (hc2 q c hq)) (fun q c hq => (HUI.out.drewN n2).keep (HRS.out.2 q c hq)) (R_Smk.upd hr2 (HUI.out.drewN n2) (by simp)) (R_Smk.upd HRS.out.1 (HUI.out.drewN n2) (by simp))).mono (fun e w' h => (⟨h.1, by obtain ⟨m, hm⟩ := h.2; exact ⟨n2 + m, by rw [hm, drewN_add]⟩⟩ : e = .returned (.bool (sameSm S5[j].2.2 s)) ∧ ∃ m, w' = wi.drewN m)))
                replace HQN := Lib.hid (show (((S5.take (j + 1)).map (·.2.2)).any fun k => sameSm k s) = sameSm S5[j].2.2 s by rw [HQN.out, HQ.out]; rfl)
                clear hc2 hr2
                generalize sameSm S5[j].2.2 s = qn at *
                go_wp2_with fail
                go_quiet ((go_at_call 68; exact SQ.out _))
                go_wp2_with fail
                go_roundw
                case rel => exact ⟨j + 1, _, qn, by omega, by go_num, rfl, by rw [HWI.out, drewN_add], HQN⟩
                case measure => simp [intOf]; omega
            · obtain rfl : j = S5.length := by omega
              have hq := HQ.out
              rw [List.take_length] at hq
              rw [hq] at HADD
              have HU2 := Lib.hid (HU.out.trans HUI.out)
              clear hq HQ HTK hk5 HRS
              cases q with
              | true =>
                replace HSTEP := Lib.hid (show pickT T (k + 1) = S5 by rw [HSTEP.out, HADD.out]; rfl)
                clear HADD HPUSH
                go_wp2_with fail
                go_roundw
                case rel => exact ⟨k + 1, _, by omega, by go_num, HU2, Lib.hid (HR.out.upd HUI.out (by simp)), Lib.hid (by rw [HSTEP.out]; exact HAC.out.upd HUI.out), Lib.hid ⟨R_I1k.upd HG.out.1 HUI.out (by simp), HG.out.2.upd HUI.out (by simp)⟩⟩
                case measure => simp [intOf]; omega
              | false =>
                replace HSTEP := Lib.hid (show pickT T (k + 1) = S5 ++ [([.slice d0 s.sums.length o0, .slice d1 s.guard.length o1, es s.name, .slice d3 s.args.length o3, .slice d4 s.next.length o4], f, s)] by rw [HSTEP.out, HADD.out]; rfl)
                clear HADD
                have i0' := HUI.out.keep s0
                have i1' := HUI.out.keep s1
                have i2' := HUI.out.keep s2
                have i3' := HUI.out.keep s3
                have i4' := HUI.out.keep s4
                have hac := HAC.out.upd HUI.out
                have hou3 := ownsRow_upd hac.own (((Upd.refl [] wi).alloc (.cells #[.slice d0 s.sums.length o0, .slice d1 s.guard.length o1, es s.name, .slice d3 s.args.length o3, .slice d4 s.next.length o4] 56)).drew)
                have hrz := HR.out.upd HUI.out (by simp)
                have zif := hrz.fz 2
                have hex3 := hrz.upd (((Upd.refl [] wi).alloc (.cells #[.slice d0 s.sums.length o0, .slice d1 s.guard.length o1, es s.name, .slice d3 s.args.length o3, .slice d4 s.next.length o4] 56)).drew) (by simp)
                have z9 : (wi.alloc (.cells #[.slice d0 s.sums.length o0, .slice d1 s.guard.length o1, es s.name, .slice d3 s.args.length o3, .slice d4 s.next.length o4] 56)).cell? ⟨Z, 2, none⟩ = some (.slice ca S5.length cc) := ((Upd.refl [] wi).alloc _).keep zi2
                have HFAR := Lib.hid (show Z ∉ (Value.slice ca S5.length cc).ownBlock.toList from fun h => hac.far Z (by simpa using h) (by simp))
                have HFAG := Lib.hid (show ∀ c ∈ g0, c ∉ (Value.slice ca S5.length cc).ownBlock.toList from fun c hc h => hac.far c (by simpa using h) (by simp [hc]))
                have HLO := Lib.hid (fun c hc => (hac.own.lt c hc).1)
                have HPU := Lib.hid (HPUSH.out _ hac (.cells #[.slice d0 s.sums.length o0, .slice d1 s.guard.length o1, es s.name, .slice d3 s.args.length o3, .slice d4 s.next.length o4] 56))
                have hszn : wA.heap.size ≤ wi.heap.size := HU2.out.size
                generalize hm5 : S5.length = m at *
                generalize s.name = N at *
                clear hac hrz HAC HPUSH z2 zc2 s0 s1 s2 s3 s4
                go_wp2_with fail
                go_region_law ((first
                  | (refine step_append_lies _ (by rfl) _ _ 27 (by rfl) wA.heap.size 56 i0 (.agg #[.slice none 0 0, .slice none 0 0, .string ⟨#[]⟩, .slice none 0 0, .slice none 0 0]) 5 112 Try.underlying27 hi hz0 hz1 hz2 rfl (by decide) _ m (S5.map (·.1)).flatten (by rfl) hou3 ⟨wi.heap.size, 0, none⟩ 1 1 [.slice d0 s.sums.length o0, .slice d1 s.guard.length o1, es N, .slice d3 s.args.length o3, .slice d4 s.next.length o4] (by rfl) (by rfl) (by intro j u hj; rw [addr_add, Nat.zero_add]; exact cell_new wi #[.slice d0 s.sums.length o0, .slice d1 s.guard.length o1, es N, .slice d3 s.args.length o3, .slice d4 s.next.length o4] 56 _ rfl j u (by simpa using hj)) (by simp [Value.oneCell']) (by decide) (by unfold maxLen; omega) (by omega) (by simp; omega) (wi.heap.size + 1) (by simp) ?_; intro g gcap w4 hown4 hg4 hat4 hlt4; have hv4 : Upd (Value.slice ca m cc).ownBlock.toList ((wi.alloc (.cells #[.slice d0 s.sums.length o0, .slice d1 s.guard.length o1, es N, .slice d3 s.args.length o3, .slice d4 s.next.length o4] 56)).drew) w4 := (Upd.refl _ _).grown hg4 (fun k hk => Or.inr (by simp [hk])); have hr4 := hex3.upd hv4 HFAR.out; have e2 := hr4.cell 2 _ rfl; have f2 := hr4.fz 2)))
                all_goals
                  have hpick := HPU.out w4 (.slice (some ⟨g, 0, none⟩) (m + 1) gcap) (by simpa using hown4) ⟨hg4.os, hg4.tape, hg4.output, hg4.size, hg4.block⟩ (fun c hc => by
                    simp only [Value.ownBlock, Option.some.injEq] at hc
                    subst hc
                    rcases hat4 with h | h
                    · exact Or.inl h
                    · exact Or.inr (by simp; omega))
                  have hvU : Upd (Value.slice ca m cc).ownBlock.toList wi w4 := (((Upd.refl _ wi).alloc (.cells #[.slice d0 s.sums.length o0, .slice d1 s.guard.length o1, es N, .slice d3 s.args.length o3, .slice d4 s.next.length o4] 56)).drew).trans hv4
                  have hU4 : Upd [] wA w4 := HU2.out.fresh hvU (fun c hc => Or.inl (HLO.out c (by simpa using hc)))
                  have HP := Lib.hid (And.intro hpick (And.intro hvU (And.intro hU4 hr4)))
                  clear hpick hvU hU4 hr4 hv4 e2 f2 hown4 hg4 hat4 hlt4
                  go_wp2_with fail
                  go_roundw
                  case rel =>
                    have uZ : ∀ nv, Upd [Z] w4 (w4.setCell ⟨Z, 2, none⟩ nv) := fun nv => (Upd.refl _ _).setCell (Or.inr (by simp)) nv
                    have hgz : ∀ c ∈ g0, c ∉ [Z] := fun c hc hm => (HBD.out c hc).2 (by simpa using hm)
                    refine ⟨k + 1, _, by omega, by go_num, Lib.hid (HP.out.2.2.1.setCell (Or.inl hZA) _), Lib.hid (HP.out.2.2.2.store 2 _), Lib.hid ?_, Lib.hid ⟨R_I1k.upd (R_I1k.upd (R_I1k.upd HG.out.1 HUI.out (by simp)) HP.out.2.1 HFAG.out) (uZ _) hgz, ((HG.out.2.upd HUI.out (by simp)).upd HP.out.2.1 HFAG.out).upd (uZ _) hgz⟩⟩
                    rw [HSTEP.out]
                    exact HP.out.1.put (uZ _) (by simp)
                  case measure => simp [intOf]; omega
        · obtain rfl : k = x.sms.length := by omega
          obtain ⟨ca, cc, rfl⟩ := HAC.out.form
          have hfin := HAC.out.fin (HRAW.out.upd R_Smk HU.out (by simp) (by simp)) (HOT.out.upd HU.out (by simp)) (fun c hc => by have := HTG.out c hc; have := HCA.out; omega) (pickT_sub _ _)
          have hll : (pickT T x.sms.length).map (·.2.2) = distL x.sms := by rw [← HTL.out, pickT_end, ← HXS.out]
          rw [hll] at hfin
          have hlen : (pickT T x.sms.length).length = (distL x.sms).length := by rw [← hll, List.length_map]
          obtain ⟨fq, hsl, hso, hsb⟩ := hfin
          have hr5 := HR.out
          have hres := HA.out.upd HU.out (by simp)
          have HRES := Lib.hid hres
          unfold RowAt at hr5 hres
          have HS := Lib.hid (And.intro hsl (And.intro hso hsb))
          have HLEN := Lib.hid hlen
          clear hsl hso hsb HAC hll hlen
          generalize distL x.sms = Y at *
          generalize (pickT T x.sms.length).length = ml at *
          obtain rfl := HLEN.out
          go_wp2_with (first
            | (refine wpList_load_row rfl 29 _ rfl Z rfl 29 #[ei x.pars, .slice x0 x.start.length y0, .slice ca Y.length cc] (0, 0) _ hr5 Try.underlying29 rfl Ln_size ?_)
            | (refine wpList_store_row rfl 29 _ _ rfl (P + 1) #[ei x.pars, .slice x0 x.start.length y0, .slice ca Y.length cc] rfl rfl 29 _ hres Ln_size rfl (by simp [Value.oneCell']) ?_)
            | fail)
          have hr : RowAt (wo.setRow (P + 1) #[ei x.pars, .slice x0 x.start.length y0, .slice ca Y.length cc]) (P + 1) 29 [ei x.pars, .slice x0 x.start.length y0, .slice ca Y.length cc] := HRES.out.row [ei x.pars, .slice x0 x.start.length y0, .slice ca Y.length cc]
          have n0 := hr.cell 0 _ rfl
          have n1 := hr.cell 1 _ rfl
          have n2 := hr.cell 2 _ rfl
          refine bodyPost_ret (v := .tuple #[.agg #[ei x.pars, .slice x0 x.start.length y0, .slice ca Y.length cc], .int .i64 0]) (by simp [results, Try.results31, go_sem, n0, n1, n2]) rfl ?_
          rw [HZ.out]
          obtain ⟨hsl, hso, hsb⟩ := HS.out
          refine gaveLn (us := [ei x.pars, .slice x0 x.start.length y0, .slice ca Y.length cc]) (W := w1) (x := ⟨x.pars, x.start, Y⟩) ⟨g0 ++ fq, ⟨_, _, g0, fq, rfl, HG.out.1, hsl, rfl⟩, own_join HG.out.2 hso (fun c h1 h2 => ?_), fun c hc => ?_⟩ rfl (by simp [Value.oneCell']) (UA.out.trans HU.out) HBN.out HBW.out HU1.out.size
          · rcases hsb c h2 with h | h
            · exact h.2 (by simp [h1])
            · have := HTG.out c h; have := (HBD.out c h1).1; have := HCA.out; omega
          · have := HCS.out
            have := HCA.out
            rcases List.mem_append.1 hc with h | h
            · have := (HBD.out c h).1; omega
            · rcases hsb c h with h | h
              · omega
              · have := HTG.out c h; omega

end Go.Proofs.Ytnfghgaadnobbaa

namespace Go.Proofs.Ytnfghgaadnobbaa
open Go.RowKit

set_option maxRecDepth 20000 in
set_option maxHeartbeats 4000000 in
theorem lawDistinct (cs : List Value) (x : Ln) (w : World) (fp : List Nat) (hR : R_Ln fp w cs x) (hS : LnOk x) :
    Calls Try.prog 8 #[.agg cs.toArray] w fun e w' => e = .returned (.bool true) ∧ Upd [] w w' := by
  have hR' := hR
  obtain ⟨v1, v2, f1, f2, rfl, -, -, rfl⟩ := hR
  have HRX := Lib.hid (fun W (hu : Upd [] w W) => R_Lnk.upd hR' hu (by simp))
  obtain ⟨BA, hBA⟩ : ∃ B, B = w.heap.size := ⟨_, rfl⟩
  obtain ⟨wA, hwA⟩ : ∃ wA, wA = w.alloc (.cells #[ei x.pars, v1, v2] 25) := ⟨_, rfl⟩
  have uA : Upd [] w wA := by rw [hwA]; exact (Upd.refl _ _).alloc _
  have UA := Lib.hid uA
  have qA : RowAt wA BA 25 [ei x.pars, v1, v2] := by rw [hwA, hBA]; exact RowAt.new _ _ _
  have HQA := Lib.hid (fun W (hu : Upd [] wA W) => qA.upd hu (by simp))
  have S1 := Lib.hid (sz_Ln _ x 1048576 wA _ (by omega) (by omega) (HRX.out wA uA) hS)
  clear hR' hS uA qA
  go_enter Try.func8, Try.ntmps8
  go_upto_region 1 with (fail)
  rw [← hwA, ← hBA]
  have HBA := Lib.hid hBA
  clear hwA hBA
  have u0 : Upd [] wA wA := Upd.refl _ _
  have z_A_0 := (HQA.out _ u0).cell 0 _ rfl
  have z_A_1 := (HQA.out _ u0).cell 1 _ rfl
  have z_A_2 := (HQA.out _ u0).cell 2 _ rfl
  go_wp2_with fail
  refine S1.out.mono ?_
  rintro e w1 ⟨⟨r, rfl, hr⟩, uu⟩
  clear S1 z_A_0 z_A_1 z_A_2
  have u1 := u0.trans uu
  clear u0 uu
  rcases hr with rfl | ⟨hr0_x, hr1_x⟩
  · have HU := Lib.hid (UA.out.trans u1)
    go_wp2_with fail
    go_ret
    exact ⟨rfl, HU.out⟩
  · have hsz : szF_Ln x ≤ 1048576 := by omega
    have HSZ := Lib.hid hsz
    have hF := ln_fit hsz
    have tn_x := mkF_Ln_nonneg x
    have hm_x := mkF_Ln_le x
    have hM0 : 1 + mkF_Ln x ≤ 100000000 := by omega
    have hMy : 1 + mkF_Ln (distF x).1 ≤ 4611686018427387904 := by have := dist_b x hM0; omega
    have tn_y := mkF_Ln_nonneg (distF x).1
    obtain ⟨⟨y, cc⟩, hG⟩ : ∃ G, distF x = G := ⟨_, rfl⟩
    rw [hG] at hMy tn_y
    simp only at hMy tn_y
    have hMk := hMy
    have HG := Lib.hid hG
    clear hG
    have hcc : ((cc : Int) != (cc : Int)) = false := by simp
    clear hsz hm_x hr1_x
    have z_A_0 := (HQA.out _ u1).cell 0 _ rfl
    have z_A_1 := (HQA.out _ u1).cell 1 _ rfl
    have z_A_2 := (HQA.out _ u1).cell 2 _ rfl
    have S2 := to_Ln _ x w1 _ HSZ.out (HRX.out _ (UA.out.trans u1))
    go_wp2_with fail
    refine S2.mono ?_
    clear S2 z_A_0 z_A_1 z_A_2
    rintro e w2 ⟨⟨us, rfl, -, -, hn⟩, uu⟩
    obtain ⟨p1_a_x, q1_a_x, p2_a_x, q2_a_x, rfl⟩ := ln_form hn
    obtain ⟨fp_a_x, rr, oo, ge_a_x⟩ := hn
    have u2 : Upd [] wA w2 := u1.trans (uu)
    have HL_a_x := Lib.hid (show ∀ b ∈ fp_a_x, wA.heap.size ≤ b from fun b hb => by have := ge_a_x b hb; have := u1.size; omega)
    have r2_a_x := rr
    have o2_a_x := oo
    clear u1 uu ge_a_x rr oo
    have S2 := distS [ei (x).pars, .slice p1_a_x (x).start.length q1_a_x, .slice p2_a_x (x).sms.length q2_a_x] x w2 fp_a_x r2_a_x hF
    rw [HG.out] at S2
    go_wp2_with fail
    refine S2.mono ?_
    clear S2
    rintro e w3 ⟨⟨us, rfl, -, -, hn⟩, uu⟩
    obtain ⟨p1_w0, q1_w0, p2_w0, q2_w0, rfl⟩ := ln_form hn
    obtain ⟨fp_w0, rr, oo, ge_w0⟩ := hn
    have lt_a_x := R_Lnk.lt r2_a_x
    have u3 : Upd [] wA w3 := u2.trans (uu)
    have HL_w0 := Lib.hid (show ∀ b ∈ fp_w0, wA.heap.size ≤ b from fun b hb => by have := ge_w0 b hb; have := u2.size; omega)
    have r3_w0 := rr
    have o3_w0 := oo
    clear u2 r2_a_x o2_a_x uu ge_w0 rr oo lt_a_x
    obtain ⟨w4, hwB⟩ : ∃ wB, wB = w3.alloc (.cells #[ei (y).pars, .slice p1_w0 (y).start.length q1_w0, .slice p2_w0 (y).sms.length q2_w0] 29) := ⟨_, rfl⟩
    have uB : Upd [] w3 w4 := by rw [hwB]; exact (Upd.refl _ _).alloc _
    obtain ⟨B_w0, hB⟩ : ∃ B, B = w3.heap.size := ⟨_, rfl⟩
    have qq : RowAt w4 B_w0 29 [ei (y).pars, .slice p1_w0 (y).start.length q1_w0, .slice p2_w0 (y).sms.length q2_w0] := by rw [hwB, hB]; exact RowAt.new _ _ _
    have lt_w0 := R_Lnk.lt r3_w0
    have HN_w0_w0 := Lib.hid (show B_w0 ∉ fp_w0 from fun hm => by have := lt_w0 _ hm; omega)
    have u4 : Upd [] wA w4 := u3.trans (uB)
    have r4_w0 := R_Lnk.upd r3_w0 (uB) (by simp)
    have o4_w0 := o3_w0.upd (uB) (by simp)
    have q4_w0 := qq
    clear u3 r3_w0 o3_w0 lt_w0 uB qq
    go_upto_region 6 with (fail)
    rw [← hwB, ← hB]
    clear hwB hB
    have z_A_0 := (HQA.out _ u4).cell 0 _ rfl
    have z_A_1 := (HQA.out _ u4).cell 1 _ rfl
    have z_A_2 := (HQA.out _ u4).cell 2 _ rfl
    have S2 := to_Ln _ x w4 _ HSZ.out (HRX.out _ (UA.out.trans u4))
    go_wp2_with fail
    refine S2.mono ?_
    clear S2 z_A_0 z_A_1 z_A_2
    rintro e w5 ⟨⟨us, rfl, -, -, hn⟩, uu⟩
    obtain ⟨p1_x_x, q1_x_x, p2_x_x, q2_x_x, rfl⟩ := ln_form hn
    obtain ⟨fp_x_x, rr, oo, ge_x_x⟩ := hn
    have lt_w0 := R_Lnk.lt r4_w0
    have bl_w0 := q4_w0.lt
    have u5 : Upd [] wA w5 := u4.trans (uu)
    have r5_w0 := R_Lnk.upd r4_w0 (uu) (by simp)
    have o5_w0 := o4_w0.upd (uu) (by simp)
    have q5_w0 := q4_w0.upd (uu) (by simp)
    have HL_x_x := Lib.hid (show ∀ b ∈ fp_x_x, wA.heap.size ≤ b from fun b hb => by have := ge_x_x b hb; have := u4.size; omega)
    have HD_w0_x_x := Lib.hid (show ∀ b ∈ fp_w0, b ∉ fp_x_x from fun b hb hm => by have := lt_w0 b hb; have := ge_x_x b hm; omega)
    have HN_w0_x_x := Lib.hid (show B_w0 ∉ fp_x_x from fun hm => by have := ge_x_x _ hm; omega)
    have r5_x_x := rr
    have o5_x_x := oo
    clear u4 r4_w0 o4_w0 q4_w0 uu ge_x_x rr oo lt_w0 bl_w0
    obtain ⟨w6, hwB⟩ : ∃ wB, wB = w5.alloc (.cells #[ei (x).pars, .slice p1_x_x (x).start.length q1_x_x, .slice p2_x_x (x).sms.length q2_x_x] 29) := ⟨_, rfl⟩
    have uB : Upd [] w5 w6 := by rw [hwB]; exact (Upd.refl _ _).alloc _
    obtain ⟨B_x_x, hB⟩ : ∃ B, B = w5.heap.size := ⟨_, rfl⟩
    have qq : RowAt w6 B_x_x 29 [ei (x).pars, .slice p1_x_x (x).start.length q1_x_x, .slice p2_x_x (x).sms.length q2_x_x] := by rw [hwB, hB]; exact RowAt.new _ _ _
    have lt_w0 := R_Lnk.lt r5_w0
    have lt_x_x := R_Lnk.lt r5_x_x
    have bl_w0 := q5_w0.lt
    have HN_x_x_w0 := Lib.hid (show B_x_x ∉ fp_w0 from fun hm => by have := lt_w0 _ hm; omega)
    have HN_x_x_x_x := Lib.hid (show B_x_x ∉ fp_x_x from fun hm => by have := lt_x_x _ hm; omega)
    have u6 : Upd [] wA w6 := u5.trans (uB)
    have r6_w0 := R_Lnk.upd r5_w0 (uB) (by simp)
    have o6_w0 := o5_w0.upd (uB) (by simp)
    have r6_x_x := R_Lnk.upd r5_x_x (uB) (by simp)
    have o6_x_x := o5_x_x.upd (uB) (by simp)
    have q6_w0 := q5_w0.upd (uB) (by simp)
    have q6_x_x := qq
    clear u5 r5_w0 o5_w0 r5_x_x o5_x_x q5_w0 lt_w0 lt_x_x bl_w0 uB qq
    go_upto_region 7 with (fail)
    rw [← hwB, ← hB]
    clear hwB hB
    have z_x_x_0 := q6_x_x.cell 0 _ rfl
    have z_x_x_1 := q6_x_x.cell 1 _ rfl
    have z_x_x_2 := q6_x_x.cell 2 _ rfl
    have S2 := distI [ei (x).pars, .slice p1_x_x (x).start.length q1_x_x, .slice p2_x_x (x).sms.length q2_x_x] x w6 fp_x_x r6_x_x hF
    rw [HG.out] at S2
    go_wp2_with fail
    refine S2.mono ?_
    clear S2 z_x_x_0 z_x_x_1 z_x_x_2
    rintro e w7 ⟨⟨us, rfl, -, -, hn⟩, uu⟩
    obtain ⟨p1_g0, q1_g0, p2_g0, q2_g0, rfl⟩ := ln_form hn
    obtain ⟨fp_g0, rr, oo, ge_g0⟩ := hn
    have lt_w0 := R_Lnk.lt r6_w0
    have lt_x_x := R_Lnk.lt r6_x_x
    have bl_w0 := q6_w0.lt
    have bl_x_x := q6_x_x.lt
    have u7 : Upd [] wA w7 := u6.trans (uu)
    have r7_w0 := R_Lnk.upd r6_w0 (uu) (by simp)
    have o7_w0 := o6_w0.upd (uu) (by simp)
    have r7_x_x := R_Lnk.upd r6_x_x (uu) (by simp)
    have o7_x_x := o6_x_x.upd (uu) (by simp)
    have q7_w0 := q6_w0.upd (uu) (by simp)
    have q7_x_x := q6_x_x.upd (uu) (by simp)
    have HL_g0 := Lib.hid (show ∀ b ∈ fp_g0, wA.heap.size ≤ b from fun b hb => by have := ge_g0 b hb; have := u6.size; omega)
    have HD_w0_g0 := Lib.hid (show ∀ b ∈ fp_w0, b ∉ fp_g0 from fun b hb hm => by have := lt_w0 b hb; have := ge_g0 b hm; omega)
    have HD_x_x_g0 := Lib.hid (show ∀ b ∈ fp_x_x, b ∉ fp_g0 from fun b hb hm => by have := lt_x_x b hb; have := ge_g0 b hm; omega)
    have HN_w0_g0 := Lib.hid (show B_w0 ∉ fp_g0 from fun hm => by have := ge_g0 _ hm; omega)
    have HN_x_x_g0 := Lib.hid (show B_x_x ∉ fp_g0 from fun hm => by have := ge_g0 _ hm; omega)
    have r7_g0 := rr
    have o7_g0 := oo
    clear u6 r6_w0 o6_w0 r6_x_x o6_x_x q6_w0 q6_x_x uu ge_g0 rr oo lt_w0 lt_x_x bl_w0 bl_x_x
    obtain ⟨w8, hwB⟩ : ∃ wB, wB = w7.alloc (.cells #[ei (y).pars, .slice p1_g0 (y).start.length q1_g0, .slice p2_g0 (y).sms.length q2_g0] 29) := ⟨_, rfl⟩
    have uB : Upd [] w7 w8 := by rw [hwB]; exact (Upd.refl _ _).alloc _
    obtain ⟨B_g0, hB⟩ : ∃ B, B = w7.heap.size := ⟨_, rfl⟩
    have qq : RowAt w8 B_g0 29 [ei (y).pars, .slice p1_g0 (y).start.length q1_g0, .slice p2_g0 (y).sms.length q2_g0] := by rw [hwB, hB]; exact RowAt.new _ _ _
    have lt_w0 := R_Lnk.lt r7_w0
    have lt_x_x := R_Lnk.lt r7_x_x
    have lt_g0 := R_Lnk.lt r7_g0
    have bl_w0 := q7_w0.lt
    have bl_x_x := q7_x_x.lt
    have HN_g0_w0 := Lib.hid (show B_g0 ∉ fp_w0 from fun hm => by have := lt_w0 _ hm; omega)
    have HN_g0_x_x := Lib.hid (show B_g0 ∉ fp_x_x from fun hm => by have := lt_x_x _ hm; omega)
    have HN_g0_g0 := Lib.hid (show B_g0 ∉ fp_g0 from fun hm => by have := lt_g0 _ hm; omega)
    have u8 : Upd [] wA w8 := u7.trans (uB)
    have r8_w0 := R_Lnk.upd r7_w0 (uB) (by simp)
    have o8_w0 := o7_w0.upd (uB) (by simp)
    have r8_x_x := R_Lnk.upd r7_x_x (uB) (by simp)
    have o8_x_x := o7_x_x.upd (uB) (by simp)
    have r8_g0 := R_Lnk.upd r7_g0 (uB) (by simp)
    have o8_g0 := o7_g0.upd (uB) (by simp)
    have q8_w0 := q7_w0.upd (uB) (by simp)
    have q8_x_x := q7_x_x.upd (uB) (by simp)
    have q8_g0 := qq
    clear u7 r7_w0 o7_w0 r7_x_x o7_x_x r7_g0 o7_g0 q7_w0 q7_x_x lt_w0 lt_x_x lt_g0 bl_w0 bl_x_x uB qq
    go_upto_region 8 with (fail)
    rw [← hwB, ← hB]
    clear hwB hB
    have z_g0_0 := q8_g0.cell 0 _ rfl
    have z_g0_1 := q8_g0.cell 1 _ rfl
    have z_g0_2 := q8_g0.cell 2 _ rfl
    have z_w0_0 := q8_w0.cell 0 _ rfl
    have z_w0_1 := q8_w0.cell 1 _ rfl
    have z_w0_2 := q8_w0.cell 2 _ rfl
    have S2 := eq_Ln [ei (y).pars, .slice p1_g0 (y).start.length q1_g0, .slice p2_g0 (y).sms.length q2_g0] [ei (y).pars, .slice p1_w0 (y).start.length q1_w0, .slice p2_w0 (y).sms.length q2_w0] _ w8 _ _ r8_g0 r8_w0
    go_wp2_with fail
    refine S2.mono ?_
    clear S2 z_g0_0 z_g0_1 z_g0_2 z_w0_0 z_w0_1 z_w0_2
    rintro e w9 ⟨rfl, uu⟩
    have u9 : Upd [] wA w9 := u8.trans (uu)
    have r9_w0 := R_Lnk.upd r8_w0 (uu) (by simp)
    have o9_w0 := o8_w0.upd (uu) (by simp)
    have r9_x_x := R_Lnk.upd r8_x_x (uu) (by simp)
    have o9_x_x := o8_x_x.upd (uu) (by simp)
    have r9_g0 := R_Lnk.upd r8_g0 (uu) (by simp)
    have o9_g0 := o8_g0.upd (uu) (by simp)
    have q9_w0 := q8_w0.upd (uu) (by simp)
    have q9_x_x := q8_x_x.upd (uu) (by simp)
    have q9_g0 := q8_g0.upd (uu) (by simp)
    clear u8 r8_w0 o8_w0 r8_x_x o8_x_x r8_g0 o8_g0 q8_w0 q8_x_x q8_g0 uu
    have z_x_x_0 := q9_x_x.cell 0 _ rfl
    have z_x_x_1 := q9_x_x.cell 1 _ rfl
    have z_x_x_2 := q9_x_x.cell 2 _ rfl
    have z_A_0 := (HQA.out _ u9).cell 0 _ rfl
    have z_A_1 := (HQA.out _ u9).cell 1 _ rfl
    have z_A_2 := (HQA.out _ u9).cell 2 _ rfl
    have S6 := to_Ln _ x w9.drew _ HSZ.out (HRX.out _ (UA.out.trans u9).drew)
    have S7 := Lib.hid (fun W us f (hu : Upd [] w9.drew W) (h : R_Ln f W us x) => eq_Ln [ei (x).pars, .slice p1_x_x (x).start.length q1_x_x, .slice p2_x_x (x).sms.length q2_x_x] us x W _ f (R_Lnk.upd r9_x_x ((Upd.refl [] _).drew.trans hu) (by simp)) h)
    go_wp2_with fail
    go_region_held3 (fun w' => w'.cell? ⟨B_x_x, 0, none⟩ = some (ei (x).pars) ∧ w'.cell? ⟨B_x_x, 1, none⟩ = some (.slice p1_x_x (x).start.length q1_x_x) ∧ w'.cell? ⟨B_x_x, 2, none⟩ = some (.slice p2_x_x (x).sms.length q2_x_x) ∧ w'.cell? ⟨BA, 0, none⟩ = some (ei x.pars) ∧ w'.cell? ⟨BA, 1, none⟩ = some (v1) ∧ w'.cell? ⟨BA, 2, none⟩ = some (v2)) (go_keep)
      (first
        | ((go_at_call 11); (refine S6.mono ?_); rintro e w6' ⟨⟨us, rfl, -, -, hn⟩, hu6⟩; obtain ⟨p1_t, q1_t, p2_t, q2_t, rfl⟩ := ln_form hn; obtain ⟨fp_t, rr6, -, -⟩ := hn; have y_0 := hu6.keep z_x_x_0; have y_1 := hu6.keep z_x_x_1; have y_2 := hu6.keep z_x_x_2; have y_3 := hu6.keep z_A_0; have y_4 := hu6.keep z_A_1; have y_5 := hu6.keep z_A_2)
        | ((go_at_call 13); (refine (S7.out w6' _ fp_t hu6 rr6).mono ?_); rintro e w10 ⟨rfl, hu7⟩; have t_0 := hu7.keep y_0; have t_1 := hu7.keep y_1; have t_2 := hu7.keep y_2; have t_3 := hu7.keep y_3; have t_4 := hu7.keep y_4; have t_5 := hu7.keep y_5))
    have uu : Upd [] w9 w10 := ((Upd.refl [] w9).drew.trans hu6).trans hu7
    have u10 : Upd [] wA w10 := u9.trans (uu)
    have r10_w0 := R_Lnk.upd r9_w0 (uu) (by simp)
    have o10_w0 := o9_w0.upd (uu) (by simp)
    have r10_x_x := R_Lnk.upd r9_x_x (uu) (by simp)
    have o10_x_x := o9_x_x.upd (uu) (by simp)
    have r10_g0 := R_Lnk.upd r9_g0 (uu) (by simp)
    have o10_g0 := o9_g0.upd (uu) (by simp)
    have q10_w0 := q9_w0.upd (uu) (by simp)
    have q10_x_x := q9_x_x.upd (uu) (by simp)
    have q10_g0 := q9_g0.upd (uu) (by simp)
    clear u9 r9_w0 o9_w0 r9_x_x o9_x_x r9_g0 o9_g0 q9_w0 q9_x_x q9_g0 uu S6 S7 hu6 hu7 rr6 z_x_x_0 z_x_x_1 z_x_x_2 z_A_0 z_A_1 z_A_2 y_0 y_1 y_2 y_3 y_4 y_5 t_0 t_1 t_2 t_3 t_4 t_5
    have z_x_x_0 := q10_x_x.cell 0 _ rfl
    have z_x_x_1 := q10_x_x.cell 1 _ rfl
    have z_x_x_2 := q10_x_x.cell 2 _ rfl
    go_wp2_with fail
    refine (mark_Ln [ei (x).pars, .slice p1_x_x (x).start.length q1_x_x, .slice p2_x_x (x).sms.length q2_x_x] x _ _ fp_x_x (by omega) (by omega) r10_x_x o10_x_x).mono ?_
    clear z_x_x_0 z_x_x_1 z_x_x_2
    rintro e w11 ⟨rfl, r11_x_x, o11_x_x, uu⟩
    have u11 : Upd [] wA w11 := u10.fresh (uu) (fun b hb => Or.inl (HL_x_x.out b hb))
    have r11_w0 := R_Lnk.upd r10_w0 (uu) HD_w0_x_x.out
    have o11_w0 := o10_w0.upd (uu) HD_w0_x_x.out
    have r11_g0 := R_Lnk.upd r10_g0 (uu) (fun b hb hm => HD_x_x_g0.out b hm hb)
    have o11_g0 := o10_g0.upd (uu) (fun b hb hm => HD_x_x_g0.out b hm hb)
    have q11_w0 := q10_w0.upd (uu) HN_w0_x_x.out
    have q11_x_x := q10_x_x.upd (uu) HN_x_x_x_x.out
    have q11_g0 := q10_g0.upd (uu) HN_g0_x_x.out
    clear u10 r10_w0 o10_w0 r10_x_x o10_x_x r10_g0 o10_g0 q10_w0 q10_x_x q10_g0 r11_x_x o11_x_x q11_x_x uu
    have hk : 0 ≤ 1 + mkF_Ln x := by omega
    have z_g0_0 := q11_g0.cell 0 _ rfl
    have z_g0_1 := q11_g0.cell 1 _ rfl
    have z_g0_2 := q11_g0.cell 2 _ rfl
    have z_w0_0 := q11_w0.cell 0 _ rfl
    have z_w0_1 := q11_w0.cell 1 _ rfl
    have z_w0_2 := q11_w0.cell 2 _ rfl
    have S2 := eq_Ln [ei (y).pars, .slice p1_g0 (y).start.length q1_g0, .slice p2_g0 (y).sms.length q2_g0] [ei (y).pars, .slice p1_w0 (y).start.length q1_w0, .slice p2_w0 (y).sms.length q2_w0] _ w11 _ _ r11_g0 r11_w0
    go_wp2_with fail
    refine S2.mono ?_
    clear S2 z_g0_0 z_g0_1 z_g0_2 z_w0_0 z_w0_1 z_w0_2
    rintro e w12 ⟨rfl, uu⟩
    have u12 : Upd [] wA w12 := u11.trans (uu)
    have r12_w0 := R_Lnk.upd r11_w0 (uu) (by simp)
    have o12_w0 := o11_w0.upd (uu) (by simp)
    have r12_g0 := R_Lnk.upd r11_g0 (uu) (by simp)
    have o12_g0 := o11_g0.upd (uu) (by simp)
    have q12_w0 := q11_w0.upd (uu) (by simp)
    have q12_g0 := q11_g0.upd (uu) (by simp)
    clear u11 r11_w0 o11_w0 r11_g0 o11_g0 q11_w0 q11_g0 uu
    have z_g0_0 := q12_g0.cell 0 _ rfl
    have z_g0_1 := q12_g0.cell 1 _ rfl
    have z_g0_2 := q12_g0.cell 2 _ rfl
    go_wp2_with fail
    refine (mark_Ln [ei (y).pars, .slice p1_g0 (y).start.length q1_g0, .slice p2_g0 (y).sms.length q2_g0] y _ _ fp_g0 (by omega) (by omega) r12_g0 o12_g0).mono ?_
    clear z_g0_0 z_g0_1 z_g0_2
    rintro e w13 ⟨rfl, r13_g0, o13_g0, uu⟩
    have u13 : Upd [] wA w13 := u12.fresh (uu) (fun b hb => Or.inl (HL_g0.out b hb))
    have r13_w0 := R_Lnk.upd r12_w0 (uu) HD_w0_g0.out
    have o13_w0 := o12_w0.upd (uu) HD_w0_g0.out
    have q13_w0 := q12_w0.upd (uu) HN_w0_g0.out
    have q13_g0 := q12_g0.upd (uu) HN_g0_g0.out
    clear u12 r12_w0 o12_w0 r12_g0 o12_g0 q12_w0 q12_g0 uu
    have hk0 : 0 ≤ 1 + mkF_Ln y := by omega
    have hne : ((1 + mkF_Ln y) != (1 + mkF_Ln y)) = false := by simp
    have z_g0_0 := q13_g0.cell 0 _ rfl
    have z_g0_1 := q13_g0.cell 1 _ rfl
    have z_g0_2 := q13_g0.cell 2 _ rfl
    have S2 := held_Ln [ei (y).pars, .slice p1_g0 (y).start.length q1_g0, .slice p2_g0 (y).sms.length q2_g0] y 1 w13 fp_g0 (by omega) hMk r13_g0
    go_wp2_with fail
    refine S2.mono ?_
    clear S2 z_g0_0 z_g0_1 z_g0_2
    rintro e w14 ⟨rfl, uu⟩
    have u14 : Upd [] wA w14 := u13.trans (uu)
    have r14_w0 := R_Lnk.upd r13_w0 (uu) (by simp)
    have o14_w0 := o13_w0.upd (uu) (by simp)
    have r14_g0 := R_Lnk.upd r13_g0 (uu) (by simp)
    have o14_g0 := o13_g0.upd (uu) (by simp)
    have q14_w0 := q13_w0.upd (uu) (by simp)
    have q14_g0 := q13_g0.upd (uu) (by simp)
    clear u13 r13_w0 o13_w0 r13_g0 o13_g0 q13_w0 q13_g0 uu
    have z_A_0 := (HQA.out _ u14).cell 0 _ rfl
    have z_A_1 := (HQA.out _ u14).cell 1 _ rfl
    have z_A_2 := (HQA.out _ u14).cell 2 _ rfl
    have S2 := to_Ln _ x w14 _ HSZ.out (HRX.out _ (UA.out.trans u14))
    go_wp2_with fail
    refine S2.mono ?_
    clear S2 z_A_0 z_A_1 z_A_2
    rintro e w15 ⟨⟨us, rfl, -, -, hn⟩, uu⟩
    obtain ⟨p1_c_x, q1_c_x, p2_c_x, q2_c_x, rfl⟩ := ln_form hn
    obtain ⟨fp_c_x, rr, oo, ge_c_x⟩ := hn
    have lt_w0 := R_Lnk.lt r14_w0
    have lt_g0 := R_Lnk.lt r14_g0
    have bl_w0 := q14_w0.lt
    have bl_g0 := q14_g0.lt
    have u15 : Upd [] wA w15 := u14.trans (uu)
    have r15_w0 := R_Lnk.upd r14_w0 (uu) (by simp)
    have o15_w0 := o14_w0.upd (uu) (by simp)
    have r15_g0 := R_Lnk.upd r14_g0 (uu) (by simp)
    have o15_g0 := o14_g0.upd (uu) (by simp)
    have q15_w0 := q14_w0.upd (uu) (by simp)
    have q15_g0 := q14_g0.upd (uu) (by simp)
    have HL_c_x := Lib.hid (show ∀ b ∈ fp_c_x, wA.heap.size ≤ b from fun b hb => by have := ge_c_x b hb; have := u14.size; omega)
    have HD_w0_c_x := Lib.hid (show ∀ b ∈ fp_w0, b ∉ fp_c_x from fun b hb hm => by have := lt_w0 b hb; have := ge_c_x b hm; omega)
    have HD_g0_c_x := Lib.hid (show ∀ b ∈ fp_g0, b ∉ fp_c_x from fun b hb hm => by have := lt_g0 b hb; have := ge_c_x b hm; omega)
    have HN_w0_c_x := Lib.hid (show B_w0 ∉ fp_c_x from fun hm => by have := ge_c_x _ hm; omega)
    have HN_g0_c_x := Lib.hid (show B_g0 ∉ fp_c_x from fun hm => by have := ge_c_x _ hm; omega)
    have r15_c_x := rr
    have o15_c_x := oo
    clear u14 r14_w0 o14_w0 r14_g0 o14_g0 q14_w0 q14_g0 uu ge_c_x rr oo lt_w0 lt_g0 bl_w0 bl_g0
    have S2 := distI [ei (x).pars, .slice p1_c_x (x).start.length q1_c_x, .slice p2_c_x (x).sms.length q2_c_x] x w15 fp_c_x r15_c_x hF
    rw [HG.out] at S2
    go_wp2_with fail
    refine S2.mono ?_
    clear S2
    rintro e w16 ⟨⟨us, rfl, -, -, hn⟩, uu⟩
    obtain ⟨p1_h0, q1_h0, p2_h0, q2_h0, rfl⟩ := ln_form hn
    obtain ⟨fp_h0, rr, oo, ge_h0⟩ := hn
    have lt_w0 := R_Lnk.lt r15_w0
    have lt_g0 := R_Lnk.lt r15_g0
    have lt_c_x := R_Lnk.lt r15_c_x
    have bl_w0 := q15_w0.lt
    have bl_g0 := q15_g0.lt
    have u16 : Upd [] wA w16 := u15.trans (uu)
    have r16_w0 := R_Lnk.upd r15_w0 (uu) (by simp)
    have o16_w0 := o15_w0.upd (uu) (by simp)
    have r16_g0 := R_Lnk.upd r15_g0 (uu) (by simp)
    have o16_g0 := o15_g0.upd (uu) (by simp)
    have q16_w0 := q15_w0.upd (uu) (by simp)
    have q16_g0 := q15_g0.upd (uu) (by simp)
    have HL_h0 := Lib.hid (show ∀ b ∈ fp_h0, wA.heap.size ≤ b from fun b hb => by have := ge_h0 b hb; have := u15.size; omega)
    have HD_w0_h0 := Lib.hid (show ∀ b ∈ fp_w0, b ∉ fp_h0 from fun b hb hm => by have := lt_w0 b hb; have := ge_h0 b hm; omega)
    have HD_g0_h0 := Lib.hid (show ∀ b ∈ fp_g0, b ∉ fp_h0 from fun b hb hm => by have := lt_g0 b hb; have := ge_h0 b hm; omega)
    have HN_w0_h0 := Lib.hid (show B_w0 ∉ fp_h0 from fun hm => by have := ge_h0 _ hm; omega)
    have HN_g0_h0 := Lib.hid (show B_g0 ∉ fp_h0 from fun hm => by have := ge_h0 _ hm; omega)
    have r16_h0 := rr
    have o16_h0 := oo
    clear u15 r15_w0 o15_w0 r15_g0 o15_g0 r15_c_x o15_c_x q15_w0 q15_g0 uu ge_h0 rr oo lt_w0 lt_g0 lt_c_x bl_w0 bl_g0
    obtain ⟨w17, hwB⟩ : ∃ wB, wB = w16.alloc (.cells #[ei (y).pars, .slice p1_h0 (y).start.length q1_h0, .slice p2_h0 (y).sms.length q2_h0] 29) := ⟨_, rfl⟩
    have uB : Upd [] w16 w17 := by rw [hwB]; exact (Upd.refl _ _).alloc _
    obtain ⟨B_h0, hB⟩ : ∃ B, B = w16.heap.size := ⟨_, rfl⟩
    have qq : RowAt w17 B_h0 29 [ei (y).pars, .slice p1_h0 (y).start.length q1_h0, .slice p2_h0 (y).sms.length q2_h0] := by rw [hwB, hB]; exact RowAt.new _ _ _
    have lt_w0 := R_Lnk.lt r16_w0
    have lt_g0 := R_Lnk.lt r16_g0
    have lt_h0 := R_Lnk.lt r16_h0
    have bl_w0 := q16_w0.lt
    have bl_g0 := q16_g0.lt
    have HN_h0_w0 := Lib.hid (show B_h0 ∉ fp_w0 from fun hm => by have := lt_w0 _ hm; omega)
    have HN_h0_g0 := Lib.hid (show B_h0 ∉ fp_g0 from fun hm => by have := lt_g0 _ hm; omega)
    have HN_h0_h0 := Lib.hid (show B_h0 ∉ fp_h0 from fun hm => by have := lt_h0 _ hm; omega)
    have u17 : Upd [] wA w17 := u16.trans (uB)
    have r17_w0 := R_Lnk.upd r16_w0 (uB) (by simp)
    have o17_w0 := o16_w0.upd (uB) (by simp)
    have r17_g0 := R_Lnk.upd r16_g0 (uB) (by simp)
    have o17_g0 := o16_g0.upd (uB) (by simp)
    have r17_h0 := R_Lnk.upd r16_h0 (uB) (by simp)
    have o17_h0 := o16_h0.upd (uB) (by simp)
    have q17_w0 := q16_w0.upd (uB) (by simp)
    have q17_g0 := q16_g0.upd (uB) (by simp)
    have q17_h0 := qq
    clear u16 r16_w0 o16_w0 r16_g0 o16_g0 r16_h0 o16_h0 q16_w0 q16_g0 lt_w0 lt_g0 lt_h0 bl_w0 bl_g0 uB qq
    go_upto_region 25 with (fail)
    rw [← hwB, ← hB]
    clear hwB hB
    have z_h0_0 := q17_h0.cell 0 _ rfl
    have z_h0_1 := q17_h0.cell 1 _ rfl
    have z_h0_2 := q17_h0.cell 2 _ rfl
    have z_w0_0 := q17_w0.cell 0 _ rfl
    have z_w0_1 := q17_w0.cell 1 _ rfl
    have z_w0_2 := q17_w0.cell 2 _ rfl
    have S2 := eq_Ln [ei (y).pars, .slice p1_h0 (y).start.length q1_h0, .slice p2_h0 (y).sms.length q2_h0] [ei (y).pars, .slice p1_w0 (y).start.length q1_w0, .slice p2_w0 (y).sms.length q2_w0] _ w17 _ _ r17_h0 r17_w0
    go_wp2_with fail
    refine S2.mono ?_
    clear S2 z_h0_0 z_h0_1 z_h0_2 z_w0_0 z_w0_1 z_w0_2
    rintro e w18 ⟨rfl, uu⟩
    have u18 : Upd [] wA w18 := u17.trans (uu)
    have r18_w0 := R_Lnk.upd r17_w0 (uu) (by simp)
    have o18_w0 := o17_w0.upd (uu) (by simp)
    have r18_g0 := R_Lnk.upd r17_g0 (uu) (by simp)
    have o18_g0 := o17_g0.upd (uu) (by simp)
    have r18_h0 := R_Lnk.upd r17_h0 (uu) (by simp)
    have o18_h0 := o17_h0.upd (uu) (by simp)
    have q18_w0 := q17_w0.upd (uu) (by simp)
    have q18_g0 := q17_g0.upd (uu) (by simp)
    have q18_h0 := q17_h0.upd (uu) (by simp)
    clear u17 r17_w0 o17_w0 r17_g0 o17_g0 r17_h0 o17_h0 q17_w0 q17_g0 q17_h0 uu
    have z_g0_0 := q18_g0.cell 0 _ rfl
    have z_g0_1 := q18_g0.cell 1 _ rfl
    have z_g0_2 := q18_g0.cell 2 _ rfl
    have S2 := held_Ln [ei (y).pars, .slice p1_g0 (y).start.length q1_g0, .slice p2_g0 (y).sms.length q2_g0] y 1 w18 fp_g0 (by omega) hMk r18_g0
    go_wp2_with fail
    refine S2.mono ?_
    clear S2 z_g0_0 z_g0_1 z_g0_2
    rintro e w19 ⟨rfl, uu⟩
    have u19 : Upd [] wA w19 := u18.trans (uu)
    have r19_w0 := R_Lnk.upd r18_w0 (uu) (by simp)
    have o19_w0 := o18_w0.upd (uu) (by simp)
    have r19_g0 := R_Lnk.upd r18_g0 (uu) (by simp)
    have o19_g0 := o18_g0.upd (uu) (by simp)
    have r19_h0 := R_Lnk.upd r18_h0 (uu) (by simp)
    have o19_h0 := o18_h0.upd (uu) (by simp)
    have q19_w0 := q18_w0.upd (uu) (by simp)
    have q19_g0 := q18_g0.upd (uu) (by simp)
    have q19_h0 := q18_h0.upd (uu) (by simp)
    clear u18 r18_w0 o18_w0 r18_g0 o18_g0 r18_h0 o18_h0 q18_w0 q18_g0 q18_h0 uu
    have HU := Lib.hid (UA.out.trans u19)
    go_wp2_with fail
    go_ret
    exact ⟨rfl, HU.out⟩

end Go.Proofs.Ytnfghgaadnobbaa

namespace Go.Proofs.Ytnfghgaadnobbaa.lawDistinctC
open Go.ChangeShapes Go.WideShapes Go.ChangeAt Go.RowKit

theorem own : ownKnob Try.prog.godebug = none := by kernel_rfl
theorem laidOut : laidOutB Try.prog = true := by kernel_rfl

set_option maxRecDepth 100000 in
theorem lifted (os : Os) (started : os.Started) (H : Type) (enc : TypeId × Value → H) :
    ReturnsInHanded {} Try.checked os 8 .any (Rows.fnExactDistinctSummandsSpec.pre6 enc Try.prog Try.f8 Rows.fnExactDistinctSummandsRow.domain false) (Rows.fnExactDistinctSummandsSpec.post enc Try.prog Try.f8 false true false false) := by
  refine returnsInHanded_of_change (C := Try.checked) own started (by kernel_rfl) Try.func8
    (ChangeSpec.witness6 (enc := enc) (C := Try.checked) false ⟨#[], #[.agg #[.int .i64 0, .slice none 0 0, .slice none 0 0]], []⟩ 8 (by kernel_rfl) (by kernel_rfl) (by kernel_rfl) (by kernel_rfl)) ?_
  intro W base args ds gs before hval0 hW hcnd _
  have hval : ∀ (j : Nat) t v, Try.f8.params[j]? = some t → args[j]? = some v → Value.okWide Try.prog W .any base t v := hval0
  have hW' := hW
  obtain ⟨p, q, hA0, hV, rfl, hfz, hnd⟩ := hW
  have hA : DataW.TrodAll enc Try.prog W 0 (fun _ => true) true Try.f8.params.toList args.toList ds p := hA0
  rw [Try.params8] at hA hval
  obtain ⟨v0, vs0, d0, ds0, p0, q0, hargs, rfl, rfl, h0, r0⟩ := trodAll_cons hA
  obtain ⟨rfl, rfl, rfl⟩ := trodAll_nil r0
  obtain rfl : args = #[v0] := by cases args; simp_all
  obtain ⟨rfl, rfl⟩ := trodVars_none hV
  have sv0 := okWide_struct Try.underlying25 (hval 0 25 v0 rfl rfl)
  have k0 := h0
  have lt0 : ∀ x ∈ p0, x.block < W.heap.size := by obtain ⟨m, hm⟩ := k0; exact DataW.trod_lt m _ _ _ hm
  obtain ⟨x0, fp0, cs0, rfl, hR0, hφ0⟩ := open_Ln sv0 h0
  clear hA0 hval0
  refine (lawDistinct _ x0  W fp0 hR0 hφ0 ).mono fun e W' ⟨he, hu⟩ => ?_
  subst he
  have bel := hu.below
  exact ⟨_, rfl, _, _, _, [], _, [], hW', trodAll_mk1 (shut_bool Try.underlying4 _), (trodAll_cons_mk (Below.trod laidOut (by kernel_rfl) (of_decide_eq_true (by kernel_rfl)) k0 bel lt0) trodAll_mk0), rfl, bel.frame _, fun h => by cases h⟩

theorem over : Rows.fnExactDistinctSummandsRow.holds Try.pinned (OpenSpec.ofChange Rows.fnExactDistinctSummandsSpec) :=
  OpenClaim.holds_of_wide 8 Try.f8 rfl rfl rfl rfl rfl rfl rfl ⟨rfl, rfl, rfl, rfl, rfl⟩ rfl rfl rfl rfl rfl (by kernel_rfl) Try.func8 (by kernel_rfl)
    (of_decide_eq_true (by kernel_rfl)) (by unfold Func.isWrapper; first | (rw [if_pos (by decide +kernel)]; kernel_rfl) | (rw [if_neg (by decide +kernel)]; exact ⟨rfl, rfl⟩))
    (fun os started H enc _ => lifted os started H enc)

theorem proved : Rows.FnExactDistinctSummandsSaid := over
#print axioms proved
end Go.Proofs.Ytnfghgaadnobbaa.lawDistinctC
