/-
  Variables of an expression replaced by what a function returns.
-/
import Derived.Test.YtnioopbficcbeaaSubst
import Derived.Test.YtnioopbficcbeaaFoldS
import Derived.Test.YtnioopbficcbeaaR8V
namespace Go.Proofs.Ytnioopbficcbeaa
open Go.RowKit

/-- terms in which variables are replaced by what a function gives. -/
def replF (F : Int → Option (List Tm)) : List Tm → List Tm
  | [] => []
  | t :: ts => (if t.1 = 1 then (F t.2).getD [t] else [t]) ++ replF F ts

theorem replF_append (F : Int → Option (List Tm)) (xs ys : List Tm) : replF F (xs ++ ys) = replF F xs ++ replF F ys := by
  induction xs with
  | nil => rfl
  | cons x xs ih => simp [replF, ih]

def NilOr (w' : World) (v' : Value) : Option (List Tm) → Prop
  | none => v' = .slice none 0 0
  | some l => 0 < l.length ∧ l.length ≤ 60 ∧ ∃ fp, R_T1 fp w' [v'] l

def ReplOut (F : Int → Option (List Tm)) (e : List Tm) (w : World) (r : Ending) (w' : World) : Prop := (∃ v', r = .returned v' ∧ New R_T1 w w' v' (replF F e)) ∧ Upd [] w w'
def ByOut (F : Option (List Tm)) (w : World) (r : Ending) (w' : World) : Prop := (∃ v', r = .returned v' ∧ NilOr w' v' F) ∧ Upd [] w w'

theorem replF_len (F : Int → Option (List Tm)) (hF : ∀ n l, F n = some l → l.length ≤ 60) (xs : List Tm) : (replF F xs).length ≤ xs.length * 60 := by
  induction xs with
  | nil => simp [replF]
  | cons x xs ih =>
    have h1 : (if x.1 = 1 then (F x.2).getD [x] else [x]).length ≤ 60 := by
      split
      · cases h : F x.2 with
        | none => simp
        | some l => exact hF _ _ h
      · simp
    rw [replF, List.length_append, List.length_cons, Nat.add_mul]
    omega

set_option maxRecDepth 20000 in
set_option maxHeartbeats 4000000 in
theorem replaced (F : Int → Option (List Tm)) (fn : FuncId) (caps : Array Value) (e : List Tm) (v : Value) (w : World) (fp : List Nat) (hl : e.length ≤ 60) (hF : ∀ n l, F n = some l → l.length ≤ 60) (hR : R_T1 fp w [v] e)
    (hent : ∀ args w, Sem.run Try.prog (callFunc fn args) w = .ok (.enter fn args) w) (hby : ∀ wr n, Upd [] w wr → Calls Try.prog fn (#[.int .i64 n] ++ caps) wr (ByOut (F n) wr)) :
    Calls Try.prog 58 #[v, .func (.func fn) #[] caps] w (ReplOut F e w) := by
  obtain ⟨i0, hi, hz0, hz1, hz2⟩ := info_parts Try.infoT
  obtain ⟨a1, c1, rfl, hl1, hm1, hc1⟩ := slF2_open hR
  unfold maxLen at hm1
  have HBY := Lib.hid hby
  have HLEN := Lib.hid (replF_len F hF)
  have hq := fun (w : World) (a : Option Addr) (n c : Nat) => Lib.run_eql_slice_nil (P := Try.prog) w 24 48 a n c 0 0 Try.underlying24
  clear hR hby
  go_enter Try.func58, Try.ntmps58
  go_wp2_with fail
  go_loopw [5, 11] (fun ov kv wr => ∃ k : Nat, k ≤ e.length ∧ kv = .int .i64 k ∧ Upd [] w wr ∧ wr.ownsRow w.heap.size 48 2 ov (replF F (e.take k)).length ((replF F (e.take k)).flatMap encT)) (fun _ kv _ => e.length - (intOf kv).toNat)
  case atStart => exact ⟨0, Nat.zero_le _, rfl, Upd.refl _ _, World.ownsRow_nil _ _ _ _⟩
  case round =>
    obtain ⟨k, hk, rfl, hU, hown⟩ := hrel
    by_cases hlt : k < e.length
    · obtain ⟨b1, o1, rfl, -, -, p1, p2⟩ := hc1 k hlt
      have p1 := hU.keep p1
      have p2 := hU.keep p2
      have hL1 := HLEN.out (e.take k)
      have hstep : replF F (e.take (k + 1)) = replF F (e.take k) ++ (if e[k].1 = 1 then (F e[k].2).getD [e[k]] else [e[k]]) := by
        rw [List.take_succ_eq_append_getElem hlt, replF_append]; simp [replF]
      have hL1' : (replF F (e.take k)).length ≤ 3600 := by rw [List.length_take] at hL1; omega
      have HSTEP := Lib.hid hstep
      generalize replF F (e.take k) = L at *
      generalize e[k] = x at *
      obtain ⟨x1, x2⟩ := x
      clear hc1
      by_cases h1 : x1 = 1
      · subst h1
        go_wp2_with fail
        have hU1 : Upd [] w (wr.alloc (.cells #[ei 1, ei x2] 48)) := hU.alloc _
        refine (HBY.out _ _ hU1).mono ?_
        rintro r w2 ⟨⟨v2, rfl, hv2⟩, hu2⟩
        have hown2 := ownsRow_upd (ownsRow_upd hown ((Upd.refl [] wr).alloc (.cells #[ei 1, ei x2] 48))) hu2
        have hsz2 := hu2.size
        simp at hsz2
        have hszr := hU.size
        have HU2 := Lib.hid (hU1.trans hu2)
        have q1 := hu2.keep (cell_new wr #[ei 1, ei x2] 48 _ rfl 0 _ rfl)
        have q2 := hu2.keep (cell_new wr #[ei 1, ei x2] 48 _ rfl 1 _ rfl)
        have hL2 : (replF F (e.take (k + 1))) = L ++ (F x2).getD [(1, x2)] := by simpa using HSTEP.out
        have HL2 := Lib.hid hL2
        clear hU1 hu2 hown hstep HSTEP hL2 hU p1 p2
        generalize F x2 = fx at *
        cases fx with
        | none =>
          obtain rfl : v2 = .slice none 0 0 := hv2
          go_wp2_with (first
            | (at_builtin; refine wpList_append_tight _ rfl _ _ 24 rfl w.heap.size 48 i0 (.agg #[.int .i64 0, .int .i64 0]) 2 16 Try.underlying24 hi hz0 hz1 hz2 rfl (by decide) _ _ _ rfl (hown2.alloc _) ⟨w2.heap.size, 0, none⟩ 1 1 [ei 1, ei x2] rfl rfl (fun j u hj => by rw [addr_add]; exact cell_new w2 #[ei 1, ei x2] _ _ rfl _ _ (by simpa using hj)) (by simp [Value.oneCell']) (by unfold maxLen; omega) (by omega) (by simp; omega) ?_)
            | fail)
          intro v4 w4 hown4 hg4 ht4
          have hu4 : Upd [] w w4 := (HU2.out.alloc _).grown hg4 (fun b hb => Or.inl ((hown2.lt b hb).1))
          have HP := Lib.hid (And.intro hown4 hu4)
          clear hown4 hg4 ht4 hu4 hown2
          go_wp2_with fail
          go_roundw
          case rel => exact ⟨k + 1, by omega, by go_num, HP.out.2, by rw [HL2.out]; simpa using HP.out.1⟩
          case measure => simp [intOf]; omega
        | some l =>
          obtain ⟨l0, l60, fl, hl⟩ := hv2
          obtain ⟨bl, ol, cl, rfl, g1, g2, g3, g4⟩ := slF_src hl l0
          have HOl := Lib.hid (oneCells l)
          have HG4 := Lib.hid g4
          unfold maxLen at g2
          generalize hM : l.length = M at *
          have HM := Lib.hid hM
          clear hl g4 hM
          go_wp2_with (first
            | (at_builtin; refine wpList_append_tight _ rfl _ _ 24 rfl w.heap.size 48 i0 (.agg #[.int .i64 0, .int .i64 0]) 2 16 Try.underlying24 hi hz0 hz1 hz2 rfl (by decide) _ _ _ rfl hown2 ⟨bl, ol, none⟩ M cl _ rfl g3 HG4.out HOl.out (by unfold maxLen; omega) (by omega) (by omega) ?_)
            | fail)
          intro v4 w4 hown4 hg4 ht4
          have hu4 : Upd [] w w4 := HU2.out.grown hg4 (fun b hb => Or.inl ((hown2.lt b hb).1))
          have HP := Lib.hid (And.intro hown4 hu4)
          clear hown4 hg4 ht4 hu4 hown2
          go_wp2_with fail
          go_roundw
          case rel => exact ⟨k + 1, by omega, by go_num, HP.out.2, by rw [HL2.out]; simpa [HM.out] using HP.out.1⟩
          case measure => simp [intOf]; omega
      · have h1' : (x1 == 1) = false := by simp [h1]
        have hL2 : (replF F (e.take (k + 1))) = L ++ [(x1, x2)] := by simpa [h1] using HSTEP.out
        have HL2 := Lib.hid hL2
        have hown2 := ownsRow_upd hown ((Upd.refl [] wr).alloc (.cells #[ei x1, ei x2] 48))
        have hszr := hU.size
        have HU2 := Lib.hid (hU.alloc (.cells #[ei x1, ei x2] 48))
        clear hown hstep HSTEP hL2 hU
        go_wp2_with (at_builtin; refine wpList_append_tight _ rfl _ _ 24 rfl w.heap.size 48 i0 (.agg #[.int .i64 0, .int .i64 0]) 2 16 Try.underlying24 hi hz0 hz1 hz2 rfl (by decide) _ _ _ rfl (hown2.alloc _) ⟨wr.heap.size + 1, 0, none⟩ 1 1 [ei x1, ei x2] rfl rfl (fun j u hj => by rw [addr_add]; exact cell_new _ #[ei x1, ei x2] _ _ (by simp) _ _ (by simpa using hj)) (by simp [Value.oneCell']) (by unfold maxLen; omega) (by omega) (by simp; omega) ?_)

        intro v4 w4 hown4 hg4 ht4
        have hu4 : Upd [] w w4 := (HU2.out.alloc _).grown hg4 (fun b hb => Or.inl ((hown2.lt b hb).1))
        have HP := Lib.hid (And.intro hown4 hu4)
        clear hown4 hg4 ht4 hu4 hown2
        go_wp2_with fail
        go_roundw
        case rel => exact ⟨k + 1, by omega, by go_num, HP.out.2, by rw [HL2.out]; simpa using HP.out.1⟩
        case measure => simp [intOf]; omega
    · obtain rfl : k = e.length := by omega
      rw [List.take_length] at hown
      have HP := Lib.hid (And.intro hown hU)
      clear hown hU hc1
      go_wp2_with fail
      go_ret
      exact ⟨⟨_, rfl, New.ofOwns2 (e := 48) HP.out.1⟩, HP.out.2⟩

end Go.Proofs.Ytnioopbficcbeaa
