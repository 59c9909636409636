/-
  Proved: the tied card of the law FnExactLinearText, for every input: the call returns true and each argument reads afterwards as it read before; the tables that the row lists hold what the program's own initialisers lay (the card ties them).
-/
import Derived.Test.YtnfghgaadnobbaaGreatDoorLinK
import Derived.Test.YtnfghgaadnobbaaGreatDoorHarn
import Derived.Test.YtnfghgaadnobbaaGreatDoorLinP
import Derived.Test.YtnfghgaadnobbaaGreatDoorLabB
import Derived.Test.YtnfghgaadnobbaaGreatDoorOps
import Derived.Test.YtnfghgaadnobbaaGreatDoorTextP
import Derived.Test.YtnfghgaadnobbaaGreatDoorLinI
import Derived.Test.YtnfghgaadnobbaaGreatDoorTextI
import Derived.Test.YtnfghgaadnobbaaGreatDoorShelf
import Derived.Test.YtnfghgaadnobbaaGreatDoorLib5
import Derived.Deep.RegionHeld3
import Derived.Test.YtnfghgaadnobbaaGreatDoorLinIs
import Derived.Test.YtnfghgaadnobbaaGreatDoorTextS
import Derived.Test.YtnfghgaadnobbaaGreatDoorDec
import Derived.Test.YtnfghgaadnobbaaGreatDoorLaid
import Derived.Test.YtnfghgaadnobbaaGreatDoorOpenLn
import Derived.Test.YtnfghgaadnobbaaGreatDoorCards
import Derived.Test.YtnfghgaadnobbaaGreatDoorTie
import Derived.LaidMore
import Derived.OpenVars
import Derived.Stop.Joined
import Derived.SevenTiedAt
namespace Go.Proofs.YtnfghgaadnobbaaGreatDoor
open Go.RowKit

theorem sum_mem_le {α : Type} (f : α → Int) (h0 : ∀ x, 0 ≤ f x) : ∀ (l : List α) (x : α), x ∈ l → f x ≤ (l.map f).sum
  | [], x, h => by cases h
  | y :: l, x, h => by
    have hs : 0 ≤ (l.map f).sum := by
      clear h
      induction l with
      | nil => simp
      | cons z l ih => simp only [List.map_cons, List.sum_cons]; have := h0 z; omega
    rw [List.map_cons, List.sum_cons]
    rcases List.mem_cons.1 h with rfl | h
    · omega
    · have := sum_mem_le f h0 l x h; have := h0 y; omega
/-- valid processes are small. -/
theorem lnOk_fit {x : Ln} (h : lnOk x = true) : x.pars ≤ 21 ∧ (x.start.length : Int) = x.pars ∧ x.sms.length ≤ 60 ∧ ∀ s ∈ x.sms, smOk x.pars s = true := by
  unfold lnOk at h
  simp only [Bool.and_eq_true, decide_eq_true_eq, List.all_eq_true] at h
  have := inB_true h.1.1.1
  exact ⟨this.2, h.1.1.2.1, h.1.2, h.2⟩

theorem ln_fit {x : Ln} (h : szF_Ln x ≤ 1048576) : LnFit x := by
  intro s hs
  have h0 := szF_I1_nonneg x.start
  have h1 := sum_mem_le szF_Sm szF_Sm_nonneg x.sms s hs
  have h2 := szF_I1_nonneg s.sums
  have h3 := szF_T1_nonneg s.guard
  have h4 := szF_T2_sum s.args
  have h5 := szF_T2_sum s.next
  unfold szF_Ln szF_Sm1 at h
  have e2 : szF_I1 s.sums = s.sums.length := rfl
  have e3 : szF_T1 s.guard = s.guard.length := rfl
  have e4 : szF_Sm s = szF_I1 s.sums + szF_T1 s.guard + (s.name.length : Int) + szF_T2 s.args + szF_T2 s.next := rfl
  have e5 : szF_T2 s.args = s.args.length + (s.args.map szF_T1).sum := rfl
  have e6 : szF_T2 s.next = s.next.length + (s.next.map szF_T1).sum := rfl
  omega

/-- a made process taken apart. -/
theorem ln_split {w w' : World} {us : List Value} {x : Ln} (h : NewQ R_Ln w w' us x) : ∃ v1 v2, us = [ei x.pars, v1, v2] ∧ New R_I1 w w' v1 x.start ∧ New R_Sm1 w w' v2 x.sms := by
  obtain ⟨fp, ⟨v1, v2, f1, f2, rfl, r1, r2, rfl⟩, ho, hb⟩ := h
  obtain ⟨o1, o2, -⟩ := own_split ho
  exact ⟨v1, v2, rfl, ⟨f1, r1, o1, fun b hb' => hb b (by simp [hb'])⟩, ⟨f2, r2, o2, fun b hb' => hb b (by simp [hb'])⟩⟩
/-- a made process's cells. -/
theorem ln_form {w w' : World} {us : List Value} {x : Ln} (h : NewQ R_Ln w w' us x) : ∃ p1 q1 p2 q2, us = [ei x.pars, .slice p1 x.start.length q1, .slice p2 x.sms.length q2] := by
  obtain ⟨v1, v2, rfl, n1, n2⟩ := ln_split h
  obtain ⟨p1, q1, rfl⟩ := n1.form
  obtain ⟨p2, q2, rfl⟩ := n2.formQ
  exact ⟨p1, q1, p2, q2, rfl⟩
end Go.Proofs.YtnfghgaadnobbaaGreatDoor

namespace Go.Proofs.YtnfghgaadnobbaaGreatDoor
open Go.RowKit

def IdxN (P : Int → Bool) (xs : List Int) (w : World) (e : Ending) (w' : World) : Prop := (∃ q : Int, e = .returned (.int .i64 q) ∧ -1 ≤ q ∧ q ≤ 9223372036854775807 ∧ decide (0 ≤ q) = xs.any P) ∧ Upd [] w w'

set_option maxRecDepth 20000 in
set_option maxHeartbeats 1000000 in
theorem indexFuncN (P : Int → Bool) (fn : FuncId) (caps : Array Value) (v : Value) (xs : List Int) (w : World) (fp : List Nat) (hR : R1 fp w [v] xs)
    (hent : ∀ args w, Sem.run Tryz.prog (callFunc fn args) w = .ok (.enter fn args) w)
    (hby : ∀ wr x, x ∈ xs → Upd [] w wr → Calls Tryz.prog fn (#[.int .i64 x] ++ caps) wr fun e w' => e = .returned (.bool (P x)) ∧ Upd [] wr w') :
    Calls Tryz.prog 90 #[v, .func (.func fn) #[] caps] w (IdxN P xs w) := by
  obtain ⟨a1, c1, rfl, hl1, hm1, hc1⟩ := slF1_open hR
  unfold maxLen at hm1
  have HBY := Lib.hid hby
  clear hR hby
  go_enter Tryz.func90, Tryz.ntmps90
  go_wp2_with fail
  go_loopw [8] (fun i wr => ∃ k : Nat, k ≤ xs.length ∧ i = .int .i64 k ∧ Upd [] w wr ∧ (xs.drop k).any P = xs.any P) (fun i _ => xs.length - (intOf i).toNat)
  case atStart => exact ⟨0, Nat.zero_le _, rfl, Upd.refl _ _, rfl⟩
  case round =>
    obtain ⟨k, hk, rfl, hU, hF⟩ := hrel
    by_cases hlt : k < xs.length
    · obtain ⟨b1, o1, rfl, -, -, p1⟩ := hc1 k hlt
      have p1' := hU.keep p1
      rw [List.drop_eq_getElem_cons hlt, List.any_cons] at hF
      have HF := Lib.hid hF
      have HU := Lib.hid hU
      have S1 := Lib.hid (HBY.out wr xs[k] (List.getElem_mem hlt) hU)
      generalize xs[k] = x at *
      generalize P x = bb at *
      clear hF hc1 p1 hU
      go_wp2_with fail
      refine S1.out.mono ?_
      rintro e w1 ⟨rfl, hu1⟩
      have HU1 := Lib.hid (HU.out.trans hu1)
      clear S1 hu1
      cases bb
      · go_wp2_with fail
        go_roundw
        case rel => exact ⟨k + 1, by omega, by go_num, HU1.out, by rw [← HF.out]; rfl⟩
        case measure => simp [intOf]; omega
      · go_wp2_with fail
        go_ret
        exact ⟨⟨k, rfl, by omega, by omega, by rw [← HF.out]; simp⟩, HU1.out⟩
    · rw [List.drop_of_length_le (by omega)] at hF
      have HF := Lib.hid hF
      clear hF hc1
      go_wp2_with fail
      go_ret
      exact ⟨⟨-1, rfl, by omega, by omega, by rw [← HF.out]; rfl⟩, hU⟩

set_option maxRecDepth 20000 in
theorem containsFuncN (P : Int → Bool) (fn : FuncId) (caps : Array Value) (v : Value) (xs : List Int) (w : World) (fp : List Nat) (hR : R1 fp w [v] xs)
    (hent : ∀ args w, Sem.run Tryz.prog (callFunc fn args) w = .ok (.enter fn args) w)
    (hby : ∀ wr x, x ∈ xs → Upd [] w wr → Calls Tryz.prog fn (#[.int .i64 x] ++ caps) wr fun e w' => e = .returned (.bool (P x)) ∧ Upd [] wr w') :
    Calls Tryz.prog 69 #[v, .func (.func fn) #[] caps] w fun e w' => e = .returned (.bool (xs.any P)) ∧ Upd [] w w' := by
  have S2 := Lib.hid (indexFuncN P fn caps v xs w fp hR hent hby)
  clear hby hent hR
  go_enter Tryz.func69, Tryz.ntmps69
  go_wp2_with fail
  refine S2.out.mono ?_
  rintro e w1 ⟨⟨q, rfl, h1, h2, h3⟩, hu⟩
  have H3 := Lib.hid (And.intro h3 hu)
  clear h3 hu
  go_wp2_with fail
  go_ret
  exact ⟨by rw [← H3.out.1]; rfl, H3.out.2⟩

end Go.Proofs.YtnfghgaadnobbaaGreatDoor

namespace Go.Proofs.YtnfghgaadnobbaaGreatDoor
open Go.RowKit

/-- the text of an expression. -/
noncomputable def expT (e : List Tm) : List UInt8 := if h : eOk e = true then textE (treeOf e h) else []
theorem expT_len (e : List Tm) : (expT e).length ≤ 420 := by
  unfold expT
  split
  · rename_i h
    obtain ⟨hok, hfl⟩ := treeOf_ok e h
    have h1 := textE_len _ (eOk_good h _ hok hfl)
    have h2 := eOk_len h
    rw [hfl] at h1
    omega
  · simp
/-- the text of a list of small numbers. -/
def listTxt (xs : List Int) : List UInt8 := if xs.length = 0 then [45] else joinC 44 (xs.map Lib.itoa)
noncomputable def argsTxt (l : List (List Tm)) : List UInt8 := if l.length = 0 then [] else ([40] ++ joinC 44 (l.map expT)) ++ [41]
noncomputable def nextTxt (l : List (List Tm)) : List UInt8 := if l.length = 0 then [45] else joinC 59 (l.map expT)
def sSum : List UInt8 := [115, 117, 109, 32]
def sIf : List UInt8 := [32, 105, 102, 32]
def sDo : List UInt8 := [32, 100, 111, 32]
def sThen : List UInt8 := [32, 116, 104, 101, 110, 32]
def sLin : List UInt8 := [108, 105, 110, 101, 97, 114, 32]
noncomputable def lineT (s : Sm) : List UInt8 := (((((((sSum ++ listTxt s.sums) ++ sIf) ++ expT s.guard) ++ sDo) ++ s.name) ++ argsTxt s.args) ++ sThen) ++ nextTxt s.next
noncomputable def headT (x : Ln) : List UInt8 := ((sLin ++ Lib.itoa x.pars) ++ [58, 32]) ++ listTxt x.start
noncomputable def linesT (x : Ln) (k : Nat) : List (List UInt8) := headT x :: (x.sms.take k).map lineT
noncomputable def linT (x : Ln) : List UInt8 := joinC 10 (linesT x x.sms.length)
noncomputable def linTextF (x : Ln) : List UInt8 := if lnOk x then linT x else []

theorem joinC_end (c : UInt8) : ∀ (ps : List (List UInt8)) (p : List UInt8), ps ≠ [] → joinC c (ps ++ [p]) = joinC c ps ++ ([c] ++ p)
  | [], _, h => absurd rfl h
  | [q], p, _ => by simp [joinC]
  | q :: r :: ps, p, _ => by
    have h := joinC_end c (r :: ps) p (by simp)
    simp only [List.cons_append] at h ⊢
    simp only [joinC]
    rw [h]; simp
theorem itoa_two {n : Int} (h0 : 0 ≤ n) (h1 : n ≤ 99) : (Lib.itoa n).length ≤ 2 := by
  obtain ⟨q, rfl⟩ : ∃ q : Nat, n = q := ⟨n.toNat, by omega⟩
  have : Lib.itoa (q : Int) = Lib.decDigits q := by simp [Lib.itoa]
  rw [this]
  by_cases h : q < 10
  · rw [Lib.decDigits_one h]; simp
  · rw [Lib.decDigits_two h (by omega)]; simp
theorem listTxt_len {xs : List Int} (h : ∀ x ∈ xs, 0 ≤ x ∧ x ≤ 99) : (listTxt xs).length ≤ 3 * xs.length + 1 := by
  unfold listTxt
  split
  · simp
  · have := joinC_le 44 2 (xs.map Lib.itoa) (fun p hp => by obtain ⟨x, hx, rfl⟩ := List.mem_map.1 hp; exact itoa_two (h x hx).1 (h x hx).2)
    rw [List.length_map] at this
    omega
theorem rowT_len (c : UInt8) (l : List (List Tm)) : (joinC c (l.map expT)).length ≤ 421 * l.length := by
  have := joinC_le c 420 (l.map expT) (fun p hp => by obtain ⟨x, hx, rfl⟩ := List.mem_map.1 hp; exact expT_len x)
  rw [List.length_map] at this
  omega
/-- what a text needs of a summand. -/
structure SmTxt (s : Sm) : Prop where
  sums : ∀ x ∈ s.sums, 0 ≤ x ∧ x ≤ 99
  sl : s.sums.length ≤ 8
  g : eOk s.guard = true
  nm : s.name.length ≤ 10
  a : ∀ e ∈ s.args, eOk e = true
  al : s.args.length ≤ 2
  n : ∀ e ∈ s.next, eOk e = true
  nl : s.next.length ≤ 21
theorem lineT_len {s : Sm} (h : SmTxt s) : (lineT s).length ≤ 10200 := by
  have h1 := listTxt_len h.sums
  have h2 := expT_len s.guard
  have h3 : (argsTxt s.args).length ≤ 844 := by
    unfold argsTxt
    split
    · simp
    · have := rowT_len 44 s.args
      have := h.al
      simp; omega
  have h4 : (nextTxt s.next).length ≤ 8842 := by
    unfold nextTxt
    split
    · simp
    · have := rowT_len 59 s.next
      have := h.nl
      omega
  have := h.sl
  have := h.nm
  unfold lineT sSum sIf sDo sThen
  simp only [List.length_append, List.length_cons, List.length_nil]
  omega
theorem tOkm {t : Tm} {n m : Int} (h : n ≤ m) (ht : tOk t n = true) : tOk t m = true := by
  unfold tOk at *
  split
  · rename_i h0; rw [if_pos h0] at ht; exact ht
  · rename_i h0
    rw [if_neg h0] at ht
    split
    · rename_i h1
      rw [if_pos h1] at ht
      have := inB_true ht
      simp [inB]; omega
    · rename_i h1
      rw [if_neg h1] at ht
      exact ht
theorem runm {n m : Int} (h : n ≤ m) : ∀ (e : List Tm) (k r : Int), run n e k = some r → run m e k = some r
  | [], k, r, hr => hr
  | t :: e, k, r, hr => by
    rw [run] at hr ⊢
    by_cases h0 : k = 0
    · rw [if_pos h0] at hr; cases hr
    · rw [if_neg h0] at hr ⊢
      by_cases ht : tOk t n = true
      · rw [if_pos ht] at hr
        rw [if_pos (tOkm h ht)]
        exact runm h e _ r hr
      · rw [if_neg ht] at hr; cases hr
theorem eOkm {e : List Tm} {n : Int} (h : isE e n 60 = true) (hn : n ≤ 29) : eOk e = true := by
  unfold eOk
  unfold isE at *
  simp only [Bool.and_eq_true, decide_eq_true_eq, beq_iff_eq] at *
  exact ⟨h.1, runm hn e _ _ h.2⟩
theorem lnOk_txt {x : Ln} (h : lnOk x = true) : (0 ≤ x.pars ∧ x.pars ≤ 21) ∧ (∀ n ∈ x.start, 0 ≤ n ∧ n ≤ 99) ∧ x.start.length ≤ 21 ∧ x.sms.length ≤ 60 ∧ ∀ s ∈ x.sms, SmTxt s := by
  obtain ⟨h1, h2, h3, h4⟩ := lnOk_fit h
  unfold lnOk at h
  simp only [Bool.and_eq_true, decide_eq_true_eq, List.all_eq_true] at h
  have h0 := inB_true h.1.1.1
  refine ⟨h0, fun n hn => ?_, by omega, h3, fun s hs => ?_⟩
  · have := inB_true (h.1.1.2.2 n hn); omega
  · have h5 := h4 s hs
    unfold smOk at h5
    simp only [Bool.and_eq_true, decide_eq_true_eq] at h5
    have h6 := h5.2
    unfold expsP at h6
    rw [List.all_eq_true] at h6
    have hs1 := h5.1.1.1
    unfold sumsP at hs1
    simp only [Bool.and_eq_true, decide_eq_true_eq, List.all_eq_true] at hs1
    have h7 : s.sums.length ≤ 8 := hs1.1.2
    have hb : x.pars + (s.sums.length : Int) ≤ 29 := by omega
    have hnm := h5.1.2
    unfold namesP at hnm
    simp only [Bool.and_eq_true, Bool.not_eq_true', Bool.and_eq_false_iff, decide_eq_false_iff_not, Bool.or_eq_false_iff, Bool.or_eq_true, beq_iff_eq] at hnm
    refine ⟨fun n hn => by have := inB_true (hs1.1.1 n hn); omega, h7, eOkm (h6 _ (by simp)) hb, ?_, fun e he => eOkm (h6 e (by simp [he])) hb, ?_, fun e he => eOkm (h6 e (by simp [he])) hb, by omega⟩
    · rcases hnm.2 with h | h
      · rw [h]; decide
      · unfold actF nameF at h
        simp only [Bool.and_eq_true, decide_eq_true_eq] at h
        omega
    · rcases hnm.1 with h | h
      · omega
      · have := h.2; omega

end Go.Proofs.YtnfghgaadnobbaaGreatDoor

namespace Go.Proofs.YtnfghgaadnobbaaGreatDoor
open Go.RowKit

theorem joinL (c : UInt8) (v : Value) (ps : List (List UInt8)) (w : World) (fp : List Nat) (hR : RS fp w [v] ps) (h0 : 0 < ps.length) (hn : ps.length ≤ 1000000) (hj9 : (joinC c ps).length ≤ 100000000) :
    Calls Tryz.prog 22 #[v, .string ⟨#[c]⟩] w fun e w' => e = .returned (es (joinC c ps)) ∧ Upd [] w w' := by
  obtain ⟨a, cap, rfl, h1, h2, hc⟩ := slF1_open hR
  obtain ⟨b, off, rfl, hf, hbl, -⟩ := hc 0 h0
  have hmm : (ps.map (fun p => (⟨p.toArray⟩ : ByteArray))).map (fun b => b.data.toList) = ps := by
    rw [List.map_map]; exact (List.map_congr_left (fun p _ => rfl)).trans (List.map_id _)
  have hj : Lib.join ((ps.map (fun p => (⟨p.toArray⟩ : ByteArray))).map (fun b => b.data.toList)) (⟨#[c]⟩ : ByteArray).data.toList = joinC c ps := by
    rw [hmm]; exact join_lib c ps
  have S0 := Tryz.strings_Join b off cap (ps.map (fun p => (⟨p.toArray⟩ : ByteArray))) ⟨#[c]⟩ w (fun j x hx => by
    obtain ⟨hj1, rfl⟩ := List.getElem?_eq_some_iff.1 hx
    have hj2 : j < ps.length := by simpa using hj1
    obtain ⟨b', off', hb, -, -, hcl⟩ := hc j hj2
    cases hb
    rw [hcl]
    simp [es]) hbl (by simp; omega) (by simp; omega) (by rw [hj]; omega)
  rw [hj] at S0
  simp only [List.length_map] at S0
  refine S0.mono ?_
  rintro e w3 ⟨rfl, hb3⟩
  exact ⟨rfl, Upd.ofBelow hb3⟩

theorem withinI (x lo hi : Int) (w : World) : Calls Tryz.prog 34 #[.int .i64 x, .int .i64 lo, .int .i64 hi] w fun e w' => e = .returned (.bool (inB x lo hi)) ∧ Upd [] w w' := by
  have HM := Lib.hid (show inB x lo hi = (decide (lo ≤ x) && decide (x ≤ hi)) by unfold inB; simp)
  generalize inB x lo hi = Z at *
  by_cases h1 : lo ≤ x
  · by_cases h2 : x ≤ hi
    · have HZ := Lib.hid (show Z = true by rw [HM.out, decide_eq_true h1, decide_eq_true h2]; rfl)
      go_enter Tryz.func34, Tryz.ntmps34
      go_wp2_with fail
      go_ret
      exact ⟨by rw [HZ.out]; rfl, Upd.refl _ _⟩
    · have HZ := Lib.hid (show Z = false by rw [HM.out, decide_eq_false h2, Bool.and_false])
      go_enter Tryz.func34, Tryz.ntmps34
      go_wp2_with fail
      go_ret
      exact ⟨by rw [HZ.out]; rfl, Upd.refl _ _⟩
  · have HZ := Lib.hid (show Z = false by rw [HM.out, decide_eq_false h1, Bool.false_and])
    go_enter Tryz.func34, Tryz.ntmps34
    go_wp2_with fail
    go_ret
    exact ⟨by rw [HZ.out]; rfl, Upd.refl _ _⟩

theorem enter_listOk1 (args : Array Value) (w : World) : Sem.run Tryz.prog (callFunc 70 args) w = .ok (.enter 70 args) w := by go_simp
set_option maxRecDepth 20000 in
set_option maxHeartbeats 1000000 in
theorem listOk1I (x : Int) (w : World) : Calls Tryz.prog 70 #[.int .i64 x] w fun e w' => e = .returned (.bool (!inB x (-1000000000000) 1000000000000)) ∧ Upd [] w w' := by
  have S1 := Lib.hid (withinI x (-1000000000000) 1000000000000 w)
  generalize inB x (-1000000000000) 1000000000000 = q at *
  go_enter Tryz.func70, Tryz.ntmps70
  go_wp2_with fail
  refine S1.out.mono ?_
  rintro e w1 ⟨rfl, hu⟩
  have HU := Lib.hid hu
  clear hu S1
  go_wp2_with fail
  go_ret
  exact ⟨rfl, HU.out⟩

theorem decimalL (n : Int) (w : World) (h0 : 0 ≤ n) (h1 : n ≤ 99) : Calls Tryz.prog 16 #[.int .i64 n] w fun e w' => e = .returned (es (Lib.itoa n)) ∧ Upd [] w w' := by
  obtain ⟨q, rfl⟩ : ∃ q : Nat, n = q := ⟨n.toNat, by omega⟩
  refine (decimalS q (by omega) w).mono ?_
  rintro e w1 ⟨rfl, rfl⟩
  exact ⟨rfl, Upd.refl _ _⟩

set_option maxRecDepth 20000 in
set_option maxHeartbeats 1000000 in
theorem listOkI (v : Value) (xs : List Int) (w : World) (fp : List Nat) (hR : R_I1 fp w [v] xs) (hl : xs.length ≤ 64) (hv : ∀ x ∈ xs, 0 ≤ x ∧ x ≤ 99) :
    Calls Tryz.prog 40 #[v] w fun e w' => e = .returned (.bool true) ∧ Upd [] w w' := by
  have S1 := Lib.hid (containsFuncN (fun x => !inB x (-1000000000000) 1000000000000) 70 #[] v xs w fp hR enter_listOk1 (fun wr x _ _ => listOk1I x wr))
  have hany : (xs.any fun x => !inB x (-1000000000000) 1000000000000) = false := by
    rw [List.any_eq_false]
    intro x hx
    have := hv x hx
    have hb : inB x (-1000000000000) 1000000000000 = true := by unfold inB; simp; omega
    simp [hb]
  rw [hany] at S1
  obtain ⟨a, c, rfl, -, -, -⟩ := slF1_open hR
  have e1 : (xs.length : Int) ≤ 64 := by omega
  clear hR hv hany
  go_enter Tryz.func40, Tryz.ntmps40
  go_wp2_with fail
  refine S1.out.mono ?_
  rintro e w1 ⟨rfl, hu⟩
  have HU := Lib.hid hu
  clear hu S1
  go_wp2_with fail
  go_ret
  exact ⟨rfl, HU.out⟩

set_option maxRecDepth 20000 in
set_option maxHeartbeats 4000000 in
theorem joinedL (v : Value) (xs : List Int) (w : World) (fp : List Nat) (hR : R1 fp w [v] xs) (h0 : 0 < xs.length) (hl : xs.length ≤ 1000000)
    (hv : ∀ x ∈ xs, 0 ≤ x ∧ x ≤ 99) :
    Calls Tryz.prog 41 #[v, es [44]] w fun e w' => e = .returned (es (txtV xs)) ∧ Upd [] w w' := by
  obtain ⟨i0, hi, hz0, hz1, hz2⟩ := info_parts Tryz.info9
  obtain ⟨a, cap, rfl, h1, h2, -⟩ := slF1_open hR
  unfold maxLen at h2
  have HR := Lib.hid hR
  have HV := Lib.hid hv
  have hm2 : i0.bytes * xs.length ≤ 281474976710656 := by rw [hz2]; omega
  clear hR hv
  go_enter Tryz.func41, Tryz.ntmps41
  go_wp2_with (first
    | (at_make; refine wpList_make_full _ rfl _ _ 44 rfl w.heap.size 9 i0 (es []) 1 Tryz.underlying44 hi hz0 hz1 .i64 .i64 _ _ xs.length rfl rfl rfl rfl hm2 (by unfold maxLen; omega) (Nat.le_refl _) ?_; intro w2 hrow hgrow)
    | fail)
  rw [made_one _ rfl] at hrow
  have hU : Upd [] w w2 := (Upd.refl _ _).grown hgrow (by simp)
  obtain ⟨fo, ho1, ho2, ho3⟩ := New.ofOwns (w := w) (e := 9) (enc := es) (xs := List.replicate xs.length ([] : List UInt8)) (by simpa using hrow)
  have HST := Lib.hid (And.intro (show RS fo w2 [.slice (some ⟨w.heap.size, 0, none⟩) xs.length xs.length] ((xs.take 0).map Lib.itoa ++ List.replicate (xs.length - 0) []) from by simpa using ho1) ho2)
  clear hrow hgrow ho1 ho2 ho3 hm2
  go_wp2_with fail
  go_loopw [13] (fun i wr => ∃ k : Nat, k ≤ xs.length ∧ i = .int .i64 k ∧ Upd [] w wr ∧ RS fo wr [.slice (some ⟨w.heap.size, 0, none⟩) xs.length xs.length] ((xs.take k).map Lib.itoa ++ List.replicate (xs.length - k) []) ∧ Own fo wr) (fun i _ => xs.length - (intOf i).toNat)
  case atStart => exact ⟨0, Nat.zero_le _, rfl, hU, HST.out.1, HST.out.2⟩
  case round =>
    clear HST hU
    obtain ⟨k, hk, rfl, hU, ho1, ho2⟩ := hrel
    by_cases hlt : k < xs.length
    · obtain ⟨a', cap', hv, -, -, hc⟩ := slF1_open (R1k.upd HR.out hU (by simp))
      cases hv
      obtain ⟨b1, o1, rfl, -, -, p1⟩ := hc k hlt
      have hset := set_fill Lib.itoa [] xs k hlt
      obtain ⟨x0, x1⟩ := HV.out xs[k] (List.getElem_mem hlt)
      have hlen : ((xs.take k).map Lib.itoa ++ List.replicate (xs.length - k) ([] : List UInt8)).length = xs.length := by simp; omega
      have HL := Lib.hid hlen
      have HS := Lib.hid hset
      have HU := Lib.hid hU
      have HO := Lib.hid (And.intro ho1 ho2)
      generalize xs[k] = x at *
      have S1 := Lib.hid (decimalL x wr x0 x1)
      clear hc hset hlen hU ho1 ho2
      go_wp2_with fail
      refine S1.out.mono ?_
      rintro e w3 ⟨rfl, hu3⟩
      obtain ⟨hbl, hcl0, hfz, hos⟩ := rowCellS (RSk.upd HO.out.1 hu3 (by simp)) (HO.out.2.upd hu3 (by simp)) HL.out k hlt
      have hos := hos (Lib.itoa x)
      rw [HS.out] at hos
      obtain ⟨z0, hz0'⟩ : ∃ z0 : List UInt8, w3.cell? ⟨w.heap.size, k, none⟩ = some (es z0) := ⟨_, hcl0⟩
      clear hcl0
      have HP := Lib.hid (And.intro hos (HU.out.trans hu3))
      clear S1 hos HO HU hu3 HS HL
      generalize Lib.itoa x = A at *
      go_wp2_with fail
      go_roundw
      case rel => exact ⟨k + 1, by omega, by go_num, HP.out.2.setCell (Or.inl (Nat.le_refl _)) _, HP.out.1.1, HP.out.1.2⟩
      case measure => simp [intOf]; omega
    · obtain rfl : k = xs.length := by omega
      obtain ⟨ps, hps⟩ : ∃ ps, ps = xs.map Lib.itoa := ⟨_, rfl⟩
      have hpl : ps.length = xs.length := by rw [hps]; simp
      have ho3 : RS fo wr [.slice (some ⟨w.heap.size, 0, none⟩) xs.length xs.length] ps := by rw [hps]; simpa using ho1
      obtain ⟨a', cap', hv, -, hc2, hc⟩ := slF1_open ho3
      simp only [Value.slice.injEq] at hv
      obtain ⟨rfl, -, rfl⟩ := hv
      have hle : (joinC 44 ps).length ≤ ps.length * (2 + 1) := joinC_le 44 2 ps (fun p hp => by
        rw [hps] at hp
        obtain ⟨x, hx, rfl⟩ := List.mem_map.1 hp
        exact itoa_two (HV.out x hx).1 (HV.out x hx).2)
      have hbk : w.heap.size < wr.heap.size := by
        obtain ⟨b, off, hb, -, hbl, -⟩ := hc 0 (by omega)
        cases hb; exact hbl
      have hmm : (ps.map (fun p => (⟨p.toArray⟩ : ByteArray))).map (fun b => b.data.toList) = ps := by
        rw [List.map_map]; exact (List.map_congr_left (fun p _ => rfl)).trans (List.map_id _)
      have hj : Lib.join ((ps.map (fun p => (⟨p.toArray⟩ : ByteArray))).map (fun b => b.data.toList)) (⟨#[44]⟩ : ByteArray).data.toList = joinC 44 ps := by
        rw [hmm]; exact join_lib 44 ps
      have S0 := Tryz.strings_Join w.heap.size 0 xs.length (ps.map (fun p => (⟨p.toArray⟩ : ByteArray))) ⟨#[44]⟩ wr (fun j x hx => by
        obtain ⟨hj1, rfl⟩ := List.getElem?_eq_some_iff.1 hx
        have hj2 : j < ps.length := by simpa using hj1
        obtain ⟨b, off, hb, -, -, hcl⟩ := hc j hj2
        cases hb
        rw [hcl]
        simp [es]) hbk (by simp; omega) (by simp; omega) (by rw [hj]; omega)
      rw [hj] at S0
      simp only [List.length_map, hpl] at S0
      have S1 := Lib.hid S0
      have HX := Lib.hid (show joinC 44 ps = txtV xs by rw [hps, txtV])
      have HU := Lib.hid hU
      clear hj hmm hle hc hc2 ho3 ho1 ho2 hps hU S0 HV HR
      generalize joinC 44 ps = J at *
      go_wp2_with fail
      refine S1.out.mono ?_
      rintro e w3 ⟨rfl, hb3⟩
      have HP := Lib.hid (HU.out.trans (Upd.ofBelow hb3))
      clear S1 hb3 HU
      go_wp2_with fail
      go_ret
      exact ⟨by rw [← HX.out]; rfl, HP.out⟩

set_option maxRecDepth 20000 in
set_option maxHeartbeats 1000000 in
theorem listTextI (v : Value) (xs : List Int) (w : World) (fp : List Nat) (hR : R_I1 fp w [v] xs) (hl : xs.length ≤ 64) (hv : ∀ x ∈ xs, 0 ≤ x ∧ x ≤ 99) :
    Calls Tryz.prog 17 #[v] w fun e w' => e = .returned (es (listTxt xs)) ∧ Upd [] w w' := by
  by_cases h0 : xs.length = 0
  · obtain rfl := List.length_eq_zero_iff.1 h0
    have S1 := listOkI v [] w fp hR hl hv
    obtain ⟨a, c, rfl, -, -, -⟩ := slF1_open hR
    simp only [List.length_nil] at S1
    have HS1 := Lib.hid S1
    have HZ := Lib.hid (show listTxt [] = [45] from rfl)
    clear hR hv S1 h0
    show Calls Tryz.prog 17 #[.slice a 0 c] w _
    go_enter Tryz.func17, Tryz.ntmps17
    go_wp2_with fail
    refine HS1.out.mono ?_
    rintro e w1 ⟨rfl, hu⟩
    have HU := Lib.hid hu
    clear hu HS1
    go_wp2_with fail
    go_ret
    exact ⟨by rw [HZ.out]; rfl, HU.out⟩
  · have S1 := Lib.hid (listOkI v xs w fp hR hl hv)
    have S2 := Lib.hid (fun W (hu : Upd [] w W) (h0 : 0 < xs.length) => joinedL v xs W fp (R_I1k.upd hR hu (by simp)) h0 (by omega) hv)
    obtain ⟨a, c, rfl, -, -, -⟩ := slF1_open hR
    have HZ := Lib.hid (show listTxt xs = txtV xs by unfold listTxt; rw [if_neg h0]; rfl)
    clear hR hv
    have e0 : ((xs.length : Int) == 0) = false := by rw [beq_eq_false_iff_ne]; omega
    have hp : 0 < xs.length := by omega
    clear h0
    generalize listTxt xs = Z at *
    go_enter Tryz.func17, Tryz.ntmps17
    go_wp2_with fail
    refine S1.out.mono ?_
    rintro e w1 ⟨rfl, hu⟩
    have HU := Lib.hid hu
    have T2 := Lib.hid (S2.out w1 hu hp)
    clear hu S1 S2
    go_wp2_with fail
    refine T2.out.mono ?_
    rintro e w2 ⟨rfl, hu⟩
    have HU2 := Lib.hid (HU.out.trans hu)
    clear hu T2
    go_wp2_with fail
    go_ret
    exact ⟨by rw [HZ.out]; rfl, HU2.out⟩

set_option maxRecDepth 20000 in
set_option maxHeartbeats 2000000 in
theorem nextTextI (v : Value) (l : List (List Tm)) (w : World) (fp : List Nat) (hG : Glob w) (hR : R_T2 fp w [v] l) (hl : l.length ≤ 1000) (hv : ∀ e ∈ l, eOk e = true) :
    Calls Tryz.prog 21 #[v] w fun e w' => e = .returned (es (nextTxt l)) ∧ Upd [] w w' := by
  obtain ⟨i0, hi, hz0, hz1, hz2⟩ := info_parts Tryz.info9
  obtain ⟨a, cap, rfl, g1, g2, hc⟩ := slP_open hR
  unfold maxLen at g2
  have HC := Lib.hid hc
  have HV := Lib.hid hv
  have HGL := Lib.hid hG
  clear hR hc hv hG
  by_cases h0 : l.length = 0
  · have HZ := Lib.hid (show nextTxt l = [45] by unfold nextTxt; rw [if_pos h0])
    have e0 : ((l.length : Int) == 0) = true := by rw [beq_iff_eq]; omega
    go_enter Tryz.func21, Tryz.ntmps21
    go_wp2_with fail
    go_ret
    exact ⟨by rw [HZ.out]; rfl, Upd.refl _ _⟩
  · have HZ := Lib.hid (show nextTxt l = joinC 59 (l.map expT) by unfold nextTxt; rw [if_neg h0])
    have e0 : ((l.length : Int) == 0) = false := by rw [beq_eq_false_iff_ne]; omega
    have HP0 := Lib.hid (show 0 < l.length by omega)
    clear h0
    generalize nextTxt l = Z at *
    go_enter Tryz.func21, Tryz.ntmps21
    go_wp2_with fail
    go_loopw [3, 11] (fun sp iv wr => ∃ (k : Nat) (sv : Value), sv = sp ∧ k ≤ l.length ∧ iv = .int .i64 k ∧ Hid (Upd [] w wr) ∧ Hid (wr.ownsRow w.heap.size 9 1 sv k (((l.take k).map expT).map es))) (fun _ iv _ => l.length - (intOf iv).toNat)
    case atStart => exact ⟨0, _, rfl, Nat.zero_le _, rfl, Lib.hid (Upd.refl _ _), Lib.hid (World.ownsRow_nil _ _ _ _)⟩
    case round =>
      obtain ⟨wo, rfl⟩ : ∃ wo : World, wo = wr := ⟨_, rfl⟩
      obtain ⟨k, sv, rfl, hk, rfl, HU, HA⟩ := hrel
      by_cases hlt : k < l.length
      · obtain ⟨b, off, u, f, rfl, -, -, p0, -, hr⟩ := HC.out k hlt
        have p0 := HU.out.keep p0
        have hkl : (k : Int) < (l.length : Int) := by omega
        have hb := HV.out _ (List.getElem_mem hlt)
        have HTK := Lib.hid (show ((l.take (k + 1)).map expT).map es = ((l.take k).map expT).map es ++ [es (expT l[k])] by rw [List.take_succ_eq_append_getElem hlt, List.map_append, List.map_append]; rfl)
        have hr := R_T1k.upd hr HU.out (by simp)
        generalize l[k] = e at *
        have hres : expT e = textE (treeOf e hb) := by unfold expT; rw [dif_pos hb]
        obtain ⟨hok, hfl⟩ := treeOf_ok e hb
        have hlen := eOk_len hb
        have hgood := eOk_good hb _ hok hfl
        rw [hres] at HTK
        generalize treeOf e hb = x at *
        have S1 := Lib.hid (treeE x wo u f hok (by rw [hfl]; omega) (by rw [hfl]; exact hr))
        have HX := Lib.hid (And.intro hgood (show (flatE x).length ≤ 1000 by rw [hfl]; omega))
        obtain ⟨d1, e1, rfl, -⟩ := slF2_open hr
        generalize e.length = l1 at *
        have HOW := HA.out
        obtain ⟨ca, cc, rfl⟩ := ownsRow_form HOW
        clear hres hok hfl hgood hr hb hlen HA
        have HA := Lib.hid HOW
        clear HOW
        go_wp2_with fail
        refine S1.out.mono ?_
        rintro r w2 ⟨⟨vt, rfl, ft, ht, -, -⟩, hu2⟩
        have HU2 := Lib.hid (HU.out.trans hu2)
        have S3 := Lib.hid (textI _ x w2 vt ft (Nat.le_refl _) HX.out.2 HX.out.1 (HGL.out.upd HU2.out) ht)
        have HB2 := Lib.hid hu2
        clear S1 ht hu2 p0
        go_wp2_with fail
        refine S3.out.mono ?_
        rintro r w4 ⟨rfl, n4, hw4⟩
        have HU4 := Lib.hid (show Upd [] wo w4 by rw [hw4]; exact HB2.out.drewN n4)
        have hown1 := ownsRow_upd HA.out HU4.out
        have hsz4 : w.heap.size ≤ w4.heap.size := (HU.out.trans HU4.out).size
        have HOL := Lib.hid (fun c hc => (hown1.lt c hc).1)
        generalize textE x = A at *
        clear S3 hw4 HA
        go_wp2_with (first
          | (at_builtin; refine wpList_append_tight _ rfl _ _ 44 rfl w.heap.size 9 i0 (es []) 1 16 Tryz.underlying44 hi hz0 hz1 hz2 rfl (by decide) _ _ _ rfl (hown1.alloc _) ⟨w4.heap.size, 0, none⟩ 1 1 [es A] rfl rfl (fun j u hj => by rw [addr_add, Nat.zero_add]; exact cell_new w4 #[es A] _ _ rfl j u (by simpa using hj)) (by simp [Value.oneCell']) (by unfold maxLen; omega) (by omega) (by simp; omega) ?_)
          | fail)
        intro v2 w5 hown2 hg2 ht2
        have HO5 := Lib.hid (show w5.ownsRow w.heap.size 9 1 v2 (k + 1) (((l.take (k + 1)).map expT).map es) by rw [HTK.out]; simpa using hown2)
        have HU5 := Lib.hid (show Upd [] w w5 from ((HU.out.trans HU4.out).alloc _).grown hg2 (fun c hc => Or.inl (HOL.out c hc)))
        clear hown1 hown2 hg2 ht2
        go_wp2_with fail
        go_roundw
        case rel => exact ⟨k + 1, _, rfl, by omega, by go_num, HU5, HO5⟩
        case measure => simp [intOf]; omega
      · obtain rfl : k = l.length := by omega
        have ho := HA.out
        rw [List.take_length] at ho
        obtain ⟨ca, cc, rfl⟩ := ownsRow_form ho
        obtain ⟨fo, ho1, -, -⟩ := New.ofOwns (w := w) (e := 9) (enc := es) (xs := l.map expT) (by simpa using ho)
        have hj := rowT_len 59 l
        have S5 := joinL 59 _ (l.map expT) wo fo ho1 (by rw [List.length_map]; exact HP0.out) (by rw [List.length_map]; omega) (by omega)
        generalize hj9 : joinC 59 (l.map expT) = Y at *
        have HS5 := Lib.hid S5
        have hy : (Y.length : Int) ≤ 500000 := by omega
        have HJ9 := Lib.hid hj9
        clear ho ho1 HA S5 hj9
        go_wp2_with fail
        refine HS5.out.mono ?_
        rintro r w6 ⟨rfl, hu6⟩
        have HU6 := Lib.hid (HU.out.trans hu6)
        clear hu6 HS5
        go_wp2_with fail
        go_ret
        exact ⟨by rw [HZ.out]; first | rfl | (simp only [es, es_par]; done) | (rw [es_par]; rfl), HU6.out⟩

set_option maxRecDepth 20000 in
set_option maxHeartbeats 2000000 in
theorem listedI (v : Value) (l : List (List Tm)) (w : World) (fp : List Nat) (hG : Glob w) (hR : R_T2 fp w [v] l) (hl : l.length ≤ 1000) (hv : ∀ e ∈ l, eOk e = true) :
    Calls Tryz.prog 20 #[v] w fun e w' => e = .returned (es (argsTxt l)) ∧ Upd [] w w' := by
  obtain ⟨i0, hi, hz0, hz1, hz2⟩ := info_parts Tryz.info9
  obtain ⟨a, cap, rfl, g1, g2, hc⟩ := slP_open hR
  unfold maxLen at g2
  have HC := Lib.hid hc
  have HV := Lib.hid hv
  have HGL := Lib.hid hG
  clear hR hc hv hG
  by_cases h0 : l.length = 0
  · have HZ := Lib.hid (show argsTxt l = [] by unfold argsTxt; rw [if_pos h0])
    have e0 : ((l.length : Int) == 0) = true := by rw [beq_iff_eq]; omega
    go_enter Tryz.func20, Tryz.ntmps20
    go_wp2_with fail
    go_ret
    exact ⟨by rw [HZ.out]; rfl, Upd.refl _ _⟩
  · have HZ := Lib.hid (show argsTxt l = ([40] ++ joinC 44 (l.map expT)) ++ [41] by unfold argsTxt; rw [if_neg h0])
    have e0 : ((l.length : Int) == 0) = false := by rw [beq_eq_false_iff_ne]; omega
    have HP0 := Lib.hid (show 0 < l.length by omega)
    clear h0
    generalize argsTxt l = Z at *
    go_enter Tryz.func20, Tryz.ntmps20
    go_wp2_with fail
    go_loopw [3, 11] (fun sp iv wr => ∃ (k : Nat) (sv : Value), sv = sp ∧ k ≤ l.length ∧ iv = .int .i64 k ∧ Hid (Upd [] w wr) ∧ Hid (wr.ownsRow w.heap.size 9 1 sv k (((l.take k).map expT).map es))) (fun _ iv _ => l.length - (intOf iv).toNat)
    case atStart => exact ⟨0, _, rfl, Nat.zero_le _, rfl, Lib.hid (Upd.refl _ _), Lib.hid (World.ownsRow_nil _ _ _ _)⟩
    case round =>
      obtain ⟨wo, rfl⟩ : ∃ wo : World, wo = wr := ⟨_, rfl⟩
      obtain ⟨k, sv, rfl, hk, rfl, HU, HA⟩ := hrel
      by_cases hlt : k < l.length
      · obtain ⟨b, off, u, f, rfl, -, -, p0, -, hr⟩ := HC.out k hlt
        have p0 := HU.out.keep p0
        have hkl : (k : Int) < (l.length : Int) := by omega
        have hb := HV.out _ (List.getElem_mem hlt)
        have HTK := Lib.hid (show ((l.take (k + 1)).map expT).map es = ((l.take k).map expT).map es ++ [es (expT l[k])] by rw [List.take_succ_eq_append_getElem hlt, List.map_append, List.map_append]; rfl)
        have hr := R_T1k.upd hr HU.out (by simp)
        generalize l[k] = e at *
        have hres : expT e = textE (treeOf e hb) := by unfold expT; rw [dif_pos hb]
        obtain ⟨hok, hfl⟩ := treeOf_ok e hb
        have hlen := eOk_len hb
        have hgood := eOk_good hb _ hok hfl
        rw [hres] at HTK
        generalize treeOf e hb = x at *
        have S1 := Lib.hid (treeE x wo u f hok (by rw [hfl]; omega) (by rw [hfl]; exact hr))
        have HX := Lib.hid (And.intro hgood (show (flatE x).length ≤ 1000 by rw [hfl]; omega))
        obtain ⟨d1, e1, rfl, -⟩ := slF2_open hr
        generalize e.length = l1 at *
        have HOW := HA.out
        obtain ⟨ca, cc, rfl⟩ := ownsRow_form HOW
        clear hres hok hfl hgood hr hb hlen HA
        have HA := Lib.hid HOW
        clear HOW
        go_wp2_with fail
        refine S1.out.mono ?_
        rintro r w2 ⟨⟨vt, rfl, ft, ht, -, -⟩, hu2⟩
        have HU2 := Lib.hid (HU.out.trans hu2)
        have S3 := Lib.hid (textI _ x w2 vt ft (Nat.le_refl _) HX.out.2 HX.out.1 (HGL.out.upd HU2.out) ht)
        have HB2 := Lib.hid hu2
        clear S1 ht hu2 p0
        go_wp2_with fail
        refine S3.out.mono ?_
        rintro r w4 ⟨rfl, n4, hw4⟩
        have HU4 := Lib.hid (show Upd [] wo w4 by rw [hw4]; exact HB2.out.drewN n4)
        have hown1 := ownsRow_upd HA.out HU4.out
        have hsz4 : w.heap.size ≤ w4.heap.size := (HU.out.trans HU4.out).size
        have HOL := Lib.hid (fun c hc => (hown1.lt c hc).1)
        generalize textE x = A at *
        clear S3 hw4 HA
        go_wp2_with (first
          | (at_builtin; refine wpList_append_tight _ rfl _ _ 44 rfl w.heap.size 9 i0 (es []) 1 16 Tryz.underlying44 hi hz0 hz1 hz2 rfl (by decide) _ _ _ rfl (hown1.alloc _) ⟨w4.heap.size, 0, none⟩ 1 1 [es A] rfl rfl (fun j u hj => by rw [addr_add, Nat.zero_add]; exact cell_new w4 #[es A] _ _ rfl j u (by simpa using hj)) (by simp [Value.oneCell']) (by unfold maxLen; omega) (by omega) (by simp; omega) ?_)
          | fail)
        intro v2 w5 hown2 hg2 ht2
        have HO5 := Lib.hid (show w5.ownsRow w.heap.size 9 1 v2 (k + 1) (((l.take (k + 1)).map expT).map es) by rw [HTK.out]; simpa using hown2)
        have HU5 := Lib.hid (show Upd [] w w5 from ((HU.out.trans HU4.out).alloc _).grown hg2 (fun c hc => Or.inl (HOL.out c hc)))
        clear hown1 hown2 hg2 ht2
        go_wp2_with fail
        go_roundw
        case rel => exact ⟨k + 1, _, rfl, by omega, by go_num, HU5, HO5⟩
        case measure => simp [intOf]; omega
      · obtain rfl : k = l.length := by omega
        have ho := HA.out
        rw [List.take_length] at ho
        obtain ⟨ca, cc, rfl⟩ := ownsRow_form ho
        obtain ⟨fo, ho1, -, -⟩ := New.ofOwns (w := w) (e := 9) (enc := es) (xs := l.map expT) (by simpa using ho)
        have hj := rowT_len 44 l
        have S5 := joinL 44 _ (l.map expT) wo fo ho1 (by rw [List.length_map]; exact HP0.out) (by rw [List.length_map]; omega) (by omega)
        generalize hj9 : joinC 44 (l.map expT) = Y at *
        have HS5 := Lib.hid S5
        have hy : (Y.length : Int) ≤ 500000 := by omega
        have HJ9 := Lib.hid hj9
        clear ho ho1 HA S5 hj9
        go_wp2_with fail
        refine HS5.out.mono ?_
        rintro r w6 ⟨rfl, hu6⟩
        have HU6 := Lib.hid (HU.out.trans hu6)
        have hb1 : ¬ (9223372036854775807 : Int) < 1 + (Y.length : Int) := by omega
        have hb2 : ¬ (9223372036854775807 : Int) < 1 + (Y.length : Int) + 1 := by omega
        clear hu6 HS5
        go_wp2_with fail
        go_ret
        exact ⟨by rw [HZ.out]; first | rfl | (simp only [es, es_par]; done) | (rw [es_par]; rfl), HU6.out⟩
end Go.Proofs.YtnfghgaadnobbaaGreatDoor

namespace Go.Proofs.YtnfghgaadnobbaaGreatDoor
open Go.RowKit

theorem expTreeI (e : List Tm) (v : Value) (w : World) (fp : List Nat) (hb : eOk e = true) (hR : R_T1 fp w [v] e) :
    Calls Tryz.prog 18 #[v] w fun r w' => (∃ vt ft, r = .returned vt ∧ (∃ x, textE x = expT e ∧ R_E ft w' [vt] x ∧ goodE 29 x = true ∧ (flatE x).length ≤ 1000)) ∧ Upd [] w w' := by
  have hres : expT e = textE (treeOf e hb) := by unfold expT; rw [dif_pos hb]
  obtain ⟨hok, hfl⟩ := treeOf_ok e hb
  have hlen := eOk_len hb
  have hgood := eOk_good hb _ hok hfl
  refine (treeE (treeOf e hb) w v fp hok (by rw [hfl]; omega) (by rw [hfl]; exact hR)).mono ?_
  rintro r w2 ⟨⟨vt, rfl, ft, ht, -, -⟩, hu2⟩
  exact ⟨⟨vt, ft, rfl, treeOf e hb, hres.symm, ht, hgood, by rw [hfl]; omega⟩, hu2⟩
theorem expTextI (T : List UInt8) (w : World) (v : Value) (ft : List Nat) (hG : Glob w) (h : ∃ x, textE x = T ∧ R_E ft w [v] x ∧ goodE 29 x = true ∧ (flatE x).length ≤ 1000) :
    Calls Tryz.prog 19 #[v] w fun r w' => r = .returned (es T) ∧ Upd [] w w' := by
  obtain ⟨x, rfl, hR, hg, hl⟩ := h
  refine (textI _ x w v ft (Nat.le_refl _) hl hg hG hR).mono ?_
  rintro r w1 ⟨rfl, n, rfl⟩
  exact ⟨rfl, (Upd.refl _ _).drewN n⟩

theorem linesT_step (x : Ln) (k : Nat) (h : k < x.sms.length) : linesT x (k + 1) = linesT x k ++ [lineT x.sms[k]] := by
  unfold linesT
  rw [List.take_succ_eq_append_getElem h, List.map_append]; rfl
theorem linesT_len (x : Ln) (k : Nat) (h : k ≤ x.sms.length) : (linesT x k).length = k + 1 := by
  unfold linesT; simp; omega
theorem headT_len {x : Ln} (h0 : 0 ≤ x.pars ∧ x.pars ≤ 21) (h1 : ∀ n ∈ x.start, 0 ≤ n ∧ n ≤ 99) (h2 : x.start.length ≤ 21) : (headT x).length ≤ 10200 := by
  have a := listTxt_len h1
  have b := itoa_two h0.1 (by omega)
  unfold headT sLin
  simp only [List.length_append, List.length_cons, List.length_nil]
  omega
theorem linT_len {x : Ln} (h : lnOk x = true) : (linT x).length ≤ 100000000 := by
  obtain ⟨h0, h1, h2, h3, h4⟩ := lnOk_txt h
  have := joinC_le 10 10200 (linesT x x.sms.length) (fun p hp => by
    unfold linesT at hp
    rcases List.mem_cons.1 hp with rfl | hp
    · exact headT_len h0 h1 h2
    · obtain ⟨s, hs, rfl⟩ := List.mem_map.1 hp
      exact lineT_len (h4 s (List.mem_of_mem_take hs)))
  rw [linesT_len x _ (Nat.le_refl _)] at this
  unfold linT
  omega

set_option maxRecDepth 20000 in
set_option maxHeartbeats 8000000 in
theorem linTextI (cs : List Value) (x : Ln) (w : World) (fp : List Nat) (hG : Glob w) (hR : R_Ln fp w cs x) (hF : LnFit x) :
    Calls Tryz.prog 7 #[.agg cs.toArray] w fun e w' => e = .returned (es (linTextF x)) ∧ Upd [] w w' := by
  obtain ⟨i0, hi, hz0, hz1, hz2⟩ := info_parts Tryz.info9
  have hR' := hR
  obtain ⟨v1, v2, f1, f2, rfl, r1, r2, rfl⟩ := hR
  obtain ⟨B, hB⟩ : ∃ B, B = w.heap.size := ⟨_, rfl⟩
  obtain ⟨wA, hwA⟩ : ∃ wA, wA = w.alloc (.cells #[ei x.pars, v1, v2] 30) := ⟨_, rfl⟩
  have uA : Upd [] w wA := by rw [hwA]; exact (Upd.refl _ _).alloc _
  have hL : RowAt wA B 30 [ei x.pars, v1, v2] := by rw [hwA, hB]; exact RowAt.new _ _ _
  have HL := Lib.hid hL
  have S1 := Lib.hid (validLnI _ x wA _ (R_Lnk.upd hR' uA (by simp)) hF)
  have HR1 := Lib.hid (fun W (hu : Upd [] w W) => R_I1k.upd r1 hu (by simp))
  obtain ⟨a2, cp2, rfl, l2, m2, hc⟩ := slQ_open r2
  unfold maxLen at m2
  obtain ⟨a1, cp1, rfl, -, -, -⟩ := slF1_open r1
  have HC := Lib.hid hc
  have HGL := Lib.hid hG
  have UA := Lib.hid uA
  have HMS := Lib.hid (show linTextF x = if lnOk x then linT x else [] from rfl)
  have HOKT := Lib.hid (fun (h : lnOk x = true) => lnOk_txt h)
  have HLL := Lib.hid (fun (h : lnOk x = true) => linT_len h)
  have hL1 := hL
  unfold RowAt at hL1
  clear r1 r2 hR' uA hF hL hc hG
  generalize linTextF x = Z at *
  generalize hok : lnOk x = ok at *
  go_enter Tryz.func7, Tryz.ntmps7
  go_upto_region 1 with (fail)
  rw [← hwA, ← hB]
  have HBB := Lib.hid hB
  clear hwA hB
  go_wp2_with (first
    | (refine wpList_load_row rfl 30 _ rfl B rfl 30 #[ei x.pars, .slice a1 x.start.length cp1, .slice a2 x.sms.length cp2] (0, 0) _ hL1 Tryz.underlying30 rfl Ln_size ?_)
    | fail)
  refine S1.out.mono ?_
  rintro e w1 ⟨rfl, hu1⟩
  have HU1 := Lib.hid (UA.out.trans hu1)
  have hL2 := HL.out.upd hu1 (by simp)
  have HL1 := Lib.hid hL2
  clear S1 hu1 HL hL1
  cases ok with
  | false =>
    have HZ := Lib.hid (show Z = [] by rw [HMS.out]; rfl)
    clear HMS HOKT HLL hL2
    go_wp2_with fail
    go_ret
    exact ⟨by rw [HZ.out]; rfl, HU1.out⟩
  | true =>
    have HZ := Lib.hid (show Z = linT x by rw [HMS.out]; rfl)
    obtain ⟨hp, hst, hsl, hsm, hsms⟩ := HOKT.out (by first | trivial | rfl)
    have HJL := Lib.hid (HLL.out (by first | trivial | rfl))
    have HS := Lib.hid hsms
    have c0 := hL2.cell 0 _ rfl
    have c1 := hL2.cell 1 _ rfl
    have c2 := hL2.cell 2 _ rfl
    have D1 := Lib.hid (fun W => decimalL x.pars W hp.1 (by omega))
    have D2 := Lib.hid (fun W (hu : Upd [] w W) => listTextI _ x.start W f1 (HR1.out W hu) (by omega) hst)
    obtain ⟨T1, hT1⟩ : ∃ T1, T1 = Lib.itoa x.pars := ⟨_, rfl⟩
    obtain ⟨T2, hT2⟩ : ∃ T2, T2 = listTxt x.start := ⟨_, rfl⟩
    have ht1 : T1.length ≤ 2 := by rw [hT1]; exact itoa_two hp.1 (by omega)
    have ht2 : T2.length ≤ 100 := by rw [hT2]; have := listTxt_len hst; omega
    rw [← hT1] at D1
    rw [← hT2] at D2
    obtain ⟨Q1, hQ1⟩ : ∃ Q1, Q1 = sLin ++ T1 := ⟨_, rfl⟩
    obtain ⟨Q2, hQ2⟩ : ∃ Q2, Q2 = Q1 ++ [58, 32] := ⟨_, rfl⟩
    obtain ⟨Q3, hQ3⟩ : ∃ Q3, Q3 = Q2 ++ T2 := ⟨_, rfl⟩
    have hh : headT x = Q3 := by rw [hQ3, hQ2, hQ1, hT1, hT2]; rfl
    have hc1 : (ByteArray.mk #[108, 105, 110, 101, 97, 114, 32] ++ ByteArray.mk T1.toArray) = ByteArray.mk Q1.toArray := by rw [hQ1, ← es_cat]; rfl
    have hc2 : (ByteArray.mk Q1.toArray ++ ByteArray.mk #[58, 32]) = ByteArray.mk Q2.toArray := by rw [hQ2, ← es_cat]
    have hc3 : (ByteArray.mk Q2.toArray ++ ByteArray.mk T2.toArray) = ByteArray.mk Q3.toArray := by rw [hQ3, ← es_cat]
    have b1 : Q1.length ≤ 9 := by rw [hQ1]; unfold sLin; simp; omega
    have b2 : Q2.length ≤ 11 := by rw [hQ2]; simp; omega
    have n1 : ¬ (9223372036854775807 < 7 + T1.length) := by omega
    have n2 : ¬ (9223372036854775807 < Q1.length + 2) := by omega
    have n3 : ¬ (9223372036854775807 < Q2.length + T2.length) := by omega
    have HH := Lib.hid hh
    clear HMS HOKT HLL hL2 hsms hst hT1 hT2 hQ1 hQ2 hQ3 hh hok
    go_upto_region 3 with (fail)
    go_region_held3 (fun w' => w'.cell? ⟨B, 0, none⟩ = some (ei x.pars) ∧ w'.cell? ⟨B, 1, none⟩ = some (.slice a1 x.start.length cp1)) (go_keep)
      (first
        | ((go_at_call 16); (refine (D1.out w1.drew).mono ?_); rintro e w2 ⟨rfl, hu2⟩; have hw2 : Upd [] w1 w2 := ((Upd.refl [] w1).drew).trans hu2; have c0_2 := hw2.keep c0; have c1_2 := hw2.keep c1)
        | ((go_at_call 17); (refine (D2.out w2 (HU1.out.trans hw2)).mono ?_); rintro e w3 ⟨rfl, hu3⟩; have hw3 : Upd [] w1 w3 := hw2.trans hu3; have c0_3 := hw3.keep c0; have c1_3 := hw3.keep c1))
    all_goals
      have HU3 := Lib.hid (HU1.out.trans hw3)
      have HL3 := Lib.hid (HL1.out.upd hw3 (by simp))
      have hown0 : (w3.alloc (.cells #[es Q3] 9)).ownsRow w.heap.size 9 1 (.slice (some ⟨w3.heap.size, 0, none⟩) 1 1) (0 + 1) ((linesT x 0).map es) := by
        have hl0 : linesT x 0 = [Q3] := by unfold linesT; rw [HH.out]; rfl
        rw [hl0]
        simpa using World.ownsRow_lit (base := w.heap.size) (e := 9) (size := 1) w3 #[es Q3] 1 HU3.out.size (by simp [maxLen]) (by simp)
      obtain ⟨w4, hw4⟩ : ∃ w4, w4 = w3.alloc (.cells #[es Q3] 9) := ⟨_, rfl⟩
      have HU4 := Lib.hid (show Upd [] w w4 by rw [hw4]; exact HU3.out.alloc _)
      have HL4 := Lib.hid (show RowAt w4 B 30 [ei x.pars, .slice a1 x.start.length cp1, .slice a2 x.sms.length cp2] by rw [hw4]; exact HL3.out.upd ((Upd.refl [] _).alloc _) (by simp))
      obtain ⟨V, hV⟩ : ∃ V, V = Value.slice (some ⟨w3.heap.size, 0, none⟩) 1 1 := ⟨_, rfl⟩
      rw [← hw4, ← hV] at hown0
      have HO4 := Lib.hid hown0
      have d2 := HL4.out.cell 2 _ rfl
      (try clear hu2 hu3 hw2 hw3)
      (try clear c0_2 c1_2 c0_3 c1_3)
      clear hown0 hc1 hc2 hc3 n1 n2 n3 b1 b2 D1 D2 HL3 c0 c1 c2
      go_upto_region 4 with (fail)
      rw [← hw4, ← hV]
      clear hw4 hV
      go_wp2_with fail
      go_loopw [3, 22] (fun sp iv wr => ∃ (k : Nat) (sv : Value), sv = sp ∧ k ≤ x.sms.length ∧ iv = .int .i64 k ∧ Hid (Upd [] w wr) ∧ Hid (wr.ownsRow w.heap.size 9 1 sv (k + 1) ((linesT x k).map es))) (fun _ iv _ => x.sms.length - (intOf iv).toNat)
      case atStart => exact ⟨0, _, rfl, Nat.zero_le _, rfl, HU4, HO4⟩
      case round =>
        clear HU4 HO4 d2
        obtain ⟨wo, rfl⟩ : ∃ wo : World, wo = wr := ⟨_, rfl⟩
        obtain ⟨k, sv, rfl, hk, rfl, HU, HA⟩ := hrel
        by_cases hlt : k < x.sms.length
        · obtain ⟨b, off, u, f, rfl, -, -, -, hcell, -, hr⟩ := HC.out k hlt
          have hkl : (k : Int) < (x.sms.length : Int) := by omega
          have HTK := Lib.hid (linesT_step x k hlt)
          have hsx := HS.out _ (List.getElem_mem hlt)
          generalize x.sms[k] = s at *
          obtain ⟨v0, v1', v3, v4, f0, f1', f3, f4, rfl, r0, r1, r3, r4, -⟩ := id hr
          obtain ⟨d0, e0, rfl, -⟩ := slF1_open r0
          obtain ⟨d1, e1, rfl, -⟩ := slF2_open r1
          obtain ⟨d3, e3, rfl, -⟩ := slP_open r3
          obtain ⟨d4, e4, rfl, -⟩ := slP_open r4
          have q0 := HU.out.keep (hcell 0 _ rfl)
          have q1 := HU.out.keep (hcell 1 _ rfl)
          have q2 := HU.out.keep (hcell 2 _ rfl)
          have q3 := HU.out.keep (hcell 3 _ rfl)
          have q4 := HU.out.keep (hcell 4 _ rfl)
          simp only [Nat.add_zero] at q0
          obtain ⟨wB, hwB⟩ : ∃ wB, wB = wo.alloc (.cells #[.slice d0 s.sums.length e0, .slice d1 s.guard.length e1, es s.name, .slice d3 s.args.length e3, .slice d4 s.next.length e4] 48) := ⟨_, rfl⟩
          have uB : Upd [] wo wB := by rw [hwB]; exact (Upd.refl _ _).alloc _
          obtain ⟨M, hM⟩ : ∃ M, M = wo.heap.size := ⟨_, rfl⟩
          have hrM : RowAt wB M 48 [.slice d0 s.sums.length e0, .slice d1 s.guard.length e1, es s.name, .slice d3 s.args.length e3, .slice d4 s.next.length e4] := by rw [hwB, hM]; exact RowAt.new _ _ _
          have uwB := HU.out.trans uB
          have L1 := Lib.hid (fun W (hu : Upd [] wB W) => listTextI _ s.sums W f0 (R_I1k.upd r0 (uwB.trans hu) (by simp)) (by have := hsx.sl; omega) hsx.sums)
          have L2 := Lib.hid (fun W (hu : Upd [] wB W) => expTreeI s.guard _ W f1' hsx.g (R_T1k.upd r1 (uwB.trans hu) (by simp)))
          have L3 := Lib.hid (fun W (hu : Upd [] wB W) vt ft h => expTextI (expT s.guard) W vt ft (HGL.out.upd (uwB.trans hu)) h)
          have L4 := Lib.hid (fun W (hu : Upd [] wB W) => listedI _ s.args W f3 (HGL.out.upd (uwB.trans hu)) (R_T2k.upd r3 (uwB.trans hu) (by simp)) (by have := hsx.al; omega) hsx.a)
          have L5 := Lib.hid (fun W (hu : Upd [] wB W) => nextTextI _ s.next W f4 (HGL.out.upd (uwB.trans hu)) (R_T2k.upd r4 (uwB.trans hu) (by simp)) (by have := hsx.nl; omega) hsx.n)
          obtain ⟨A1, hA1⟩ : ∃ T, T = listTxt s.sums := ⟨_, rfl⟩
          obtain ⟨A2, hA2⟩ : ∃ T, T = expT s.guard := ⟨_, rfl⟩
          obtain ⟨A3, hA3⟩ : ∃ T, T = argsTxt s.args := ⟨_, rfl⟩
          obtain ⟨A4, hA4⟩ : ∃ T, T = nextTxt s.next := ⟨_, rfl⟩
          have a1' : A1.length ≤ 100 := by rw [hA1]; have := listTxt_len hsx.sums; have := hsx.sl; omega
          have a2' : A2.length ≤ 420 := by rw [hA2]; exact expT_len _
          have hll := lineT_len hsx
          rw [← hA1] at L1
          rw [← hA2] at L2 L3
          rw [← hA3] at L4
          rw [← hA4] at L5
          obtain ⟨N, hN⟩ : ∃ N, N = s.name := ⟨_, rfl⟩
          obtain ⟨P1, hP1⟩ : ∃ P, P = sSum ++ A1 := ⟨_, rfl⟩
          obtain ⟨P2, hP2⟩ : ∃ P, P = P1 ++ sIf := ⟨_, rfl⟩
          obtain ⟨P3, hP3⟩ : ∃ P, P = P2 ++ A2 := ⟨_, rfl⟩
          obtain ⟨P4, hP4⟩ : ∃ P, P = P3 ++ sDo := ⟨_, rfl⟩
          obtain ⟨P5, hP5⟩ : ∃ P, P = P4 ++ N := ⟨_, rfl⟩
          obtain ⟨P6, hP6⟩ : ∃ P, P = P5 ++ A3 := ⟨_, rfl⟩
          obtain ⟨P7, hP7⟩ : ∃ P, P = P6 ++ sThen := ⟨_, rfl⟩
          obtain ⟨P8, hP8⟩ : ∃ P, P = P7 ++ A4 := ⟨_, rfl⟩
          have hline : lineT s = P8 := by rw [hP8, hP7, hP6, hP5, hP4, hP3, hP2, hP1, hA1, hA2, hA3, hA4, hN]; rfl
          rw [hline] at hll HTK
          have g8 : P7.length + A4.length = P8.length := by rw [hP8]; simp
          have g7 : P6.length + 6 = P7.length := by rw [hP7]; simp [sThen]
          have g6 : P5.length + A3.length = P6.length := by rw [hP6]; simp
          have g5 : P4.length + N.length = P5.length := by rw [hP5]; simp
          have g4 : P3.length + 4 = P4.length := by rw [hP4]; simp [sDo]
          have g3 : P2.length + A2.length = P3.length := by rw [hP3]; simp
          have g2 : P1.length + 4 = P2.length := by rw [hP2]; simp [sIf]
          have g1 : 4 + A1.length = P1.length := by rw [hP1]; simp [sSum]; omega
          have k1 : (ByteArray.mk #[115, 117, 109, 32] ++ ByteArray.mk A1.toArray) = ByteArray.mk P1.toArray := by rw [hP1, ← es_cat]; rfl
          have k2 : (ByteArray.mk P1.toArray ++ ByteArray.mk #[32, 105, 102, 32]) = ByteArray.mk P2.toArray := by rw [hP2, ← es_cat]; rfl
          have k3 : (ByteArray.mk P2.toArray ++ ByteArray.mk A2.toArray) = ByteArray.mk P3.toArray := by rw [hP3, ← es_cat]
          have k4 : (ByteArray.mk P3.toArray ++ ByteArray.mk #[32, 100, 111, 32]) = ByteArray.mk P4.toArray := by rw [hP4, ← es_cat]; rfl
          have k5 : (ByteArray.mk P4.toArray ++ ByteArray.mk N.toArray) = ByteArray.mk P5.toArray := by rw [hP5, ← es_cat]
          have k6 : (ByteArray.mk P5.toArray ++ ByteArray.mk A3.toArray) = ByteArray.mk P6.toArray := by rw [hP6, ← es_cat]
          have k7 : (ByteArray.mk P6.toArray ++ ByteArray.mk #[32, 116, 104, 101, 110, 32]) = ByteArray.mk P7.toArray := by rw [hP7, ← es_cat]; rfl
          have k8 : (ByteArray.mk P7.toArray ++ ByteArray.mk A4.toArray) = ByteArray.mk P8.toArray := by rw [hP8, ← es_cat]
          have n1 : ¬ (9223372036854775807 < 4 + A1.length) := by omega
          have n2 : ¬ (9223372036854775807 < P1.length + 4) := by omega
          have n3 : ¬ (9223372036854775807 < P2.length + A2.length) := by omega
          have n4 : ¬ (9223372036854775807 < P3.length + 4) := by omega
          have n5 : ¬ (9223372036854775807 < P4.length + N.length) := by omega
          have n6 : ¬ (9223372036854775807 < P5.length + A3.length) := by omega
          have n7 : ¬ (9223372036854775807 < P6.length + 6) := by omega
          have n8 : ¬ (9223372036854775807 < P7.length + A4.length) := by omega
          have c70 := hrM.cell 0 _ rfl
          have c71 := hrM.cell 1 _ rfl
          have c72 := hrM.cell 2 _ rfl
          have c73 := hrM.cell 3 _ rfl
          have c74 := hrM.cell 4 _ rfl
          rw [← hN] at q2 hwB c72
          rw [← hN] at hrM
          have HUB := Lib.hid uB
          have HRM := Lib.hid hrM
          have HMO := Lib.hid (show ∀ c ∈ sv.ownBlock.toList, c < M from fun c hc => by rw [hM]; exact (HA.out.lt c (by simpa using hc)).2)
          obtain ⟨ca, cc, rfl⟩ := ownsRow_form HA.out
          clear g1 g2 g3 g4 g5 g6 g7 g8 hP1 hP2 hP3 hP4 hP5 hP6 hP7 hP8 hA1 hA2 hA3 hA4 hline hll a1' a2' hcell hr r0 r1 r3 r4 uB hrM uwB hsx hN
          go_upto_region 7 with (fail)
          rw [← hwB, ← hM]
          clear hwB hM q0 q1 q2 q3 q4
          go_region_held3 (fun w' => w'.cell? ⟨M, 0, none⟩ = some (.slice d0 s.sums.length e0) ∧ w'.cell? ⟨M, 1, none⟩ = some (.slice d1 s.guard.length e1) ∧ w'.cell? ⟨M, 2, none⟩ = some (es N) ∧ w'.cell? ⟨M, 3, none⟩ = some (.slice d3 s.args.length e3) ∧ w'.cell? ⟨M, 4, none⟩ = some (.slice d4 s.next.length e4)) (go_keep)
            (first
              | ((go_at_call 17); (refine (L1.out wB.drew ((Upd.refl [] wB).drew)).mono ?_); rintro e w2 ⟨rfl, hu2⟩; have hw2 : Upd [] wB w2 := ((Upd.refl [] wB).drew).trans hu2; have c70_2 := hw2.keep c70; have c71_2 := hw2.keep c71; have c72_2 := hw2.keep c72; have c73_2 := hw2.keep c73; have c74_2 := hw2.keep c74)
              | ((go_at_call 18); (refine (L2.out w2 hw2).mono ?_); rintro e w3 ⟨⟨vt, ft, rfl, hx3⟩, hu3⟩; have hw3 : Upd [] wB w3 := hw2.trans hu3; have c70_3 := hw3.keep c70; have c71_3 := hw3.keep c71; have c72_3 := hw3.keep c72; have c73_3 := hw3.keep c73; have c74_3 := hw3.keep c74)
              | ((go_at_call 19); (refine (L3.out w3 hw3 vt ft hx3).mono ?_); rintro e w4 ⟨rfl, hu4⟩; have hw4 : Upd [] wB w4 := hw3.trans hu4; have c70_4 := hw4.keep c70; have c71_4 := hw4.keep c71; have c72_4 := hw4.keep c72; have c73_4 := hw4.keep c73; have c74_4 := hw4.keep c74)
              | ((go_at_call 20); (refine (L4.out w4 hw4).mono ?_); rintro e w5 ⟨rfl, hu5⟩; have hw5 : Upd [] wB w5 := hw4.trans hu5; have c70_5 := hw5.keep c70; have c71_5 := hw5.keep c71; have c72_5 := hw5.keep c72; have c73_5 := hw5.keep c73; have c74_5 := hw5.keep c74)
              | ((go_at_call 21); (refine (L5.out w5 hw5).mono ?_); rintro e w6 ⟨rfl, hu6⟩; have hw6 : Upd [] wB w6 := hw5.trans hu6; have c70_6 := hw6.keep c70; have c71_6 := hw6.keep c71; have c72_6 := hw6.keep c72; have c73_6 := hw6.keep c73; have c74_6 := hw6.keep c74; have hown6 := ownsRow_upd HA.out (HUB.out.trans hw6); have hs6 : w.heap.size ≤ w6.heap.size := ((HU.out.trans HUB.out).trans hw6).size)
              | (refine step_append_lies _ (by rfl) _ _ 44 (by rfl) w.heap.size 9 i0 (es []) 1 16 Tryz.underlying44 hi hz0 hz1 hz2 rfl (by decide) _ (k + 1) ((linesT x k).map es) (by rfl) (hown6.alloc _) ⟨w6.heap.size, 0, none⟩ 1 1 [es P8] (by rfl) (by rfl) (by intro j u hj; rw [addr_add, Nat.zero_add]; exact cell_new w6 #[es P8] _ _ rfl j u (by simpa using hj)) (by simp [Value.oneCell']) (by decide) (by unfold maxLen; omega) (by omega) (by simp; omega) (w6.heap.size + 1) (by simp) ?_; intro g gcap w7 hown7 hg7 hat7 hlt7; have hu7 : Upd [] w w7 := ((((HU.out.trans HUB.out).trans hw6).alloc (.cells #[es P8] 9))).grown hg7 (fun c hc => Or.inl (hown6.lt c hc).1); have hv7 : Upd (Value.slice ca (k + 1) cc).ownBlock.toList (w6.alloc (.cells #[es P8] 9)) w7 := (Upd.refl _ _).grown hg7 (fun k hk => Or.inr (by simp [hk])); have hr7 := (HRM.out.upd (hw6.alloc (.cells #[es P8] 9)) (by simp)).upd hv7 (fun hm => Nat.lt_irrefl _ (HMO.out _ hm)); have c70_7 := hr7.cell 0 _ rfl; have c71_7 := hr7.cell 1 _ rfl; have c72_7 := hr7.cell 2 _ rfl; have c73_7 := hr7.cell 3 _ rfl; have c74_7 := hr7.cell 4 _ rfl))
          all_goals
            have HO7 := Lib.hid (show w7.ownsRow w.heap.size 9 1 (.slice (some ⟨g, 0, none⟩) (k + 1 + 1) gcap) (k + 1 + 1) ((linesT x (k + 1)).map es) by rw [HTK.out, List.map_append]; exact hown7)
            have HU7 := Lib.hid hu7
            clear hown7 hg7 hat7 hlt7 hv7 hu7 hr7
            go_wp2_with fail
            go_roundw
            case rel => exact ⟨k + 1, _, rfl, by omega, by go_num, HU7, HO7⟩
            case measure => simp [intOf]; omega
        · obtain rfl : k = x.sms.length := by omega
          obtain ⟨ca, cc, rfl⟩ := ownsRow_form HA.out
          obtain ⟨fo, ho1, -, -⟩ := New.ofOwns (w := w) (e := 9) (enc := es) (xs := linesT x x.sms.length) (by rw [linesT_len x _ (Nat.le_refl _)]; simpa using HA.out)
          have hll := linesT_len x x.sms.length (Nat.le_refl _)
          have S5 := joinL 10 _ (linesT x x.sms.length) wo fo ho1 (by omega) (by omega) HJL.out
          have HS5 := Lib.hid S5
          have HZ5 := Lib.hid (show Z = joinC 10 (linesT x x.sms.length) from HZ.out)
          generalize joinC 10 (linesT x x.sms.length) = Y at *
          clear ho1 HA S5 hll
          go_wp2_with fail
          refine HS5.out.mono ?_
          rintro r w6 ⟨rfl, hu6⟩
          have HU6 := Lib.hid (HU.out.trans hu6)
          clear hu6 HS5
          go_wp2_with fail
          go_ret
          exact ⟨by rw [HZ5.out]; rfl, HU6.out⟩

end Go.Proofs.YtnfghgaadnobbaaGreatDoor

namespace Go.Proofs.YtnfghgaadnobbaaGreatDoor
open Go.RowKit

theorem expTextS (v : Value) (e : List Tm) (w : World) (fp : List Nat) (hb : eOk e = true) (hR : R_T1 fp w [v] e) :
    Calls Tryz.prog 31 #[v] w fun r w' => r = .returned (es (expT e)) ∧ Upd [] w w' := by
  have hres : expT e = textE (treeOf e hb) := by unfold expT; rw [dif_pos hb]
  obtain ⟨hok, hfl⟩ := treeOf_ok e hb
  have hlen := eOk_len hb
  have hgood := eOk_good hb _ hok hfl
  rw [hres]
  exact l04TextS (treeOf e hb) v w fp hok (by rw [hfl]; exact hb) hgood (by rw [hfl]; omega) (by rw [hfl]; exact hR)

theorem rowSoFar {α : Type} (c : UInt8) (f : α → List UInt8) (l : List α) (k : Nat) (h : k < l.length) (h0 : 0 < k) : joinC c ((l.take (k + 1)).map f) = (joinC c ((l.take k).map f) ++ [c]) ++ f l[k] := by
  rw [List.take_succ_eq_append_getElem h, List.map_append, List.map_cons, List.map_nil, joinC_end c _ _ (by
    intro hn
    have := congrArg List.length hn
    rw [List.length_map, List.length_take, List.length_nil] at this
    omega), List.append_assoc]
theorem rowFirst {α : Type} (c : UInt8) (f : α → List UInt8) (l : List α) (k : Nat) (h : k < l.length) (h0 : k = 0) : joinC c ((l.take (k + 1)).map f) = f l[k] := by
  subst h0
  rw [List.take_succ_eq_append_getElem h]; rfl
theorem decSmall (n : Int) (w : World) (h0 : 0 ≤ n) (h1 : n ≤ 99) : Calls Tryz.prog 29 #[.int .i64 n] w fun e w' => e = .returned (es (Lib.itoa n)) ∧ Upd [] w w' := by
  obtain ⟨q, rfl⟩ : ∃ q : Nat, n = q := ⟨n.toNat, by omega⟩
  exact l01DecP q w (by omega)
theorem catE (a b : List UInt8) : (ByteArray.mk a.toArray ++ ByteArray.mk b.toArray) = ByteArray.mk (a ++ b).toArray := ByteArray.mk_append_mk a b

set_option maxRecDepth 20000 in
set_option maxHeartbeats 2000000 in
theorem listTextS (v : Value) (xs : List Int) (w : World) (fp : List Nat) (hR : R_I1 fp w [v] xs) (hl : xs.length ≤ 64) (hv : ∀ x ∈ xs, 0 ≤ x ∧ x ≤ 99) :
    Calls Tryz.prog 30 #[v] w fun e w' => e = .returned (es (listTxt xs)) ∧ Upd [] w w' := by
  obtain ⟨a, cap, rfl, g1, g2, hc⟩ := slF1_open hR
  unfold maxLen at g2
  have HC := Lib.hid hc
  have HV := Lib.hid hv
  clear hR hc hv
  by_cases h0 : xs.length = 0
  · have HZ := Lib.hid (show listTxt xs = [45] by unfold listTxt; rw [if_pos h0])
    have e0 : ((xs.length : Int) == 0) = true := by rw [beq_iff_eq]; omega
    go_enter Tryz.func30, Tryz.ntmps30
    go_wp2_with fail
    go_ret
    exact ⟨by rw [HZ.out]; rfl, Upd.refl _ _⟩
  · have HZ := Lib.hid (show listTxt xs = joinC 44 (xs.map Lib.itoa) by unfold listTxt; rw [if_neg h0])
    have e0 : ((xs.length : Int) == 0) = false := by rw [beq_eq_false_iff_ne]; omega
    clear h0
    generalize listTxt xs = Z at *
    go_enter Tryz.func30, Tryz.ntmps30
    go_wp2_with fail
    go_loopw [3, 4] (fun tv iv wr => ∃ (k : Nat) (A : List UInt8), k ≤ xs.length ∧ iv = .int .i64 k ∧ tv = es A ∧ A.length ≤ 3 * k ∧ Hid (A = joinC 44 ((xs.take k).map Lib.itoa)) ∧ Hid (Upd [] w wr)) (fun _ iv _ => xs.length - (intOf iv).toNat)
    case atStart => exact ⟨0, [], Nat.zero_le _, rfl, rfl, by simp, Lib.hid rfl, Lib.hid (Upd.refl _ _)⟩
    case round =>
      obtain ⟨wo, rfl⟩ : ∃ wo : World, wo = wr := ⟨_, rfl⟩
      obtain ⟨k, A, hk, rfl, rfl, hA, HJ, HU⟩ := hrel
      by_cases hlt : k < xs.length
      · obtain ⟨b, off, rfl, -, -, p0⟩ := HC.out k hlt
        have p0 := HU.out.keep p0
        have hkl : (k : Int) < (xs.length : Int) := by omega
        have hgv := HV.out _ (List.getElem_mem hlt)
        by_cases hk0 : k = 0
        · have HT := Lib.hid (rowFirst 44 Lib.itoa xs k hlt hk0)
          have hA0 : A = [] := by rw [HJ.out, hk0]; rfl
          have hk1 : decide ((0 : Int) < (k : Int)) = false := decide_eq_false (by omega)
          have hk2 : ¬ (0 : Int) < (k : Int) := by omega
          subst hA0
          clear hk0
          have S1 := Lib.hid (decSmall xs[k] wo hgv.1 (by omega))
          have hbl := itoa_two hgv.1 hgv.2
          skip
          generalize Lib.itoa xs[k] = B at *
          have hcat : (ByteArray.mk #[] ++ ByteArray.mk B.toArray) = ByteArray.mk B.toArray := catE [] B
          have hz : ¬ (9223372036854775807 < 0 + B.length) := by omega
          have hz2 : ¬ (9223372036854775807 < B.length) := by omega
          go_wp2_with fail
          refine S1.out.mono ?_
          rintro r w2 ⟨rfl, hu2⟩
          have HU2 := Lib.hid (HU.out.trans hu2)
          clear hu2 S1
          go_wp2_with fail
          go_roundw
          case rel => exact ⟨k + 1, B, by omega, by go_num, rfl, by omega, Lib.hid HT.out.symm, HU2⟩
          case measure => simp [intOf]; omega
        · have HT := Lib.hid (rowSoFar 44 Lib.itoa xs k hlt (by omega))
          have hk1 : decide ((0 : Int) < (k : Int)) = true := decide_eq_true (by omega)
          have hk2 : (0 : Int) < (k : Int) := by omega
          have S1 := Lib.hid (decSmall xs[k] wo hgv.1 (by omega))
          have hbl := itoa_two hgv.1 hgv.2
          skip
          generalize Lib.itoa xs[k] = B at *
          obtain ⟨A1, hA1⟩ : ∃ A1, A1 = A ++ [44] := ⟨_, rfl⟩
          obtain ⟨A2, hA2⟩ : ∃ A2, A2 = A1 ++ B := ⟨_, rfl⟩
          have hl1 : A1.length = A.length + 1 := by rw [hA1]; simp
          have hl2 : A2.length = A1.length + B.length := by rw [hA2]; simp
          have HE := Lib.hid (show A2 = joinC 44 ((xs.take (k + 1)).map Lib.itoa) by rw [HT.out, ← HJ.out, hA2, hA1])
          have hcat1 : (ByteArray.mk A.toArray ++ ByteArray.mk #[44]) = ByteArray.mk A1.toArray := by rw [hA1, ← catE]
          have hcat2 : (ByteArray.mk A1.toArray ++ ByteArray.mk B.toArray) = ByteArray.mk A2.toArray := by rw [hA2, ← catE]
          have hm : A2.length ≤ 3 * (k + 1) := by rw [hl2, hl1]; omega
          have hz : ¬ (9223372036854775807 < A.length + 1) := by omega
          have hz2 : ¬ (9223372036854775807 < A1.length + B.length) := by omega
          have HM := Lib.hid hm
          clear hA1 hA2 hl1 hl2 hm hk0 HT
          go_wp2_with fail
          refine S1.out.mono ?_
          rintro r w2 ⟨rfl, hu2⟩
          have HU2 := Lib.hid (HU.out.trans hu2)
          clear hu2 S1
          go_wp2_with fail
          go_roundw
          case rel => exact ⟨k + 1, A2, by omega, by go_num, rfl, HM.out, HE, HU2⟩
          case measure => simp [intOf]; omega
      · obtain rfl : k = xs.length := by omega
        have HJ2 := Lib.hid (show A = joinC 44 (xs.map Lib.itoa) by rw [HJ.out, List.take_length])
        clear HJ
        go_wp2_with fail
        go_ret
        exact ⟨by rw [HZ.out, ← HJ2.out]; rfl, HU.out⟩

set_option maxRecDepth 20000 in
set_option maxHeartbeats 2000000 in
theorem rowS44 (v : Value) (xs : List (List Tm)) (w : World) (fp : List Nat) (hR : R_T2 fp w [v] xs) (hl : xs.length ≤ 1000) (hv : ∀ e ∈ xs, eOk e = true) :
    Calls Tryz.prog 32 #[v, .string ⟨#[44]⟩] w fun e w' => e = .returned (es (joinC 44 (xs.map expT))) ∧ Upd [] w w' := by
  obtain ⟨a, cap, rfl, g1, g2, hc⟩ := slP_open hR
  unfold maxLen at g2
  have HC := Lib.hid hc
  have HV := Lib.hid hv
  clear hR hc hv
  · go_enter Tryz.func32, Tryz.ntmps32
    go_wp2_with fail
    go_loopw [5, 6] (fun tv iv wr => ∃ (k : Nat) (A : List UInt8), k ≤ xs.length ∧ iv = .int .i64 k ∧ tv = es A ∧ A.length ≤ 421 * k ∧ Hid (A = joinC 44 ((xs.take k).map expT)) ∧ Hid (Upd [] w wr)) (fun _ iv _ => xs.length - (intOf iv).toNat)
    case atStart => exact ⟨0, [], Nat.zero_le _, rfl, rfl, by simp, Lib.hid rfl, Lib.hid (Upd.refl _ _)⟩
    case round =>
      obtain ⟨wo, rfl⟩ : ∃ wo : World, wo = wr := ⟨_, rfl⟩
      obtain ⟨k, A, hk, rfl, rfl, hA, HJ, HU⟩ := hrel
      by_cases hlt : k < xs.length
      · obtain ⟨b, off, u, f, rfl, -, -, p0, -, hr⟩ := HC.out k hlt
        have p0 := HU.out.keep p0
        have hkl : (k : Int) < (xs.length : Int) := by omega
        have hgv := HV.out _ (List.getElem_mem hlt)
        by_cases hk0 : k = 0
        · have HT := Lib.hid (rowFirst 44 expT xs k hlt hk0)
          have hA0 : A = [] := by rw [HJ.out, hk0]; rfl
          have hk1 : decide ((0 : Int) < (k : Int)) = false := decide_eq_false (by omega)
          have hk2 : ¬ (0 : Int) < (k : Int) := by omega
          subst hA0
          clear hk0
          have S1 := Lib.hid (expTextS u xs[k] wo f hgv (R_T1k.upd hr HU.out (by simp)))
          have hbl := expT_len xs[k]
          obtain ⟨d1, e1, rfl, -⟩ := slF2_open hr
          generalize expT xs[k] = B at *
          have hcat : (ByteArray.mk #[] ++ ByteArray.mk B.toArray) = ByteArray.mk B.toArray := catE [] B
          have hz : ¬ (9223372036854775807 < 0 + B.length) := by omega
          have hz2 : ¬ (9223372036854775807 < B.length) := by omega
          go_wp2_with fail
          refine S1.out.mono ?_
          rintro r w2 ⟨rfl, hu2⟩
          have HU2 := Lib.hid (HU.out.trans hu2)
          clear hu2 S1
          go_wp2_with fail
          go_roundw
          case rel => exact ⟨k + 1, B, by omega, by go_num, rfl, by omega, Lib.hid HT.out.symm, HU2⟩
          case measure => simp [intOf]; omega
        · have HT := Lib.hid (rowSoFar 44 expT xs k hlt (by omega))
          have hk1 : decide ((0 : Int) < (k : Int)) = true := decide_eq_true (by omega)
          have hk2 : (0 : Int) < (k : Int) := by omega
          have S1 := Lib.hid (expTextS u xs[k] wo f hgv (R_T1k.upd hr HU.out (by simp)))
          have hbl := expT_len xs[k]
          obtain ⟨d1, e1, rfl, -⟩ := slF2_open hr
          generalize expT xs[k] = B at *
          obtain ⟨A1, hA1⟩ : ∃ A1, A1 = A ++ [44] := ⟨_, rfl⟩
          obtain ⟨A2, hA2⟩ : ∃ A2, A2 = A1 ++ B := ⟨_, rfl⟩
          have hl1 : A1.length = A.length + 1 := by rw [hA1]; simp
          have hl2 : A2.length = A1.length + B.length := by rw [hA2]; simp
          have HE := Lib.hid (show A2 = joinC 44 ((xs.take (k + 1)).map expT) by rw [HT.out, ← HJ.out, hA2, hA1])
          have hcat1 : (ByteArray.mk A.toArray ++ ByteArray.mk #[44]) = ByteArray.mk A1.toArray := by rw [hA1, ← catE]
          have hcat2 : (ByteArray.mk A1.toArray ++ ByteArray.mk B.toArray) = ByteArray.mk A2.toArray := by rw [hA2, ← catE]
          have hm : A2.length ≤ 421 * (k + 1) := by rw [hl2, hl1]; omega
          have hz : ¬ (9223372036854775807 < A.length + 1) := by omega
          have hz2 : ¬ (9223372036854775807 < A1.length + B.length) := by omega
          have HM := Lib.hid hm
          clear hA1 hA2 hl1 hl2 hm hk0 HT
          go_wp2_with fail
          refine S1.out.mono ?_
          rintro r w2 ⟨rfl, hu2⟩
          have HU2 := Lib.hid (HU.out.trans hu2)
          clear hu2 S1
          go_wp2_with fail
          go_roundw
          case rel => exact ⟨k + 1, A2, by omega, by go_num, rfl, HM.out, HE, HU2⟩
          case measure => simp [intOf]; omega
      · obtain rfl : k = xs.length := by omega
        have HJ2 := Lib.hid (show A = joinC 44 (xs.map expT) by rw [HJ.out, List.take_length])
        clear HJ
        go_wp2_with fail
        go_ret
        exact ⟨by rw [← HJ2.out]; rfl, HU.out⟩

set_option maxRecDepth 20000 in
set_option maxHeartbeats 2000000 in
theorem rowS59 (v : Value) (xs : List (List Tm)) (w : World) (fp : List Nat) (hR : R_T2 fp w [v] xs) (hl : xs.length ≤ 1000) (hv : ∀ e ∈ xs, eOk e = true) :
    Calls Tryz.prog 32 #[v, .string ⟨#[59]⟩] w fun e w' => e = .returned (es (joinC 59 (xs.map expT))) ∧ Upd [] w w' := by
  obtain ⟨a, cap, rfl, g1, g2, hc⟩ := slP_open hR
  unfold maxLen at g2
  have HC := Lib.hid hc
  have HV := Lib.hid hv
  clear hR hc hv
  · go_enter Tryz.func32, Tryz.ntmps32
    go_wp2_with fail
    go_loopw [5, 6] (fun tv iv wr => ∃ (k : Nat) (A : List UInt8), k ≤ xs.length ∧ iv = .int .i64 k ∧ tv = es A ∧ A.length ≤ 421 * k ∧ Hid (A = joinC 59 ((xs.take k).map expT)) ∧ Hid (Upd [] w wr)) (fun _ iv _ => xs.length - (intOf iv).toNat)
    case atStart => exact ⟨0, [], Nat.zero_le _, rfl, rfl, by simp, Lib.hid rfl, Lib.hid (Upd.refl _ _)⟩
    case round =>
      obtain ⟨wo, rfl⟩ : ∃ wo : World, wo = wr := ⟨_, rfl⟩
      obtain ⟨k, A, hk, rfl, rfl, hA, HJ, HU⟩ := hrel
      by_cases hlt : k < xs.length
      · obtain ⟨b, off, u, f, rfl, -, -, p0, -, hr⟩ := HC.out k hlt
        have p0 := HU.out.keep p0
        have hkl : (k : Int) < (xs.length : Int) := by omega
        have hgv := HV.out _ (List.getElem_mem hlt)
        by_cases hk0 : k = 0
        · have HT := Lib.hid (rowFirst 59 expT xs k hlt hk0)
          have hA0 : A = [] := by rw [HJ.out, hk0]; rfl
          have hk1 : decide ((0 : Int) < (k : Int)) = false := decide_eq_false (by omega)
          have hk2 : ¬ (0 : Int) < (k : Int) := by omega
          subst hA0
          clear hk0
          have S1 := Lib.hid (expTextS u xs[k] wo f hgv (R_T1k.upd hr HU.out (by simp)))
          have hbl := expT_len xs[k]
          obtain ⟨d1, e1, rfl, -⟩ := slF2_open hr
          generalize expT xs[k] = B at *
          have hcat : (ByteArray.mk #[] ++ ByteArray.mk B.toArray) = ByteArray.mk B.toArray := catE [] B
          have hz : ¬ (9223372036854775807 < 0 + B.length) := by omega
          have hz2 : ¬ (9223372036854775807 < B.length) := by omega
          go_wp2_with fail
          refine S1.out.mono ?_
          rintro r w2 ⟨rfl, hu2⟩
          have HU2 := Lib.hid (HU.out.trans hu2)
          clear hu2 S1
          go_wp2_with fail
          go_roundw
          case rel => exact ⟨k + 1, B, by omega, by go_num, rfl, by omega, Lib.hid HT.out.symm, HU2⟩
          case measure => simp [intOf]; omega
        · have HT := Lib.hid (rowSoFar 59 expT xs k hlt (by omega))
          have hk1 : decide ((0 : Int) < (k : Int)) = true := decide_eq_true (by omega)
          have hk2 : (0 : Int) < (k : Int) := by omega
          have S1 := Lib.hid (expTextS u xs[k] wo f hgv (R_T1k.upd hr HU.out (by simp)))
          have hbl := expT_len xs[k]
          obtain ⟨d1, e1, rfl, -⟩ := slF2_open hr
          generalize expT xs[k] = B at *
          obtain ⟨A1, hA1⟩ : ∃ A1, A1 = A ++ [59] := ⟨_, rfl⟩
          obtain ⟨A2, hA2⟩ : ∃ A2, A2 = A1 ++ B := ⟨_, rfl⟩
          have hl1 : A1.length = A.length + 1 := by rw [hA1]; simp
          have hl2 : A2.length = A1.length + B.length := by rw [hA2]; simp
          have HE := Lib.hid (show A2 = joinC 59 ((xs.take (k + 1)).map expT) by rw [HT.out, ← HJ.out, hA2, hA1])
          have hcat1 : (ByteArray.mk A.toArray ++ ByteArray.mk #[59]) = ByteArray.mk A1.toArray := by rw [hA1, ← catE]
          have hcat2 : (ByteArray.mk A1.toArray ++ ByteArray.mk B.toArray) = ByteArray.mk A2.toArray := by rw [hA2, ← catE]
          have hm : A2.length ≤ 421 * (k + 1) := by rw [hl2, hl1]; omega
          have hz : ¬ (9223372036854775807 < A.length + 1) := by omega
          have hz2 : ¬ (9223372036854775807 < A1.length + B.length) := by omega
          have HM := Lib.hid hm
          clear hA1 hA2 hl1 hl2 hm hk0 HT
          go_wp2_with fail
          refine S1.out.mono ?_
          rintro r w2 ⟨rfl, hu2⟩
          have HU2 := Lib.hid (HU.out.trans hu2)
          clear hu2 S1
          go_wp2_with fail
          go_roundw
          case rel => exact ⟨k + 1, A2, by omega, by go_num, rfl, HM.out, HE, HU2⟩
          case measure => simp [intOf]; omega
      · obtain rfl : k = xs.length := by omega
        have HJ2 := Lib.hid (show A = joinC 59 (xs.map expT) by rw [HJ.out, List.take_length])
        clear HJ
        go_wp2_with fail
        go_ret
        exact ⟨by rw [← HJ2.out]; rfl, HU.out⟩

end Go.Proofs.YtnfghgaadnobbaaGreatDoor

namespace Go.Proofs.YtnfghgaadnobbaaGreatDoor
open Go.RowKit

theorem linesS_step (x : Ln) (k : Nat) (h : k < x.sms.length) : joinC 10 (linesT x (k + 1)) = joinC 10 (linesT x k) ++ ([10] ++ lineT x.sms[k]) := by
  have : linesT x (k + 1) = linesT x k ++ [lineT x.sms[k]] := by
    unfold linesT
    rw [List.take_succ_eq_append_getElem h, List.map_append]; rfl
  rw [this, joinC_end _ _ _ (by unfold linesT; simp)]

set_option maxRecDepth 20000 in
set_option maxHeartbeats 8000000 in
theorem linTextS0 (P : Nat) (v1 v2 : Value) (x : Ln) (w : World) (f1 f2 : List Nat) (hAt : LnAt w P v1 v2 f1 f2 x) (hok : lnOk x = true) :
    Calls Tryz.prog 12 #[.pointer (some ⟨P, 0, none⟩)] w fun e w' => e = .returned (es (linT x)) ∧ Upd [] w w' := by
  obtain ⟨hp, hst, hsl, hsm, hsms⟩ := lnOk_txt hok
  obtain ⟨c0, c1, c2, r1, r2⟩ := hAt
  obtain ⟨a2, cp2, rfl, l2, m2, hc⟩ := slQ_open r2
  unfold maxLen at m2
  obtain ⟨a1, cp1, rfl, -, -, -⟩ := slF1_open r1
  have HC := Lib.hid hc
  have HS := Lib.hid hsms
  have HC2 := Lib.hid c2
  have D1 := Lib.hid (fun W => decSmall x.pars W hp.1 (by omega))
  have D2 := Lib.hid (fun W (hu : Upd [] w W) => listTextS _ x.start W f1 (R_I1k.upd r1 hu (by simp)) (by omega) hst)
  obtain ⟨T1, hT1⟩ : ∃ T1, T1 = Lib.itoa x.pars := ⟨_, rfl⟩
  obtain ⟨T2, hT2⟩ : ∃ T2, T2 = listTxt x.start := ⟨_, rfl⟩
  have ht1 : T1.length ≤ 2 := by rw [hT1]; exact itoa_two hp.1 (by omega)
  have ht2 : T2.length ≤ 100 := by rw [hT2]; have := listTxt_len hst; omega
  rw [← hT1] at D1
  rw [← hT2] at D2
  obtain ⟨Q1, hQ1⟩ : ∃ Q1, Q1 = sLin ++ T1 := ⟨_, rfl⟩
  obtain ⟨Q2, hQ2⟩ : ∃ Q2, Q2 = Q1 ++ [58, 32] := ⟨_, rfl⟩
  obtain ⟨Q3, hQ3⟩ : ∃ Q3, Q3 = Q2 ++ T2 := ⟨_, rfl⟩
  have hh : joinC 10 (linesT x 0) = Q3 := by rw [hQ3, hQ2, hQ1, hT1, hT2]; rfl
  have hc1 : (ByteArray.mk #[108, 105, 110, 101, 97, 114, 32] ++ ByteArray.mk T1.toArray) = ByteArray.mk Q1.toArray := by rw [hQ1, ← catE]; rfl
  have hc2 : (ByteArray.mk Q1.toArray ++ ByteArray.mk #[58, 32]) = ByteArray.mk Q2.toArray := by rw [hQ2, ← catE]
  have hc3 : (ByteArray.mk Q2.toArray ++ ByteArray.mk T2.toArray) = ByteArray.mk Q3.toArray := by rw [hQ3, ← catE]
  have b1 : Q1.length ≤ 9 := by rw [hQ1]; unfold sLin; simp; omega
  have b2 : Q2.length ≤ 11 := by rw [hQ2]; simp; omega
  have b3 : Q3.length ≤ 10300 := by rw [hQ3]; simp; omega
  have n1 : ¬ (9223372036854775807 < 7 + T1.length) := by omega
  have n2 : ¬ (9223372036854775807 < Q1.length + 2) := by omega
  have n3 : ¬ (9223372036854775807 < Q2.length + T2.length) := by omega
  have HH := Lib.hid hh
  have HB3 := Lib.hid b3
  clear hc hsms hst hT1 hT2 hQ1 hQ2 hQ3 hh r1 r2 hok b3
  go_enter Tryz.func12, Tryz.ntmps12
  go_upto_region 1 with (fail)
  go_region_held3 (fun w' => w'.cell? ⟨P, 0, none⟩ = some (ei x.pars) ∧ w'.cell? ⟨P, 1, none⟩ = some (.slice a1 x.start.length cp1)) (go_keep)
    (first
      | ((go_at_call 29); (refine (D1.out w.drew).mono ?_); rintro e w2 ⟨rfl, hu2⟩; have hw2 : Upd [] w w2 := ((Upd.refl [] w).drew).trans hu2; have c0_2 := hw2.keep c0; have c1_2 := hw2.keep c1)
      | ((go_at_call 30); (refine (D2.out w2 hw2).mono ?_); rintro e w3 ⟨rfl, hu3⟩; have hw3 : Upd [] w w3 := hw2.trans hu3; have c0_3 := hw3.keep c0; have c1_3 := hw3.keep c1))
  all_goals
    have HU3 := Lib.hid hw3
    (try clear hu2 hu3 hw2 hw3)
    (try clear c0_2 c1_2 c0_3 c1_3)
    clear hc1 hc2 hc3 n1 n2 n3 b1 b2 D1 D2 c0 c1 c2
    go_wp2_with fail
    go_loopw [3, 4] (fun tv iv wr => ∃ (k : Nat) (A : List UInt8), k ≤ x.sms.length ∧ iv = .int .i64 k ∧ tv = es A ∧ A.length ≤ 10300 * (k + 1) ∧ Hid (A = joinC 10 (linesT x k)) ∧ Hid (Upd [] w wr)) (fun _ iv _ => x.sms.length - (intOf iv).toNat)
    case atStart => exact ⟨0, Q3, Nat.zero_le _, rfl, rfl, by have := HB3.out; omega, Lib.hid HH.out.symm, HU3⟩
    case round =>
      clear HU3 HH HB3
      obtain ⟨wo, rfl⟩ : ∃ wo : World, wo = wr := ⟨_, rfl⟩
      obtain ⟨k, A, hk, rfl, rfl, hA, HJ, HU⟩ := hrel
      have p2 := HU.out.keep HC2.out
      by_cases hlt : k < x.sms.length
      · obtain ⟨b, off, u, f, rfl, -, -, -, hcell, -, hr⟩ := HC.out k hlt
        have hkl : (k : Int) < (x.sms.length : Int) := by omega
        have HTK := Lib.hid (linesS_step x k hlt)
        have hsx := HS.out _ (List.getElem_mem hlt)
        generalize x.sms[k] = s at *
        obtain ⟨v0, v1', v3, v4, f0, f1', f3, f4, rfl, r0, r1, r3, r4, -⟩ := id hr
        obtain ⟨d0, e0, rfl, -⟩ := slF1_open r0
        obtain ⟨d1, e1, rfl, -⟩ := slF2_open r1
        obtain ⟨d3, e3, rfl, -⟩ := slP_open r3
        obtain ⟨d4, e4, rfl, -⟩ := slP_open r4
        have q0 := HU.out.keep (hcell 0 _ rfl)
        have q1 := HU.out.keep (hcell 1 _ rfl)
        have q2 := HU.out.keep (hcell 2 _ rfl)
        have q3 := HU.out.keep (hcell 3 _ rfl)
        have q4 := HU.out.keep (hcell 4 _ rfl)
        simp only [Nat.add_zero] at q0
        have L1 := Lib.hid (fun W (hu : Upd [] wo W) => listTextS _ s.sums W f0 (R_I1k.upd r0 (HU.out.trans hu) (by simp)) (by have := hsx.sl; omega) hsx.sums)
        have L2 := Lib.hid (fun W (hu : Upd [] wo W) => expTextS _ s.guard W f1' hsx.g (R_T1k.upd r1 (HU.out.trans hu) (by simp)))
        have L3 := Lib.hid (fun W (hu : Upd [] wo W) => rowS44 _ s.args W f3 (R_T2k.upd r3 (HU.out.trans hu) (by simp)) (by have := hsx.al; omega) hsx.a)
        have L4 := Lib.hid (fun W (hu : Upd [] wo W) => rowS59 _ s.next W f4 (R_T2k.upd r4 (HU.out.trans hu) (by simp)) (by have := hsx.nl; omega) hsx.n)
        obtain ⟨A1, hA1⟩ : ∃ T, T = listTxt s.sums := ⟨_, rfl⟩
        obtain ⟨A2, hA2⟩ : ∃ T, T = expT s.guard := ⟨_, rfl⟩
        obtain ⟨A3, hA3⟩ : ∃ T, T = joinC 44 (s.args.map expT) := ⟨_, rfl⟩
        obtain ⟨A4, hA4⟩ : ∃ T, T = joinC 59 (s.next.map expT) := ⟨_, rfl⟩
        have a1' : A1.length ≤ 100 := by rw [hA1]; have := listTxt_len hsx.sums; have := hsx.sl; omega
        have a2' : A2.length ≤ 420 := by rw [hA2]; exact expT_len _
        have a3' : A3.length ≤ 842 := by rw [hA3]; have := rowT_len 44 s.args; have := hsx.al; omega
        have a4' : A4.length ≤ 8841 := by rw [hA4]; have := rowT_len 59 s.next; have := hsx.nl; omega
        have nm' := hsx.nm
        have hA4n : s.next.length = 0 → A4 = [] := fun h => by rw [hA4, List.length_eq_zero_iff.1 h]; rfl
        rw [← hA1] at L1
        rw [← hA2] at L2
        rw [← hA3] at L3
        rw [← hA4] at L4
        obtain ⟨N, hN⟩ : ∃ N, N = s.name := ⟨_, rfl⟩
        have hline : lineT s = (((((((sSum ++ A1) ++ sIf) ++ A2) ++ sDo) ++ N) ++ (if s.args.length = 0 then [] else ([40] ++ A3) ++ [41])) ++ sThen) ++ (if s.next.length = 0 then [45] else A4) := by rw [hA1, hA2, hA3, hA4, hN]; rfl
        rw [hline] at HTK
        rw [← hN] at q2 nm'
        clear hA1 hA2 hA3 hA4 hline hN hr r0 r1 r3 r4 hcell hsx
        obtain ⟨P1, hP1⟩ : ∃ P, P = [10, 115, 117, 109, 32] ++ A1 := ⟨_, rfl⟩
        obtain ⟨P2, hP2⟩ : ∃ P, P = P1 ++ sIf := ⟨_, rfl⟩
        obtain ⟨P3, hP3⟩ : ∃ P, P = P2 ++ A2 := ⟨_, rfl⟩
        obtain ⟨P4, hP4⟩ : ∃ P, P = P3 ++ sDo := ⟨_, rfl⟩
        obtain ⟨P5, hP5⟩ : ∃ P, P = P4 ++ N := ⟨_, rfl⟩
        obtain ⟨P6, hP6⟩ : ∃ P, P = A ++ P5 := ⟨_, rfl⟩
        have g1 : P1.length = 5 + A1.length := by rw [hP1]; simp; omega
        have g2 : P2.length = P1.length + 4 := by rw [hP2]; simp [sIf]
        have g3 : P3.length = P2.length + A2.length := by rw [hP3]; simp
        have g4 : P4.length = P3.length + 4 := by rw [hP4]; simp [sDo]
        have g5 : P5.length = P4.length + N.length := by rw [hP5]; simp
        have g6 : P6.length = A.length + P5.length := by rw [hP6]; simp
        have k1 : (ByteArray.mk #[10, 115, 117, 109, 32] ++ ByteArray.mk A1.toArray) = ByteArray.mk P1.toArray := by rw [hP1, ← catE]
        have k2 : (ByteArray.mk P1.toArray ++ ByteArray.mk #[32, 105, 102, 32]) = ByteArray.mk P2.toArray := by rw [hP2, ← catE]; rfl
        have k3 : (ByteArray.mk P2.toArray ++ ByteArray.mk A2.toArray) = ByteArray.mk P3.toArray := by rw [hP3, ← catE]
        have k4 : (ByteArray.mk P3.toArray ++ ByteArray.mk #[32, 100, 111, 32]) = ByteArray.mk P4.toArray := by rw [hP4, ← catE]; rfl
        have k5 : (ByteArray.mk P4.toArray ++ ByteArray.mk N.toArray) = ByteArray.mk P5.toArray := by rw [hP5, ← catE]
        have k6 : (ByteArray.mk A.toArray ++ ByteArray.mk P5.toArray) = ByteArray.mk P6.toArray := by rw [hP6, ← catE]
        have n1 : ¬ (9223372036854775807 < 5 + A1.length) := by omega
        have n2 : ¬ (9223372036854775807 < P1.length + 4) := by omega
        have n3 : ¬ (9223372036854775807 < P2.length + A2.length) := by omega
        have n4 : ¬ (9223372036854775807 < P3.length + 4) := by omega
        have n5 : ¬ (9223372036854775807 < P4.length + N.length) := by omega
        have n6 : ¬ (9223372036854775807 < A.length + P5.length) := by omega
        have hb6 : P6.length ≤ 10300 * (k + 1) + 600 := by omega
        have HP6 := Lib.hid (show P6 = A ++ (((((([10] ++ sSum) ++ A1) ++ sIf) ++ A2) ++ sDo) ++ N) by rw [hP6, hP5, hP4, hP3, hP2, hP1]; rfl)
        clear g1 g2 g3 g4 g5 g6 hP1 hP2 hP3 hP4 hP5 hP6 a1' a2' nm' hA
        go_upto_region 6 with (fail)
        go_region_held3 (fun w' => w'.cell? ⟨b, off + k * 5, none⟩ = some (.slice d0 s.sums.length e0) ∧ w'.cell? ⟨b, off + k * 5 + 1, none⟩ = some (.slice d1 s.guard.length e1) ∧ w'.cell? ⟨b, off + k * 5 + 2, none⟩ = some (es N)) (go_keep)
          (first
            | ((go_at_call 30); (refine (L1.out wo.drew ((Upd.refl [] wo).drew)).mono ?_); rintro e w2 ⟨rfl, hu2⟩; have hw2 : Upd [] wo w2 := ((Upd.refl [] wo).drew).trans hu2; have q0_2 := hw2.keep q0; have q1_2 := hw2.keep q1; have q2_2 := hw2.keep q2)
            | ((go_at_call 31); (refine (L2.out w2 hw2).mono ?_); rintro e w3 ⟨rfl, hu3⟩; have hw3 : Upd [] wo w3 := hw2.trans hu3; have q0_3 := hw3.keep q0; have q1_3 := hw3.keep q1; have q2_3 := hw3.keep q2))
        all_goals
          have s3 := hw3.keep q3
          have s4 := hw3.keep q4
          have HW3 := Lib.hid hw3
          (try clear hu2 hu3 hw2 hw3)
          (try clear q0_2 q1_2 q2_2 q0_3 q1_3 q2_3)
          clear k1 k2 k3 k4 k5 k6 n1 n2 n3 n4 n5 n6 q0 q1 q2 q3 q4 p2 L1 L2
          have s3' := s3
          have s4' := s4
          by_cases hargs : s.args.length = 0
          · by_cases hnext : s.next.length = 0
            · skip
              have ha : ¬ (0 : Int) < (s.args.length : Int) := by omega
              have ha2 : decide ((0 : Int) < (s.args.length : Int)) = false := decide_eq_false ha
              have hb : ((s.next.length : Int) == 0) = true := by rw [beq_iff_eq]; omega
              obtain ⟨R4, hR4⟩ : ∃ R, R = P6 ++ sThen := ⟨_, rfl⟩
              have g4 : R4.length = P6.length + 6 := by rw [hR4]; simp [sThen]
              have k4 : (ByteArray.mk P6.toArray ++ ByteArray.mk #[32, 116, 104, 101, 110, 32]) = ByteArray.mk R4.toArray := by rw [hR4, ← catE]; rfl
              have n4 : ¬ (9223372036854775807 < P6.length + 6) := by omega
              obtain ⟨R5, hR5⟩ : ∃ R, R = R4 ++ [45] := ⟨_, rfl⟩
              have g5 : R5.length = R4.length + 1 := by rw [hR5]; simp
              have k5 : (ByteArray.mk R4.toArray ++ ByteArray.mk #[45]) = ByteArray.mk R5.toArray := by rw [hR5, ← catE]
              have n5 : ¬ (9223372036854775807 < R4.length + 1) := by omega
              obtain ⟨R6, hR6⟩ : ∃ R, R = R5 ++ A4 := ⟨_, rfl⟩
              have g6 : R6.length = R5.length + A4.length := by rw [hR6]; simp
              have k6 : (ByteArray.mk R5.toArray ++ ByteArray.mk A4.toArray) = ByteArray.mk R6.toArray := by rw [hR6, ← catE]
              have n6 : ¬ (9223372036854775807 < R5.length + A4.length) := by omega
              have HE := Lib.hid (show R6 = joinC 10 (linesT x (k + 1)) by
                rw [HTK.out, ← HJ.out, hR6, hR5, hR4, HP6.out, if_pos hargs, if_pos hnext]
                rw [hA4n hnext]
                simp [List.append_assoc])
              have hlen : R6.length ≤ 10300 * (k + 1 + 1) := by omega
              have HLN := Lib.hid hlen
              clear g4 hR4 g6 hR6 hlen hargs hnext hA4n a3' a4' hb6 g5 hR5 
              go_wp2_with fail
              refine (L4.out w3 HW3.out).mono ?_
              rintro r w5 ⟨rfl, hu5⟩
              have HW5 := Lib.hid (HU.out.trans (HW3.out.trans hu5))
              clear hu5
              go_wp2_with fail
              go_roundw
              case rel => exact ⟨k + 1, R6, by omega, by go_num, rfl, HLN.out, HE, HW5⟩
              case measure => simp [intOf]; omega
            · skip
              have ha : ¬ (0 : Int) < (s.args.length : Int) := by omega
              have ha2 : decide ((0 : Int) < (s.args.length : Int)) = false := decide_eq_false ha
              have hb : ((s.next.length : Int) == 0) = false := by rw [beq_eq_false_iff_ne]; omega
              obtain ⟨R4, hR4⟩ : ∃ R, R = P6 ++ sThen := ⟨_, rfl⟩
              have g4 : R4.length = P6.length + 6 := by rw [hR4]; simp [sThen]
              have k4 : (ByteArray.mk P6.toArray ++ ByteArray.mk #[32, 116, 104, 101, 110, 32]) = ByteArray.mk R4.toArray := by rw [hR4, ← catE]; rfl
              have n4 : ¬ (9223372036854775807 < P6.length + 6) := by omega
              obtain ⟨R6, hR6⟩ : ∃ R, R = R4 ++ A4 := ⟨_, rfl⟩
              have g6 : R6.length = R4.length + A4.length := by rw [hR6]; simp
              have k6 : (ByteArray.mk R4.toArray ++ ByteArray.mk A4.toArray) = ByteArray.mk R6.toArray := by rw [hR6, ← catE]
              have n6 : ¬ (9223372036854775807 < R4.length + A4.length) := by omega
              have HE := Lib.hid (show R6 = joinC 10 (linesT x (k + 1)) by
                rw [HTK.out, ← HJ.out, hR6, hR4, HP6.out, if_pos hargs, if_neg hnext]
                simp [List.append_assoc])
              have hlen : R6.length ≤ 10300 * (k + 1 + 1) := by omega
              have HLN := Lib.hid hlen
              clear g4 hR4 g6 hR6 hlen hargs hnext hA4n a3' a4' hb6 
              go_wp2_with fail
              refine (L4.out w3 HW3.out).mono ?_
              rintro r w5 ⟨rfl, hu5⟩
              have HW5 := Lib.hid (HU.out.trans (HW3.out.trans hu5))
              clear hu5
              go_wp2_with fail
              go_roundw
              case rel => exact ⟨k + 1, R6, by omega, by go_num, rfl, HLN.out, HE, HW5⟩
              case measure => simp [intOf]; omega
          · by_cases hnext : s.next.length = 0
            · skip
              have ha : (0 : Int) < (s.args.length : Int) := by omega
              have ha2 : decide ((0 : Int) < (s.args.length : Int)) = true := decide_eq_true ha
              have hb : ((s.next.length : Int) == 0) = true := by rw [beq_iff_eq]; omega
              obtain ⟨R1, hR1⟩ : ∃ R, R = [40] ++ A3 := ⟨_, rfl⟩
              obtain ⟨R2, hR2⟩ : ∃ R, R = R1 ++ [41] := ⟨_, rfl⟩
              obtain ⟨R3, hR3⟩ : ∃ R, R = P6 ++ R2 := ⟨_, rfl⟩
              have g1 : R1.length = 1 + A3.length := by rw [hR1]; simp; omega
              have g2 : R2.length = R1.length + 1 := by rw [hR2]; simp
              have g3 : R3.length = P6.length + R2.length := by rw [hR3]; simp
              have k1 : (ByteArray.mk #[40] ++ ByteArray.mk A3.toArray) = ByteArray.mk R1.toArray := by rw [hR1, ← catE]
              have k2 : (ByteArray.mk R1.toArray ++ ByteArray.mk #[41]) = ByteArray.mk R2.toArray := by rw [hR2, ← catE]
              have k3 : (ByteArray.mk P6.toArray ++ ByteArray.mk R2.toArray) = ByteArray.mk R3.toArray := by rw [hR3, ← catE]
              have n1 : ¬ (9223372036854775807 < 1 + A3.length) := by omega
              have n2 : ¬ (9223372036854775807 < R1.length + 1) := by omega
              have n3 : ¬ (9223372036854775807 < P6.length + R2.length) := by omega
              obtain ⟨R4, hR4⟩ : ∃ R, R = R3 ++ sThen := ⟨_, rfl⟩
              have g4 : R4.length = R3.length + 6 := by rw [hR4]; simp [sThen]
              have k4 : (ByteArray.mk R3.toArray ++ ByteArray.mk #[32, 116, 104, 101, 110, 32]) = ByteArray.mk R4.toArray := by rw [hR4, ← catE]; rfl
              have n4 : ¬ (9223372036854775807 < R3.length + 6) := by omega
              obtain ⟨R5, hR5⟩ : ∃ R, R = R4 ++ [45] := ⟨_, rfl⟩
              have g5 : R5.length = R4.length + 1 := by rw [hR5]; simp
              have k5 : (ByteArray.mk R4.toArray ++ ByteArray.mk #[45]) = ByteArray.mk R5.toArray := by rw [hR5, ← catE]
              have n5 : ¬ (9223372036854775807 < R4.length + 1) := by omega
              obtain ⟨R6, hR6⟩ : ∃ R, R = R5 ++ A4 := ⟨_, rfl⟩
              have g6 : R6.length = R5.length + A4.length := by rw [hR6]; simp
              have k6 : (ByteArray.mk R5.toArray ++ ByteArray.mk A4.toArray) = ByteArray.mk R6.toArray := by rw [hR6, ← catE]
              have n6 : ¬ (9223372036854775807 < R5.length + A4.length) := by omega
              have HE := Lib.hid (show R6 = joinC 10 (linesT x (k + 1)) by
                rw [HTK.out, ← HJ.out, hR6, hR5, hR4, hR3, hR2, hR1, HP6.out, if_neg hargs, if_pos hnext]
                rw [hA4n hnext]
                simp [List.append_assoc])
              have hlen : R6.length ≤ 10300 * (k + 1 + 1) := by omega
              have HLN := Lib.hid hlen
              clear g1 g2 g3 hR1 hR2 hR3 g4 hR4 g6 hR6 hlen hargs hnext hA4n a3' a4' hb6 g5 hR5 
              go_wp2_with fail
              refine (L3.out w3 HW3.out).mono ?_
              rintro r w4 ⟨rfl, hu4⟩
              have s4 := hu4.keep s4'
              have HW4 := Lib.hid (HW3.out.trans hu4)
              clear hu4
              go_wp2_with fail
              refine (L4.out w4 HW4.out).mono ?_
              rintro r w5 ⟨rfl, hu5⟩
              have HW5 := Lib.hid (HU.out.trans (HW4.out.trans hu5))
              clear hu5
              go_wp2_with fail
              go_roundw
              case rel => exact ⟨k + 1, R6, by omega, by go_num, rfl, HLN.out, HE, HW5⟩
              case measure => simp [intOf]; omega
            · skip
              have ha : (0 : Int) < (s.args.length : Int) := by omega
              have ha2 : decide ((0 : Int) < (s.args.length : Int)) = true := decide_eq_true ha
              have hb : ((s.next.length : Int) == 0) = false := by rw [beq_eq_false_iff_ne]; omega
              obtain ⟨R1, hR1⟩ : ∃ R, R = [40] ++ A3 := ⟨_, rfl⟩
              obtain ⟨R2, hR2⟩ : ∃ R, R = R1 ++ [41] := ⟨_, rfl⟩
              obtain ⟨R3, hR3⟩ : ∃ R, R = P6 ++ R2 := ⟨_, rfl⟩
              have g1 : R1.length = 1 + A3.length := by rw [hR1]; simp; omega
              have g2 : R2.length = R1.length + 1 := by rw [hR2]; simp
              have g3 : R3.length = P6.length + R2.length := by rw [hR3]; simp
              have k1 : (ByteArray.mk #[40] ++ ByteArray.mk A3.toArray) = ByteArray.mk R1.toArray := by rw [hR1, ← catE]
              have k2 : (ByteArray.mk R1.toArray ++ ByteArray.mk #[41]) = ByteArray.mk R2.toArray := by rw [hR2, ← catE]
              have k3 : (ByteArray.mk P6.toArray ++ ByteArray.mk R2.toArray) = ByteArray.mk R3.toArray := by rw [hR3, ← catE]
              have n1 : ¬ (9223372036854775807 < 1 + A3.length) := by omega
              have n2 : ¬ (9223372036854775807 < R1.length + 1) := by omega
              have n3 : ¬ (9223372036854775807 < P6.length + R2.length) := by omega
              obtain ⟨R4, hR4⟩ : ∃ R, R = R3 ++ sThen := ⟨_, rfl⟩
              have g4 : R4.length = R3.length + 6 := by rw [hR4]; simp [sThen]
              have k4 : (ByteArray.mk R3.toArray ++ ByteArray.mk #[32, 116, 104, 101, 110, 32]) = ByteArray.mk R4.toArray := by rw [hR4, ← catE]; rfl
              have n4 : ¬ (9223372036854775807 < R3.length + 6) := by omega
              obtain ⟨R6, hR6⟩ : ∃ R, R = R4 ++ A4 := ⟨_, rfl⟩
              have g6 : R6.length = R4.length + A4.length := by rw [hR6]; simp
              have k6 : (ByteArray.mk R4.toArray ++ ByteArray.mk A4.toArray) = ByteArray.mk R6.toArray := by rw [hR6, ← catE]
              have n6 : ¬ (9223372036854775807 < R4.length + A4.length) := by omega
              have HE := Lib.hid (show R6 = joinC 10 (linesT x (k + 1)) by
                rw [HTK.out, ← HJ.out, hR6, hR4, hR3, hR2, hR1, HP6.out, if_neg hargs, if_neg hnext]
                simp [List.append_assoc])
              have hlen : R6.length ≤ 10300 * (k + 1 + 1) := by omega
              have HLN := Lib.hid hlen
              clear g1 g2 g3 hR1 hR2 hR3 g4 hR4 g6 hR6 hlen hargs hnext hA4n a3' a4' hb6 
              go_wp2_with fail
              refine (L3.out w3 HW3.out).mono ?_
              rintro r w4 ⟨rfl, hu4⟩
              have s4 := hu4.keep s4'
              have HW4 := Lib.hid (HW3.out.trans hu4)
              clear hu4
              go_wp2_with fail
              refine (L4.out w4 HW4.out).mono ?_
              rintro r w5 ⟨rfl, hu5⟩
              have HW5 := Lib.hid (HU.out.trans (HW4.out.trans hu5))
              clear hu5
              go_wp2_with fail
              go_roundw
              case rel => exact ⟨k + 1, R6, by omega, by go_num, rfl, HLN.out, HE, HW5⟩
              case measure => simp [intOf]; omega
      · obtain rfl : k = x.sms.length := by omega
        have HZ := Lib.hid (show linT x = A from HJ.out.symm)
        clear HJ
        go_wp2_with fail
        go_ret
        exact ⟨by rw [HZ.out]; rfl, HU.out⟩

set_option maxRecDepth 20000 in
set_option maxHeartbeats 2000000 in
theorem linTextS (cs : List Value) (x : Ln) (w : World) (fp : List Nat) (hR : R_Ln fp w cs x) (hF : LnFit x) :
    Calls Tryz.prog 5 #[.agg cs.toArray] w fun e w' => e = .returned (es (linTextF x)) ∧ Upd [] w w' := by
  obtain ⟨v1, v2, f1, f2, rfl, r1, r2, rfl⟩ := hR
  obtain ⟨B, hB⟩ : ∃ B, B = w.heap.size := ⟨_, rfl⟩
  obtain ⟨wA, hwA⟩ : ∃ wA, wA = w.alloc (.cells #[ei x.pars, v1, v2] 30) := ⟨_, rfl⟩
  have uA : Upd [] w wA := by rw [hwA]; exact (Upd.refl _ _).alloc _
  have hAt : LnAt wA B v1 v2 f1 f2 x := by rw [hwA, hB]; exact LnAt.new w _ v1 v2 f1 f2 x r1 r2
  have S1 := Lib.hid (isLnS B v1 v2 x wA f1 f2 hAt (fun s hs => (hF s hs).1))
  have S2 := Lib.hid (fun W (hu : Upd [] wA W) (hk : lnOk x = true) => linTextS0 B v1 v2 x W f1 f2 (hAt.upd hu) hk)
  have UA := Lib.hid uA
  have HMS := Lib.hid (show linTextF x = if lnOk x then linT x else [] from rfl)
  clear r1 r2 uA hAt hF
  generalize linTextF x = Z at *
  generalize hok : lnOk x = ok at *
  go_enter Tryz.func5, Tryz.ntmps5
  go_upto_region 1 with (fail)
  rw [← hwA, ← hB]
  clear hwA hB
  go_wp2_with fail
  refine S1.out.mono ?_
  rintro e w1 ⟨rfl, nq, hw1⟩
  have hu1 : Upd [] wA w1 := by rw [hw1]; exact (Upd.refl _ _).drewN nq
  have HU1 := Lib.hid hu1
  clear S1 hu1 hw1
  cases ok with
  | false =>
    have HZ := Lib.hid (show Z = [] by rw [HMS.out]; rfl)
    go_wp2_with fail
    go_ret
    exact ⟨by rw [HZ.out]; rfl, UA.out.trans HU1.out⟩
  | true =>
    have HZ := Lib.hid (show Z = linT x by rw [HMS.out]; rfl)
    have T2 := Lib.hid (S2.out w1 HU1.out (by first | trivial | rfl))
    clear S2 HMS
    go_wp2_with fail
    refine T2.out.mono ?_
    rintro e w2 ⟨rfl, hu2⟩
    have HU2 := Lib.hid ((UA.out.trans HU1.out).trans hu2)
    clear hu2 T2
    go_wp2_with fail
    go_ret
    exact ⟨by rw [HZ.out]; rfl, HU2.out⟩

end Go.Proofs.YtnfghgaadnobbaaGreatDoor

namespace Go.Proofs.YtnfghgaadnobbaaGreatDoor
open Go.RowKit

set_option maxRecDepth 20000 in
set_option maxHeartbeats 4000000 in
theorem lawLinText (cs : List Value) (x : Ln) (w : World) (fp : List Nat) (hG : Glob w) (hR : R_Ln fp w cs x) (hS : LnOk x) :
    Calls Tryz.prog 3 #[.agg cs.toArray] w fun e w' => e = .returned (.bool true) ∧ Upd [] w w' := by
  have HG0 := Lib.hid hG
  clear hG
  have hR' := hR
  obtain ⟨v1, v2, f1, f2, rfl, -, -, rfl⟩ := hR
  have HRX := Lib.hid (fun W (hu : Upd [] w W) => R_Lnk.upd hR' hu (by simp))
  obtain ⟨BA, hBA⟩ : ∃ B, B = w.heap.size := ⟨_, rfl⟩
  obtain ⟨wA, hwA⟩ : ∃ wA, wA = w.alloc (.cells #[ei x.pars, v1, v2] 25) := ⟨_, rfl⟩
  have uA : Upd [] w wA := by rw [hwA]; exact (Upd.refl _ _).alloc _
  have UA := Lib.hid uA
  have qA : RowAt wA BA 25 [ei x.pars, v1, v2] := by rw [hwA, hBA]; exact RowAt.new _ _ _
  have HQA := Lib.hid (fun W (hu : Upd [] wA W) => qA.upd hu (by simp))
  have S1 := Lib.hid (sz_Ln _ x 1048576 wA _ (by omega) (by omega) (HRX.out wA uA) hS)
  clear hR' hS uA qA
  go_enter Tryz.func3, Tryz.ntmps3
  go_upto_region 1 with (fail)
  rw [← hwA, ← hBA]
  have HBA := Lib.hid hBA
  clear hwA hBA
  have u0 : Upd [] wA wA := Upd.refl _ _
  have z_A_0 := (HQA.out _ u0).cell 0 _ rfl
  have z_A_1 := (HQA.out _ u0).cell 1 _ rfl
  have z_A_2 := (HQA.out _ u0).cell 2 _ rfl
  go_wp2_with fail
  refine S1.out.mono ?_
  rintro e w1 ⟨⟨r, rfl, hr⟩, uu⟩
  clear S1 z_A_0 z_A_1 z_A_2
  have u1 := u0.trans uu
  clear u0 uu
  rcases hr with rfl | ⟨hr0_x, hr1_x⟩
  · have HU := Lib.hid (UA.out.trans u1)
    go_wp2_with fail
    go_ret
    exact ⟨rfl, HU.out⟩
  · have hsz : szF_Ln x ≤ 1048576 := by omega
    have HSZ := Lib.hid hsz
    have hF := ln_fit hsz
    obtain ⟨T, hT⟩ : ∃ T, linTextF x = T := ⟨_, rfl⟩
    have HT := Lib.hid hT
    clear hT hsz hr1_x
    have hne : (T != T) = false := by simp
    have hne2 : (T == T) = true := by simp
    have z_A_0 := (HQA.out _ u1).cell 0 _ rfl
    have z_A_1 := (HQA.out _ u1).cell 1 _ rfl
    have z_A_2 := (HQA.out _ u1).cell 2 _ rfl
    have S2 := to_Ln _ x w1 _ HSZ.out (HRX.out _ (UA.out.trans u1))
    go_wp2_with fail
    refine S2.mono ?_
    clear S2 z_A_0 z_A_1 z_A_2
    rintro e w2 ⟨⟨us, rfl, -, -, hn⟩, uu⟩
    obtain ⟨p1_a_x, q1_a_x, p2_a_x, q2_a_x, rfl⟩ := ln_form hn
    obtain ⟨fp_a_x, rr, oo, ge_a_x⟩ := hn
    have u2 : Upd [] wA w2 := u1.trans (uu)
    have HL_a_x := Lib.hid (show ∀ b ∈ fp_a_x, wA.heap.size ≤ b from fun b hb => by have := ge_a_x b hb; have := u1.size; omega)
    have r2_a_x := rr
    have o2_a_x := oo
    clear u1 uu ge_a_x rr oo
    have S2 := linTextS [ei (x).pars, .slice p1_a_x (x).start.length q1_a_x, .slice p2_a_x (x).sms.length q2_a_x] x w2 fp_a_x r2_a_x hF
    rw [HT.out] at S2
    go_wp2_with fail
    refine S2.mono ?_
    clear S2
    rintro e w3 ⟨rfl, uu⟩
    have u3 : Upd [] wA w3 := u2.trans (uu)
    clear u2 r2_a_x o2_a_x uu
    have z_A_0 := (HQA.out _ u3).cell 0 _ rfl
    have z_A_1 := (HQA.out _ u3).cell 1 _ rfl
    have z_A_2 := (HQA.out _ u3).cell 2 _ rfl
    have S2 := to_Ln _ x w3 _ HSZ.out (HRX.out _ (UA.out.trans u3))
    go_wp2_with fail
    refine S2.mono ?_
    clear S2 z_A_0 z_A_1 z_A_2
    rintro e w4 ⟨⟨us, rfl, -, -, hn⟩, uu⟩
    obtain ⟨p1_x_x, q1_x_x, p2_x_x, q2_x_x, rfl⟩ := ln_form hn
    obtain ⟨fp_x_x, rr, oo, ge_x_x⟩ := hn
    have u4 : Upd [] wA w4 := u3.trans (uu)
    have HL_x_x := Lib.hid (show ∀ b ∈ fp_x_x, wA.heap.size ≤ b from fun b hb => by have := ge_x_x b hb; have := u3.size; omega)
    have r4_x_x := rr
    have o4_x_x := oo
    clear u3 uu ge_x_x rr oo
    obtain ⟨w5, hwB⟩ : ∃ wB, wB = w4.alloc (.cells #[ei (x).pars, .slice p1_x_x (x).start.length q1_x_x, .slice p2_x_x (x).sms.length q2_x_x] 30) := ⟨_, rfl⟩
    have uB : Upd [] w4 w5 := by rw [hwB]; exact (Upd.refl _ _).alloc _
    obtain ⟨B_x_x, hB⟩ : ∃ B, B = w4.heap.size := ⟨_, rfl⟩
    have qq : RowAt w5 B_x_x 30 [ei (x).pars, .slice p1_x_x (x).start.length q1_x_x, .slice p2_x_x (x).sms.length q2_x_x] := by rw [hwB, hB]; exact RowAt.new _ _ _
    have lt_x_x := R_Lnk.lt r4_x_x
    have HN_x_x_x_x := Lib.hid (show B_x_x ∉ fp_x_x from fun hm => by have := lt_x_x _ hm; omega)
    have u5 : Upd [] wA w5 := u4.trans (uB)
    have r5_x_x := R_Lnk.upd r4_x_x (uB) (by simp)
    have o5_x_x := o4_x_x.upd (uB) (by simp)
    have q5_x_x := qq
    clear u4 r4_x_x o4_x_x lt_x_x uB qq
    go_upto_region 7 with (fail)
    rw [← hwB, ← hB]
    clear hwB hB
    have z_x_x_0 := q5_x_x.cell 0 _ rfl
    have z_x_x_1 := q5_x_x.cell 1 _ rfl
    have z_x_x_2 := q5_x_x.cell 2 _ rfl
    have S2 := linTextI [ei (x).pars, .slice p1_x_x (x).start.length q1_x_x, .slice p2_x_x (x).sms.length q2_x_x] x w5 fp_x_x (HG0.out.upd (UA.out.trans u5)) r5_x_x hF
    rw [HT.out] at S2
    go_wp2_with fail
    refine S2.mono ?_
    clear S2 z_x_x_0 z_x_x_1 z_x_x_2
    rintro e w6 ⟨rfl, uu⟩
    have u6 : Upd [] wA w6 := u5.trans (uu)
    have r6_x_x := R_Lnk.upd r5_x_x (uu) (by simp)
    have o6_x_x := o5_x_x.upd (uu) (by simp)
    have q6_x_x := q5_x_x.upd (uu) (by simp)
    clear u5 r5_x_x o5_x_x q5_x_x uu
    have z_x_x_0 := q6_x_x.cell 0 _ rfl
    have z_x_x_1 := q6_x_x.cell 1 _ rfl
    have z_x_x_2 := q6_x_x.cell 2 _ rfl
    have z_A_0 := (HQA.out _ u6).cell 0 _ rfl
    have z_A_1 := (HQA.out _ u6).cell 1 _ rfl
    have z_A_2 := (HQA.out _ u6).cell 2 _ rfl
    have S6 := to_Ln _ x w6.drew _ HSZ.out (HRX.out _ (UA.out.trans u6).drew)
    have S7 := Lib.hid (fun W us f (hu : Upd [] w6.drew W) (h : R_Ln f W us x) => eq_Ln [ei (x).pars, .slice p1_x_x (x).start.length q1_x_x, .slice p2_x_x (x).sms.length q2_x_x] us x W _ f (R_Lnk.upd r6_x_x ((Upd.refl [] _).drew.trans hu) (by simp)) h)
    go_wp2_with fail
    go_region_held3 (fun w' => w'.cell? ⟨B_x_x, 0, none⟩ = some (ei (x).pars) ∧ w'.cell? ⟨B_x_x, 1, none⟩ = some (.slice p1_x_x (x).start.length q1_x_x) ∧ w'.cell? ⟨B_x_x, 2, none⟩ = some (.slice p2_x_x (x).sms.length q2_x_x) ∧ w'.cell? ⟨BA, 0, none⟩ = some (ei x.pars) ∧ w'.cell? ⟨BA, 1, none⟩ = some (v1) ∧ w'.cell? ⟨BA, 2, none⟩ = some (v2)) (go_keep)
      (first
        | ((go_at_call 6); (refine S6.mono ?_); rintro e w6' ⟨⟨us, rfl, -, -, hn⟩, hu6⟩; obtain ⟨p1_t, q1_t, p2_t, q2_t, rfl⟩ := ln_form hn; obtain ⟨fp_t, rr6, -, -⟩ := hn; have y_0 := hu6.keep z_x_x_0; have y_1 := hu6.keep z_x_x_1; have y_2 := hu6.keep z_x_x_2; have y_3 := hu6.keep z_A_0; have y_4 := hu6.keep z_A_1; have y_5 := hu6.keep z_A_2)
        | ((go_at_call 8); (refine (S7.out w6' _ fp_t hu6 rr6).mono ?_); rintro e w7 ⟨rfl, hu7⟩; have t_0 := hu7.keep y_0; have t_1 := hu7.keep y_1; have t_2 := hu7.keep y_2; have t_3 := hu7.keep y_3; have t_4 := hu7.keep y_4; have t_5 := hu7.keep y_5))
    have uu : Upd [] w6 w7 := ((Upd.refl [] w6).drew.trans hu6).trans hu7
    have u7 : Upd [] wA w7 := u6.trans (uu)
    have r7_x_x := R_Lnk.upd r6_x_x (uu) (by simp)
    have o7_x_x := o6_x_x.upd (uu) (by simp)
    have q7_x_x := q6_x_x.upd (uu) (by simp)
    clear u6 r6_x_x o6_x_x q6_x_x uu S6 S7 hu6 hu7 rr6 z_x_x_0 z_x_x_1 z_x_x_2 z_A_0 z_A_1 z_A_2 y_0 y_1 y_2 y_3 y_4 y_5 t_0 t_1 t_2 t_3 t_4 t_5
    have HU := Lib.hid (UA.out.trans u7)
    go_wp2_with fail
    go_ret
    exact ⟨rfl, HU.out⟩

end Go.Proofs.YtnfghgaadnobbaaGreatDoor

namespace Go.Proofs.YtnfghgaadnobbaaGreatDoor.lawLinTextC
open Go.ChangeShapes Go.WideShapes Go.ChangeAt Go.RowKit

theorem own : ownKnob Tryz.prog.godebug = none := by kernel_rfl
theorem laidOut : laidOutB Tryz.prog = true := by kernel_rfl

theorem door_met (os : Os) (args : Array Value) : laidMetH Tryz.prog Rows.fnExactLinearTextRow.laid ((World.doorLaid Tryz.prog 34 os).forCall (fun _ _ => 0) ⟨#[], args, []⟩).memory :=
  laidMetH_of_parts3 (fuel := 8) (laidMet_of_run' 8 (by kernel_rfl) (by kernel_rfl)) (by kernel_rfl) (by kernel_rfl)

theorem glob {W : World} (h : laidMetH Tryz.prog Rows.fnExactLinearTextRow.laid W) : Glob W := by
  rw [MakeChecks.laidMetH_plain _ _ _ (by kernel_rfl)] at h
  exact glob_of (Lib.laidMet.reads h (List.Mem.tail _ (List.Mem.tail _ (List.Mem.tail _ (List.Mem.head _))))) (Lib.laidMet.reads h (List.Mem.tail _ (List.Mem.tail _ (List.Mem.tail _ (List.Mem.tail _ (List.Mem.head _)))))) rfl rfl
    (by kernel_rfl) (by kernel_rfl) (by kernel_rfl) (by kernel_rfl) (by kernel_rfl) (by kernel_rfl) (by kernel_rfl) (by kernel_rfl)

set_option maxRecDepth 100000 in
theorem lifted (os : Os) (started : os.Started) (H : Type) (enc : TypeId × Value → H) :
    ReturnsInHanded {} Tryz.checked os 3 .any (fun w args => (Rows.fnExactLinearTextSpec.pre enc Tryz.prog Tryz.f3 [] false w args ∧ laidMetH Tryz.prog Rows.fnExactLinearTextRow.laid w) ∧ sizedMet enc Tryz.prog Tryz.f3 (OpenSpec.ofChange Rows.fnExactLinearTextSpec) false w args)
      (Rows.fnExactLinearTextSpec.post enc Tryz.prog Tryz.f3 false true false false) := by
  refine returnsInHanded_of_change_and (C := Tryz.checked) (X := fun w _ => laidMetH Tryz.prog Rows.fnExactLinearTextRow.laid w) (fun _ _ _ hh h => h.of_heap hh) own started (by kernel_rfl) Tryz.func3
    (ChangeSpec.witness_shaped (enc := enc) (C := Tryz.checked) (os := os) (X := fun w _ => laidMetH Tryz.prog Rows.fnExactLinearTextRow.laid w) false (World.doorLaid Tryz.prog 34 os) #[.agg #[.int .i64 0, .slice none 0 0, .slice none 0 0]] 8 rfl (World.shaped_of_RefB (by kernel_rfl) (by kernel_rfl)) (by kernel_rfl) (by kernel_rfl) (by kernel_rfl) (door_met os _)) ?_
  intro W base args ds gs before hval0 hW _ _ hL _
  have hval : ∀ (j : Nat) t v, Tryz.f3.params[j]? = some t → args[j]? = some v → Value.okWide Tryz.prog W .any base t v := hval0
  have hW' := hW
  obtain ⟨p, q, hA0, hV, rfl, hfz, hnd⟩ := hW
  have hA : DataW.TrodAll enc Tryz.prog W 0 (fun _ => true) true Tryz.f3.params.toList args.toList ds p := hA0
  rw [Tryz.params3] at hA hval
  obtain ⟨v0, vs0, d0, ds0, p0, q0, hargs, rfl, rfl, h0, r0⟩ := trodAll_cons hA
  obtain ⟨rfl, rfl, rfl⟩ := trodAll_nil r0
  obtain rfl : args = #[v0] := by cases args; simp_all
  have hvars := fun (W' : World) (hb : Below W.heap.size W W') => Below.trodVars laidOut hb (by kernel_rfl) hV
  obtain ⟨g0, t0, cs0, f0, e0, p0', g1, t1, cs1, f1, e1, p1', rfl, -⟩ := trodVars_two hV
  have sv0 := okWide_struct Tryz.underlying25 (hval 0 25 v0 rfl rfl)
  have k0 := h0
  have lt0 : ∀ x ∈ p0, x.block < W.heap.size := by obtain ⟨m, hm⟩ := k0; exact DataW.trod_lt m _ _ _ hm
  obtain ⟨x0, fp0, cs0', rfl, hR0, hφ0⟩ := open_Ln sv0 h0
  clear hA0 hval0
  refine (lawLinText _ x0 W fp0 (glob hL) hR0 hφ0).mono fun e W' ⟨he, hu⟩ => ?_
  subst he
  have bel := hu.below
  exact ⟨_, rfl, _, _, _, [], _, _, hW', trodAll_mk1 (shut_bool Tryz.underlying4 _), (trodAll_cons_mk (Below.trod laidOut (by kernel_rfl) (of_decide_eq_true (by kernel_rfl)) k0 bel lt0) trodAll_mk0), hvars W' bel, bel.frame _, fun h => by cases h⟩

theorem over : Rows.FnExactLinearTextSaid :=
  OpenClaim.holds_of_wide 3 Tryz.f3 rfl rfl rfl rfl rfl rfl rfl ⟨rfl, rfl, rfl, rfl, rfl⟩ rfl rfl rfl rfl rfl (by kernel_rfl) Tryz.func3 (by kernel_rfl)
    (of_decide_eq_true (by kernel_rfl)) (by unfold Func.isWrapper; first | (rw [if_pos (by decide +kernel)]; kernel_rfl) | (rw [if_neg (by decide +kernel)]; exact ⟨rfl, rfl⟩))
    (fun os started H enc _ => lifted os started H enc)

theorem proved : Rows.FnExactLinearTextCardSaid :=
  Claim7.holds_tied_plain_at .later [] [.data, .data, .data, .widerDeep, .data] true Rows.fnExactLinearTextCard.stood.harness false
    over (fun _ h => by cases h) (by kernel_rfl) (fun _ h => by cases h) fnExactLinearText_row_tie rfl ⟨rfl, rfl⟩ (by kernel_rfl) rfl
    (fun f fn hf hfn => by
      obtain rfl : f = 3 := Option.some.inj ((show Tryz.prog.funcNamed Rows.fnExactLinearTextRow.func = some 3 by kernel_rfl).symm.trans hf) |>.symm
      obtain rfl : fn = Tryz.f3 := (Option.some.inj (Tryz.func3.symm.trans hfn)).symm
      exact ⟨by kernel_rfl, fun j t ht => by
        rw [Tryz.params3] at ht
        have h3 : t = 25 := by
          rcases j with _ | j
          · simpa using ht.symm
          · simp at ht
        subst h3
        exact (show Tryz.prog.wantsStandIn 25 = false by kernel_rfl)⟩)
    (by kernel_rfl)
#print axioms proved
end Go.Proofs.YtnfghgaadnobbaaGreatDoor.lawLinTextC
