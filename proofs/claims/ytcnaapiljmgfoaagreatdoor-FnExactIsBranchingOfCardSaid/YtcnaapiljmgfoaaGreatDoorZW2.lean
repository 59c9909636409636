/-
  Texts joined in one file: LabE, LabJ, Tree, TreeW, Ops, Post, Fold, Value, FoldW, FoldS, OpenB, Draw, Canon, CanonW, CanonV, Forms, Vals, Eval, EvalS, R8, R8V, LabC, BisS, DecQ, LabSq, DecL, BisO, BisI, BisC, LabSp, LabSn, LabSv, LabSw, LabN, LabL, LabM, TrT, EncP.
-/
import Derived.Test.YtcnaapiljmgfoaaGreatDoorZW1
import Derived.Test.YtcnaapiljmgfoaaGreatDoorShelf
import Derived.Deep.RegionHeld3
import Derived.Deep.RegionLaw
import Derived.Deep.QuietTactic
import Derived.BigQuiet
import Derived.Deep.DeepCutAuto
/-
  Numbers in decimal: what the program's calls return.
-/
namespace Go.Proofs.YtcnaapiljmgfoaaGreatDoor
open Go.RowKit

/-- what the calls of the library read of the package's variables. -/
structure Env (w : World) : Prop where
  m : ∃ m : Int, w.cell? ⟨0, 0, none⟩ = some (.int .i64 m)
  tab : Lib.TabIs Tryz.prog w "internal/strconv.uint64pow10" .u64 Lib.pow10Tab
  syn : ∃ tp p, w.var? Tryz.prog "strconv.ErrSyntax" = some #[.iface tp p]
  rng : ∃ tp p, w.var? Tryz.prog "strconv.ErrRange" = some #[.iface tp p]

theorem Upd.var {P : Program} {w w1 : World} {n : String} {cs : Array Value} (hu : Upd [] w w1) (h : w.var? P n = some cs) : w1.var? P n = some cs := by
  unfold World.var? at h ⊢
  cases hg : P.globalNamed n with
  | none => rw [hg] at h; cases h
  | some g =>
    rw [hg] at h
    simp only [Option.bind_some] at h ⊢
    have hlt : g < w.heap.size := by
      rcases Nat.lt_or_ge g w.heap.size with h1 | h1
      · exact h1
      · rw [Array.getElem?_eq_none h1] at h; cases h
    rw [hu.block g hlt (by simp)]
    exact h

theorem Env.upd {w w1 : World} (h : Env w) (hu : Upd [] w w1) : Env w1 :=
  ⟨h.m.imp fun _ hm => hu.keep hm, hu.var h.tab, h.syn.imp fun _ hs => hs.imp fun _ hs => hu.var hs, h.rng.imp fun _ hs => hs.imp fun _ hs => hu.var hs⟩

theorem Upd.grow (w : World) (k : Nat) (os : Array Obj) : Upd [] w (Sort.grow (w.drewN k) os) := by
  refine ⟨rfl, rfl, rfl, ?_, fun i hi _ => ?_⟩
  · show w.heap.size ≤ (w.heap ++ os).size
    rw [Array.size_append]; omega
  · show (w.heap ++ os)[i]? = w.heap[i]?
    rw [Array.getElem?_append_left hi]

theorem decimal (n : Int) (w : World) (h0 : -9223372036854775808 ≤ n) (h1 : n ≤ 9223372036854775807) (he : Env w) :
    Calls Tryz.prog 165 #[.int .i64 n] w fun e w' => e = .returned (es (Lib.itoa n)) ∧ Upd [] w w' := by
  have S1 := Lib.hid (Tryz.strconv_FormatInt_10 n h0 h1 w he.tab)
  clear he h0 h1
  go_enter Tryz.func165, Tryz.ntmps165
  go_wp2_with fail
  refine S1.out.mono ?_
  rintro e w1 ⟨rfl, k, os, rfl⟩
  have HU := Lib.hid (Upd.grow w k os)
  generalize Sort.grow (w.drewN k) os = w1 at *
  clear S1
  go_wp2_with fail
  go_ret
  exact ⟨rfl, HU.out⟩

theorem isActionI (l : List UInt8) (w : World) (hl : l.length ≤ 2000000) :
    Calls Tryz.prog 154 #[es l] w fun e w' => e = .returned (.bool (actF l)) ∧ w = w' := by
  have S1 := Lib.hid (isNameI l w hl)
  cases hn : nameF l with
  | false =>
    have HR := Lib.hid (show actF l = false by simp [actF, hn])
    rw [hn] at S1
    clear hn
    go_enter Tryz.func154, Tryz.ntmps154
    go_wp2_with fail
    refine S1.out.mono ?_
    rintro e w1 ⟨rfl, rfl⟩
    clear S1
    go_wp2_with fail
    go_ret
    exact ⟨by rw [HR.out]; rfl, rfl⟩
  | true =>
    have HR := Lib.hid (show actF l = (l != tauL) by simp [actF, hn])
    rw [hn] at S1
    clear hn
    go_enter Tryz.func154, Tryz.ntmps154
    go_wp2_with fail
    refine S1.out.mono ?_
    rintro e w1 ⟨rfl, rfl⟩
    clear S1
    go_wp2_with fail
    go_ret
    refine ⟨?_, rfl⟩
    rw [HR.out]
    simp [tauL, bne]

theorem parse_range {l : List UInt8} {v : Int} (h : Lib.parseIntB 64 l = .ok v) : -9223372036854775808 ≤ v ∧ v ≤ 9223372036854775807 := by
  unfold Lib.parseIntB at h
  cases l with
  | nil => cases h
  | cons c r =>
    simp only at h
    split at h
    · cases h
    · cases h
    · split at h
      · cases h
      · split at h
        · cases h
        · rename_i h1 h2
          simp only [Lib.NumEnd.ok.injEq] at h
          subst h
          by_cases hc : c.toNat = 45
          · simp only [hc, not_true_eq_false, true_and, false_and, not_false_eq_true] at h1 h2
            simp only [hc, if_true]; omega
          · simp only [hc, not_false_eq_true, true_and, false_and] at h1 h2
            simp only [hc, if_false]; omega

theorem digL_trim (s : List UInt8) : Lib.trimPrefix s [45] = digL s := by
  cases s with
  | nil => rfl
  | cons b r =>
    by_cases hb : b = 45
    · subst hb; simp [Lib.trimPrefix, Lib.hasPrefix, digL, negL, List.isPrefixOf]
    · have h1 : (b == 45) = false := by simpa using hb
      have h2 : ((45 : UInt8) == b) = false := by simpa using fun e => hb e.symm
      simp [Lib.trimPrefix, Lib.hasPrefix, digL, negL, List.isPrefixOf, h1, h2]

def NumV (s : List UInt8) (w : World) (e : Ending) (w' : World) : Prop := e = .returned (.tuple #[.int .i64 ((numF s).getD 0), .bool (numF s).isSome]) ∧ Upd [] w w'

set_option maxRecDepth 20000 in
set_option maxHeartbeats 2000000 in
theorem readDecimalI (s : List UInt8) (w : World) (hl : s.length ≤ 2000000) (he : Env w) : Calls Tryz.prog 151 #[es s] w (NumV s w) := by
  have S1 := Lib.hid (Tryz.strings_TrimPrefix ⟨s.toArray⟩ ⟨#[45]⟩ w)
  have e1 : Lib.trimPrefix (⟨s.toArray⟩ : ByteArray).data.toList (⟨#[45]⟩ : ByteArray).data.toList = digL s := digL_trim s
  rw [e1] at S1
  clear e1
  have hdl : (digL s).length ≤ s.length := by
    unfold digL; split <;> simp
  by_cases hlen : 18 < (digL s).length
  · have HR := Lib.hid (show numF s = none by unfold numF; rw [if_pos (Or.inr (Or.inl hlen))])
    generalize digL s = d at *
    have g1 : (18 : Int) < (d.length : Int) := by omega
    clear hlen he
    go_enter Tryz.func151, Tryz.ntmps151
    go_wp2_with fail
    refine S1.out.mono ?_
    rintro e w1 ⟨rfl, rfl⟩
    clear S1
    go_wp2_with fail
    go_ret2
    exact ⟨by rw [HR.out]; rfl, Upd.refl _ _⟩
  · have hsz : (⟨s.toArray⟩ : ByteArray).size = s.length := rfl
    rcases hp : Lib.parseIntB 64 s with v | _ | _
    rotate_left
    · skip
      have HR := Lib.hid (show numF s = none by
        cases hn : numF s with
        | none => rfl
        | some n =>
          obtain ⟨a, -, b⟩ := numF_some hn
          rw [a, parse_itoa n b] at hp; cases hp)
      obtain ⟨tp, p, hsyn⟩ := he.syn
      have S2 := Lib.hid (Tryz.strconv_ParseInt_10_at64_syntax_var ⟨s.toArray⟩ (by rw [hsz]; omega) hp tp p w hsyn)
      clear hsyn hp hsz he
      generalize digL s = d at *
      have g1 : ¬ (18 : Int) < (d.length : Int) := by omega
      clear hlen
      go_enter Tryz.func151, Tryz.ntmps151
      go_wp2_with fail
      refine S1.out.mono ?_
      rintro e w1 ⟨rfl, rfl⟩
      clear S1
      go_wp2_with fail
      refine S2.out.mono ?_
      rintro e w1 ⟨N, rfl, -, -, hb⟩
      have HU := Lib.hid (Upd.ofBelow hb)
      clear S2 hb
      go_wp2_with fail
      go_ret2
      exact ⟨by rw [HR.out]; rfl, HU.out⟩
    · skip
      have HR := Lib.hid (show numF s = none by
        cases hn : numF s with
        | none => rfl
        | some n =>
          obtain ⟨a, -, b⟩ := numF_some hn
          rw [a, parse_itoa n b] at hp; cases hp)
      obtain ⟨tp, p, hsyn⟩ := he.rng
      have S2 := Lib.hid (Tryz.strconv_ParseInt_10_at64_range_var ⟨s.toArray⟩ (by rw [hsz]; omega) hp tp p w hsyn)
      clear hsyn hp hsz he
      generalize digL s = d at *
      have g1 : ¬ (18 : Int) < (d.length : Int) := by omega
      clear hlen
      go_enter Tryz.func151, Tryz.ntmps151
      go_wp2_with fail
      refine S1.out.mono ?_
      rintro e w1 ⟨rfl, rfl⟩
      clear S1
      go_wp2_with fail
      refine S2.out.mono ?_
      rintro e w1 ⟨N, rfl, -, -, hb⟩
      have HU := Lib.hid (Upd.ofBelow hb)
      clear S2 hb
      go_wp2_with fail
      go_ret2
      exact ⟨by rw [HR.out]; rfl, HU.out⟩
    · skip
      obtain ⟨v0, v1⟩ := parse_range hp
      have S2 := Lib.hid (Tryz.strconv_ParseInt_10_at64_ok ⟨s.toArray⟩ (by rw [hsz]; omega) v hp w)
      have HR := Lib.hid (show numF s = if Lib.itoa v = s then some v else none by
        split
        · rename_i h
          rw [← h]; exact numF_itoa v (by rw [h]; omega)
        · rename_i h
          cases hn : numF s with
          | none => rfl
          | some n =>
            exfalso
            obtain ⟨a, -, b⟩ := numF_some hn
            rw [a, parse_itoa n b] at hp
            cases hp
            exact h a.symm)
      have S3 := Lib.hid (fun w1 (hu : Upd [] w w1) => decimal v w1 v0 v1 (he.upd hu))
      clear hp hsz he
      generalize digL s = d at *
      have g1 : ¬ (18 : Int) < (d.length : Int) := by omega
      clear hlen
      go_enter Tryz.func151, Tryz.ntmps151
      go_wp2_with fail
      refine S1.out.mono ?_
      rintro e wa ⟨rfl, rfl⟩
      clear S1
      go_wp2_with fail
      refine S2.out.mono ?_
      rintro e w1 ⟨rfl, hw⟩
      have hu : Upd [] wa w1 := by
        rcases hw with rfl | ⟨t, rfl⟩
        · exact Upd.refl _ _
        · exact Upd.ofBelow (Lib.bytesWorld_below _ _ _)
      have S4 := Lib.hid (S3.out w1 hu)
      have HU := Lib.hid hu
      clear S2 S3 hw hu
      go_wp2_with fail
      refine S4.out.mono ?_
      rintro e w2 ⟨rfl, hu2⟩
      have HU2 := Lib.hid (HU.out.trans hu2)
      clear S4 HU hu2
      by_cases heq : Lib.itoa v = s
      · have HR2 := Lib.hid (HR.out.trans (if_pos heq))
        rw [heq]
        clear HR heq
        go_wp2_with fail
        go_ret2
        exact ⟨by rw [HR2.out]; rfl, HU2.out⟩
      · have HR2 := Lib.hid (HR.out.trans (if_neg heq))
        clear HR
        generalize Lib.itoa v = A at *
        have hne : (A == s) = false := by simpa using heq
        go_wp2_with fail
        go_ret2
        exact ⟨by rw [HR2.out]; rfl, HU2.out⟩

end Go.Proofs.YtcnaapiljmgfoaaGreatDoor

/-
  Labels made: what the program's calls return.
-/
namespace Go.Proofs.YtcnaapiljmgfoaaGreatDoor
open Go.RowKit

set_option maxRecDepth 20000 in
set_option maxHeartbeats 4000000 in
theorem joinedI (v : Value) (xs : List Int) (w : World) (fp : List Nat) (hR : R1 fp w [v] xs) (h0 : 0 < xs.length) (hl : xs.length ≤ 1000000)
    (hv : ∀ x ∈ xs, (-9223372036854775808 ≤ x ∧ x ≤ 9223372036854775807) ∧ (Lib.itoa x).length ≤ 30) (he : Env w) :
    Calls Tryz.prog 156 #[v, es [44]] w fun e w' => e = .returned (es (txtV xs)) ∧ Upd [] w w' := by
  obtain ⟨i0, hi, hz0, hz1, hz2⟩ := info_parts Tryz.info9
  obtain ⟨a, cap, rfl, h1, h2, -⟩ := slF1_open hR
  unfold maxLen at h2
  have HR := Lib.hid hR
  have HV := Lib.hid hv
  have HE := Lib.hid he
  have hm2 : i0.bytes * xs.length ≤ 281474976710656 := by rw [hz2]; omega
  clear hR hv he
  go_enter Tryz.func156, Tryz.ntmps156
  go_wp2_with (first
    | (at_make; refine wpList_make_full _ rfl _ _ 22 rfl w.heap.size 9 i0 (es []) 1 Tryz.underlying22 hi hz0 hz1 .i64 .i64 _ _ xs.length rfl rfl rfl rfl hm2 (by unfold maxLen; omega) (Nat.le_refl _) ?_; intro w2 hrow hgrow)
    | fail)
  rw [made_one _ rfl] at hrow
  have hU : Upd [] w w2 := (Upd.refl _ _).grown hgrow (by simp)
  obtain ⟨fo, ho1, ho2, ho3⟩ := New.ofOwns (w := w) (e := 9) (enc := es) (xs := List.replicate xs.length ([] : List UInt8)) (by simpa using hrow)
  have HST := Lib.hid (And.intro (show RS fo w2 [.slice (some ⟨w.heap.size, 0, none⟩) xs.length xs.length] ((xs.take 0).map Lib.itoa ++ List.replicate (xs.length - 0) []) from by simpa using ho1) ho2)
  clear hrow hgrow ho1 ho2 ho3 hm2
  go_wp2_with fail
  go_loopw [13] (fun i wr => ∃ k : Nat, k ≤ xs.length ∧ i = .int .i64 k ∧ Upd [] w wr ∧ RS fo wr [.slice (some ⟨w.heap.size, 0, none⟩) xs.length xs.length] ((xs.take k).map Lib.itoa ++ List.replicate (xs.length - k) []) ∧ Own fo wr) (fun i _ => xs.length - (intOf i).toNat)
  case atStart => exact ⟨0, Nat.zero_le _, rfl, hU, HST.out.1, HST.out.2⟩
  case round =>
    clear HST hU
    obtain ⟨k, hk, rfl, hU, ho1, ho2⟩ := hrel
    by_cases hlt : k < xs.length
    · obtain ⟨a', cap', hv, -, -, hc⟩ := slF1_open (R1k.upd HR.out hU (by simp))
      cases hv
      obtain ⟨b1, o1, rfl, -, -, p1⟩ := hc k hlt
      have hset := set_fill Lib.itoa [] xs k hlt
      obtain ⟨⟨x0, x1⟩, -⟩ := HV.out xs[k] (List.getElem_mem hlt)
      have hlen : ((xs.take k).map Lib.itoa ++ List.replicate (xs.length - k) ([] : List UInt8)).length = xs.length := by simp; omega
      have HL := Lib.hid hlen
      have HS := Lib.hid hset
      have HU := Lib.hid hU
      have HO := Lib.hid (And.intro ho1 ho2)
      generalize xs[k] = x at *
      have S1 := Lib.hid (decimal x wr x0 x1 (HE.out.upd hU))
      clear hc hset hlen hU ho1 ho2
      go_wp2_with fail
      refine S1.out.mono ?_
      rintro e w3 ⟨rfl, hu3⟩
      obtain ⟨hbl, hcl0, hfz, hos⟩ := rowCellS (RSk.upd HO.out.1 hu3 (by simp)) (HO.out.2.upd hu3 (by simp)) HL.out k hlt
      have hos := hos (Lib.itoa x)
      rw [HS.out] at hos
      obtain ⟨z0, hz0'⟩ : ∃ z0 : List UInt8, w3.cell? ⟨w.heap.size, k, none⟩ = some (es z0) := ⟨_, hcl0⟩
      clear hcl0
      have HP := Lib.hid (And.intro hos (HU.out.trans hu3))
      clear S1 hos HO HU hu3 HS HL
      generalize Lib.itoa x = A at *
      go_wp2_with fail
      go_roundw
      case rel => exact ⟨k + 1, by omega, by go_num, HP.out.2.setCell (Or.inl (Nat.le_refl _)) _, HP.out.1.1, HP.out.1.2⟩
      case measure => simp [intOf]; omega
    · obtain rfl : k = xs.length := by omega
      obtain ⟨ps, hps⟩ : ∃ ps, ps = xs.map Lib.itoa := ⟨_, rfl⟩
      have hpl : ps.length = xs.length := by rw [hps]; simp
      have ho3 : RS fo wr [.slice (some ⟨w.heap.size, 0, none⟩) xs.length xs.length] ps := by rw [hps]; simpa using ho1
      obtain ⟨a', cap', hv, -, hc2, hc⟩ := slF1_open ho3
      simp only [Value.slice.injEq] at hv
      obtain ⟨rfl, -, rfl⟩ := hv
      have hle : (joinC 44 ps).length ≤ ps.length * (30 + 1) := joinC_le 44 30 ps (fun p hp => by
        rw [hps] at hp
        obtain ⟨x, hx, rfl⟩ := List.mem_map.1 hp
        exact (HV.out x hx).2)
      have hbk : w.heap.size < wr.heap.size := by
        obtain ⟨b, off, hb, -, hbl, -⟩ := hc 0 (by omega)
        cases hb; exact hbl
      have hmm : (ps.map (fun p => (⟨p.toArray⟩ : ByteArray))).map (fun b => b.data.toList) = ps := by
        rw [List.map_map]; exact (List.map_congr_left (fun p _ => rfl)).trans (List.map_id _)
      have hj : Lib.join ((ps.map (fun p => (⟨p.toArray⟩ : ByteArray))).map (fun b => b.data.toList)) (⟨#[44]⟩ : ByteArray).data.toList = joinC 44 ps := by
        rw [hmm]; exact join_lib 44 ps
      have S0 := Tryz.strings_Join w.heap.size 0 xs.length (ps.map (fun p => (⟨p.toArray⟩ : ByteArray))) ⟨#[44]⟩ wr (fun j x hx => by
        obtain ⟨hj1, rfl⟩ := List.getElem?_eq_some_iff.1 hx
        have hj2 : j < ps.length := by simpa using hj1
        obtain ⟨b, off, hb, -, -, hcl⟩ := hc j hj2
        cases hb
        rw [hcl]
        simp [es]) hbk (by simp; omega) (by simp; omega) (by rw [hj]; omega)
      rw [hj] at S0
      simp only [List.length_map, hpl] at S0
      have S1 := Lib.hid S0
      have HX := Lib.hid (show joinC 44 ps = txtV xs by rw [hps, txtV])
      have HU := Lib.hid hU
      clear hj hmm hle hc hc2 ho3 ho1 ho2 hps hU S0 HV HE HR
      generalize joinC 44 ps = J at *
      go_wp2_with fail
      refine S1.out.mono ?_
      rintro e w3 ⟨rfl, hb3⟩
      have HP := Lib.hid (HU.out.trans (Upd.ofBelow hb3))
      clear S1 hb3 HU
      go_wp2_with fail
      go_ret
      exact ⟨by rw [← HX.out]; rfl, HP.out⟩

end Go.Proofs.YtcnaapiljmgfoaaGreatDoor

/-
  Expressions as trees: how a tree lies in memory; the terms of a tree in order; a valid list of terms is one tree's.
-/
namespace Go.Proofs.YtcnaapiljmgfoaaGreatDoor
open Go.RowKit

inductive Ex where
  | mk (t : Tm) (args : List Ex)

mutual
def RE : Ex → List Nat → World → List Value → Prop
  | .mk t args, fp, w, cs => ∃ b s fa us fb fps, cs = [.pointer (some ⟨b, 0, none⟩)] ∧ fp = b :: fa ∧ w.cell? ⟨b, 0, none⟩ = some (ei t.1) ∧ w.cell? ⟨b, 1, none⟩ = some (ei t.2) ∧ w.cell? ⟨b, 2, none⟩ = some s ∧
      Flat fb w s 1 args.length us ∧ List.length fps = args.length ∧ fa = fb ++ List.flatten fps ∧ REs args fps w us
def REs : List Ex → List (List Nat) → World → List Value → Prop
  | [], _, _, _ => True
  | x :: xs, fps, w, us => ∃ f fs u vs, fps = f :: fs ∧ us = u :: vs ∧ RE x f w [u] ∧ REs xs fs w vs
end

mutual
def flatE : Ex → List Tm
  | .mk t args => t :: flatEs args
def flatEs : List Ex → List Tm
  | [] => []
  | x :: xs => flatE x ++ flatEs xs
end

mutual
def okE : Ex → Bool
  | .mk t args => decide ((args.length : Int) = arity t) && okEs args
def okEs : List Ex → Bool
  | [] => true
  | x :: xs => okE x && okEs xs
end

abbrev R_E : Rp Ex := fun fp w cs x => RE x fp w cs

theorem REs_get : ∀ (xs : List Ex) (fps : List (List Nat)) (w : World) (us : List Value), REs xs fps w us → ∀ i (h : i < xs.length) u (f : List Nat), us[i]? = some u → fps[i]? = some f → RE xs[i] f w [u]
  | [], _, _, _, _, i, h, _, _, _, _ => by simp at h
  | x :: xs, fps, w, us, hr, i, h, u, f, hu, hf => by
    obtain ⟨f0, fs, u0, vs, rfl, rfl, h1, h2⟩ := hr
    cases i with
    | zero => simp at hu hf; subst hu hf; exact h1
    | succ i => exact REs_get xs fs w vs h2 i (by simpa using h) u f (by simpa using hu) (by simpa using hf)

theorem REs_mk : ∀ (xs : List Ex) (fps : List (List Nat)) (w : World) (us : List Value), fps.length = xs.length → us.length = xs.length →
    (∀ i (h : i < xs.length) u (f : List Nat), us[i]? = some u → fps[i]? = some f → RE xs[i] f w [u]) → REs xs fps w us
  | [], _, _, _, _, _, _ => trivial
  | x :: xs, fps, w, us, h1, h2, h => by
    match fps, us, h1, h2 with
    | f :: fs, u :: vs, h1, h2 =>
      exact ⟨f, fs, u, vs, rfl, rfl, h 0 (by simp) u f rfl rfl, REs_mk xs fs w vs (by simpa using h1) (by simpa using h2) (fun i hi u' f' hu hf => h (i + 1) (by simpa using hi) u' f' (by simpa using hu) (by simpa using hf))⟩

theorem R_E_open {fp : List Nat} {w : World} {v : Value} {t : Tm} {args : List Ex} (h : R_E fp w [v] (.mk t args)) :
    ∃ b s fa, v = .pointer (some ⟨b, 0, none⟩) ∧ fp = b :: fa ∧ w.cell? ⟨b, 0, none⟩ = some (ei t.1) ∧ w.cell? ⟨b, 1, none⟩ = some (ei t.2) ∧ w.cell? ⟨b, 2, none⟩ = some s ∧ slP R_E fa w [s] args := by
  simp only [R_E, RE] at h
  obtain ⟨b, s, fa, us, fb, fps, hv, rfl, h1, h2, h3, h4, h5, rfl, h6⟩ := h
  simp at hv
  exact ⟨b, s, _, hv, rfl, h1, h2, h3, s, us, fb, fps, rfl, h4, h5, rfl, REs_get _ _ _ _ h6⟩

theorem R_E_mk {w : World} {t : Tm} {args : List Ex} {b : Nat} {s : Value} {fa : List Nat} (h1 : w.cell? ⟨b, 0, none⟩ = some (ei t.1)) (h2 : w.cell? ⟨b, 1, none⟩ = some (ei t.2)) (h3 : w.cell? ⟨b, 2, none⟩ = some s)
    (h : slP R_E fa w [s] args) : R_E (b :: fa) w [.pointer (some ⟨b, 0, none⟩)] (.mk t args) := by
  obtain ⟨v, us, fb, fps, hv, h4, h5, rfl, h6⟩ := h
  cases hv
  have hl : us.length = args.length := by obtain ⟨_, _, _, _, _, h, _⟩ := h4; simpa using h
  simp only [R_E, RE]
  exact ⟨b, s, _, us, fb, fps, rfl, rfl, h1, h2, h3, h4, h5, rfl, REs_mk _ _ _ _ h5 hl h6⟩

theorem R_E_form {fp : List Nat} {w : World} {v : Value} {x : Ex} (h : R_E fp w [v] x) : ∃ b, v = .pointer (some ⟨b, 0, none⟩) := by
  obtain ⟨t, args⟩ := x
  obtain ⟨b, -, -, rfl, -⟩ := R_E_open h
  exact ⟨b, rfl⟩

mutual
theorem RE_lt : ∀ (x : Ex) (fp : List Nat) (w : World) (cs : List Value), RE x fp w cs → ∀ b ∈ fp, b < w.heap.size
  | .mk t args, fp, w, cs, h, b, hb => by
    simp only [RE] at h
    obtain ⟨b0, s, fa, us, fb, fps, -, rfl, h1, -, -, h4, h5, rfl, h6⟩ := h
    rcases List.mem_cons.1 hb with rfl | hb
    · exact World.block_lt_of_cell? w _ h1
    · rcases List.mem_append.1 hb with hb | hb
      · exact h4.lt b hb
      · exact REs_lt args fps w us h5 h6 b hb
theorem REs_lt : ∀ (xs : List Ex) (fps : List (List Nat)) (w : World) (us : List Value), fps.length = xs.length → REs xs fps w us → ∀ b ∈ fps.flatten, b < w.heap.size
  | [], fps, _, _, h, _, b, hb => by simp at h; subst h; simp at hb
  | x :: xs, fps, w, us, hl, h, b, hb => by
    simp only [REs] at h
    obtain ⟨f, fs, u, vs, rfl, rfl, h1, h2⟩ := h
    rw [List.flatten_cons] at hb
    rcases List.mem_append.1 hb with hb | hb
    · exact RE_lt x f w [u] h1 b hb
    · exact REs_lt xs fs w vs (by simpa using hl) h2 b hb
end

mutual
theorem RE_frame : ∀ (x : Ex) (fp : List Nat) (w w' : World) (cs : List Value), RE x fp w cs → w.heap.size ≤ w'.heap.size → (∀ b ∈ fp, w'.heap[b]? = w.heap[b]?) → RE x fp w' cs
  | .mk t args, fp, w, w', cs, h, hs, hb => by
    simp only [RE] at h ⊢
    obtain ⟨b0, s, fa, us, fb, fps, rfl, rfl, h1, h2, h3, h4, h5, rfl, h6⟩ := h
    have hb0 := hb b0 (by simp)
    refine ⟨b0, s, _, us, fb, fps, rfl, rfl, ?_, ?_, ?_, h4.frame hs (fun b h => hb b (by simp [h])), h5, rfl, REs_frame args fps w w' us h6 hs (fun b h => hb b (by simp only [List.mem_cons, List.mem_append]; exact Or.inr (Or.inr h)))⟩
    · rw [World.cell?_of_block (w := w) hb0]; exact h1
    · rw [World.cell?_of_block (w := w) hb0]; exact h2
    · rw [World.cell?_of_block (w := w) hb0]; exact h3
theorem REs_frame : ∀ (xs : List Ex) (fps : List (List Nat)) (w w' : World) (us : List Value), REs xs fps w us → w.heap.size ≤ w'.heap.size → (∀ b ∈ fps.flatten, w'.heap[b]? = w.heap[b]?) → REs xs fps w' us
  | [], _, _, _, _, _, _, _ => trivial
  | x :: xs, fps, w, w', us, h, hs, hb => by
    simp only [REs] at h ⊢
    obtain ⟨f, fs, u, vs, rfl, rfl, h1, h2⟩ := h
    exact ⟨f, fs, u, vs, rfl, rfl, RE_frame x f w w' [u] h1 hs (fun b h => hb b (by rw [List.flatten_cons]; exact List.mem_append_left _ h)), REs_frame xs fs w w' vs h2 hs (fun b h => hb b (by rw [List.flatten_cons]; exact List.mem_append_right _ h))⟩
end

theorem R_Ek : Kept R_E := ⟨fun h => RE_lt _ _ _ _ h, fun h hs hb => RE_frame _ _ _ _ _ h hs hb⟩

theorem flatEs_append (xs ys : List Ex) : flatEs (xs ++ ys) = flatEs xs ++ flatEs ys := by
  induction xs with
  | nil => rfl
  | cons x xs ih => simp [flatEs, ih]
theorem okEs_append (xs ys : List Ex) : okEs (xs ++ ys) = (okEs xs && okEs ys) := by
  induction xs with
  | nil => simp [okEs]
  | cons x xs ih => simp [okEs, ih, Bool.and_assoc]
theorem flatE_pos (x : Ex) : 1 ≤ (flatE x).length := by cases x; simp [flatE]

/-- terms behind which no operand is wanted are the terms of trees. -/
theorem trees_of_run (nv : Int) : ∀ (ts : List Tm) (n : Nat), run nv ts n = some 0 → ∃ xs : List Ex, xs.length = n ∧ okEs xs = true ∧ flatEs xs = ts
  | [], n, h => ⟨[], by simp [run] at h; simp; omega, rfl, rfl⟩
  | t :: ts, n, h => by
    rw [run] at h
    by_cases hn : (n : Int) = 0
    · simp [hn] at h
    · rw [if_neg hn] at h
      by_cases ht : tOk t nv = true
      · rw [if_pos ht] at h
        have hb := arity_bd t
        obtain ⟨m, hm⟩ : ∃ m : Nat, arity t = m := ⟨(arity t).toNat, by omega⟩
        rw [hm, show ((n : Int) + ((m : Int) - 1)) = ((n - 1 + m : Nat) : Int) from by omega] at h
        obtain ⟨xs, h1, h2, h3⟩ := trees_of_run nv ts (n - 1 + m) h
        refine ⟨.mk t (xs.take m) :: xs.drop m, by simp; omega, ?_, ?_⟩
        · have hok : okEs (xs.take m) = true ∧ okEs (xs.drop m) = true := by
            have := h2; rw [← List.take_append_drop m xs, okEs_append, Bool.and_eq_true] at this; exact this
          simp only [okEs, okE, hok.1, hok.2, Bool.and_true, decide_eq_true_eq, hm]
          simp; omega
        · simp only [flatEs, flatE]
          rw [List.cons_append, ← flatEs_append, List.take_append_drop, h3]
      · rw [if_neg ht] at h; cases h

theorem tree_of_ok {e : List Tm} (h : eOk e = true) : ∃ x : Ex, okE x = true ∧ flatE x = e := by
  unfold eOk isE at h
  rw [Bool.and_eq_true] at h
  have h2 : run 29 e ((1 : Nat) : Int) = some 0 := by simpa using h.2
  obtain ⟨xs, h3, h4, h5⟩ := trees_of_run 29 e 1 h2
  match xs, h3 with
  | [x], _ => exact ⟨x, by simpa [okEs] using h4, by simpa [flatEs] using h5⟩

end Go.Proofs.YtcnaapiljmgfoaaGreatDoor

/-
  The terms of a tree in order; a tree out of terms: what each call returns and makes.
-/
namespace Go.Proofs.YtcnaapiljmgfoaaGreatDoor
open Go.RowKit

abbrev encT (t : Tm) : List Value := [ei t.1, ei t.2]

theorem flatEs_take (xs : List Ex) (k : Nat) (h : k < xs.length) : flatEs (xs.take (k + 1)) = flatEs (xs.take k) ++ flatE xs[k] := by
  rw [List.take_succ_eq_append_getElem h, flatEs_append]; simp [flatEs]
theorem flatEs_take_le (xs : List Ex) (k : Nat) : (flatEs (xs.take k)).length ≤ (flatEs xs).length := by
  conv => rhs; rw [← List.take_append_drop k xs, flatEs_append, List.length_append]
  omega

theorem Below.keepK {α : Type} {R : Rp α} (K : Kept R) {B : Nat} {w w' : World} {fp cs x} (h : R fp w cs x) (hb : Below B w w') (hf : ∀ b ∈ fp, b < B) : R fp w' cs x :=
  K.frame h hb.size fun b hm => hb.block b (hf b hm)

/-- a slice without its first element, whatever address its value bears. -/
theorem slF_tail {α : Type} {n : Nat} {enc : α → List Value} (he : ∀ x, (enc x).length = n) {fp : List Nat} {w : World} {b off len cap : Nat} {x : α} {xs : List α}
    (h : slF n enc fp w [.slice (some ⟨b, off, none⟩) len cap] (x :: xs)) (o' : Nat) (ho : xs ≠ [] → o' = off + n) :
    ∃ fp', slF n enc fp' w [.slice (some ⟨b, o', none⟩) (len - 1) (cap - 1)] xs ∧ (∀ c ∈ fp', c ∈ fp) := by
  obtain ⟨v, hv, a, cap', hv2, h1, h2, h3, h4⟩ := h
  cases hv
  simp only [Value.slice.injEq] at hv2
  obtain ⟨rfl, rfl, rfl⟩ := hv2
  simp only [List.length_cons] at *
  have hl : (xs.flatMap enc).length = xs.length * n := by
    clear h3 h4 ho
    induction xs with
    | nil => simp
    | cons y ys ih => rw [List.flatMap_cons, List.length_append, he, ih (by simp at h1; omega), List.length_cons, Nat.add_mul]; omega
  rcases h4 with ⟨h0, -⟩ | ⟨b', off', hb', rfl, hbl, hc⟩
  · omega
  · simp only [Option.some.injEq, Addr.mk.injEq, and_true] at hb'
    obtain ⟨rfl, rfl⟩ := hb'
    by_cases hx : xs = []
    · subst hx
      exact ⟨[], ⟨_, rfl, some ⟨b, o', none⟩, cap - 1, by simp, by simp, by omega, by simp, Or.inl ⟨rfl, rfl⟩⟩, by simp⟩
    · refine ⟨[b], ⟨_, rfl, _, cap - 1, by simp, by omega, by omega, hl, Or.inr ⟨b, o', rfl, rfl, hbl, fun j u hu => ?_⟩⟩, by simp⟩
      have := hc (n + j) u (by rw [List.flatMap_cons, List.getElem?_append_right (by rw [he]; omega), he, Nat.add_sub_cancel_left]; exact hu)
      rw [ho hx, Nat.add_assoc]; exact this

end Go.Proofs.YtcnaapiljmgfoaaGreatDoor

/-
  OperandsOf, both sides.
-/
namespace Go.Proofs.YtcnaapiljmgfoaaGreatDoor
open Go.RowKit

abbrev R_T2' : Rp (List (List Tm)) := slP R_T1

noncomputable def treeOf (e : List Tm) (h : eOk e = true) : Ex := Classical.choose (tree_of_ok h)
theorem treeOf_ok (e : List Tm) (h : eOk e = true) : okE (treeOf e h) = true ∧ flatE (treeOf e h) = e := Classical.choose_spec (tree_of_ok h)
def argsOf : Ex → List Ex | .mk _ args => args
def termOf : Ex → Tm | .mk t _ => t
open Classical in
noncomputable def opsRes (e : List Tm) : List (List Tm) × Int := if h : eOk e = true then ((argsOf (treeOf e h)).map flatE, 0) else ([], 1)

theorem eOk_len {e : List Tm} (h : eOk e = true) : 1 ≤ e.length ∧ e.length ≤ 60 := by have := isE_len h; omega

theorem flatE_arg_le (x : Ex) (k : Nat) (h : k < (argsOf x).length) : (flatE (argsOf x)[k]).length ≤ (flatE x).length := by
  obtain ⟨t, args⟩ := x
  simp only [argsOf, flatE, List.length_cons] at *
  have e1 : flatEs args = flatEs (args.take k) ++ (flatE args[k] ++ flatEs (args.drop (k + 1))) := by
    conv => lhs; rw [← List.take_append_drop k args, flatEs_append, List.drop_eq_getElem_cons (show k < args.length from h)]
    rfl
  rw [e1, List.length_append, List.length_append]; omega

theorem slF_sub {α : Type} {n : Nat} {enc : α → List Value} (he : ∀ x, (enc x).length = n) {fp : List Nat} {w : World} {b off len cap : Nat} {xs : List α}
    (h : slF n enc fp w [.slice (some ⟨b, off, none⟩) len cap] xs) (i j : Nat) (hij : i ≤ j) (hj : j ≤ xs.length) :
    ∃ fp', slF n enc fp' w [.slice (some ⟨b, off + i * n, none⟩) (j - i) (cap - i)] ((xs.take j).drop i) ∧ (∀ c ∈ fp', c ∈ fp) := by
  obtain ⟨v, hv, a, cap', hv2, h1, h2, h3, h4⟩ := h
  cases hv
  simp only [Value.slice.injEq] at hv2
  obtain ⟨rfl, rfl, rfl⟩ := hv2
  have hfl : ∀ ys : List α, (ys.flatMap enc).length = ys.length * n := by
    intro ys
    induction ys with
    | nil => simp
    | cons y ys ih => rw [List.flatMap_cons, List.length_append, he, ih, List.length_cons, Nat.add_mul]; omega
  have hlen : ((xs.take j).drop i).length = j - i := by simp; omega
  rcases h4 with ⟨h0, rfl⟩ | ⟨b', off', hb', rfl, hbl, hc⟩
  · have : j = 0 := by omega
    subst this
    obtain rfl : i = 0 := by omega
    exact ⟨[], ⟨_, rfl, some ⟨b, off + 0 * n, none⟩, cap - 0, by simp, by simp, by omega, by simp, Or.inl ⟨by simp, rfl⟩⟩, by simp⟩
  · simp only [Option.some.injEq, Addr.mk.injEq, and_true] at hb'
    obtain ⟨rfl, rfl⟩ := hb'
    refine ⟨[b], ⟨_, rfl, some ⟨b, off + i * n, none⟩, cap - i, by rw [hlen], by omega, by omega, hfl _, Or.inr ⟨b, off + i * n, rfl, rfl, hbl, fun q u hu => ?_⟩⟩, by simp⟩
    have e1 : xs.flatMap enc = (xs.take i).flatMap enc ++ (((xs.take j).drop i).flatMap enc ++ (xs.drop j).flatMap enc) := by
      rw [← List.flatMap_append, ← List.flatMap_append]
      congr 1
      rw [← List.append_assoc]
      conv => lhs; rw [← List.take_append_drop j xs]
      congr 1
      conv => lhs; rw [← List.take_append_drop i (xs.take j)]
      rw [List.take_take, Nat.min_eq_left hij]
    have hti : ((xs.take i).flatMap enc).length = i * n := by rw [hfl]; congr 1; simp; omega
    have hq : q < (((xs.take j).drop i).flatMap enc).length := (List.getElem?_eq_some_iff.1 hu).1
    have := hc (i * n + q) u (by rw [e1, List.getElem?_append_right (by omega), hti, Nat.add_sub_cancel_left, List.getElem?_append_left hq]; exact hu)
    rw [Nat.add_assoc]; exact this

theorem ops_b (e : List Tm) : mkF_T2 (opsRes e).1 ≤ 300 := by
  unfold opsRes
  split
  · rename_i h
    obtain ⟨-, hfl⟩ := treeOf_ok e h
    have hlen := eOk_len h
    generalize treeOf e h = x at *
    obtain ⟨t, args⟩ := x
    simp only [flatE] at hfl
    have h1 : (flatEs args).length ≤ 60 := by have : (flatEs args).length + 1 = e.length := by rw [← hfl]; rfl
                                              omega
    have h2 : ∀ xs : List Ex, mkF_T2 (xs.map flatE) = 2 * (flatEs xs).length := by
      intro xs
      induction xs with
      | nil => rfl
      | cons y ys ih =>
        unfold mkF_T2 at *
        simp only [List.map_cons, List.sum_cons, flatEs, List.length_append, ih, mkF_T1]
        omega
    simp only [argsOf]
    rw [h2]; omega
  · simp [mkF_T2]

end Go.Proofs.YtcnaapiljmgfoaaGreatDoor

/-
  Postfix form: the stack of trees, plainly.
-/
namespace Go.Proofs.YtcnaapiljmgfoaaGreatDoor

/-- terms in postfix order, onto a stack of trees (its top is the list's end). -/
def pfE : List Tm → List Ex → Option (List Ex)
  | [], st => some st
  | t :: ts, st => if (st.length : Int) < arity t then none else pfE ts (st.take (st.length - (arity t).toNat) ++ [.mk t (st.drop (st.length - (arity t).toNat))])

theorem flatEs_all (P : Tm → Bool) (xs ys : List Ex) : (flatEs (xs ++ ys)).all P = ((flatEs xs).all P && (flatEs ys).all P) := by
  rw [flatEs_append, List.all_append]

theorem pfE_ok : ∀ (ts : List Tm) (st out : List Ex), okEs st = true → pfE ts st = some out → okEs out = true ∧ (∀ P : Tm → Bool, (flatEs out).all P = ((flatEs st).all P && ts.all P)) ∧ (flatEs out).length = (flatEs st).length + ts.length
  | [], st, out, h, hp => by simp [pfE] at hp; subst hp; exact ⟨h, by simp, by simp⟩
  | t :: ts, st, out, h, hp => by
    rw [pfE] at hp
    split at hp
    · cases hp
    · rename_i hlt
      have hb := arity_bd t
      have hst : okEs (st.take (st.length - (arity t).toNat)) = true ∧ okEs (st.drop (st.length - (arity t).toNat)) = true := by
        rw [← List.take_append_drop (st.length - (arity t).toNat) st, okEs_append, Bool.and_eq_true] at h; exact h
      have hfl : flatEs st = flatEs (st.take (st.length - (arity t).toNat)) ++ flatEs (st.drop (st.length - (arity t).toNat)) := by
        rw [← flatEs_append, List.take_append_drop]
      obtain ⟨g1, g2, g3⟩ := pfE_ok ts _ out (by
        rw [okEs_append, hst.1]
        simp only [okEs, okE, hst.2, Bool.and_true, Bool.true_and, decide_eq_true_eq, List.length_drop]
        omega) hp
      refine ⟨g1, fun P => ?_, ?_⟩
      · rw [g2 P, flatEs_all, hfl, List.all_append]
        simp only [flatEs, flatE, List.append_nil, List.all_cons]
        cases (flatEs (List.take (st.length - (arity t).toNat) st)).all P <;> cases (flatEs (List.drop (st.length - (arity t).toNat) st)).all P <;> cases P t <;> cases ts.all P <;> rfl
      · rw [g3, flatEs_append, hfl]
        simp only [flatEs, flatE, List.append_nil, List.length_append, List.length_cons]
        omega

mutual
theorem run_tree (nv : Int) : ∀ (x : Ex) (rest : List Tm) (n : Nat), okE x = true → (flatE x).all (fun t => tOk t nv) = true → run nv (flatE x ++ rest) ((n + 1 : Nat) : Int) = run nv rest n
  | .mk t args, rest, n, h, ha => by
    simp only [okE, Bool.and_eq_true, decide_eq_true_eq] at h
    simp only [flatE, List.all_cons, Bool.and_eq_true] at ha
    rw [flatE, List.cons_append, run, if_neg (by omega), if_pos ha.1, show (((n + 1 : Nat) : Int) + (arity t - 1)) = ((n + args.length : Nat) : Int) from by omega]
    exact run_trees nv args rest n h.2 ha.2
theorem run_trees (nv : Int) : ∀ (xs : List Ex) (rest : List Tm) (n : Nat), okEs xs = true → (flatEs xs).all (fun t => tOk t nv) = true → run nv (flatEs xs ++ rest) ((n + xs.length : Nat) : Int) = run nv rest n
  | [], rest, n, _, _ => by simp [flatEs]
  | x :: xs, rest, n, h, ha => by
    simp only [okEs, Bool.and_eq_true] at h
    simp only [flatEs, List.all_append, Bool.and_eq_true] at ha
    rw [flatEs, List.append_assoc, List.length_cons, show n + (xs.length + 1) = (n + xs.length) + 1 from by omega, run_tree nv x _ _ h.1 ha.1]
    exact run_trees nv xs rest n h.2 ha.2
end

theorem run_all (nv : Int) : ∀ (ts : List Tm) (n : Int), run nv ts n ≠ none → ts.all (fun t => tOk t nv) = true
  | [], _, _ => rfl
  | t :: ts, n, h => by
    rw [run] at h
    split at h
    · exact absurd rfl h
    · split at h
      · rename_i ht
        rw [List.all_cons, ht, run_all nv ts _ h]; rfl
      · exact absurd rfl h

theorem eOk_tree (x : Ex) (h : okE x = true) : eOk (flatE x) = (decide ((flatE x).length ≤ 60) && (flatE x).all (fun t => tOk t 29)) := by
  unfold eOk isE
  cases ha : (flatE x).all (fun t => tOk t 29)
  · have : (run 29 (flatE x) 1 == some 0) = false := by
      cases hr : run 29 (flatE x) 1 with
      | none => rfl
      | some m => have := run_all 29 (flatE x) 1 (by rw [hr]; simp); rw [this] at ha; cases ha
    rw [this]; simp
  · have := run_tree 29 x [] 0 h ha
    simp only [List.append_nil, run] at this
    rw [show ((0 + 1 : Nat) : Int) = 1 from rfl] at this
    rw [this]
    simp only [Int.natCast_zero, beq_self_eq_true, Bool.and_true]
    rw [decide_eq_decide]; omega

end Go.Proofs.YtcnaapiljmgfoaaGreatDoor

/-
  Values of trees, and folding, plainly.
-/
namespace Go.Proofs.YtcnaapiljmgfoaaGreatDoor

def truthV (b : Bool) : Int := if b then 1 else 0
def opV (op a b : Int) : Int :=
  if op = 0 then (a + b) % 64 else if op = 1 then (a - b + 64) % 64 else if op = 2 then a * b % 64
  else if op = 3 then truthV (a == b) else if op = 4 then truthV (a != b) else if op = 5 then truthV (decide (a < b)) else if op = 6 then truthV (decide (a ≤ b))
  else if op = 7 then truthV (a != 0 && b != 0) else truthV (a != 0 || b != 0)

theorem truthV_bd (b : Bool) : 0 ≤ truthV b ∧ truthV b ≤ 63 := by unfold truthV; split <;> omega
theorem opV_bd (op a b : Int) : 0 ≤ opV op a b ∧ opV op a b ≤ 63 := by
  unfold opV
  repeat' split
  all_goals first | exact truthV_bd _ | (constructor <;> omega)

mutual
def valE (vals : List Int) : Ex → Int
  | .mk t args => if t.1 = 0 then t.2 else if t.1 = 1 then vals.getD t.2.toNat 0 else if t.1 = 3 then truthV ((valEs vals args).getD 0 0 == 0) else opV t.2 ((valEs vals args).getD 0 0) ((valEs vals args).getD 1 0)
def valEs (vals : List Int) : List Ex → List Int
  | [] => []
  | x :: xs => valE vals x :: valEs vals xs
end

def isNum : Ex → Bool | .mk t _ => t.1 == 0
mutual
def foldE : Ex → Ex
  | .mk t args => if args = [] then .mk t args else if (foldEs args).all isNum then .mk (0, valE [] (.mk t (foldEs args))) [] else .mk t (foldEs args)
def foldEs : List Ex → List Ex
  | [] => []
  | x :: xs => foldE x :: foldEs xs
end

theorem foldEs_map (xs : List Ex) : foldEs xs = xs.map foldE := by
  induction xs with
  | nil => rfl
  | cons x xs ih => simp [foldEs, ih]
theorem valEs_map (vals : List Int) (xs : List Ex) : valEs vals xs = xs.map (valE vals) := by
  induction xs with
  | nil => rfl
  | cons x xs ih => simp [valEs, ih]

/-- a tree with valid terms for a number of variables. -/
def goodE (nv : Int) (x : Ex) : Bool := okE x && (flatE x).all (fun t => tOk t nv)
def goodEs (nv : Int) (xs : List Ex) : Bool := okEs xs && (flatEs xs).all (fun t => tOk t nv)

theorem goodEs_cons (nv : Int) (x : Ex) (xs : List Ex) : goodEs nv (x :: xs) = (goodE nv x && goodEs nv xs) := by
  simp only [goodEs, goodE, okEs, flatEs, List.all_append]
  cases okE x <;> cases okEs xs <;> simp
theorem goodEs_all (nv : Int) (xs : List Ex) : goodEs nv xs = xs.all (goodE nv) := by
  induction xs with
  | nil => rfl
  | cons x xs ih => rw [goodEs_cons, ih]; rfl
theorem goodE_mk (nv : Int) (t : Tm) (args : List Ex) : goodE nv (.mk t args) = (decide ((args.length : Int) = arity t) && tOk t nv && goodEs nv args) := by
  simp only [goodE, goodEs, okE, flatE, List.all_cons]
  cases decide ((args.length : Int) = arity t) <;> cases tOk t nv <;> cases okEs args <;> simp

theorem tOk_kind {t : Tm} {nv : Int} (h : tOk t nv = true) : t.1 = 0 ∨ t.1 = 1 ∨ t.1 = 2 ∨ t.1 = 3 := by
  unfold tOk at h
  repeat' split at h
  all_goals first | omega | cases h

theorem arity0 {t : Tm} {nv : Int} (h : tOk t nv = true) (h0 : arity t = 0) : t.1 = 0 ∨ t.1 = 1 := by
  rcases tOk_kind h with h | h | h | h
  · exact Or.inl h
  · exact Or.inr h
  · simp [arity, h] at h0
  · simp [arity, h] at h0

mutual
theorem valE_bd (vals : List Int) (nv : Int) (hv : ∀ k, 0 ≤ vals.getD k 0 ∧ vals.getD k 0 ≤ 63) : ∀ x : Ex, goodE nv x = true → 0 ≤ valE vals x ∧ valE vals x ≤ 63
  | .mk t args, h => by
    rw [goodE_mk] at h
    simp only [Bool.and_eq_true] at h
    rw [valE]
    split
    · rename_i h0
      have := h.1.2
      simp only [tOk, h0, if_true] at this
      exact inB_true this
    · split
      · exact hv _
      · split
        · exact truthV_bd _
        · exact opV_bd _ _ _
end

theorem isNum_good {x : Ex} {nv : Int} (h : goodE nv x = true) (hn : isNum x = true) : ∃ n, x = .mk (0, n) [] ∧ 0 ≤ n ∧ n ≤ 63 := by
  obtain ⟨⟨a, n⟩, args⟩ := x
  simp [isNum] at hn
  subst hn
  rw [goodE_mk] at h
  simp only [Bool.and_eq_true, decide_eq_true_eq] at h
  have ha : args = [] := List.eq_nil_of_length_eq_zero (by have := h.1.1; simp [arity] at this; simpa using this)
  subst ha
  have := h.1.2
  simp only [tOk, if_true] at this
  exact ⟨n, rfl, inB_true this⟩

mutual
theorem foldE_good (nv : Int) : ∀ x : Ex, goodE nv x = true → goodE nv (foldE x) = true
  | .mk t args, h => by
    rw [foldE]
    split
    · exact h
    · have h' := h
      rw [goodE_mk] at h
      simp only [Bool.and_eq_true] at h
      have ih := foldEs_good nv args h.2
      have hx : goodE nv (.mk t (foldEs args)) = true := by
        rw [goodE_mk]; simp only [Bool.and_eq_true]; exact ⟨⟨by rw [foldEs_map, List.length_map]; exact h.1.1, h.1.2⟩, ih⟩
      split
      · have hb := valE_bd [] nv (by intro k; simp) _ hx
        rw [goodE_mk]
        simp only [Bool.and_eq_true]
        exact ⟨⟨by simp [arity], by simp only [tOk, if_true]; exact inB_mk hb⟩, rfl⟩
      · exact hx
theorem foldEs_good (nv : Int) : ∀ xs : List Ex, goodEs nv xs = true → goodEs nv (foldEs xs) = true
  | [], h => h
  | x :: xs, h => by
    rw [goodEs_cons, Bool.and_eq_true] at h
    rw [foldEs, goodEs_cons, Bool.and_eq_true]
    exact ⟨foldE_good nv x h.1, foldEs_good nv xs h.2⟩
end

mutual
theorem foldE_len : ∀ x : Ex, (flatE (foldE x)).length ≤ (flatE x).length
  | .mk t args => by
    rw [foldE]
    split
    · exact Nat.le_refl _
    · split
      · simp [flatE, flatEs]
      · simp only [flatE, List.length_cons]; have := foldEs_len args; omega
theorem foldEs_len : ∀ xs : List Ex, (flatEs (foldEs xs)).length ≤ (flatEs xs).length
  | [] => Nat.le_refl _
  | x :: xs => by
    simp only [foldEs, flatEs, List.length_append]
    have := foldE_len x; have := foldEs_len xs; omega
end

theorem eOk_good {e : List Tm} (h : eOk e = true) (x : Ex) (hok : okE x = true) (hfl : flatE x = e) : goodE 29 x = true := by
  have ha : (flatE x).all (fun t => tOk t 29) = true := by
    rw [hfl]
    unfold eOk isE at h
    rw [Bool.and_eq_true] at h
    exact run_all 29 e 1 (by have := h.2; intro hh; rw [hh] at this; simp at this)
  unfold goodE; rw [hok, ha]; rfl

mutual
/-- folding changes no value. -/
theorem valE_fold (vals : List Int) (nv : Int) : ∀ x : Ex, goodE nv x = true → valE vals (foldE x) = valE vals x
  | .mk t args, h => by
    rw [goodE_mk] at h
    simp only [Bool.and_eq_true, decide_eq_true_eq] at h
    rw [foldE]
    split
    · rfl
    · rename_i hne
      have ih := valEs_fold vals nv args h.2
      have hg := foldEs_good nv args h.2
      split
      · rename_i hnum
        have hk : t.1 ≠ 0 ∧ t.1 ≠ 1 := by
          have hz : arity t ≠ 0 := by rw [← h.1.1]; intro hz; exact hne (List.eq_nil_of_length_eq_zero (by omega))
          constructor <;> (intro e; apply hz; simp [arity, e])
        have hsame : valEs [] (foldEs args) = valEs vals args := by
          rw [← ih]
          exact vals_num vals nv (foldEs args) hg hnum
        simp only [valE, if_true, hk.1, hk.2, if_false, hsame]
      · simp only [valE, ih]
theorem valEs_fold (vals : List Int) (nv : Int) : ∀ xs : List Ex, goodEs nv xs = true → valEs vals (foldEs xs) = valEs vals xs
  | [], _ => rfl
  | x :: xs, h => by
    rw [goodEs_cons, Bool.and_eq_true] at h
    rw [foldEs, valEs, valEs, valE_fold vals nv x h.1, valEs_fold vals nv xs h.2]
theorem vals_num (vals : List Int) (nv : Int) : ∀ xs : List Ex, goodEs nv xs = true → xs.all isNum = true → valEs [] xs = valEs vals xs
  | [], _, _ => rfl
  | x :: xs, h, hn => by
    rw [goodEs_cons, Bool.and_eq_true] at h
    rw [List.all_cons, Bool.and_eq_true] at hn
    obtain ⟨n, rfl, -⟩ := isNum_good h.1 hn.1
    rw [valEs, valEs, vals_num vals nv xs h.2 hn.2]
    simp [valE]
end

end Go.Proofs.YtcnaapiljmgfoaaGreatDoor

/-
  Values of operations and of trees: what the calls return.
-/
namespace Go.Proofs.YtcnaapiljmgfoaaGreatDoor
open Go.RowKit

end Go.Proofs.YtcnaapiljmgfoaaGreatDoor

/-
  Folding, the program's side.
-/
namespace Go.Proofs.YtcnaapiljmgfoaaGreatDoor
open Go.RowKit

theorem goodE_nums {t : Tm} {bs : List Ex} (h : goodE 29 (.mk t bs) = true) (hn : bs.all isNum = true) (h1 : t.1 ≠ 1) : goodE 0 (.mk t bs) = true := by
  rw [goodE_mk] at h ⊢
  simp only [Bool.and_eq_true] at h ⊢
  refine ⟨⟨h.1.1, ?_⟩, ?_⟩
  · have := h.1.2
    simp only [tOk, h1, if_false] at this ⊢; exact this
  · have hg := h.2
    rw [goodEs_all, List.all_eq_true] at hg ⊢
    rw [List.all_eq_true] at hn
    intro x hx
    obtain ⟨n, rfl, h0, h63⟩ := isNum_good (hg x hx) (hn x hx)
    rw [goodE_mk]
    simp only [Bool.and_eq_true]
    exact ⟨⟨by simp [arity], by simp only [tOk, if_true]; exact inB_mk ⟨h0, h63⟩⟩, rfl⟩

theorem flatE_arg_le' (args : List Ex) (k : Nat) (h : k < args.length) : (flatE args[k]).length ≤ (flatEs args).length := by
  have e1 : flatEs args = flatEs (args.take k) ++ (flatE args[k] ++ flatEs (args.drop (k + 1))) := by
    conv => lhs; rw [← List.take_append_drop k args, flatEs_append, List.drop_eq_getElem_cons h]
    rfl
  rw [e1, List.length_append, List.length_append]; omega

open Classical in
noncomputable def foldRes (e : List Tm) : List Tm × Int := if h : eOk e = true then (flatE (foldE (treeOf e h)), 0) else ([], 1)

def Fo (w : World) (fp : List Nat) (x : Ex) (e : Ending) (w' : World) : Prop := (∃ v' fp', e = .returned v' ∧ R_E fp' w' [v'] x ∧ ∀ b ∈ fp', b ∈ fp ∨ w.heap.size ≤ b) ∧ Upd [] w w'

end Go.Proofs.YtcnaapiljmgfoaaGreatDoor

/-
  Folding, the reference's side.
-/
namespace Go.Proofs.YtcnaapiljmgfoaaGreatDoor
open Go.RowKit

theorem oneCells (ts : List Tm) : ∀ u ∈ ts.flatMap encT, u.oneCell' = true := by
  intro u hu
  obtain ⟨t, -, ht⟩ := List.mem_flatMap.1 hu
  simp at ht
  rcases ht with rfl | rfl <;> rfl

theorem fold_b (e : List Tm) : mkF_T1 (foldRes e).1 ≤ 300 := by
  unfold foldRes
  split
  · rename_i h
    obtain ⟨-, hfl⟩ := treeOf_ok e h
    have hlen := eOk_len h
    have := foldE_len (treeOf e h)
    rw [hfl] at this
    unfold mkF_T1; simp only; omega
  · simp [mkF_T1]

end Go.Proofs.YtcnaapiljmgfoaaGreatDoor

/-
  The form's reading of bytes.
-/
namespace Go.Proofs.YtcnaapiljmgfoaaGreatDoor
open Go.RowKit

theorem opens_B1 : Opens Tryz.prog 119 R_B (fun xs => ∀ n ∈ xs, (Lit.int .u8 n).wf = true) := opens_ints Tryz.underlying119 Tryz.underlying5 (by kernel_rfl)
theorem bytes_of {xs : List Int} (h : ∀ n ∈ xs, (Lit.int .u8 n).wf = true) : bytesOk xs := by
  intro x hx
  have := h x hx
  simp [Lit.wf, IntKind.min, IntKind.max, IntKind.signed, IntKind.bits] at this
  omega

end Go.Proofs.YtcnaapiljmgfoaaGreatDoor

/-
  The expressions that the reference draws.
-/
namespace Go.Proofs.YtcnaapiljmgfoaaGreatDoor
open Go.RowKit

def DrawP (w : World) (p N : Nat) (nv most : Int) (e : Ending) (w' : World) : Prop :=
  (∃ (v' : Value) (x : Ex), e = .returned v' ∧ goodE nv x = true ∧ ((flatE x).length : Int) ≤ 2 * most + 1 ∧ New R_T1 w w' v' (flatE x)) ∧ IsSrc (N + 20 * (2 * most.toNat + 1)) p w' ∧ Upd [p] w w'

theorem draw_leaf {w w' : World} {p N M : Nat} {nv most : Int} {e : TypeId} {a b : Int} (hm : 0 ≤ most) (ht : tOk (a, b) nv = true) (h0 : a = 0 ∨ a = 1) (hs : IsSrc M p w') (hu : Upd [p] w w') (hM : M ≤ N + 20) :
    DrawP w p N nv most (.returned (.slice (some ⟨w'.heap.size, 0, none⟩) 1 1)) (w'.alloc (.cells #[ei a, ei b] e)) := by
  have hn : New R_T1 w' (w'.alloc (.cells #[ei a, ei b] e)) (.slice (some ⟨w'.heap.size, 0, none⟩) 1 1) [(a, b)] :=
    New.ofOwns2 (e := e) (by simpa using World.ownsRow_lit (base := w'.heap.size) (e := e) (size := 2) w' #[ei a, ei b] 1 (Nat.le_refl _) (by simp [maxLen]) (by simp))
  refine ⟨⟨_, .mk (a, b) [], rfl, ?_, ?_, ?_⟩, (hs.upd ((Upd.refl _ _).alloc _)).mono (by omega), hu.alloc _⟩
  · rw [goodE_mk]
    have : arity (a, b) = 0 := by rcases h0 with rfl | rfl <;> simp [arity]
    simp [this, ht, goodEs, okEs, flatEs]
  · simp [flatE, flatEs]; omega
  · exact (show New R_T1 w' _ _ (flatE (.mk (a, b) [])) from by simpa [flatE, flatEs] using hn).mono hu.size

end Go.Proofs.YtcnaapiljmgfoaaGreatDoor

/-
  Canonical forms, plainly; forests of the rest of a valid list of terms.
-/
namespace Go.Proofs.YtcnaapiljmgfoaaGreatDoor

def cmpT (a b : Tm) : Int := if cmpI a.1 b.1 ≠ 0 then cmpI a.1 b.1 else cmpI a.2 b.2
def cmpTL : List Tm → List Tm → Int
  | [], [] => 0
  | [], _ :: _ => -1
  | _ :: _, [] => 1
  | x :: xs, y :: ys => if cmpT x y ≠ 0 then cmpT x y else cmpTL xs ys
/-- by length, then by terms. -/
def gtL (a b : List Tm) : Bool := if a.length = b.length then decide (cmpTL a b > 0) else decide (b.length < a.length)
def stays (t : Tm) : Bool := t.1 != 2 || (t.2 == 1 || t.2 == 5 || t.2 == 6)
def swapE (t : Tm) (bs : List Ex) : List Ex := if stays t then bs else if gtL (flatE (bs.getD 0 (.mk (0, 0) []))) (flatE (bs.getD 1 (.mk (0, 0) []))) then bs.reverse else bs
mutual
def canonE : Ex → Ex
  | .mk t args => .mk t (swapE t (canonEs args))
def canonEs : List Ex → List Ex
  | [] => []
  | x :: xs => canonE x :: canonEs xs
end
theorem canonEs_map (xs : List Ex) : canonEs xs = xs.map canonE := by
  induction xs with
  | nil => rfl
  | cons x xs ih => simp [canonEs, ih]

theorem cmpI_gt (a b : Int) : (cmpI a b ≠ 0 ↔ a ≠ b) ∧ (0 < cmpI a b ↔ b < a) ∧ (cmpI a b = 0 ↔ a = b) ∧ -1 ≤ cmpI a b ∧ cmpI a b ≤ 1 := by
  unfold cmpI; split
  · omega
  · split <;> omega

theorem cmpT_bd (a b : Tm) : -1 ≤ cmpT a b ∧ cmpT a b ≤ 1 := by
  unfold cmpT; split
  · exact (cmpI_gt _ _).2.2.2
  · exact (cmpI_gt _ _).2.2.2
theorem cmpT_eq (a b : Tm) : cmpT a b = 0 ↔ a = b := by
  obtain ⟨a1, a2⟩ := a
  obtain ⟨b1, b2⟩ := b
  have h1 := cmpI_gt a1 b1
  have h2 := cmpI_gt a2 b2
  simp only [cmpT, Prod.mk.injEq]
  split <;> omega
theorem cmpTL_bd : ∀ a b : List Tm, -1 ≤ cmpTL a b ∧ cmpTL a b ≤ 1
  | [], [] => by simp [cmpTL]
  | [], _ :: _ => by simp [cmpTL]
  | _ :: _, [] => by simp [cmpTL]
  | x :: xs, y :: ys => by
    rw [cmpTL]; split
    · exact cmpT_bd _ _
    · exact cmpTL_bd _ _

theorem cmpTL_step (xs ys : List Tm) (k : Nat) (h1 : k < xs.length) (h2 : k < ys.length) :
    cmpTL (xs.drop k) (ys.drop k) = if cmpT xs[k] ys[k] ≠ 0 then cmpT xs[k] ys[k] else cmpTL (xs.drop (k + 1)) (ys.drop (k + 1)) := by
  rw [List.drop_eq_getElem_cons h1, List.drop_eq_getElem_cons h2, cmpTL]

theorem swapE_perm (t : Tm) (bs : List Ex) : (swapE t bs).Perm bs := by
  unfold swapE
  split
  · exact List.Perm.refl _
  · split
    · exact List.reverse_perm _
    · exact List.Perm.refl _

theorem flatEs_length (xs : List Ex) : (flatEs xs).length = (xs.map (fun x => (flatE x).length)).sum := by
  induction xs with
  | nil => rfl
  | cons x xs ih => simp [flatEs, ih]
mutual
theorem canonE_len : ∀ x : Ex, (flatE (canonE x)).length = (flatE x).length
  | .mk t args => by
    have h1 := canonEs_len args
    simp only [canonE, flatE, List.length_cons, flatEs_length] at *
    rw [List.Perm.sum_nat ((swapE_perm t (canonEs args)).map _), h1]
theorem canonEs_len : ∀ xs : List Ex, (flatEs (canonEs xs)).length = (flatEs xs).length
  | [] => rfl
  | x :: xs => by
    simp only [canonEs, flatEs, List.length_append, canonE_len x, canonEs_len xs]
end
mutual
theorem canonE_good (nv : Int) : ∀ x : Ex, goodE nv x = true → goodE nv (canonE x) = true
  | .mk t args, h => by
    rw [goodE_mk] at h
    simp only [Bool.and_eq_true] at h
    have ih := canonEs_good nv args h.2
    rw [canonE, goodE_mk]
    simp only [Bool.and_eq_true]
    refine ⟨⟨?_, h.1.2⟩, ?_⟩
    · rw [(swapE_perm t (canonEs args)).length_eq, canonEs_map, List.length_map]; exact h.1.1
    · rw [goodEs_all, List.all_eq_true] at ih ⊢
      intro x hx
      exact ih x ((swapE_perm t (canonEs args)).mem_iff.1 hx)
theorem canonEs_good (nv : Int) : ∀ xs : List Ex, goodEs nv xs = true → goodEs nv (canonEs xs) = true
  | [], h => h
  | x :: xs, h => by
    rw [goodEs_cons, Bool.and_eq_true] at h
    rw [canonEs, goodEs_cons, Bool.and_eq_true]
    exact ⟨canonE_good nv x h.1, canonEs_good nv xs h.2⟩
end

theorem run_append (nv : Int) : ∀ (a b : List Tm) (n : Int), run nv (a ++ b) n = (run nv a n).bind (run nv b)
  | [], b, n => by simp [run]
  | t :: a, b, n => by
    rw [List.cons_append, run, run]
    split
    · rfl
    · split
      · exact run_append nv a b _
      · rfl
theorem run_nonneg (nv : Int) : ∀ (a : List Tm) (n m : Int), run nv a n = some m → 0 ≤ n → 0 ≤ m
  | [], n, m, h, h0 => by simp [run] at h; omega
  | t :: a, n, m, h, h0 => by
    rw [run] at h
    split at h
    · cases h
    · split at h
      · exact run_nonneg nv a _ m h (by have := arity_bd t; omega)
      · cases h

/-- the forest of the last terms of a valid list, one term longer. -/
theorem forest_step {e : List Tm} (h : eOk e = true) (k : Nat) (hk : k < e.length) (xs : List Ex) (hok : okEs xs = true) (hfl : flatEs xs = e.drop (k + 1)) (hlen : run 29 (e.take (k + 1)) 1 = some (xs.length : Int)) :
    tOk e[k] 29 = true ∧ (arity e[k]).toNat ≤ xs.length ∧ run 29 (e.take k) 1 = some (((xs.length - (arity e[k]).toNat + 1 : Nat)) : Int) ∧
      okEs (.mk e[k] (xs.take (arity e[k]).toNat) :: xs.drop (arity e[k]).toNat) = true ∧ flatEs (.mk e[k] (xs.take (arity e[k]).toNat) :: xs.drop (arity e[k]).toNat) = e.drop k := by
  have hr : run 29 e 1 = some 0 := by unfold eOk isE at h; rw [Bool.and_eq_true] at h; simpa using h.2
  have hb := arity_bd e[k]
  rw [List.take_succ_eq_append_getElem hk, run_append] at hlen
  cases hm : run 29 (e.take k) 1 with
  | none => rw [hm] at hlen; simp at hlen
  | some m =>
    rw [hm] at hlen
    have hm0 := run_nonneg 29 _ _ _ hm (by omega)
    simp only [Option.bind_some, run] at hlen
    split at hlen
    · cases hlen
    · rename_i hne
      split at hlen
      · rename_i ht
        simp only [Option.some.injEq] at hlen
        have hA : (arity e[k]).toNat ≤ xs.length := by omega
        refine ⟨ht, hA, by congr 1; omega, ?_, ?_⟩
        · have hsp : okEs (xs.take (arity e[k]).toNat) = true ∧ okEs (xs.drop (arity e[k]).toNat) = true := by
            rw [← List.take_append_drop (arity e[k]).toNat xs, okEs_append, Bool.and_eq_true] at hok; exact hok
          simp only [okEs, okE, hsp.1, hsp.2, Bool.and_true, decide_eq_true_eq, List.length_take]
          omega
        · rw [List.drop_eq_getElem_cons hk, ← hfl]
          simp only [flatEs, flatE, List.cons_append]
          rw [← flatEs_append, List.take_append_drop]
      · cases hlen

theorem forest_start {e : List Tm} (h : eOk e = true) : run 29 (e.take e.length) 1 = some (([] : List Ex).length : Int) := by
  unfold eOk isE at h; rw [Bool.and_eq_true] at h
  rw [List.take_length]; simpa using h.2
theorem forest_end {e : List Tm} {xs : List Ex} (hlen : run 29 (e.take 0) 1 = some (xs.length : Int)) : ∃ x, xs = [x] := by
  simp [run] at hlen
  match xs, hlen with
  | [x], _ => exact ⟨x, rfl⟩
  | [], h => simp at h
  | _ :: _ :: _, h => simp at h; omega

theorem trees_inj (n : Nat) : ∀ (xs ys : List Ex) (r s : List Tm), (flatEs xs).length ≤ n → okEs xs = true → okEs ys = true → xs.length = ys.length → flatEs xs ++ r = flatEs ys ++ s → xs = ys ∧ r = s := by
  induction n with
  | zero =>
    intro xs ys r s hn _ _ hl h
    cases xs with
    | nil =>
      have : ys = [] := List.eq_nil_of_length_eq_zero (by simpa using hl.symm)
      subst this; exact ⟨rfl, by simpa [flatEs] using h⟩
    | cons x xs => have := flatE_pos x; simp [flatEs] at hn; rw [hn.1] at this; simp at this
  | succ n ih =>
    intro xs ys r s hn h1 h2 hl h
    match xs, ys, hl with
    | [], [], _ => exact ⟨rfl, by simpa [flatEs] using h⟩
    | .mk t cs :: xs, .mk u bs :: ys, hl =>
      simp only [flatEs, flatE, List.cons_append, List.cons.injEq, List.append_assoc, List.length_cons, List.length_append] at h hn
      simp only [okEs, okE, Bool.and_eq_true, decide_eq_true_eq] at h1 h2
      obtain ⟨rfl, h⟩ := h
      have hab : cs.length = bs.length := by have := h1.1.1; have := h2.1.1; omega
      obtain ⟨h3, h4⟩ := ih (cs ++ xs) (bs ++ ys) r s (by rw [flatEs_append, List.length_append]; omega) (by rw [okEs_append, h1.1.2, h1.2]; rfl) (by rw [okEs_append, h2.1.2, h2.2]; rfl)
        (by simp only [List.length_append]; simp at hl; omega) (by rw [flatEs_append, flatEs_append, List.append_assoc, List.append_assoc]; exact h)
      obtain ⟨rfl, rfl⟩ := List.append_inj h3 hab
      exact ⟨rfl, h4⟩
theorem tree_inj {x y : Ex} (h1 : okE x = true) (h2 : okE y = true) (h : flatE x = flatE y) : x = y := by
  have := (trees_inj _ [x] [y] [] [] (Nat.le_refl _) (by simpa [okEs] using h1) (by simpa [okEs] using h2) rfl (by simpa [flatEs] using h)).1
  simpa using this

open Classical in
noncomputable def canonRes (e : List Tm) : List Tm × Int := if h : eOk e = true then (flatE (canonE (treeOf e h)), 0) else ([], 1)

end Go.Proofs.YtcnaapiljmgfoaaGreatDoor

/-
  Comparing terms, small calls of Go's library, and canonical forms, the program's side.
-/
namespace Go.Proofs.YtcnaapiljmgfoaaGreatDoor
open Go.RowKit

def orV (x y : Int) : Int := if x ≠ 0 then x else y

set_option maxRecDepth 20000 in
theorem orI (b off cap : Nat) (x y : Int) (w : World) (c0 : w.cell? ⟨b, off, none⟩ = some (ei x)) (c1 : w.cell? ⟨b, off + 1, none⟩ = some (ei y)) :
    Calls Tryz.prog 111 #[.slice (some ⟨b, off, none⟩) 2 cap] w fun e w' => e = .returned (.int .i64 (orV x y)) ∧ w = w' := by
  by_cases hx : x = 0
  · subst hx
    by_cases hy : y = 0
    · subst hy
      go_enter Tryz.func111, Tryz.ntmps111
      go_wp2
      go_loop [8] (fun i => ∃ k : Nat, k ≤ 2 ∧ i = .int .i64 k) (fun i => 2 - (intOf i).toNat)
      case atStart => exact ⟨0, by omega, rfl⟩
      case round =>
        obtain ⟨k, hk, rfl⟩ := hrel
        rcases (by omega : k = 0 ∨ k = 1 ∨ k = 2) with rfl | rfl | rfl
        · go_wp2
          go_round
          case rel => exact ⟨1, by omega, rfl⟩
          case measure => simp [intOf]
        · go_wp2
          go_round
          case rel => exact ⟨2, by omega, rfl⟩
          case measure => simp [intOf]
        · go_wp2
          go_ret
          exact ⟨by simp [orV], rfl⟩
    · go_enter Tryz.func111, Tryz.ntmps111
      go_wp2
      go_loop [8] (fun i => ∃ k : Nat, k ≤ 1 ∧ i = .int .i64 k) (fun i => 2 - (intOf i).toNat)
      case atStart => exact ⟨0, by omega, rfl⟩
      case round =>
        obtain ⟨k, hk, rfl⟩ := hrel
        rcases (by omega : k = 0 ∨ k = 1) with rfl | rfl
        · go_wp2
          go_round
          case rel => exact ⟨1, by omega, rfl⟩
          case measure => simp [intOf]
        · have hy' : (y != 0) = true := by simpa using hy
          go_wp2
          go_ret
          exact ⟨by simp [orV], rfl⟩
  · have hx' : (x != 0) = true := by simpa using hx
    go_enter Tryz.func111, Tryz.ntmps111
    go_wp2
    go_loop [8] (fun i => i = .int .i64 0) (fun i => 2 - (intOf i).toNat)
    case atStart => rfl
    case round =>
      obtain rfl := hrel
      go_wp2
      go_ret
      exact ⟨by simp [orV, hx], rfl⟩

def IdxP (xs : List Int) (n : Int) (w : World) (e : Ending) (w' : World) : Prop := (∃ q : Int, e = .returned (.int .i64 q) ∧ -1 ≤ q ∧ q ≤ 9223372036854775807 ∧ (decide (0 ≤ q)) = xs.contains n) ∧ w = w'

set_option maxRecDepth 20000 in
set_option maxHeartbeats 1000000 in
theorem indexI (v : Value) (xs : List Int) (n : Int) (w : World) (fp : List Nat) (hR : R1 fp w [v] xs) :
    Calls Tryz.prog 116 #[v, .int .i64 n] w (IdxP xs n w) := by
  obtain ⟨a1, c1, rfl, hl1, hm1, hc1⟩ := slF1_open hR
  unfold maxLen at hm1
  clear hR
  go_enter Tryz.func116, Tryz.ntmps116
  go_wp2_with fail
  go_loop [8] (fun i => ∃ k : Nat, k ≤ xs.length ∧ i = .int .i64 k ∧ (xs.drop k).contains n = xs.contains n) (fun i => xs.length - (intOf i).toNat)
  case atStart => exact ⟨0, Nat.zero_le _, rfl, rfl⟩
  case round =>
    obtain ⟨k, hk, rfl, hF⟩ := hrel
    by_cases hlt : k < xs.length
    · obtain ⟨b1, o1, rfl, -, -, p1⟩ := hc1 k hlt
      rw [List.drop_eq_getElem_cons hlt] at hF
      have HF := Lib.hid hF
      clear hF hc1
      generalize xs[k] = x at *
      by_cases hx : n = x
      · subst hx
        go_wp2_with fail
        go_ret
        exact ⟨⟨k, rfl, by omega, by omega, by rw [← HF.out]; simp⟩, rfl⟩
      · have hx' : (n == x) = false := by simpa using hx
        go_wp2_with fail
        go_round
        case rel => exact ⟨k + 1, by omega, by go_num, by rw [← HF.out]; simp [hx]⟩
        case measure => simp [intOf]; omega
    · rw [List.drop_of_length_le (by omega)] at hF
      have HF := Lib.hid hF
      clear hF hc1
      go_wp2_with fail
      go_ret
      exact ⟨⟨-1, rfl, by omega, by omega, by rw [← HF.out]; simp⟩, rfl⟩

set_option maxRecDepth 20000 in
theorem containsI (v : Value) (xs : List Int) (n : Int) (w : World) (fp : List Nat) (hR : R1 fp w [v] xs) :
    Calls Tryz.prog 94 #[v, .int .i64 n] w fun e w' => e = .returned (.bool (xs.contains n)) ∧ w = w' := by
  have S2 := Lib.hid (indexI v xs n w fp hR)
  go_enter Tryz.func94, Tryz.ntmps94
  go_wp2_with fail
  refine S2.out.mono ?_
  rintro e w1 ⟨⟨q, rfl, h1, h2, h3⟩, rfl⟩
  have H3 := Lib.hid h3
  clear h3
  go_wp2_with fail
  go_ret
  exact ⟨by rw [← H3.out]; rfl, rfl⟩

end Go.Proofs.YtcnaapiljmgfoaaGreatDoor

/-
  Canonical forms, the program's side.
-/
namespace Go.Proofs.YtcnaapiljmgfoaaGreatDoor
open Go.RowKit

/-- two elements of a collected row change places. -/
theorem Got.swap {α : Type} {R : Rp α} (K : Kept R) {base : Nat} {G : Nat → Prop} {e : TypeId} {w w1 : World} {g cap : Nat} {x y : α} {u0 u1 : Value} (h : Got R base G e w (.slice (some ⟨g, 0, none⟩) 2 cap) [x, y])
    (hus : w.ownsRow base e 1 (.slice (some ⟨g, 0, none⟩) 2 cap) 2 [u0, u1]) (h1 : w1.ownsRow base e 1 (.slice (some ⟨g, 0, none⟩) 2 cap) 2 [u1, u0]) (hu : Upd [g] w w1) :
    Got R base G e w1 (.slice (some ⟨g, 0, none⟩) 2 cap) [y, x] := by
  obtain ⟨us, fps, q1, q2, q3, q4⟩ := h
  have hsame : us = [u0, u1] := by
    rcases q1.2 with ⟨h0, -⟩ | ⟨b, c, cur, hv, -, hh, -, -, -, r4⟩
    · cases h0
    · cases hv
      rcases hus.2 with ⟨h0, -⟩ | ⟨b', c', cur', hv', -, hh', -, -, -, r4'⟩
      · cases h0
      · cases hv'
        rw [hh] at hh'; cases hh'
        simp only [List.length_cons, List.length_nil] at r4
        rw [← r4, ← r4']
  subst hsame
  match fps, q2 with
  | [f0, f1], _ =>
    have hd : ∀ b ∈ f0 ++ f1, b ∉ [g] := fun b hb hm => by
      have := (q3 b (by simpa using hb)).1
      simp at hm; subst hm; simp [Value.ownBlock] at this
    refine ⟨[u1, u0], [f1, f0], h1, rfl, fun b hb => q3 b (by simp at hb ⊢; exact hb.symm), fun i hi u f hu' hf => ?_⟩
    match i, hi with
    | 0, _ =>
      simp at hu' hf; subst hu' hf
      exact K.upd (q4 1 (by simp) u1 f1 rfl rfl) hu (fun b hb => hd b (by simp [hb]))
    | 1, _ =>
      simp at hu' hf; subst hu' hf
      exact K.upd (q4 0 (by simp) u0 f0 rfl rfl) hu (fun b hb => hd b (by simp [hb]))

theorem gtL_or (a b : List Tm) : gtL a b = decide (0 < orV (cmpI a.length b.length) (cmpTL a b)) := by
  have h := cmpI_gt (a.length : Int) (b.length : Int)
  unfold gtL orV
  by_cases hl : a.length = b.length
  · have h0 : cmpI (a.length : Int) (b.length : Int) = 0 := by omega
    simp [hl, cmpI]
  · have h0 : cmpI (a.length : Int) (b.length : Int) ≠ 0 := by omega
    rw [if_neg hl, if_pos h0, decide_eq_decide]; omega
theorem orV_bd {x y : Int} (h1 : -1 ≤ x ∧ x ≤ 1) (h2 : -1 ≤ y ∧ y ≤ 1) : -1 ≤ orV x y ∧ orV x y ≤ 1 := by unfold orV; split <;> omega

def Cano (x : Ex) (w : World) (fp : List Nat) (e : Ending) (w' : World) : Prop := Fo w fp (canonE x) e w'

theorem canon_b (e : List Tm) : mkF_T1 (canonRes e).1 ≤ 300 := by
  unfold canonRes
  split
  · rename_i h
    obtain ⟨-, hfl⟩ := treeOf_ok e h
    have hlen := eOk_len h
    have := canonE_len (treeOf e h)
    rw [hfl] at this
    unfold mkF_T1; simp only; omega
  · simp [mkF_T1]

end Go.Proofs.YtcnaapiljmgfoaaGreatDoor

/-
  What the laws FnForms and FnTerms need: drawn expressions, expressions held against each other, postfix form.
-/
namespace Go.Proofs.YtcnaapiljmgfoaaGreatDoor
open Go.RowKit

def TermsOut (nv : Int) (w : World) (e : Ending) (w' : World) : Prop := (∃ (v' : Value) (x : Ex), e = .returned v' ∧ goodE nv x = true ∧ (flatE x).length ≤ 13 ∧ New R_T1 w w' v' (flatE x)) ∧ Upd [] w w'

theorem goodE_more {nv mv : Int} (h : nv ≤ mv) : ∀ x : Ex, goodE nv x = true → goodE mv x = true := by
  intro x hx
  unfold goodE at hx ⊢
  rw [Bool.and_eq_true] at hx ⊢
  refine ⟨hx.1, ?_⟩
  rw [List.all_eq_true] at hx ⊢
  intro t ht
  have := hx.2 t ht
  unfold tOk at this ⊢
  repeat' split at this
  all_goals simp_all
  have h9 := inB_true this
  exact inB_mk ⟨by omega, by omega⟩

theorem eOk_of_good {x : Ex} {nv : Int} (h : goodE nv x = true) (hn : nv ≤ 29) (hl : (flatE x).length ≤ 60) : eOk (flatE x) = true := by
  have h2 := goodE_more hn x h
  unfold goodE at h2
  rw [Bool.and_eq_true] at h2
  rw [eOk_tree x h2.1, h2.2]
  simp [hl]

end Go.Proofs.YtcnaapiljmgfoaaGreatDoor

/-
  Lists of values, and whether all variables of an expression have one.
-/
namespace Go.Proofs.YtcnaapiljmgfoaaGreatDoor
open Go.RowKit

/-- a variable without a value. -/
def lackV (many : Int) (t : Tm) : Bool := t.1 == 1 && decide (many ≤ t.2)

def IdxC (many : Int) (xs : List Tm) (w : World) (e : Ending) (w' : World) : Prop := (∃ q : Int, e = .returned (.int .i64 q) ∧ -1 ≤ q ∧ q ≤ 9223372036854775807 ∧ decide (0 ≤ q) = xs.any (lackV many)) ∧ Upd [] w w'

end Go.Proofs.YtcnaapiljmgfoaaGreatDoor

/-
  Evaluate: what the calls return for a valid expression and values for all its variables.
-/
namespace Go.Proofs.YtcnaapiljmgfoaaGreatDoor
open Go.RowKit

theorem vals_bd {vals : List Int} (h : vals.all isV = true) (k : Nat) : 0 ≤ vals.getD k 0 ∧ vals.getD k 0 ≤ 63 := by
  rw [List.getD_eq_getElem?_getD]
  by_cases hk : k < vals.length
  · rw [List.getElem?_eq_getElem hk]
    exact inB_true (List.all_eq_true.1 h _ (List.getElem_mem hk))
  · rw [List.getElem?_eq_none (by omega)]; simp
theorem lack_no {x : Ex} {n : Int} (h : goodE n x = true) : (flatE x).any (lackV n) = false := by
  unfold goodE at h
  rw [Bool.and_eq_true] at h
  rw [List.any_eq_false]
  intro t ht
  have := List.all_eq_true.1 h.2 t ht
  unfold lackV
  by_cases h1 : t.1 = 1
  · simp only [tOk, h1, if_true] at this
    have := inB_true (by simpa using this)
    simp [h1]; omega
  · simp [h1]

end Go.Proofs.YtcnaapiljmgfoaaGreatDoor

/-
  Evaluate, the reference's side.
-/
namespace Go.Proofs.YtcnaapiljmgfoaaGreatDoor
open Go.RowKit

theorem isE_of_good {x : Ex} {nv : Int} (h : goodE nv x = true) (hl : (flatE x).length ≤ 60) : isE (flatE x) nv 60 = true := by
  unfold goodE at h
  rw [Bool.and_eq_true] at h
  have := run_tree nv x [] 0 h.1 h.2
  simp only [List.append_nil, run] at this
  rw [show ((0 + 1 : Nat) : Int) = 1 from rfl] at this
  unfold isE
  rw [this]
  simp; omega

end Go.Proofs.YtcnaapiljmgfoaaGreatDoor

/-
  What the law FnTerms draws.
-/
namespace Go.Proofs.YtcnaapiljmgfoaaGreatDoor
open Go.RowKit

def Terms2Out (w : World) (e : Ending) (w' : World) : Prop :=
  (∃ (v1 v2 : Value) (x y : Ex), e = .returned (.tuple #[v1, v2]) ∧ goodE 3 x = true ∧ goodE 3 y = true ∧ (flatE x).length ≤ 15 ∧ (flatE y).length ≤ 7 ∧ New R_T1 w w' v1 (flatE x) ∧ New R_T1 w w' v2 (flatE y)) ∧ Upd [] w w'

end Go.Proofs.YtcnaapiljmgfoaaGreatDoor

/-
  The values that the reference draws.
-/
namespace Go.Proofs.YtcnaapiljmgfoaaGreatDoor
open Go.RowKit

theorem ownsRow_other {w w1 : World} {base : Nat} {e : TypeId} {size : Nat} {v : Value} {n : Nat} {xs : List Value} (h : w.ownsRow base e size v n xs) {f : List Nat} (hu : Upd f w w1) (hf : ∀ b ∈ f, b < base) : w1.ownsRow base e size v n xs := by
  obtain ⟨g1, g2⟩ := h
  refine ⟨g1, ?_⟩
  rcases g2 with g2 | ⟨g, cap, cur, hv, hb, hh, q1, q2, q3, q4⟩
  · exact Or.inl g2
  · refine Or.inr ⟨g, cap, cur, hv, hb, ?_, q1, q2, q3, q4⟩
    rw [hu.block g (Array.getElem?_eq_some_iff.1 hh).1 (fun hm => by have := hf g hm; omega)]; exact hh

def ValsOut (w : World) (e : Ending) (w' : World) : Prop := (∃ (v' : Value) (xs : List Int), e = .returned v' ∧ xs.length = 3 ∧ xs.all isV = true ∧ New R1 w w' v' xs) ∧ Upd [] w w'

end Go.Proofs.YtcnaapiljmgfoaaGreatDoor

/-
  Lists compared; lists drawn.
-/
namespace Go.Proofs.YtcnaapiljmgfoaaGreatDoor
open Go.RowKit

def cmp1 (x y : Int) : Int := if x < y then -1 else if y < x then 1 else 0
def cmpQ : List Int → List Int → Int
  | [], [] => 0
  | [], _ :: _ => -1
  | _ :: _, [] => 1
  | a :: al, b :: bl => if cmp1 a b = 0 then cmpQ al bl else cmp1 a b

theorem cmp1_neg (x y : Int) : cmp1 y x = - cmp1 x y := by unfold cmp1; repeat' split <;> omega
theorem cmp1_zero {x y : Int} (h : cmp1 x y = 0) : x = y := by unfold cmp1 at h; by_cases h1 : x < y <;> by_cases h2 : y < x <;> simp [h1, h2] at h <;> omega
theorem cmp1_self (x : Int) : cmp1 x x = 0 := by simp [cmp1]
theorem cmp1_bd (x y : Int) : -1 ≤ cmp1 x y ∧ cmp1 x y ≤ 1 := by unfold cmp1; repeat' split <;> omega

theorem cmpQ_neg : ∀ a b : List Int, cmpQ b a = - cmpQ a b
  | [], [] => rfl
  | [], _ :: _ => rfl
  | _ :: _, [] => rfl
  | a :: al, b :: bl => by
    simp only [cmpQ]
    rw [cmp1_neg a b, cmpQ_neg al bl]
    by_cases h : cmp1 a b = 0
    · rw [if_pos h, if_pos (by omega)]
    · rw [if_neg h, if_neg (by omega)]
theorem cmpQ_bd : ∀ a b : List Int, -1 ≤ cmpQ a b ∧ cmpQ a b ≤ 1
  | [], [] => by simp [cmpQ]
  | [], _ :: _ => by simp [cmpQ]
  | _ :: _, [] => by simp [cmpQ]
  | a :: al, b :: bl => by
    simp only [cmpQ]
    split
    · exact cmpQ_bd al bl
    · exact cmp1_bd a b
theorem cmpQ_zero : ∀ {a b : List Int}, cmpQ a b = 0 → a = b
  | [], [], _ => rfl
  | [], _ :: _, h => by simp [cmpQ] at h
  | _ :: _, [], h => by simp [cmpQ] at h
  | a :: al, b :: bl, h => by
    simp only [cmpQ] at h
    split at h
    · rename_i h1; rw [cmp1_zero h1, cmpQ_zero h]
    · rename_i h1; exact absurd h h1
theorem cmpQ_self : ∀ a : List Int, cmpQ a a = 0
  | [] => rfl
  | a :: al => by simp only [cmpQ]; rw [if_pos (cmp1_self a), cmpQ_self al]

theorem isNaNI (x : Int) (w : World) : Calls Tryz.prog 133 #[.int .i64 x] w fun e w' => e = .returned (.bool false) ∧ w = w' := by
  go_enter Tryz.func133, Tryz.ntmps133
  go_wp2_with fail
  go_ret
  exact ⟨by simp, rfl⟩

set_option maxRecDepth 20000 in
theorem cmpOne (x y : Int) (w : World) : Calls Tryz.prog 112 #[.int .i64 x, .int .i64 y] w fun e w' => e = .returned (.int .i64 (cmp1 x y)) ∧ w = w' := by
  have S1 := Lib.hid (isNaNI x w)
  have S2 := Lib.hid (isNaNI y w)
  rcases Int.lt_trichotomy x y with h | h | h
  · have HR := Lib.hid (show cmp1 x y = -1 by simp [cmp1, h])
    go_enter Tryz.func112, Tryz.ntmps112
    go_wp2_with fail
    refine S1.out.mono ?_
    rintro e w1 ⟨rfl, rfl⟩
    go_wp2_with fail
    refine S2.out.mono ?_
    rintro e w1 ⟨rfl, rfl⟩
    go_wp2_with fail
    go_ret
    exact ⟨by rw [HR.out]; rfl, rfl⟩
  · have HR := Lib.hid (show cmp1 x y = 0 by rw [h]; exact cmp1_self y)
    have g1 : ¬ x < y := by omega
    have g2 : ¬ y < x := by omega
    clear h
    go_enter Tryz.func112, Tryz.ntmps112
    go_wp2_with fail
    refine S1.out.mono ?_
    rintro e w1 ⟨rfl, rfl⟩
    go_wp2_with fail
    refine S2.out.mono ?_
    rintro e w1 ⟨rfl, rfl⟩
    go_wp2_with fail
    go_ret
    exact ⟨by rw [HR.out]; rfl, rfl⟩
  · have HR := Lib.hid (show cmp1 x y = 1 by simp [cmp1, h]; omega)
    have g1 : ¬ x < y := by omega
    go_enter Tryz.func112, Tryz.ntmps112
    go_wp2_with fail
    refine S1.out.mono ?_
    rintro e w1 ⟨rfl, rfl⟩
    go_wp2_with fail
    refine S2.out.mono ?_
    rintro e w1 ⟨rfl, rfl⟩
    go_wp2_with fail
    go_ret
    exact ⟨by rw [HR.out]; rfl, rfl⟩

set_option maxRecDepth 20000 in
set_option maxHeartbeats 2000000 in
theorem compareSl (v v2 : Value) (a b : List Int) (w : World) (fa fb : List Nat) (hR : R1 fa w [v] a) (hR2 : R1 fb w [v2] b) :
    Calls Tryz.prog 113 #[v, v2] w fun e w' => e = .returned (.int .i64 (cmpQ a b)) ∧ w = w' := by
  obtain ⟨a1, c1, rfl, h1, h2, hc⟩ := slF1_open hR
  obtain ⟨a2, c2, rfl, h3, h4, hd⟩ := slF1_open hR2
  unfold maxLen at h2 h4
  clear hR hR2
  go_enter Tryz.func113, Tryz.ntmps113
  go_wp2_with fail
  go_loop [11] (fun i => ∃ k : Nat, k ≤ a.length ∧ k ≤ b.length ∧ i = .int .i64 k ∧ Hid (cmpQ a b = cmpQ (a.drop k) (b.drop k))) (fun i => a.length - (intOf i).toNat)
  case atStart => exact ⟨0, Nat.zero_le _, Nat.zero_le _, rfl, Lib.hid rfl⟩
  case round =>
    obtain ⟨k, hk, hk2, rfl, HF⟩ := hrel
    by_cases hlt : k < a.length
    · obtain ⟨b1, o1, rfl, -, -, p1⟩ := hc k hlt
      by_cases hlt2 : k < b.length
      · obtain ⟨b2, o2, rfl, -, -, p2⟩ := hd k hlt2
        have hF := HF.out
        rw [List.drop_eq_getElem_cons hlt, List.drop_eq_getElem_cons hlt2, cmpQ] at hF
        have HG := Lib.hid hF
        clear hc hd hF HF
        generalize a[k] = x at *
        generalize b[k] = y at *
        have S1 := Lib.hid (cmpOne x y w)
        by_cases h0 : cmp1 x y = 0
        · have HR := Lib.hid (HG.out.trans (if_pos h0))
          rw [h0] at S1
          clear HG h0
          go_wp2_with fail
          refine S1.out.mono ?_
          rintro e w1 ⟨rfl, rfl⟩
          clear S1
          go_wp2_with fail
          go_round
          case rel => exact ⟨k + 1, by omega, by omega, by go_num, HR⟩
          case measure => simp [intOf]; omega
        · have HR := Lib.hid (HG.out.trans (if_neg h0))
          generalize cmp1 x y = z at *
          have h0' : (z == 0) = false := by simpa using h0
          clear HG
          go_wp2_with fail
          refine S1.out.mono ?_
          rintro e w1 ⟨rfl, rfl⟩
          clear S1
          go_wp2_with fail
          go_ret
          exact ⟨by rw [HR.out]; rfl, rfl⟩
      · have hF := HF.out
        rw [List.drop_eq_getElem_cons hlt, List.drop_of_length_le (by omega : b.length ≤ k), cmpQ] at hF
        have HR := Lib.hid hF
        clear hc hd hF HF
        have g1 : (b.length : Int) ≤ (k : Int) := by omega
        go_wp2_with fail
        go_ret
        exact ⟨by rw [HR.out]; rfl, rfl⟩
    · obtain rfl : k = a.length := by omega
      have hF := HF.out
      rw [List.drop_of_length_le (Nat.le_refl _)] at hF
      by_cases hlt2 : a.length < b.length
      · rw [List.drop_eq_getElem_cons hlt2, cmpQ] at hF
        have HR := Lib.hid hF
        have g1 : (a.length : Int) < (b.length : Int) := by omega
        clear hc hd hF HF
        go_wp2_with fail
        go_ret
        exact ⟨by rw [HR.out]; rfl, rfl⟩
      · rw [List.drop_of_length_le (by omega), cmpQ] at hF
        have HR := Lib.hid hF
        have g1 : ¬ (a.length : Int) < (b.length : Int) := by omega
        clear hc hd hF HF
        go_wp2_with fail
        go_ret
        exact ⟨by rw [HR.out]; rfl, rfl⟩

end Go.Proofs.YtcnaapiljmgfoaaGreatDoor

/-
  Relations between systems, the reference's parts: lists compared, pairs found, the edges from a state.
-/
namespace Go.Proofs.YtcnaapiljmgfoaaGreatDoor
open Go.RowKit

set_option maxRecDepth 20000 in
set_option maxHeartbeats 2000000 in
theorem cmpLS (v1 v2 : Value) (x y : List Int) (w : World) (f1 f2 : List Nat) (h1 : R1 f1 w [v1] x) (h2 : R1 f2 w [v2] y) :
    Calls Tryz.prog 56 #[v1, v2] w fun e w' => e = .returned (.int .i64 (cmpQ x y)) ∧ ∃ n, w' = w.drewN n := by
  obtain ⟨a1, c1, rfl, hl1, hm1, hc1⟩ := slF1_open h1
  obtain ⟨a2, c2, rfl, hl2, hm2, hc2⟩ := slF1_open h2
  unfold maxLen at hm1 hm2
  have HC1 := Lib.hid hc1
  have HC2 := Lib.hid hc2
  clear h1 h2 hc1 hc2
  go_enter Tryz.func56, Tryz.ntmps56
  go_wp2_with fail
  go_loopw [5] (fun iv wr => ∃ k : Nat, k ≤ x.length ∧ k ≤ y.length ∧ iv = .int .i64 k ∧ Hid (cmpQ (x.drop k) (y.drop k) = cmpQ x y) ∧ Hid (∃ n, wr = w.drewN n)) (fun iv _ => x.length - (intOf iv).toNat)
  case atStart => exact ⟨0, Nat.zero_le _, Nat.zero_le _, rfl, Lib.hid rfl, Lib.hid ⟨0, rfl⟩⟩
  case round =>
    obtain ⟨wo, rfl⟩ : ∃ wo : World, wo = wr := ⟨_, rfl⟩
    obtain ⟨k, hk1, hk2, rfl, HS, HN⟩ := hrel
    have HU := Lib.hid (show Upd [] w wo by obtain ⟨n, rfl⟩ := HN.out; exact (Upd.refl _ _).drewN n)
    have HM := Lib.hid (fun m : Nat => show ∃ n, wo.drewN m = w.drewN n by obtain ⟨n, hn⟩ := HN.out; exact ⟨n + m, by rw [hn, drewN_add]⟩)
    by_cases hx : k < x.length
    · by_cases hy : k < y.length
      · obtain ⟨b1, o1, rfl, -, -, p1⟩ := HC1.out k hx
        obtain ⟨b2, o2, rfl, -, -, p2⟩ := HC2.out k hy
        have q1 := HU.out.keep p1
        have q2 := HU.out.keep p2
        have hS := HS.out
        rw [List.drop_eq_getElem_cons hx, List.drop_eq_getElem_cons hy, cmpQ] at hS
        have HD := Lib.hid hS
        have kx : (k : Int) < (x.length : Int) := by omega
        have ky : (k : Int) < (y.length : Int) := by omega
        clear p1 p2 HS hS
        generalize hdx : x.drop (k + 1) = dx at *
        generalize hdy : y.drop (k + 1) = dy at *
        have HDX := Lib.hid (And.intro hdx hdy)
        clear hdx hdy
        generalize x[k] = a at *
        generalize y[k] = b at *
        by_cases hlt : a < b
        · have HE := Lib.hid (show cmpQ x y = -1 by rw [← HD.out]; simp [cmp1, hlt])
          clear HD
          go_wp2_with fail
          go_quiet (fail)
          go_wp2_with fail
          go_ret
          exact ⟨by rw [HE.out]; rfl, HM.out _⟩
        · by_cases hgt : b < a
          · have HE := Lib.hid (show cmpQ x y = 1 by rw [← HD.out]; simp [cmp1, hlt, hgt])
            clear HD
            go_wp2_with fail
            go_quiet (fail)
            go_wp2_with fail
            go_quiet (fail)
            go_wp2_with fail
            go_ret
            exact ⟨by rw [HE.out]; rfl, by rw [drewN_add]; exact HM.out _⟩
          · have HE := Lib.hid (show cmpQ dx dy = cmpQ x y by rw [← HD.out]; simp [cmp1, hlt, hgt])
            clear HD
            go_wp2_with fail
            go_quiet (fail)
            go_wp2_with fail
            go_quiet (fail)
            go_wp2_with fail
            go_roundw
            case rel => exact ⟨k + 1, by omega, by omega, by go_num, Lib.hid (by rw [HDX.out.1, HDX.out.2]; exact HE.out), Lib.hid (HM.out _)⟩
            case measure => simp [intOf]; omega
      · obtain rfl : k = y.length := by omega
        have HE := Lib.hid (show cmpQ x y = 1 by
          rw [← HS.out, List.drop_length, List.drop_eq_getElem_cons hx]; rfl)
        have g1 : ¬ (x.length : Int) < (y.length : Int) := by omega
        have g2 : (y.length : Int) < (x.length : Int) := by omega
        clear HS
        go_wp2_with fail
        go_ret
        exact ⟨by rw [HE.out]; rfl, HN.out⟩
    · obtain rfl : k = x.length := by omega
      by_cases hy : x.length < y.length
      · have HE := Lib.hid (show cmpQ x y = -1 by
          rw [← HS.out, List.drop_length, List.drop_eq_getElem_cons hy]; rfl)
        have g1 : (x.length : Int) < (y.length : Int) := by omega
        clear HS
        go_wp2_with fail
        go_ret
        exact ⟨by rw [HE.out]; rfl, HN.out⟩
      · have hxy : x.length = y.length := by omega
        have HE := Lib.hid (show cmpQ x y = 0 by
          rw [← HS.out, List.drop_length, List.drop_of_length_le (by omega)]; rfl)
        have g1 : ¬ (x.length : Int) < (y.length : Int) := by omega
        have g2 : ¬ (y.length : Int) < (x.length : Int) := by omega
        clear HS hxy
        go_wp2_with fail
        go_ret
        exact ⟨by rw [HE.out]; rfl, HN.out⟩

/-- the pair of x and y is one of the rows. -/
def hasP (R : List (List Int)) (x y : Int) : Bool := R.any fun p => p.getD 0 0 == x && p.getD 1 0 == y

set_option maxRecDepth 20000 in
set_option maxHeartbeats 2000000 in
theorem hasPS (v : Value) (R : List (List Int)) (x y : Int) (w : World) (fp : List Nat) (hR : R_N2 fp w [v] R) (h2 : ∀ p ∈ R, p.length = 2) :
    Calls Tryz.prog 29 #[v, .int .i64 x, .int .i64 y] w fun e w' => e = .returned (.bool (hasP R x y)) ∧ w = w' := by
  have H2 := Lib.hid h2
  have HC := Lib.hid (fun i (hi : i < R.length) => And.intro (mat_cell hR i 0 hi (by have := H2.out R[i] (List.getElem_mem hi); omega)) (mat_cell hR i 1 hi (by have := H2.out R[i] (List.getElem_mem hi); omega)))
  obtain ⟨a, cap, rfl, l1, l2, -⟩ := slP_open hR
  unfold maxLen at l2
  have HH := Lib.hid (show hasP R x y = (R.drop 0).any fun p => p.getD 0 0 == x && p.getD 1 0 == y from rfl)
  clear hR h2
  go_enter Tryz.func29, Tryz.ntmps29
  go_wp2_with fail
  go_loop [7] (fun iv => ∃ k : Nat, k ≤ R.length ∧ iv = .int .i64 k ∧ Hid (((R.drop k).any fun p => p.getD 0 0 == x && p.getD 1 0 == y) = hasP R x y)) (fun iv => R.length - (intOf iv).toNat)
  case atStart => exact ⟨0, Nat.zero_le _, rfl, Lib.hid HH.out.symm⟩
  case round =>
    obtain ⟨k, hk, rfl, HA⟩ := hrel
    by_cases hlt : k < R.length
    · obtain ⟨⟨cp, b, o, b2, o2, c2, hv, -, -, -, p1, g1, g2, -, p2, -, -⟩, ⟨cp', b', o', b2', o2', c2', hv', -, -, -, p1', -, -, -, p3, -, -⟩⟩ := HC.out k hlt
      cases hv
      cases hv'
      rw [p1] at p1'
      simp only [Option.some.injEq, Value.slice.injEq, Addr.mk.injEq, and_true] at p1'
      obtain ⟨⟨rfl, rfl⟩, -, rfl⟩ := p1'
      have hl2 := H2.out R[k] (List.getElem_mem hlt)
      have hS := HA.out
      rw [List.drop_eq_getElem_cons hlt, List.any_cons, List.getD_eq_getElem?_getD, List.getD_eq_getElem?_getD, List.getElem?_eq_getElem (by omega), List.getElem?_eq_getElem (by omega), Option.getD_some, Option.getD_some] at hS
      rw [hl2] at p1
      rw [Nat.add_zero] at p2
      have HS := Lib.hid hS
      unfold maxLen at g2
      clear hS HA g1
      generalize R[k][0] = u at *
      generalize R[k][1] = z at *
      have hkl : (k : Int) < (R.length : Int) := by omega
      cases hu : (u == x) with
      | false =>
        have HE := Lib.hid (show ((R.drop (k + 1)).any fun p => p.getD 0 0 == x && p.getD 1 0 == y) = hasP R x y by rw [← HS.out, hu]; simp)
        clear HS
        go_wp2_with fail
        go_round
        case rel => exact ⟨k + 1, by omega, by go_num, HE⟩
        case measure => simp [intOf]; omega
      | true =>
        cases hz : (z == y) with
        | false =>
          have HE := Lib.hid (show ((R.drop (k + 1)).any fun p => p.getD 0 0 == x && p.getD 1 0 == y) = hasP R x y by rw [← HS.out, hu, hz]; simp)
          clear HS
          go_wp2_with fail
          go_round
          case rel => exact ⟨k + 1, by omega, by go_num, HE⟩
          case measure => simp [intOf]; omega
        | true =>
          have HE := Lib.hid (show hasP R x y = true by rw [← HS.out, hu, hz]; simp)
          clear HS
          go_wp2_with fail
          go_ret
          exact ⟨by rw [HE.out]; rfl, rfl⟩
    · obtain rfl : k = R.length := by omega
      have HE := Lib.hid (show hasP R x y = false by rw [← HA.out, List.drop_length]; rfl)
      clear HA
      go_wp2_with fail
      go_ret
      exact ⟨by rw [HE.out]; rfl, rfl⟩

end Go.Proofs.YtcnaapiljmgfoaaGreatDoor

/-
  Reading numbers, texts and edges, plainly: a reader of a given number of bytes a number.
-/
namespace Go.Proofs.YtcnaapiljmgfoaaGreatDoor
open Go.RowKit

/-- a number of at most k bytes, behind n with the next unit t: the number, the rest, and whether it is bad. -/
def rdN (z : Nat → Nat) : Nat → Nat → Nat → List UInt8 → Bool → Nat × List UInt8 × Bool
  | 0, _, _, r, _ => (0, r, true)
  | _ + 1, n, _, [], _ => (z n, [], true)
  | k + 1, n, t, c :: r, b => if c.toNat < 128 then (n + c.toNat * t, r, b) else rdN z k (n + c.toNat % 128 * t) (t * 128) r b
/-- what is read of a number that has no end: the program gives what it has, the reference 0. -/
def zF (K n : Nat) : Nat := if K = 4 then n else 0
theorem zF_le (K n : Nat) : zF K n ≤ n := by unfold zF; split <;> omega
/-- the number is small; the rest is shorter, or the reader is bad. -/
theorem rdN_fits (z : Nat → Nat) (hz : ∀ n, z n ≤ n) : ∀ (k n t : Nat) (r : List UInt8) (b : Bool), n < t → (rdN z k n t r b).1 < t * 128 ^ k ∧ (rdN z k n t r b).2.1.length ≤ r.length ∧ ((rdN z k n t r b).2.2 = false → (rdN z k n t r b).2.1.length < r.length) ∧ (b = true → (rdN z k n t r b).2.2 = true) := by
  intro k
  induction k with
  | zero => intro n t r b h; rw [rdN]; refine ⟨by show 0 < t * 128 ^ 0; omega, Nat.le_refl _, by simp, by simp⟩
  | succ k ih =>
    intro n t r b h
    have hp : 1 ≤ 128 ^ k := Nat.pow_pos (by omega)
    cases r with
    | nil =>
      rw [rdN]
      refine ⟨?_, Nat.le_refl _, by simp, by simp⟩
      show z n < t * 128 ^ (k + 1)
      have := hz n
      have : t * 1 ≤ t * 128 ^ (k + 1) := Nat.mul_le_mul_left t (Nat.pow_pos (by omega))
      omega
    | cons c r =>
      rw [rdN]
      by_cases hc : c.toNat < 128
      · rw [if_pos hc]
        refine ⟨?_, by simp, by simp, by simp⟩
        show n + c.toNat * t < t * 128 ^ (k + 1)
        have h1 : c.toNat * t ≤ 127 * t := Nat.mul_le_mul_right t (by omega)
        have h2 : t * 128 ≤ t * 128 ^ (k + 1) := Nat.mul_le_mul_left t (by rw [Nat.pow_succ]; omega)
        omega
      · rw [if_neg hc]
        have h1 : c.toNat % 128 * t ≤ 127 * t := Nat.mul_le_mul_right t (by omega)
        obtain ⟨a1, a2, a3, a4⟩ := ih (n + c.toNat % 128 * t) (t * 128) r b (by omega)
        refine ⟨?_, by simp; omega, fun hq => by have := a3 hq; simp; omega, a4⟩
        rw [Nat.pow_succ, Nat.mul_comm (128 ^ k) 128, ← Nat.mul_assoc]; exact a1

/-- the next number, of at most K bytes. -/
def rN (K : Nat) (r : List UInt8) (b : Bool) : Nat × List UInt8 × Bool := rdN (zF K) K 0 1 r b
/-- the next text. -/
def rT (K : Nat) (r : List UInt8) (b : Bool) : List UInt8 × List UInt8 × Bool :=
  if (K ≠ 4 ∧ (rN K r b).2.2 = true) ∨ (rN K r b).2.1.length < (rN K r b).1 then ([], (rN K r b).2.1, true) else ((rN K r b).2.1.take (rN K r b).1, (rN K r b).2.1.drop (rN K r b).1, (rN K r b).2.2)
/-- at most n texts behind L. -/
def rLs (K : Nat) : Nat → List (List UInt8) → List UInt8 → Bool → List (List UInt8) × List UInt8 × Bool
  | 0, L, r, b => (L, r, b)
  | n + 1, L, r, b => if b then (L, r, b) else rLs K n (L ++ [(rT K r b).1]) (rT K r b).2.1 (rT K r b).2.2
/-- the next edge. -/
def rE (K : Nat) (r : List UInt8) (b : Bool) : Ed × List UInt8 × Bool :=
  (⟨(rN K r b).1, (rN K (rN K r b).2.1 (rN K r b).2.2).1, (rN K (rN K (rN K r b).2.1 (rN K r b).2.2).2.1 (rN K (rN K r b).2.1 (rN K r b).2.2).2.2).1⟩,
    (rN K (rN K (rN K r b).2.1 (rN K r b).2.2).2.1 (rN K (rN K r b).2.1 (rN K r b).2.2).2.2).2)
def rEs (K : Nat) : Nat → List Ed → List UInt8 → Bool → List Ed × List UInt8 × Bool
  | 0, L, r, b => (L, r, b)
  | n + 1, L, r, b => if b then (L, r, b) else rEs K n (L ++ [(rE K r b).1]) (rE K r b).2.1 (rE K r b).2.2

theorem rN_fits (K : Nat) (r : List UInt8) (b : Bool) : (rN K r b).1 < 128 ^ K ∧ (rN K r b).2.1.length ≤ r.length ∧ ((rN K r b).2.2 = false → (rN K r b).2.1.length < r.length) ∧ (b = true → (rN K r b).2.2 = true) := by
  have := rdN_fits (zF K) (zF_le K) K 0 1 r b (by omega)
  rw [Nat.one_mul] at this
  exact this
theorem rT_fits (K : Nat) (r : List UInt8) (b : Bool) : (rT K r b).2.1.length ≤ r.length ∧ ((rT K r b).2.2 = false → (rT K r b).2.1.length < r.length) ∧ (rT K r b).1.length ≤ r.length := by
  obtain ⟨-, h2, h3, -⟩ := rN_fits K r b
  unfold rT
  split
  · exact ⟨h2, by simp, by simp⟩
  · refine ⟨by simp; omega, fun hq => by have := h3 hq; simp; omega, by simp; omega⟩
theorem rE_fits (K : Nat) (r : List UInt8) (b : Bool) : (rE K r b).2.1.length ≤ r.length ∧ ((rE K r b).2.2 = false → (rE K r b).2.1.length < r.length) ∧
    (0 ≤ (rE K r b).1.fr ∧ (rE K r b).1.fr < 128 ^ K) ∧ (0 ≤ (rE K r b).1.lb ∧ (rE K r b).1.lb < 128 ^ K) ∧ (0 ≤ (rE K r b).1.to ∧ (rE K r b).1.to < 128 ^ K) := by
  obtain ⟨a1, a2, a3, a4⟩ := rN_fits K r b
  obtain ⟨b1, b2, b3, b4⟩ := rN_fits K (rN K r b).2.1 (rN K r b).2.2
  obtain ⟨c1, c2, c3, c4⟩ := rN_fits K (rN K (rN K r b).2.1 (rN K r b).2.2).2.1 (rN K (rN K r b).2.1 (rN K r b).2.2).2.2
  unfold rE
  refine ⟨by simp only; omega, fun hq => ?_, ⟨by simp only; omega, by simp only; exact_mod_cast a1⟩, ⟨by simp only; omega, by simp only; exact_mod_cast b1⟩, ⟨by simp only; omega, by simp only; exact_mod_cast c1⟩⟩
  have := c3 hq
  simp only; omega

theorem rLs_len (K : Nat) : ∀ (n : Nat) (L : List (List UInt8)) (r : List UInt8) (b : Bool), (rLs K n L r b).2.1.length ≤ r.length
  | 0, L, r, b => Nat.le_refl _
  | n + 1, L, r, b => by
    rw [rLs]
    split
    · exact Nat.le_refl _
    · exact Nat.le_trans (rLs_len K n _ _ _) (rT_fits K r b).1
theorem rLs_go (K k : Nat) (L : List (List UInt8)) (r : List UInt8) (h : 1 < k) : rLs K (k - 1) L r false = rLs K (k - 1 - 1) (L ++ [(rT K r false).1]) (rT K r false).2.1 (rT K r false).2.2 := by
  obtain ⟨m, rfl⟩ : ∃ m, k = m + 2 := ⟨k - 2, by omega⟩
  simp [rLs]
theorem rLs_bad (K k : Nat) (L : List (List UInt8)) (r : List UInt8) : rLs K k L r true = (L, r, true) := by
  cases k <;> simp [rLs]
theorem rEs_go (K k : Nat) (L : List Ed) (r : List UInt8) (h : 0 < k) : rEs K k L r false = rEs K (k - 1) (L ++ [(rE K r false).1]) (rE K r false).2.1 (rE K r false).2.2 := by
  obtain ⟨m, rfl⟩ : ∃ m, k = m + 1 := ⟨k - 1, by omega⟩
  simp [rEs]
theorem rEs_bad (K k : Nat) (L : List Ed) (r : List UInt8) : rEs K k L r true = (L, r, true) := by
  cases k <;> simp [rEs]

end Go.Proofs.YtcnaapiljmgfoaaGreatDoor

/-
  A text divided at each byte by the reference.
-/
namespace Go.Proofs.YtcnaapiljmgfoaaGreatDoor
open Go.RowKit

theorem extract_list (l : List UInt8) (a b : Nat) : (⟨l.toArray⟩ : ByteArray).extract a b = ⟨((l.drop a).take (b - a)).toArray⟩ := by
  apply ByteArray.ext
  apply Array.ext'
  simp [ByteArray.data_extract, List.take_drop]
  first | done | (rw [List.drop_take]) | skip

def SplitV (c : UInt8) (l : List UInt8) (w : World) (e : Ending) (w' : World) : Prop := (∃ v', e = .returned v' ∧ New RS w w' v' (splitC c l)) ∧ Upd [] w w'

theorem split_at (c : UInt8) (l : List UInt8) (f i : Nat) (hfi : f ≤ i) (hi : i < l.length) (h : ∀ j (_ : f ≤ j) (_ : j < i) (hj2 : j < l.length), l[j] ≠ c) (hc : l[i] = c) :
    splitC c (l.drop f) = (l.drop f).take (i - f) :: splitC c (l.drop (i + 1)) := by
  have e : l.drop f = (l.drop f).take (i - f) ++ c :: l.drop (i + 1) := by
    have h1 : (l.drop f).drop (i - f) = c :: l.drop (i + 1) := by
      rw [List.drop_drop, show f + (i - f) = i by omega, List.drop_eq_getElem_cons hi, hc]
    rw [← h1, List.take_append_drop]
  have hno : c ∉ (l.drop f).take (i - f) := fun hm => by
    obtain ⟨j, hj, hj2⟩ := List.mem_iff_getElem.1 hm
    simp only [List.length_take, List.length_drop] at hj
    rw [List.getElem_take, List.getElem_drop] at hj2
    exact h (f + j) (by omega) (by omega) (by omega) hj2
  conv => lhs; rw [e]
  rw [split_app c _ _ hno]
theorem split_rest (c : UInt8) (l : List UInt8) (f : Nat) (h : ∀ j (_ : f ≤ j) (_ : j < l.length) (hj2 : j < l.length), l[j] ≠ c) : splitC c (l.drop f) = [l.drop f] := by
  refine split_none c _ (fun hm => ?_)
  obtain ⟨j, hj, hj2⟩ := List.mem_iff_getElem.1 hm
  simp only [List.length_drop] at hj
  rw [List.getElem_drop] at hj2
  exact h (f + j) (by omega) (by omega) (by omega) hj2

set_option maxRecDepth 20000 in
set_option maxHeartbeats 4000000 in
theorem splitS (l : List UInt8) (c : UInt8) (w : World) (hl : l.length ≤ 2000000) : Calls Tryz.prog 126 #[es l, .int .u8 (c.toNat : Int)] w (SplitV c l w) := by
  obtain ⟨i1, ki, kz0, kz1, kz2⟩ := info_parts Tryz.info9
  have hlit := World.ownsRow_lit (base := w.heap.size) (e := 9) (size := 1) w #[] 0 (Nat.le_refl _) (by simp [maxLen]) (by simp)
  have HLIT := Lib.hid hlit
  have hsz0 : (w.alloc (.cells #[] 9)).heap.size = w.heap.size + 1 := by simp
  clear hlit
  go_enter Tryz.func126, Tryz.ntmps126
  go_wp2_with fail
  go_loopw [5, 6, 7] (fun ov fv iv wr => ∃ (f i : Nat) (ps : List (List UInt8)), f ≤ i ∧ i ≤ l.length ∧ fv = .int .i64 f ∧ iv = .int .i64 i ∧ ps.length ≤ f ∧ Hid (splitC c l = ps ++ splitC c (l.drop f)) ∧ Hid (∀ j (_ : f ≤ j) (_ : j < i) (hj2 : j < l.length), l[j] ≠ c) ∧ Hid (wr.ownsRow w.heap.size 9 1 ov ps.length (ps.map es)) ∧ Upd [] w wr) (fun _ _ iv _ => l.length - (intOf iv).toNat)
  case atStart => exact ⟨0, 0, [], by omega, by omega, rfl, rfl, by simp, Lib.hid rfl, Lib.hid (fun j h1 h2 => by omega), HLIT, (Upd.refl _ _).alloc _⟩
  case round =>
    clear HLIT hsz0
    obtain ⟨f, i, ps, hfi, hil, rfl, rfl, hpl, HS, HN, hown, hU⟩ := hrel
    have hszr := hU.size
    by_cases hlt : i < l.length
    · obtain ⟨b, hb⟩ : ∃ b, l[i] = b := ⟨_, rfl⟩
      have hix : (⟨l.toArray⟩ : ByteArray)[i]'(by simpa [ByteArray.size] using hlt) = b := by rw [← hb]; simp [ByteArray.getElem_eq_getElem_data]
      by_cases hbc : b = c
      · subst hbc
        have hext := extract_list l f i
        have HS2 := Lib.hid (HS.out.trans (by rw [split_at b l f i hfi hlt HN.out hb] : _ = ps ++ ((l.drop f).take (i - f) :: splitC b (l.drop (i + 1)))))
        generalize (l.drop f).take (i - f) = pc at *
        have HU := Lib.hid hU
        have hown0 := hown.out
        clear hb HS HN hU
        go_wp2_with (first
          | (at_builtin; refine wpList_append_tight _ rfl _ _ 22 rfl w.heap.size 9 i1 (.string ⟨#[]⟩) 1 16 Tryz.underlying22 ki kz0 kz1 kz2 rfl (by decide) _ _ _ rfl (hown0.alloc _) ⟨wr.heap.size, 0, none⟩ 1 1 [es pc] rfl rfl (fun j u hj => by rw [addr_add]; exact cell_new wr #[es pc] _ _ rfl _ _ (by simpa using hj)) (by simp [Value.oneCell']) (by unfold maxLen; omega) (by omega) (by simp; omega) ?_)
          | fail)
        intro v4 w4 hown4 hg4 ht4
        have hu4 : Upd [] w w4 := (HU.out.alloc _).grown hg4 (fun b hb => Or.inl (by have := (hown0.lt b hb).1; omega))
        have HQ := Lib.hid (And.intro hown4 hu4)
        clear hown4 hg4 ht4 hu4 hown0 hown HU
        go_wp2_with fail
        go_roundw
        case rel => exact ⟨i + 1, i + 1, ps ++ [pc], by omega, by omega, by go_num, by go_num, by simp; omega, Lib.hid (by rw [HS2.out]; simp), Lib.hid (fun j h1 h2 => by omega), Lib.hid (by simpa using HQ.out.1), HQ.out.2⟩
        case measure => simp [intOf]; omega
      · have hbc' : ((b.toNat : Int) == (c.toNat : Int)) = false := by
          simp; intro h; apply hbc; exact UInt8.toNat_inj.1 (by omega)
        have HN2 := Lib.hid (show ∀ j (_ : f ≤ j) (_ : j < i + 1) (hj2 : j < l.length), l[j] ≠ c from fun j h1 h2 hj2 => by
          by_cases e : j = i
          · subst e; rw [hb]; exact hbc
          · exact HN.out j h1 (by omega) hj2)
        clear hb HN hbc
        go_wp2_with fail
        go_roundw
        case rel => exact ⟨f, i + 1, ps, by omega, by omega, rfl, by go_num, hpl, HS, HN2, hown, hU⟩
        case measure => simp [intOf]; omega
    · obtain rfl : i = l.length := by omega
      have hext := extract_list l f l.length
      have hdt : (l.drop f).take (l.length - f) = l.drop f := List.take_of_length_le (by simp)
      rw [hdt] at hext
      have HS2 := Lib.hid (HS.out.trans (by rw [split_rest c l f HN.out] : _ = ps ++ [l.drop f]))
      generalize l.drop f = pc at *
      have HU := Lib.hid hU
      have hown0 := hown.out
      clear HS HN hU hdt
      go_wp2_with (first
        | (at_builtin; refine wpList_append_tight _ rfl _ _ 22 rfl w.heap.size 9 i1 (.string ⟨#[]⟩) 1 16 Tryz.underlying22 ki kz0 kz1 kz2 rfl (by decide) _ _ _ rfl (hown0.alloc _) ⟨wr.heap.size, 0, none⟩ 1 1 [es pc] rfl rfl (fun j u hj => by rw [addr_add]; exact cell_new wr #[es pc] _ _ rfl _ _ (by simpa using hj)) (by simp [Value.oneCell']) (by unfold maxLen; omega) (by omega) (by simp; omega) ?_)
        | fail)
      intro v4 w4 hown4 hg4 ht4
      have hu4 : Upd [] w w4 := (HU.out.alloc _).grown hg4 (fun b hb => Or.inl (by have := (hown0.lt b hb).1; omega))
      have HQ := Lib.hid (And.intro (show New RS w w4 v4 (splitC c l) by
        rw [HS2.out]
        exact New.ofOwns (e := 9) (enc := es) (by simpa using hown4)) hu4)
      clear hown4 hg4 ht4 hu4 hown0 hown HU
      go_wp2_with fail
      go_ret
      exact ⟨⟨_, rfl, HQ.out.1⟩, HQ.out.2⟩

end Go.Proofs.YtcnaapiljmgfoaaGreatDoor

/-
  A system that is being read: its block, its two rows, and what appends to them leave.
-/
namespace Go.Proofs.YtcnaapiljmgfoaaGreatDoor
open Go.RowKit

theorem ownsRow_keep {w w' : World} {base : Nat} {e : TypeId} {size : Nat} {v : Value} {n : Nat} {xs : List Value} (h : w.ownsRow base e size v n xs) (hk : ∀ g, v.ownBlock = some g → w'.heap[g]? = w.heap[g]?) : w'.ownsRow base e size v n xs := by
  refine ⟨h.1, ?_⟩
  rcases h.2 with h2 | ⟨g, cap, cur, rfl, hb, hh, r⟩
  · exact Or.inl h2
  · exact Or.inr ⟨g, cap, cur, rfl, hb, by rw [hk g rfl]; exact hh, r⟩
theorem ownsRow_base {w : World} {base base' : Nat} {e : TypeId} {size : Nat} {v : Value} {n : Nat} {xs : List Value} (h : w.ownsRow base e size v n xs) (hb : base' ≤ base) : w.ownsRow base' e size v n xs := by
  refine ⟨h.1, ?_⟩
  rcases h.2 with h2 | ⟨g, cap, cur, rfl, hb2, r⟩
  · exact Or.inl h2
  · exact Or.inr ⟨g, cap, cur, rfl, Nat.le_trans hb hb2, r⟩
theorem row_type {w : World} {base g : Nat} {v : Value} {n sz : Nat} {xs : List Value} {e : TypeId} (h : w.ownsRow base e sz v n xs) (hg : v.ownBlock = some g) : base ≤ g ∧ ∃ c, w.heap[g]? = some (.cells c e (0, 0)) := by
  rcases h.2 with ⟨rfl, -⟩ | ⟨g', cap, cur, rfl, hb, hh, -⟩
  · simp [Value.ownBlock] at hg
  · simp [Value.ownBlock] at hg
    subst hg
    exact ⟨hb, _, hh⟩
theorem row_ne {w : World} {base g : Nat} {v : Value} {n sz : Nat} {xs : List Value} {e T : TypeId} {c : Array Value} (h : w.ownsRow base e sz v n xs) (hp : w.heap[g]? = some (.cells c T (0, 0))) (hne : e ≠ T) : v.ownBlock ≠ some g := by
  intro hb
  obtain ⟨-, c', h2⟩ := row_type h hb
  rw [hp] at h2
  simp only [Option.some.injEq, Obj.cells.injEq] at h2
  exact hne h2.2.1.symm

/-- a system's four cells in a block of their own. -/
def SysAt (T : Nat) (W : World) (st ini : Int) (v1 v2 : Value) : Prop := W.heap[T]? = some (.cells #[ei st, ei ini, v1, v2] 32 (0, 0))
theorem SysAt.lt {T : Nat} {W : World} {st ini : Int} {v1 v2 : Value} (h : SysAt T W st ini v1 v2) : T < W.heap.size := (Array.getElem?_eq_some_iff.1 h).1
theorem SysAt.facts {T : Nat} {W : World} {st ini : Int} {v1 v2 : Value} (h : SysAt T W st ini v1 v2) : W.cell? ⟨T, 0, none⟩ = some (ei st) ∧ W.cell? ⟨T, 1, none⟩ = some (ei ini) ∧ W.cell? ⟨T, 2, none⟩ = some v1 ∧ W.cell? ⟨T, 3, none⟩ = some v2 ∧ ∀ j, W.frozen? ⟨T, j, none⟩ = false := by
  unfold SysAt at h
  refine ⟨?_, ?_, ?_, ?_, fun j => ?_⟩
  · simp [World.cell?, h]
  · simp [World.cell?, h]
  · simp [World.cell?, h]
  · simp [World.cell?, h]
  · simp [World.frozen?, h]
theorem SysAt.upd {T : Nat} {w w1 : World} {st ini : Int} {v1 v2 : Value} (h : SysAt T w st ini v1 v2) {f : List Nat} (hu : Upd f w w1) (hf : T ∉ f) : SysAt T w1 st ini v1 v2 := by
  unfold SysAt at *
  rw [hu.block T (Array.getElem?_eq_some_iff.1 h).1 hf]; exact h
theorem SysAt.set2 {T : Nat} {w : World} {st ini : Int} {v1 v2 : Value} (h : SysAt T w st ini v1 v2) (u : Value) : SysAt T (w.setCell ⟨T, 2, none⟩ u) st ini u v2 := by
  unfold SysAt
  have := heap_setCell_same w T 2 _ _ u h
  simpa using this
theorem SysAt.set3 {T : Nat} {w : World} {st ini : Int} {v1 v2 : Value} (h : SysAt T w st ini v1 v2) (u : Value) : SysAt T (w.setCell ⟨T, 3, none⟩ u) st ini v1 u := by
  unfold SysAt
  have := heap_setCell_same w T 3 _ _ u h
  simpa using this
theorem SysAt.set0 {T : Nat} {w : World} {st ini : Int} {v1 v2 : Value} (h : SysAt T w st ini v1 v2) (n : Int) : SysAt T (w.setCell ⟨T, 0, none⟩ (ei n)) n ini v1 v2 := by
  unfold SysAt
  have := heap_setCell_same w T 0 _ _ (ei n) h
  simpa using this
theorem SysAt.set1 {T : Nat} {w : World} {st ini : Int} {v1 v2 : Value} (h : SysAt T w st ini v1 v2) (n : Int) : SysAt T (w.setCell ⟨T, 1, none⟩ (ei n)) st n v1 v2 := by
  unfold SysAt
  have := heap_setCell_same w T 1 _ _ (ei n) h
  simpa using this

theorem SysAt.store {T : Nat} {w : World} {st ini : Int} {v1 v2 : Value} (h : SysAt T w st ini v1 v2) (a b : Int) (u v : Value) : SysAt T ((((w.setCell ⟨T, 0, none⟩ (ei a)).setCell ⟨T, 1, none⟩ (ei b)).setCell ⟨T, 2, none⟩ u).setCell ⟨T, 3, none⟩ v) a b u v := ((((h.set0 a).set1 b).set2 u).set3 v)
theorem str_ne_lts : (9 : TypeId) ≠ 32 := by decide
theorem edge_ne_lts : (74 : TypeId) ≠ 32 := by decide
theorem str_ne_edge : (9 : TypeId) ≠ 74 := by decide

/-- behind an append to a row of the system in block T and the store of cell j. -/
theorem sys_push {T base n n4 sz j : Nat} {w w4 : World} {st ini : Int} {v1 v2 v v4 : Value} {xs xs4 : List Value} {e : TypeId} (h0 : SysAt T w st ini v1 v2) (he : e ≠ 32) (hown : w.ownsRow base e sz v n xs)
    (hown4 : w4.ownsRow base e sz v4 n4 xs4) (hg : w.grownBy w4 v.ownBlock) :
    SysAt T w4 st ini v1 v2 ∧ (w4.setCell ⟨T, j, none⟩ v4).ownsRow base e sz v4 n4 xs4 ∧ w.heap.size ≤ (w4.setCell ⟨T, j, none⟩ v4).heap.size ∧
    (∀ b, b < w.heap.size → b ≠ T → v.ownBlock ≠ some b → (w4.setCell ⟨T, j, none⟩ v4).heap[b]? = w.heap[b]?) ∧
    (∀ w0 : World, w0.heap.size ≤ base → w0.heap.size ≤ T → Upd [] w0 w → Upd [] w0 (w4.setCell ⟨T, j, none⟩ v4)) := by
  have hlt := h0.lt
  have hne := row_ne hown h0 he
  have hT : SysAt T w4 st ini v1 v2 := by
    unfold SysAt at *
    rw [hg.block T hlt (fun e => hne e.symm)]; exact h0
  have hne4 := row_ne hown4 hT he
  refine ⟨hT, ?_, ?_, ?_, ?_⟩
  · refine ownsRow_keep hown4 (fun g hg2 => ?_)
    rw [heap_setCell_other _ _ _ _ (fun hh => hne4 (by rw [hg2, hh]))]
  · have := hg.size
    simp [World.setCell]; omega
  · intro b hb hbT hbv
    rw [heap_setCell_other _ _ _ _ hbT]
    exact hg.block b hb (fun e => hbv e.symm)
  · intro w0 hw0 hT0 hu
    exact (hu.grown hg (fun b hb => Or.inl (by have := (hown.lt b hb).1; omega))).setCell (Or.inl hT0) _

def zeroSys : Sys := ⟨0, 0, [], []⟩
/-- the two rows as a system of its own. -/
theorem new_sys {w W : World} {base : Nat} {st ini : Int} {v1 v2 : Value} {L : List (List UInt8)} {E : List Ed} (hb : w.heap.size ≤ base)
    (h1 : W.ownsRow base 9 1 v1 L.length (L.map es)) (h2 : W.ownsRow base 74 3 v2 E.length (E.flatMap fun t => [ei t.fr, ei t.lb, ei t.to])) :
    ∃ f1 f2, RS f1 W [v1] L ∧ R_E1 f2 W [v2] E ∧ New R_L1 w W (.agg #[ei st, ei ini, v1, v2]) ⟨st, ini, L, E⟩ := by
  obtain ⟨f1, a1, a2, a3, a4⟩ := Flat.ofOwns h1
  obtain ⟨f2, b1, b2, b3, b4⟩ := Flat.ofOwns h2
  have r1 : RS f1 W [v1] L := ⟨v1, rfl, by rw [flatMap_single]; exact a1⟩
  have r2 : R_E1 f2 W [v2] E := ⟨v2, rfl, b1⟩
  refine ⟨f1, f2, r1, r2, f1 ++ f2, ⟨v1, v2, f1, f2, rfl, r1, r2, rfl⟩, ⟨?_, ?_⟩, ?_⟩
  · rw [List.nodup_append]
    refine ⟨a2.1, b2.1, ?_⟩
    intro x hx y hy hxy
    obtain ⟨-, c1, p1⟩ := row_type h1 (a4 x hx)
    obtain ⟨-, c2, p2⟩ := row_type h2 (b4 y hy)
    rw [← hxy, p1] at p2
    simp only [Option.some.injEq, Obj.cells.injEq] at p2
    exact str_ne_edge p2.2.1
  · intro b hbm
    rcases List.mem_append.1 hbm with h | h
    · exact a2.2 b h
    · exact b2.2 b h
  · intro b hbm
    rcases List.mem_append.1 hbm with h | h
    · have := a3 b h; omega
    · have := b3 b h; omega
theorem new_zero (w W : World) : New R_L1 w W (.agg #[ei 0, ei 0, .slice none 0 0, .slice none 0 0]) zeroSys := by
  obtain ⟨f1, f2, -, -, h⟩ := new_sys (w := w) (W := W) (base := w.heap.size) (st := 0) (ini := 0) (v1 := .slice none 0 0) (v2 := .slice none 0 0) (L := []) (E := []) (Nat.le_refl _) (World.ownsRow_nil _ _ _ _) (World.ownsRow_nil _ _ _ _)
  exact h

def edCs (t : Ed) : List Value := [ei t.fr, ei t.lb, ei t.to]
/-- all that is under way while a system is read: H the result's block, p the reader's, T the system's. -/
structure DL (H p T : Nat) (w W : World) (a b : Int) (L : List (List UInt8)) (E : List Ed) (v1 v2 : Value) (o : Obj) : Prop where
  rd : W.heap[p]? = some o
  sys : SysAt T W a b v1 v2
  out : SysAt H W 0 0 (.slice none 0 0) (.slice none 0 0)
  row1 : W.ownsRow (p + 1) 9 1 v1 L.length (L.map es)
  row2 : W.ownsRow (p + 1) 74 3 v2 E.length (E.flatMap edCs)
  upd : Upd [] w W
  hw : w.heap.size = H
  hHp : H < p
  hpT : p < T
namespace DL
variable {H p T : Nat} {w W W' : World} {a b : Int} {L : List (List UInt8)} {E : List Ed} {v1 v2 : Value} {o o' : Obj}
theorem dlCall (h : DL H p T w W a b L E v1 v2 o) (hu : Upd [p] W W') (ho : W'.heap[p]? = some o') : DL H p T w W' a b L E v1 v2 o' := by
  have hp := h.hHp
  have hT := h.hpT
  have hH := h.hw
  refine ⟨ho, h.sys.upd hu (by simp; omega), h.out.upd hu (by simp; omega), ownsRow_keep h.row1 (fun g hg => ?_), ownsRow_keep h.row2 (fun g hg => ?_), h.upd.fresh hu (fun q hq => Or.inl (by simp at hq; omega)), hH, hp, hT⟩
  · have := (h.row1.lt g hg)
    exact hu.block g this.2 (by simp; omega)
  · have := (h.row2.lt g hg)
    exact hu.block g this.2 (by simp; omega)
theorem dlQuiet (h : DL H p T w W a b L E v1 v2 o) (hu : Upd [] W W') : DL H p T w W' a b L E v1 v2 o :=
  h.dlCall (hu.mono (by simp)) (by rw [hu.block p (Array.getElem?_eq_some_iff.1 h.rd).1 (by simp)]; exact h.rd)
theorem dlSetA (h : DL H p T w W a b L E v1 v2 o) (n : Int) : DL H p T w (W.setCell ⟨T, 0, none⟩ (ei n)) n b L E v1 v2 o := by
  have hp := h.hHp
  have hT := h.hpT
  have hH := h.hw
  have hs := h.sys
  unfold SysAt at hs
  have hk : ∀ g, g ≠ T → (W.setCell ⟨T, 0, none⟩ (ei n)).heap[g]? = W.heap[g]? := fun g hg => heap_setCell_other _ _ _ _ hg
  refine ⟨by rw [hk p (by omega)]; exact h.rd, h.sys.set0 n, by unfold SysAt; rw [hk H (by omega)]; exact h.out, ownsRow_keep h.row1 (fun g hg => hk g (fun e => row_ne h.row1 hs str_ne_lts (by rw [hg, e]))), ownsRow_keep h.row2 (fun g hg => hk g (fun e => row_ne h.row2 hs edge_ne_lts (by rw [hg, e]))), h.upd.setCell (Or.inl (by simp; omega)) _, hH, hp, hT⟩
theorem dlSetB (h : DL H p T w W a b L E v1 v2 o) (n : Int) : DL H p T w (W.setCell ⟨T, 1, none⟩ (ei n)) a n L E v1 v2 o := by
  have hp := h.hHp
  have hT := h.hpT
  have hH := h.hw
  have hs := h.sys
  unfold SysAt at hs
  have hk : ∀ g, g ≠ T → (W.setCell ⟨T, 1, none⟩ (ei n)).heap[g]? = W.heap[g]? := fun g hg => heap_setCell_other _ _ _ _ hg
  refine ⟨by rw [hk p (by omega)]; exact h.rd, h.sys.set1 n, by unfold SysAt; rw [hk H (by omega)]; exact h.out, ownsRow_keep h.row1 (fun g hg => hk g (fun e => row_ne h.row1 hs str_ne_lts (by rw [hg, e]))), ownsRow_keep h.row2 (fun g hg => hk g (fun e => row_ne h.row2 hs edge_ne_lts (by rw [hg, e]))), h.upd.setCell (Or.inl (by simp; omega)) _, hH, hp, hT⟩
theorem dlPushL (h : DL H p T w W a b L E v1 v2 o) {w4 : World} {v4 : Value} {s : List UInt8} (hown : w4.ownsRow (p + 1) 9 1 v4 (L.length + 1) (L.map es ++ [es s])) (hg : W.grownBy w4 v1.ownBlock) :
    w4.cell? ⟨T, 2, none⟩ = some v1 ∧ w4.frozen? ⟨T, 2, none⟩ = false ∧ Hid (DL H p T w (w4.setCell ⟨T, 2, none⟩ v4) a b (L ++ [s]) E v4 v2 o) := by
  obtain ⟨q1, q2, q3, q4, q5⟩ := sys_push (j := 2) h.sys str_ne_lts h.row1 hown hg
  obtain ⟨c0, c1, c2, c3, fz⟩ := q1.facts
  have hp := h.hHp
  have hT := h.hpT
  have hH := h.hw
  have hpl := (Array.getElem?_eq_some_iff.1 h.rd).1
  have hHl := h.out.lt
  have hn1 : v1.ownBlock ≠ some p := fun e => by have := (h.row1.lt p e).1; omega
  have hn2 : v1.ownBlock ≠ some H := fun e => by have := (h.row1.lt H e).1; omega
  refine ⟨c2, fz 2, Lib.hid ⟨?_, q1.set2 v4, ?_, ?_, ?_, q5 w (by omega) (by omega) h.upd, hH, hp, hT⟩⟩
  · rw [q4 p hpl (by omega) hn1]; exact h.rd
  · unfold SysAt
    rw [q4 H hHl (by omega) hn2]; exact h.out
  · simpa using q2
  · refine ownsRow_keep h.row2 (fun g hg2 => ?_)
    obtain ⟨-, c, hc⟩ := row_type h.row2 hg2
    refine q4 g (h.row2.lt g hg2).2 ?_ (row_ne h.row1 hc str_ne_edge)
    intro e
    have hs := h.sys
    unfold SysAt at hs
    rw [e, hs] at hc
    simp only [Option.some.injEq, Obj.cells.injEq] at hc
    exact edge_ne_lts hc.2.1.symm
theorem dlPushE (h : DL H p T w W a b L E v1 v2 o) {w4 : World} {v4 : Value} {t : Ed} (hown : w4.ownsRow (p + 1) 74 3 v4 (E.length + 1) (E.flatMap edCs ++ edCs t)) (hg : W.grownBy w4 v2.ownBlock) :
    w4.cell? ⟨T, 3, none⟩ = some v2 ∧ w4.frozen? ⟨T, 3, none⟩ = false ∧ Hid (DL H p T w (w4.setCell ⟨T, 3, none⟩ v4) a b L (E ++ [t]) v1 v4 o) := by
  obtain ⟨q1, q2, q3, q4, q5⟩ := sys_push (j := 3) h.sys edge_ne_lts h.row2 hown hg
  obtain ⟨c0, c1, c2, c3, fz⟩ := q1.facts
  have hp := h.hHp
  have hT := h.hpT
  have hH := h.hw
  have hpl := (Array.getElem?_eq_some_iff.1 h.rd).1
  have hHl := h.out.lt
  have hn1 : v2.ownBlock ≠ some p := fun e => by have := (h.row2.lt p e).1; omega
  have hn2 : v2.ownBlock ≠ some H := fun e => by have := (h.row2.lt H e).1; omega
  refine ⟨c3, fz 3, Lib.hid ⟨?_, q1.set3 v4, ?_, ?_, ?_, q5 w (by omega) (by omega) h.upd, hH, hp, hT⟩⟩
  · rw [q4 p hpl (by omega) hn1]; exact h.rd
  · unfold SysAt
    rw [q4 H hHl (by omega) hn2]; exact h.out
  · refine ownsRow_keep h.row1 (fun g hg2 => ?_)
    obtain ⟨-, c, hc⟩ := row_type h.row1 hg2
    refine q4 g (h.row1.lt g hg2).2 ?_ (row_ne h.row2 hc (fun e => str_ne_edge e.symm))
    intro e
    have hs := h.sys
    unfold SysAt at hs
    rw [e, hs] at hc
    simp only [Option.some.injEq, Obj.cells.injEq] at hc
    exact str_ne_lts hc.2.1.symm
  · simpa using q2
/-- the system's readings, and what storing it to the result's block leaves. -/
theorem dlFin (h : DL H p T w W a b L E v1 v2 o) : ∃ f1 f2, RS f1 W [v1] L ∧ R_E1 f2 W [v2] E := by
  have hH := h.hw
  have hp := h.hHp
  obtain ⟨f1, f2, r1, r2, -⟩ := new_sys (w := w) (st := a) (ini := b) (by omega) h.row1 h.row2
  exact ⟨f1, f2, r1, r2⟩
theorem dlStored (h : DL H p T w W a b L E v1 v2 o) : SysAt H ((((W.setCell ⟨H, 0, none⟩ (ei a)).setCell ⟨H, 1, none⟩ (ei b)).setCell ⟨H, 2, none⟩ v1).setCell ⟨H, 3, none⟩ v2) a b v1 v2 ∧
    New R_L1 w ((((W.setCell ⟨H, 0, none⟩ (ei a)).setCell ⟨H, 1, none⟩ (ei b)).setCell ⟨H, 2, none⟩ v1).setCell ⟨H, 3, none⟩ v2) (.agg #[ei a, ei b, v1, v2]) ⟨a, b, L, E⟩ ∧
    Upd [] w ((((W.setCell ⟨H, 0, none⟩ (ei a)).setCell ⟨H, 1, none⟩ (ei b)).setCell ⟨H, 2, none⟩ v1).setCell ⟨H, 3, none⟩ v2) := by
  have hH := h.hw
  have hp := h.hHp
  refine ⟨h.out.store a b v1 v2, ?_, ?_⟩
  · obtain ⟨-, -, -, -, hn⟩ := new_sys (w := w) (W := (((W.setCell ⟨H, 0, none⟩ (ei a)).setCell ⟨H, 1, none⟩ (ei b)).setCell ⟨H, 2, none⟩ v1).setCell ⟨H, 3, none⟩ v2) (st := a) (ini := b) (L := L) (E := E) (base := p + 1) (v1 := v1) (v2 := v2) (by omega)
      (ownsRow_keep h.row1 (fun g hg => by
        have := (h.row1.lt g hg).1
        rw [heap_setCell_other _ _ _ _ (by simp; omega), heap_setCell_other _ _ _ _ (by simp; omega), heap_setCell_other _ _ _ _ (by simp; omega), heap_setCell_other _ _ _ _ (by simp; omega)]))
      (ownsRow_keep h.row2 (fun g hg => by
        have := (h.row2.lt g hg).1
        rw [heap_setCell_other _ _ _ _ (by simp; omega), heap_setCell_other _ _ _ _ (by simp; omega), heap_setCell_other _ _ _ _ (by simp; omega), heap_setCell_other _ _ _ _ (by simp; omega)]))
    exact hn
  · exact (((h.upd.setCell (Or.inl (by simp; omega)) _).setCell (Or.inl (by simp; omega)) _).setCell (Or.inl (by simp; omega)) _).setCell (Or.inl (by simp; omega)) _
theorem dlCleared (h : DL H p T w W a b L E v1 v2 o) : SysAt H ((((W.setCell ⟨H, 0, none⟩ (ei 0)).setCell ⟨H, 1, none⟩ (ei 0)).setCell ⟨H, 2, none⟩ (.slice none 0 0)).setCell ⟨H, 3, none⟩ (.slice none 0 0)) 0 0 (.slice none 0 0) (.slice none 0 0) ∧
    Upd [] w ((((W.setCell ⟨H, 0, none⟩ (ei 0)).setCell ⟨H, 1, none⟩ (ei 0)).setCell ⟨H, 2, none⟩ (.slice none 0 0)).setCell ⟨H, 3, none⟩ (.slice none 0 0)) := by
  have hH := h.hw
  refine ⟨h.out.store 0 0 _ _, ?_⟩
  exact (((h.upd.setCell (Or.inl (by simp; omega)) _).setCell (Or.inl (by simp; omega)) _).setCell (Or.inl (by simp; omega)) _).setCell (Or.inl (by simp; omega)) _
end DL

end Go.Proofs.YtcnaapiljmgfoaaGreatDoor

/-
  Relations between systems, the reference's parts: the edges from a state, and lists of pairs.
-/
namespace Go.Proofs.YtcnaapiljmgfoaaGreatDoor
open Go.RowKit

/-- the edges from a state. -/
def outF (eds : List Ed) (k : Int) : List Ed := eds.filter fun e => e.fr == k
theorem outF_mem {eds : List Ed} {k : Int} {e : Ed} (h : e ∈ outF eds k) : e ∈ eds := (List.mem_filter.1 h).1
theorem outF_step (eds : List Ed) (k : Int) (i : Nat) (h : i < eds.length) : outF (eds.take (i + 1)) k = outF (eds.take i) k ++ (if eds[i].fr == k then [eds[i]] else []) := by
  unfold outF
  rw [List.take_succ_eq_append_getElem h, List.filter_append]
  congr 1
  cases hq : eds[i].fr == k <;> simp [hq]
theorem outF_len (eds : List Ed) (k : Int) : (outF eds k).length ≤ eds.length := List.length_filter_le _ _

set_option maxRecDepth 20000 in
set_option maxHeartbeats 4000000 in
theorem outES (T : Nat) (v2 : Value) (eds : List Ed) (k : Int) (w : World) (f2 : List Nat) (z3 : w.cell? ⟨T, 3, none⟩ = some v2) (h2 : R_E1 f2 w [v2] eds) (hm : eds.length ≤ 2000000) :
    Calls Tryz.prog 68 #[.pointer (some ⟨T, 0, none⟩), .int .i64 k] w fun e w' => (∃ v', e = .returned v' ∧ New R_E1 w w' v' (outF eds k)) ∧ Upd [] w w' := by
  obtain ⟨i3, ni, nz0, nz1, nz2⟩ := info_parts Tryz.infoEd
  obtain ⟨a, cap, rfl, l1, l2, hc⟩ := slF3_open h2
  unfold maxLen at l2
  have HC := Lib.hid hc
  have hlit := World.ownsRow_lit (base := w.heap.size) (e := 74) (size := 3) w #[] 0 (Nat.le_refl _) (by simp [maxLen]) (by simp)
  have HLIT := Lib.hid hlit
  have hT := World.block_lt_of_cell? w _ z3
  clear h2 hc hlit
  go_enter Tryz.func68, Tryz.ntmps68
  go_wp2_with fail
  go_loopw [5, 6] (fun ov iv wr => ∃ i : Nat, i ≤ eds.length ∧ iv = .int .i64 i ∧ Hid (wr.ownsRow w.heap.size 74 3 ov (outF (eds.take i) k).length ((outF (eds.take i) k).flatMap edCs)) ∧ Hid (Upd [] w wr)) (fun _ iv _ => eds.length - (intOf iv).toNat)
  case atStart => exact ⟨0, Nat.zero_le _, rfl, Lib.hid (by simpa [outF] using HLIT.out), Lib.hid ((Upd.refl _ _).alloc _)⟩
  case round =>
    clear HLIT
    obtain ⟨wo, rfl⟩ : ∃ wo : World, wo = wr := ⟨_, rfl⟩
    obtain ⟨i, hi, rfl, HO, HU⟩ := hrel
    have y3 := HU.out.keep z3
    obtain ⟨oa, oc, hov⟩ := ownsRow_form HO.out
    subst hov
    by_cases hlt : i < eds.length
    · obtain ⟨b, o, rfl, -, -, p1, p2, p3⟩ := HC.out i hlt
      have q1 := HU.out.keep p1
      have q2 := HU.out.keep p2
      have q3 := HU.out.keep p3
      have HST := Lib.hid (outF_step eds k i hlt)
      have hll : (outF (eds.take i) k).length ≤ 2000000 := by have := outF_len (eds.take i) k; simp at this; omega
      have hil : (i : Int) < (eds.length : Int) := by omega
      clear p1 p2 p3
      generalize outF (eds.take i) k = P at *
      generalize eds[i] = x at *
      obtain ⟨x1, x2, x3⟩ := x
      simp only at q1 q2 q3 HST
      cases hk : (x1 == k) with
      | false =>
        have HP := Lib.hid (show outF (eds.take (i + 1)) k = P by rw [HST.out, hk]; simp)
        clear HST
        go_wp2_with fail
        go_roundw
        case rel => exact ⟨i + 1, by omega, by go_num, Lib.hid (by rw [HP.out]; exact HO.out), HU⟩
        case measure => simp [intOf]; omega
      | true =>
        have HP := Lib.hid (show outF (eds.take (i + 1)) k = P ++ [⟨x1, x2, x3⟩] by rw [HST.out, hk]; simp)
        have hsz := HU.out.size
        have hown0 := HO.out
        clear HST
        go_wp2_with (first
          | (at_builtin; refine wpList_append_tight _ rfl _ _ 30 rfl w.heap.size 74 i3 (.agg #[.int .i64 0, .int .i64 0, .int .i64 0]) 3 24 Tryz.underlying30 ni nz0 nz1 nz2 rfl (by decide) _ _ _ rfl (hown0.alloc _) ⟨wo.heap.size, 0, none⟩ 1 1 [.int .i64 x1, .int .i64 x2, .int .i64 x3] rfl rfl (fun j u hj => by rw [addr_add]; exact cell_new wo #[.int .i64 x1, .int .i64 x2, .int .i64 x3] _ _ rfl _ _ (by simpa using hj)) (by simp [Value.oneCell']) (by unfold maxLen; omega) (by omega) (by simp; omega) ?_)
          | fail)
        intro v4 w4 hown4 hg4 ht4
        have HO4 := Lib.hid (show w4.ownsRow w.heap.size 74 3 v4 (P ++ [(⟨x1, x2, x3⟩ : Ed)]).length ((P ++ [(⟨x1, x2, x3⟩ : Ed)]).flatMap edCs) by
          rw [List.length_append, List.flatMap_append]; simpa [edCs] using hown4)
        have HU4 := Lib.hid ((HU.out.alloc (.cells #[.int .i64 x1, .int .i64 x2, .int .i64 x3] 74)).grown hg4 (fun b hb => Or.inl ((hown0.lt b hb).1)))
        clear hown4 hg4 ht4 hown0 HO HU
        go_wp2_with fail
        go_roundw
        case rel => exact ⟨i + 1, by omega, by go_num, Lib.hid (by rw [HP.out]; exact HO4.out), HU4⟩
        case measure => simp [intOf]; omega
    · obtain rfl : i = eds.length := by omega
      have HO2 := Lib.hid (show wo.ownsRow w.heap.size 74 3 (.slice oa (outF (eds.take eds.length) k).length oc) (outF eds k).length ((outF eds k).flatMap edCs) by
        have := HO.out
        rw [List.take_length] at this ⊢
        exact this)
      clear HO
      go_wp2_with fail
      go_ret
      exact ⟨⟨_, rfl, New.ofOwns3 HO2.out⟩, HU.out⟩

end Go.Proofs.YtcnaapiljmgfoaaGreatDoor

/-
  Relations between systems, the program's parts: the edges from a state, lists held against each other.
-/
namespace Go.Proofs.YtcnaapiljmgfoaaGreatDoor
open Go.RowKit

set_option maxRecDepth 20000 in
set_option maxHeartbeats 4000000 in
theorem outEI (st ini : Int) (v1 v2 : Value) (eds : List Ed) (k : Int) (w : World) (f2 : List Nat) (h2 : R_E1 f2 w [v2] eds) (hm : eds.length ≤ 2000000) :
    Calls Tryz.prog 121 #[.agg #[ei st, ei ini, v1, v2], .int .i64 k] w fun e w' => (∃ v', e = .returned v' ∧ New R_E1 w w' v' (outF eds k)) ∧ Upd [] w w' := by
  obtain ⟨i3, ni, nz0, nz1, nz2⟩ := info_parts Tryz.infoEd
  obtain ⟨a, cap, rfl, l1, l2, hc⟩ := slF3_open h2
  unfold maxLen at l2
  have HC := Lib.hid hc
  obtain ⟨wA, hwA⟩ : ∃ wA, wA = w.alloc (.cells #[ei st, ei ini, v1, .slice a eds.length cap] 32) := ⟨_, rfl⟩
  have HUA := Lib.hid (show Upd [] w wA by rw [hwA]; exact (Upd.refl _ _).alloc _)
  have z3 : wA.cell? ⟨w.heap.size, 3, none⟩ = some (.slice a eds.length cap) := by rw [hwA]; exact cell_new w _ _ _ rfl 3 _ rfl
  clear h2 hc
  go_enter Tryz.func121, Tryz.ntmps121
  go_upto_region 2 with (fail)
  rw [← hwA]
  clear hwA
  go_wp2_with fail
  go_loopw [5, 11] (fun ov iv wr => ∃ i : Nat, i ≤ eds.length ∧ iv = .int .i64 i ∧ Hid (wr.ownsRow w.heap.size 74 3 ov (outF (eds.take i) k).length ((outF (eds.take i) k).flatMap edCs)) ∧ Hid (Upd [] w wr)) (fun _ iv _ => eds.length - (intOf iv).toNat)
  case atStart => exact ⟨0, Nat.zero_le _, rfl, Lib.hid (World.ownsRow_nil _ _ _ _), HUA⟩
  case round =>
    clear HUA z3
    obtain ⟨wo, rfl⟩ : ∃ wo : World, wo = wr := ⟨_, rfl⟩
    obtain ⟨i, hi, rfl, HO, HU⟩ := hrel
    obtain ⟨oa, oc, hov⟩ := ownsRow_form HO.out
    subst hov
    by_cases hlt : i < eds.length
    · obtain ⟨b, o, rfl, -, -, p1, p2, p3⟩ := HC.out i hlt
      have q1 := HU.out.keep p1
      have q2 := HU.out.keep p2
      have q3 := HU.out.keep p3
      have HST := Lib.hid (outF_step eds k i hlt)
      have hll : (outF (eds.take i) k).length ≤ 2000000 := by have := outF_len (eds.take i) k; simp at this; omega
      have hil : (i : Int) < (eds.length : Int) := by omega
      clear p1 p2 p3
      generalize outF (eds.take i) k = P at *
      generalize eds[i] = x at *
      obtain ⟨x1, x2, x3⟩ := x
      simp only at q1 q2 q3 HST
      cases hk : (x1 == k) with
      | false =>
        have HP := Lib.hid (show outF (eds.take (i + 1)) k = P by rw [HST.out, hk]; simp)
        clear HST
        go_wp2_with fail
        go_roundw
        case rel => exact ⟨i + 1, by omega, by go_num, Lib.hid (by rw [HP.out]; exact HO.out.alloc _), Lib.hid (HU.out.alloc _)⟩
        case measure => simp [intOf]; omega
      | true =>
        have HP := Lib.hid (show outF (eds.take (i + 1)) k = P ++ [⟨x1, x2, x3⟩] by rw [HST.out, hk]; simp)
        have hsz := HU.out.size
        obtain ⟨wB, hwB⟩ : ∃ wB, wB = wo.alloc (.cells #[.int .i64 x1, .int .i64 x2, .int .i64 x3] 74) := ⟨_, rfl⟩
        have hown0 : wB.ownsRow w.heap.size 74 3 (.slice oa P.length oc) P.length (P.flatMap edCs) := by rw [hwB]; exact HO.out.alloc _
        have HUB := Lib.hid (show Upd [] w wB by rw [hwB]; exact HU.out.alloc _)
        have t0 : wB.cell? ⟨wo.heap.size, 0, none⟩ = some (ei x1) := by rw [hwB]; exact cell_new wo _ _ _ rfl 0 _ rfl
        have t1 : wB.cell? ⟨wo.heap.size, 1, none⟩ = some (ei x2) := by rw [hwB]; exact cell_new wo _ _ _ rfl 1 _ rfl
        have t2 : wB.cell? ⟨wo.heap.size, 2, none⟩ = some (ei x3) := by rw [hwB]; exact cell_new wo _ _ _ rfl 2 _ rfl
        have hszB : w.heap.size ≤ wB.heap.size := HUB.out.size
        clear HST
        go_upto_region 5 with (fail)
        rw [← hwB]
        clear hwB HO HU q1 q2 q3
        go_wp2_with (first
          | (at_builtin; refine wpList_append_tight _ rfl _ _ 30 rfl w.heap.size 74 i3 (.agg #[.int .i64 0, .int .i64 0, .int .i64 0]) 3 24 Tryz.underlying30 ni nz0 nz1 nz2 rfl (by decide) _ _ _ rfl (hown0.alloc _) ⟨wB.heap.size, 0, none⟩ 1 1 [.int .i64 x1, .int .i64 x2, .int .i64 x3] rfl rfl (fun j u hj => by rw [addr_add]; exact cell_new wB #[.int .i64 x1, .int .i64 x2, .int .i64 x3] _ _ rfl _ _ (by simpa using hj)) (by simp [Value.oneCell']) (by unfold maxLen; omega) (by omega) (by simp; omega) ?_)
          | fail)
        intro v4 w4 hown4 hg4 ht4
        have HO4 := Lib.hid (show w4.ownsRow w.heap.size 74 3 v4 (P ++ [(⟨x1, x2, x3⟩ : Ed)]).length ((P ++ [(⟨x1, x2, x3⟩ : Ed)]).flatMap edCs) by
          rw [List.length_append, List.flatMap_append]; simpa [edCs] using hown4)
        have HU4 := Lib.hid ((HUB.out.alloc (.cells #[.int .i64 x1, .int .i64 x2, .int .i64 x3] 74)).grown hg4 (fun b hb => Or.inl ((hown0.lt b hb).1)))
        clear hown4 hg4 ht4 hown0 t0 t1 t2 HUB
        go_wp2_with fail
        go_roundw
        case rel => exact ⟨i + 1, by omega, by go_num, Lib.hid (by rw [HP.out]; exact HO4.out), HU4⟩
        case measure => simp [intOf]; omega
    · obtain rfl : i = eds.length := by omega
      have HO2 := Lib.hid (show wo.ownsRow w.heap.size 74 3 (.slice oa (outF (eds.take eds.length) k).length oc) (outF eds k).length ((outF eds k).flatMap edCs) by
        have := HO.out
        rw [List.take_length] at this ⊢
        exact this)
      clear HO
      go_wp2_with fail
      go_ret
      exact ⟨⟨_, rfl, New.ofOwns3 HO2.out⟩, HU.out⟩

set_option maxRecDepth 20000 in
set_option maxHeartbeats 2000000 in
theorem equalLI (v1 v2 : Value) (x y : List Int) (w : World) (f1 f2 : List Nat) (h1 : R1 f1 w [v1] x) (h2 : R1 f2 w [v2] y) :
    Calls Tryz.prog 62 #[v1, v2] w fun e w' => e = .returned (.bool (x == y)) ∧ ∃ n, w' = w.drewN n := by
  obtain ⟨a1, c1, rfl, hl1, hm1, hc1⟩ := slF1_open h1
  obtain ⟨a2, c2, rfl, hl2, hm2, hc2⟩ := slF1_open h2
  unfold maxLen at hm1 hm2
  have HC1 := Lib.hid hc1
  have HC2 := Lib.hid hc2
  clear h1 h2 hc1 hc2
  by_cases hl : x.length = y.length
  · have HL := Lib.hid hl
    have hbe : ((x.length : Int) != (y.length : Int)) = false := by rw [hl]; simp
    clear hl
    go_enter Tryz.func62, Tryz.ntmps62
    go_wp2_with fail
    go_loopw [13] (fun iv wr => ∃ k : Nat, k ≤ x.length ∧ iv = .int .i64 k ∧ Hid ((x.drop k == y.drop k) = (x == y)) ∧ Hid (∃ n, wr = w.drewN n)) (fun iv _ => x.length - (intOf iv).toNat)
    case atStart => exact ⟨0, Nat.zero_le _, rfl, Lib.hid rfl, Lib.hid ⟨0, rfl⟩⟩
    case round =>
      obtain ⟨wo, rfl⟩ : ∃ wo : World, wo = wr := ⟨_, rfl⟩
      obtain ⟨k, hk, rfl, HS, HN⟩ := hrel
      have HU := Lib.hid (show Upd [] w wo by obtain ⟨n, rfl⟩ := HN.out; exact (Upd.refl _ _).drewN n)
      have HM := Lib.hid (fun m : Nat => show ∃ n, wo.drewN m = w.drewN n by obtain ⟨n, hn⟩ := HN.out; exact ⟨n + m, by rw [hn, drewN_add]⟩)
      by_cases hlt : k < x.length
      · have hlt2 : k < y.length := by have := HL.out; omega
        obtain ⟨b1, o1, rfl, -, -, p1⟩ := HC1.out k hlt
        obtain ⟨b2, o2, rfl, -, -, p2⟩ := HC2.out k hlt2
        have q1 := HU.out.keep p1
        have q2 := HU.out.keep p2
        have HD := Lib.hid (HS.out.symm.trans (drop_step x y k hlt hlt2))
        have k1 : (k : Int) < (x.length : Int) := by omega
        have k2 : (k : Int) < (y.length : Int) := by omega
        clear p1 p2 HS
        generalize x[k] = a at *
        generalize y[k] = b at *
        by_cases hab : a = b
        · have hne : (a != b) = false := by simp [hab]
          have hne2 : (a == b) = true := by simp [hab]
          have HE := Lib.hid (show (x.drop (k + 1) == y.drop (k + 1)) = (x == y) by rw [HD.out, hne2]; simp)
          clear HD hab
          go_wp2_with fail
          go_quiet (fail)
          go_wp2_with fail
          go_roundw
          case rel => exact ⟨k + 1, by omega, by go_num, HE, Lib.hid (HM.out _)⟩
          case measure => simp [intOf]; omega
        · have hne : (a != b) = true := by simp [hab]
          have hne2 : (a == b) = false := by simp [hab]
          have HE := Lib.hid (show (x == y) = false by rw [HD.out, hne2]; simp)
          clear HD hab
          go_wp2_with fail
          go_quiet (fail)
          go_wp2_with fail
          go_ret
          exact ⟨by rw [HE.out]; rfl, HM.out _⟩
      · obtain rfl : k = x.length := by omega
        have HE := Lib.hid (show (x == y) = true by rw [← HS.out, List.drop_length, List.drop_of_length_le (by have := HL.out; omega)]; rfl)
        clear HS
        go_wp2_with fail
        go_ret
        exact ⟨by rw [HE.out]; rfl, HN.out⟩
  · have hbe : ((x.length : Int) != (y.length : Int)) = true := by simp; omega
    have HE := Lib.hid (show (x == y) = false by rw [beq_eq_false_iff_ne]; intro h; exact hl (by rw [h]))
    clear hl
    go_enter Tryz.func62, Tryz.ntmps62
    go_wp2_with fail
    go_ret
    exact ⟨by rw [HE.out]; rfl, 0, rfl⟩

end Go.Proofs.YtcnaapiljmgfoaaGreatDoor

/-
  The library's sort of numbers, at a list that rises already: it stays.
-/
namespace Go.Proofs.YtcnaapiljmgfoaaGreatDoor
open Go.RowKit

def Rising (xs : List Int) : Prop := ∀ (i j : Nat) (hi : i < xs.length) (hj : j < xs.length), i < j → xs[i] < xs[j]

set_option maxRecDepth 20000 in
theorem lessI (a b : Int) (w : World) : Calls Tryz.prog 141 #[.int .i64 a, .int .i64 b] w fun e w' => e = .returned (.bool (decide (a < b))) ∧ w = w' := by
  go_enter Tryz.func141, Tryz.ntmps141
  go_wp2_with (first | (go_at_call 133; refine (isNaN _ _).mono ?_; rintro e w' ⟨rfl, rfl⟩))
  go_ret
  exact ⟨rfl, rfl⟩

set_option maxRecDepth 20000 in
set_option maxHeartbeats 2000000 in
theorem insertSortI (v : Value) (xs : List Int) (w : World) (fp : List Nat) (hR : R1 fp w [v] xs) (hs : Rising xs) (hm : xs.length ≤ 40) :
    Calls Tryz.prog 135 #[v, .int .i64 0, .int .i64 xs.length] w fun e w' => e = .returned (.tuple #[]) ∧ ∃ n, w' = w.drewN n := by
  obtain ⟨a, c, rfl, hl, -, hc⟩ := slF1_open hR
  have HC := Lib.hid hc
  have HS := Lib.hid hs
  clear hR hc hs
  go_enter Tryz.func135, Tryz.ntmps135
  go_wp2_with fail
  go_loopw [6] (fun iv wr => ∃ k n : Nat, 1 ≤ k ∧ k ≤ 41 ∧ iv = .int .i64 k ∧ wr = w.drewN n) (fun iv _ => xs.length - (intOf iv).toNat)
  case atStart => exact ⟨1, 0, by omega, by omega, rfl, rfl⟩
  case round =>
    obtain ⟨k, n, hk1, hk2, rfl, rfl⟩ := hrel
    by_cases hlt : k < xs.length
    · obtain ⟨b, o, rfl, -, -, p1⟩ := HC.out k hlt
      obtain ⟨b', o', hb, -, -, p2⟩ := HC.out (k - 1) (by omega)
      cases hb
      have hno := HS.out (k - 1) k (by omega) hlt (by omega)
      have SL := Lib.hid (fun j n => (lessI xs[k] xs[k - 1] (w.drewN (j + n))).mono (R' := fun e w' => e = .returned (.bool false) ∧ ∃ m, w' = w.drewN (j + m)) (fun e w' h => ⟨by rw [h.1, decide_eq_false (by omega)], n, h.2.symm⟩))
      clear hno
      generalize xs[k] = x at *
      generalize xs[k - 1] = y at *
      have i0 : IntKind.i64.wrap ((k : Int) - 1) = (k : Int) - 1 := IntWalk.i64_in _ (by omega)
      have i1 : ((k : Int) - 1).toNat = k - 1 := by omega
      have i3 : (0 : Int) ≤ (k : Int) - 1 := by omega
      have i5 : (1 : Int) ≤ (k : Int) := by omega
      have i6 : (0 : Int) < (k : Int) := by omega
      have i7 : decide (0 < k) = true := decide_eq_true (by omega)
      have i4 : (k : Int) - 1 < (xs.length : Int) := by omega
      have i8 : (k : Int) < (xs.length : Int) := by omega
      go_wp2_with fail
      go_loopw [7] (fun iv wr => ∃ n : Nat, iv = .int .i64 k ∧ wr = w.drewN n) (fun iv _ => 0)
      case atStart => exact ⟨n, rfl, rfl⟩
      case round =>
        obtain ⟨n2, rfl, rfl⟩ := hrel
        go_upto_region 4 with (fail)
        go_quiet ((go_at_call 141; first | exact SL.out _ _ | (simp only [drewN_add]; exact SL.out _ _)))
        go_wp2_with fail
        go_roundw
        case rel => exact ⟨k + 1, _, by omega, by omega, by go_num, rfl⟩
        case measure => simp [intOf]; omega
    · have i8 : ¬ (k : Int) < (xs.length : Int) := by omega
      go_wp2_with fail
      go_end0
      exact ⟨rfl, n, rfl⟩

set_option maxRecDepth 20000 in
set_option maxHeartbeats 2000000 in
theorem order2I (v u : Value) (xs : List Int) (i j : Nat) (w : World) (fp : List Nat) (hR : R1 fp w [v] xs) (hs : Rising xs) (hij : i < j) (hj : j < xs.length) :
    Calls Tryz.prog 174 #[v, .int .i64 i, .int .i64 j, u] w fun e w' => e = .returned (.tuple #[.int .i64 i, .int .i64 j]) ∧ ∃ n, w' = w.drewN n := by
  obtain ⟨a, c, rfl, hl, -, hc⟩ := slF1_open hR
  have hi : i < xs.length := by omega
  obtain ⟨b, o, rfl, -, -, p1⟩ := hc i hi
  obtain ⟨b', o', hb, -, -, p2⟩ := hc j hj
  cases hb
  have hno := hs i j hi hj hij
  have SL := Lib.hid (fun k n => (lessI xs[j] xs[i] (w.drewN (k + n))).mono (R' := fun e w' => e = .returned (.bool false) ∧ ∃ m, w' = w.drewN (k + m)) (fun e w' h => ⟨by rw [h.1, decide_eq_false (by omega)], n, h.2.symm⟩))
  have S0 := Lib.hid (fun n => (lessI xs[j] xs[i] (w.drewN n)).mono (R' := fun e w' => e = .returned (.bool false) ∧ ∃ m, w' = w.drewN m) (fun e w' h => ⟨by rw [h.1, decide_eq_false (by omega)], n, h.2.symm⟩))
  have i1 : (i : Int) < (xs.length : Int) := by omega
  have i2 : (j : Int) < (xs.length : Int) := by omega
  clear hno hs hR hc hij
  generalize xs[i] = x at *
  generalize xs[j] = y at *
  go_enter Tryz.func174, Tryz.ntmps174
  go_upto_region 1 with (fail)
  go_quiet ((go_at_call 141; first | exact S0.out _ | exact SL.out _ _ | (simp only [drewN_add]; exact SL.out _ _)))
  go_wp2_with fail
  go_ret2
  exact ⟨rfl, _, rfl⟩

set_option maxRecDepth 20000 in
set_option maxHeartbeats 2000000 in
theorem medianI (v u : Value) (xs : List Int) (i j k : Nat) (w : World) (fp : List Nat) (hR : R1 fp w [v] xs) (hs : Rising xs) (hm : xs.length ≤ 40) (hij : i < j) (hjk : j < k) (hk : k < xs.length) :
    Calls Tryz.prog 161 #[v, .int .i64 i, .int .i64 j, .int .i64 k, u] w fun e w' => e = .returned (.int .i64 j) ∧ ∃ n, w' = w.drewN n := by
  have S1 := Lib.hid (fun n => order2I v u xs i j (w.drewN n) fp (R1k.drewN hR n) hs hij (by omega))
  have S2 := Lib.hid (fun n => order2I v u xs j k (w.drewN n) fp (R1k.drewN hR n) hs hjk (by omega))
  have S0 := Lib.hid (order2I v u xs i j w fp hR hs hij (by omega))
  have h1 : i ≤ 40 := by omega
  have h2 : j ≤ 40 := by omega
  have h3 : k ≤ 40 := by omega
  clear hR hs hm hij hjk hk
  go_enter Tryz.func161, Tryz.ntmps161
  go_wp2_with fail
  refine S0.out.mono ?_
  rintro e w1 ⟨rfl, n1, rfl⟩
  go_wp2_with fail
  refine (S2.out n1).mono ?_
  rintro e w2 ⟨rfl, n2, rfl⟩
  rw [drewN_add]
  go_wp2_with fail
  refine (S1.out _).mono ?_
  rintro e w3 ⟨rfl, n3, rfl⟩
  rw [drewN_add]
  go_wp2_with fail
  go_ret
  exact ⟨rfl, _, rfl⟩

set_option maxRecDepth 20000 in
set_option maxHeartbeats 2000000 in
theorem partialI (v : Value) (xs : List Int) (w : World) (fp : List Nat) (hR : R1 fp w [v] xs) (hs : Rising xs) (hm : xs.length ≤ 40) (hm1 : 13 ≤ xs.length) :
    Calls Tryz.prog 140 #[v, .int .i64 0, .int .i64 xs.length] w fun e w' => e = .returned (.bool true) ∧ ∃ n, w' = w.drewN n := by
  obtain ⟨a, c, rfl, hl, -, hc⟩ := slF1_open hR
  have HC := Lib.hid hc
  have HS := Lib.hid hs
  clear hR hc hs
  go_enter Tryz.func140, Tryz.ntmps140
  go_wp2_with fail
  go_loopw [7, 8] (fun iv jv wr => iv = .int .i64 1 ∧ jv = .int .i64 0 ∧ wr = w) (fun iv _ _ => 0)
  case atStart => exact ⟨rfl, rfl, rfl⟩
  case round =>
    obtain ⟨rfl, rfl, rfl⟩ := hrel
    go_wp2_with fail
    go_loopw [7] (fun iv wr2 => ∃ k n : Nat, 1 ≤ k ∧ k ≤ xs.length ∧ iv = .int .i64 k ∧ wr2 = wr.drewN n) (fun iv _ => xs.length - (intOf iv).toNat)
    case atStart => exact ⟨1, 0, by omega, by omega, rfl, rfl⟩
    case round =>
      obtain ⟨k, n, hk1, hk2, rfl, rfl⟩ := hrel
      by_cases hlt : k < xs.length
      · obtain ⟨b, o, rfl, -, -, p1⟩ := HC.out k hlt
        obtain ⟨b', o', hb, -, -, p2⟩ := HC.out (k - 1) (by omega)
        cases hb
        have hno := HS.out (k - 1) k (by omega) hlt (by omega)
        have SL := Lib.hid (fun j n => (lessI xs[k] xs[k - 1] (wr.drewN (j + n))).mono (R' := fun e w' => e = .returned (.bool false) ∧ ∃ m, w' = wr.drewN (j + m)) (fun e w' h => ⟨by rw [h.1, decide_eq_false (by omega)], n, h.2.symm⟩))
        clear hno
        generalize xs[k] = x at *
        generalize xs[k - 1] = y at *
        have i0 : IntKind.i64.wrap ((k : Int) - 1) = (k : Int) - 1 := IntWalk.i64_in _ (by omega)
        have i1 : ((k : Int) - 1).toNat = k - 1 := by omega
        have i3 : (0 : Int) ≤ (k : Int) - 1 := by omega
        have i5 : (1 : Int) ≤ (k : Int) := by omega
        have i4 : (k : Int) - 1 < (xs.length : Int) := by omega
        have i8 : (k : Int) < (xs.length : Int) := by omega
        have i9 : decide (k < xs.length) = true := decide_eq_true hlt
        go_upto_region 5 with (fail)
        go_quiet ((go_at_call 141; first | exact SL.out _ _ | (simp only [drewN_add]; exact SL.out _ _)))
        go_wp2_with fail
        go_roundw
        case rel => exact ⟨k + 1, _, by omega, by omega, by go_num, rfl⟩
        case measure => simp [intOf]; omega
      · obtain rfl : k = xs.length := by omega
        have i8 : ¬ (xs.length : Int) < (xs.length : Int) := by omega
        have i9 : decide (xs.length < xs.length) = false := decide_eq_false (by omega)
        go_upto_region 5 with (fail)
        go_quiet (fail)
        go_wp2_with fail
        go_ret
        exact ⟨rfl, _, rfl⟩

set_option maxRecDepth 20000 in
set_option maxHeartbeats 2000000 in
theorem pivotI (v : Value) (xs : List Int) (w : World) (fp : List Nat) (hR : R1 fp w [v] xs) (hs : Rising xs) (hm : xs.length ≤ 40) (hm1 : 13 ≤ xs.length) :
    Calls Tryz.prog 138 #[v, .int .i64 0, .int .i64 xs.length] w fun e w' => (∃ p : Nat, e = .returned (.tuple #[.int .i64 p, .int .i64 1])) ∧ Upd [] w w' := by
  obtain ⟨q, hq, hq1, hq2, hq3⟩ : ∃ q : Nat, (xs.length : Int).tdiv 4 = q ∧ 3 ≤ q ∧ q * 3 < xs.length ∧ q ≤ 10 := ⟨xs.length / 4, by rw [Int.tdiv_eq_ediv_of_nonneg (by omega)]; omega, by omega, by omega, by omega⟩
  obtain ⟨wA, hwA⟩ : ∃ wA, wA = w.alloc (.cells #[.int .i64 0] 3) := ⟨_, rfl⟩
  have U := Lib.hid (show Upd [] w wA by rw [hwA]; exact (Upd.refl _ _).alloc _)
  have z := Lib.hid (show wA.cell? ⟨w.heap.size, 0, none⟩ = some (.int .i64 0) by rw [hwA]; exact cell_new w _ _ _ rfl 0 _ rfl)
  obtain ⟨T, hT⟩ : ∃ T, T = w.heap.size := ⟨_, rfl⟩
  rw [← hT] at z
  have S1 := Lib.hid (medianI v (.pointer (some ⟨T, 0, none⟩)) xs q (q * 2) (q * 3) wA fp (R1k.upd hR U.out (by simp)) hs hm (by omega) (by omega) hq2)
  have hn : (xs.length : Int) ≤ 40 := by omega
  have hn1 : (13 : Int) ≤ (xs.length : Int) := by omega
  rw [Int.natCast_mul, Int.natCast_mul] at S1
  clear hR hs hm hm1 hq2
  go_enter Tryz.func138, Tryz.ntmps138
  go_upto_region 3 with (fail)
  rw [← hwA, ← hT]
  clear hwA hT
  go_wp2_with fail
  refine S1.out.mono ?_
  rintro e w1 ⟨rfl, n1, rfl⟩
  have z1 := z.out
  go_wp2_with fail
  go_ret2
  exact ⟨⟨_, rfl⟩, U.out.drewN _⟩

set_option maxRecDepth 20000 in
set_option maxHeartbeats 2000000 in
theorem pdqI (v : Value) (xs : List Int) (L : Int) (w : World) (fp : List Nat) (hR : R1 fp w [v] xs) (hs : Rising xs) (hm : xs.length ≤ 40) (hL : 13 ≤ xs.length → L ≠ 0) :
    Calls Tryz.prog 117 #[v, .int .i64 0, .int .i64 xs.length, .int .i64 L] w fun e w' => e = .returned (.tuple #[]) ∧ Upd [] w w' := by
  have hi : (xs.length : Int) ≤ 40 := by omega
  by_cases h12 : xs.length ≤ 12
  · have h12' : (xs.length : Int) ≤ 12 := by omega
    have S1 := Lib.hid (insertSortI v xs w fp hR hs hm)
    clear hR hs hm hL h12
    go_enter Tryz.func117, Tryz.ntmps117
    go_wp2_with fail
    go_loopw [1, 2, 3, 8, 9] (fun s1 s2 s3 s8 s9 wr => s1 = .int .i64 0 ∧ s2 = .int .i64 xs.length ∧ wr = w) (fun s1 _ _ _ _ _ => 0)
    case atStart => exact ⟨rfl, rfl, rfl⟩
    case round =>
      obtain ⟨rfl, rfl, rfl⟩ := hrel
      go_wp2_with fail
      refine S1.out.mono ?_
      rintro e w1 ⟨rfl, n1, rfl⟩
      go_wp2_with fail
      refine bodyPost_ret (results_none Tryz.results117 _ _ _) rfl ?_
      exact ⟨rfl, (Upd.refl _ _).drewN _⟩
  · have h12' : ¬ (xs.length : Int) ≤ 12 := by omega
    have hL0 := hL (by omega)
    have S1 := Lib.hid (pivotI v xs w fp hR hs hm (by omega))
    have S2 := Lib.hid (fun W (hu : Upd [] w W) => partialI v xs W fp (R1k.upd hR hu (by simp)) hs hm (by omega))
    clear hR hs hm hL h12
    go_enter Tryz.func117, Tryz.ntmps117
    go_wp2_with fail
    go_loopw [1, 2, 3, 8, 9] (fun s1 s2 s3 s8 s9 wr => s1 = .int .i64 0 ∧ s2 = .int .i64 xs.length ∧ s3 = .int .i64 L ∧ s8 = .bool true ∧ s9 = .bool true ∧ wr = w) (fun s1 _ _ _ _ _ => 0)
    case atStart => exact ⟨rfl, rfl, rfl, rfl, rfl, rfl⟩
    case round =>
      obtain ⟨rfl, rfl, rfl, rfl, rfl, rfl⟩ := hrel
      go_wp2_with fail
      refine S1.out.mono ?_
      rintro e w1 ⟨⟨p, rfl⟩, hu1⟩
      have T2 := Lib.hid (S2.out w1 hu1)
      have U1 := Lib.hid hu1
      clear S1 S2 hu1
      go_wp2_with fail
      refine T2.out.mono ?_
      rintro e w2 ⟨rfl, n2, rfl⟩
      have U2 := Lib.hid (U1.out.drewN n2)
      clear T2
      go_wp2_with fail
      refine bodyPost_ret (results_none Tryz.results117 _ _ _) rfl ?_
      exact ⟨rfl, U2.out⟩

set_option maxRecDepth 20000 in
set_option maxHeartbeats 2000000 in
theorem sortI (v : Value) (xs : List Int) (w : World) (fp : List Nat) (hR : R1 fp w [v] xs) (hs : Rising xs) (hm : xs.length ≤ 40) :
    Calls Tryz.prog 95 #[v] w fun e w' => e = .returned (.tuple #[]) ∧ Upd [] w w' := by
  have S1 := Lib.hid (Tryz.bits_Len (xs.length : Int) w (by omega) (by omega))
  have S2 := Lib.hid (pdqI v xs (Lib.bitLen ((xs.length : Int).toNat) : Nat) w fp hR hs hm (fun h => by
    intro h0
    rw [Int.toNat_natCast] at h0
    have : ∀ n : Nat, 13 ≤ n → n ≤ 40 → Lib.bitLen n ≠ 0 := by
      intro n h1 h2 h3
      rw [Lib.bitLen, Lib.bitLenAux, if_neg (by omega)] at h3
      omega
    exact this _ h hm (by omega)))
  have hi : (xs.length : Int) ≤ 40 := by omega
  obtain ⟨a, c, rfl, hl, -, -⟩ := slF1_open hR
  clear hR hs hm hl
  generalize Lib.bitLen ((xs.length : Int).toNat) = L at *
  go_enter Tryz.func95, Tryz.ntmps95
  go_wp2_with fail
  refine S1.out.mono ?_
  rintro e w1 ⟨rfl, rfl⟩
  go_wp2_with fail
  refine S2.out.mono ?_
  rintro e w2 ⟨rfl, hu⟩
  have U := Lib.hid hu
  clear S1 S2 hu
  go_wp2_with fail
  go_end0
  exact ⟨rfl, U.out⟩

set_option maxRecDepth 20000 in
set_option maxHeartbeats 2000000 in
theorem compactI (v : Value) (xs : List Int) (w : World) (fp : List Nat) (hR : R1 fp w [v] xs) (hs : Rising xs) (hm : xs.length ≤ 40) :
    Calls Tryz.prog 96 #[v] w fun e w' => e = .returned v ∧ ∃ n, w' = w.drewN n := by
  obtain ⟨a, c, rfl, hl, -, hc⟩ := slF1_open hR
  have HC := Lib.hid hc
  have HS := Lib.hid hs
  have hi : (xs.length : Int) ≤ 40 := by omega
  clear hR hc hs
  go_enter Tryz.func96, Tryz.ntmps96
  by_cases h2 : xs.length < 2
  · have h2' : (xs.length : Int) < 2 := by omega
    go_wp2_with fail
    go_ret
    exact ⟨rfl, 0, rfl⟩
  · have h2' : ¬ (xs.length : Int) < 2 := by omega
    go_wp2_with fail
    go_loopw [3] (fun iv wr => ∃ k n : Nat, 1 ≤ k ∧ k ≤ xs.length ∧ iv = .int .i64 k ∧ wr = w.drewN n) (fun iv _ => xs.length - (intOf iv).toNat)
    case atStart => exact ⟨1, 0, by omega, by omega, rfl, rfl⟩
    case round =>
      obtain ⟨k, n, hk1, hk2, rfl, rfl⟩ := hrel
      by_cases hlt : k < xs.length
      · obtain ⟨b, o, rfl, -, -, p1⟩ := HC.out k hlt
        obtain ⟨b', o', hb, -, -, p2⟩ := HC.out (k - 1) (by omega)
        cases hb
        have hno := HS.out (k - 1) k (by omega) hlt (by omega)
        have hne : (xs[k] == xs[k - 1]) = false := by rw [beq_eq_false_iff_ne]; omega
        have hne2 : (xs[k] != xs[k - 1]) = true := by rw [bne_iff_ne]; omega
        clear hno
        generalize xs[k] = x at *
        generalize xs[k - 1] = y at *
        have i0 : IntKind.i64.wrap ((k : Int) - 1) = (k : Int) - 1 := IntWalk.i64_in _ (by omega)
        have i1 : ((k : Int) - 1).toNat = k - 1 := by omega
        have i3 : (0 : Int) ≤ (k : Int) - 1 := by omega
        have i5 : (1 : Int) ≤ (k : Int) := by omega
        have i4 : (k : Int) - 1 < (xs.length : Int) := by omega
        have i8 : (k : Int) < (xs.length : Int) := by omega
        go_upto_region 6 with (fail)
        go_quiet (fail)
        go_wp2_with fail
        go_roundw
        case rel => exact ⟨k + 1, _, by omega, by omega, by go_num, rfl⟩
        case measure => simp [intOf]; omega
      · obtain rfl : k = xs.length := by omega
        have i8 : ¬ (xs.length : Int) < (xs.length : Int) := by omega
        go_wp2_with fail
        go_ret
        exact ⟨rfl, _, rfl⟩

end Go.Proofs.YtcnaapiljmgfoaaGreatDoor

/-
  Names and labels by the reference: what its calls return.
-/
namespace Go.Proofs.YtcnaapiljmgfoaaGreatDoor
open Go.RowKit

theorem smallS (b : UInt8) (w : World) : Calls Tryz.prog 148 #[.int .u8 (b.toNat : Int)] w fun e w' => e = .returned (.bool (sml b)) ∧ w = w' := by
  by_cases h1 : 97 ≤ b.toNat
  · by_cases h2 : b.toNat ≤ 122
    · have HR := Lib.hid (show sml b = true by simp [sml]; omega)
      have g1 : (97 : Int) ≤ (b.toNat : Int) := by omega
      have g2 : (b.toNat : Int) ≤ 122 := by omega
      go_enter Tryz.func148, Tryz.ntmps148
      go_wp2_with fail
      go_ret
      exact ⟨by rw [HR.out]; rfl, rfl⟩
    · have HR := Lib.hid (show sml b = false by simp [sml]; omega)
      have g1 : (97 : Int) ≤ (b.toNat : Int) := by omega
      have g2 : ¬ (b.toNat : Int) ≤ 122 := by omega
      go_enter Tryz.func148, Tryz.ntmps148
      go_wp2_with fail
      go_ret
      exact ⟨by rw [HR.out]; rfl, rfl⟩
  · have HR := Lib.hid (show sml b = false by simp [sml]; omega)
    have g1 : ¬ (97 : Int) ≤ (b.toNat : Int) := by omega
    go_enter Tryz.func148, Tryz.ntmps148
    go_wp2_with fail
    go_ret
    exact ⟨by rw [HR.out]; rfl, rfl⟩

theorem digitS (b : UInt8) (w : World) : Calls Tryz.prog 149 #[.int .u8 (b.toNat : Int)] w fun e w' => e = .returned (.bool (isDig b)) ∧ w = w' := by
  by_cases h1 : 48 ≤ b.toNat
  · by_cases h2 : b.toNat ≤ 57
    · have HR := Lib.hid (show isDig b = true by simp [isDig]; omega)
      have g1 : (48 : Int) ≤ (b.toNat : Int) := by omega
      have g2 : (b.toNat : Int) ≤ 57 := by omega
      go_enter Tryz.func149, Tryz.ntmps149
      go_wp2_with fail
      go_ret
      exact ⟨by rw [HR.out]; rfl, rfl⟩
    · have HR := Lib.hid (show isDig b = false by simp [isDig]; omega)
      have g1 : (48 : Int) ≤ (b.toNat : Int) := by omega
      have g2 : ¬ (b.toNat : Int) ≤ 57 := by omega
      go_enter Tryz.func149, Tryz.ntmps149
      go_wp2_with fail
      go_ret
      exact ⟨by rw [HR.out]; rfl, rfl⟩
  · have HR := Lib.hid (show isDig b = false by simp [isDig]; omega)
    have g1 : ¬ (48 : Int) ≤ (b.toNat : Int) := by omega
    go_enter Tryz.func149, Tryz.ntmps149
    go_wp2_with fail
    go_ret
    exact ⟨by rw [HR.out]; rfl, rfl⟩

set_option maxRecDepth 20000 in
set_option maxHeartbeats 2000000 in
theorem nameS (l : List UInt8) (w : World) (hl : l.length ≤ 2000000) : Calls Tryz.prog 124 #[es l] w fun e w' => e = .returned (.bool (nameF l)) ∧ w = w' := by
  cases hcase : l with
  | nil =>
    have HR := Lib.hid (show nameF [] = false by rfl)
    go_enter Tryz.func124, Tryz.ntmps124
    go_wp2_with fail
    go_ret
    exact ⟨by rw [HR.out]; rfl, rfl⟩
  | cons c r =>
    rw [← hcase]
    have hne : (l == []) = false := by rw [hcase]; rfl
    have hpos : 0 < l.length := by rw [hcase]; simp
    by_cases hlen : l.length ≤ 10
    · have hix : (⟨l.toArray⟩ : ByteArray)[0]'(by simpa [ByteArray.size] using hpos) = c := by
        simp [ByteArray.getElem_eq_getElem_data, hcase]
      have HN := Lib.hid (show nameF l = (sml c && l.all (fun c => sml c || isDig c)) by
        unfold nameF; rw [decide_eq_true (show 1 ≤ l.length from hpos), decide_eq_true hlen, hcase]; simp)
      have g1 : ¬ (10 : Int) < (l.length : Int) := by omega
      have S1 := Lib.hid (smallS c w)
      clear hcase
      cases hs : sml c with
      | false =>
        have HR := Lib.hid (show nameF l = false by rw [HN.out, hs]; rfl)
        rw [hs] at S1
        clear HN hs
        go_enter Tryz.func124, Tryz.ntmps124
        go_wp2_with fail
        refine S1.out.mono ?_
        rintro e w1 ⟨rfl, rfl⟩
        clear S1
        go_wp2_with fail
        go_ret
        exact ⟨by rw [HR.out]; rfl, rfl⟩
      | true =>
        have HA := Lib.hid (show nameF l = l.all (fun c => sml c || isDig c) by rw [HN.out, hs]; rfl)
        rw [hs] at S1
        clear HN hs
        go_enter Tryz.func124, Tryz.ntmps124
        go_wp2_with fail
        refine S1.out.mono ?_
        rintro e w1 ⟨rfl, rfl⟩
        clear S1 hix
        go_wp2_with fail
        go_loop [3] (fun i => ∃ k : Nat, k ≤ l.length ∧ i = .int .i64 k ∧ Hid (l.all (fun c => sml c || isDig c) = (l.drop k).all (fun c => sml c || isDig c))) (fun i => l.length - (intOf i).toNat)
        case atStart => exact ⟨0, Nat.zero_le _, rfl, Lib.hid rfl⟩
        case round =>
          obtain ⟨k, hk, rfl, HF⟩ := hrel
          by_cases hlt : k < l.length
          · obtain ⟨b, hb⟩ : ∃ b, l[k] = b := ⟨_, rfl⟩
            have hix : (⟨l.toArray⟩ : ByteArray)[k]'(by simpa [ByteArray.size] using hlt) = b := by rw [← hb]; simp [ByteArray.getElem_eq_getElem_data]
            have hF := HF.out
            rw [List.drop_eq_getElem_cons hlt, hb, List.all_cons] at hF
            have HG := Lib.hid hF
            have S2 := Lib.hid (smallS b w)
            have S3 := Lib.hid (digitS b w)
            clear hF HF hb
            cases hs : sml b with
            | true =>
              have HQ := Lib.hid (HG.out.trans (by rw [hs]; rfl) : l.all (fun c => sml c || isDig c) = (l.drop (k + 1)).all (fun c => sml c || isDig c))
              rw [hs] at S2
              clear HG hs S3
              go_wp2_with fail
              refine S2.out.mono ?_
              rintro e w1 ⟨rfl, rfl⟩
              clear S2
              go_wp2_with fail
              go_round
              case rel => exact ⟨k + 1, by omega, by go_num, HQ⟩
              case measure => simp [intOf]; omega
            | false =>
              rw [hs] at S2
              cases hd : isDig b with
              | true =>
                have HQ := Lib.hid (HG.out.trans (by rw [hs, hd]; rfl) : l.all (fun c => sml c || isDig c) = (l.drop (k + 1)).all (fun c => sml c || isDig c))
                rw [hd] at S3
                clear HG hs hd
                go_wp2_with fail
                refine S2.out.mono ?_
                rintro e w1 ⟨rfl, rfl⟩
                clear S2
                go_wp2_with fail
                refine S3.out.mono ?_
                rintro e w1 ⟨rfl, rfl⟩
                clear S3
                go_wp2_with fail
                go_round
                case rel => exact ⟨k + 1, by omega, by go_num, HQ⟩
                case measure => simp [intOf]; omega
              | false =>
                have HR := Lib.hid (show nameF l = false by rw [HA.out, HG.out, hs, hd]; rfl)
                rw [hd] at S3
                clear HG hs hd HA
                go_wp2_with fail
                refine S2.out.mono ?_
                rintro e w1 ⟨rfl, rfl⟩
                clear S2
                go_wp2_with fail
                refine S3.out.mono ?_
                rintro e w1 ⟨rfl, rfl⟩
                clear S3
                go_wp2_with fail
                go_ret
                exact ⟨by rw [HR.out]; rfl, rfl⟩
          · obtain rfl : k = l.length := by omega
            have HR := Lib.hid (show nameF l = true by rw [HA.out, HF.out, List.drop_of_length_le (Nat.le_refl _)]; rfl)
            clear HF HA
            go_wp2_with fail
            go_ret
            exact ⟨by rw [HR.out]; rfl, rfl⟩
    · have HR := Lib.hid (show nameF l = false by unfold nameF; rw [decide_eq_false hlen]; simp)
      have g1 : (10 : Int) < (l.length : Int) := by omega
      clear hcase hlen
      go_enter Tryz.func124, Tryz.ntmps124
      go_wp2_with fail
      go_ret
      exact ⟨by rw [HR.out]; rfl, rfl⟩

theorem actionS (l : List UInt8) (w : World) (hl : l.length ≤ 2000000) :
    Calls Tryz.prog 125 #[es l] w fun e w' => e = .returned (.bool (actF l)) ∧ w = w' := by
  have S1 := Lib.hid (nameS l w hl)
  cases hn : nameF l with
  | false =>
    have HR := Lib.hid (show actF l = false by simp [actF, hn])
    rw [hn] at S1
    clear hn
    go_enter Tryz.func125, Tryz.ntmps125
    go_wp2_with fail
    refine S1.out.mono ?_
    rintro e w1 ⟨rfl, rfl⟩
    clear S1
    go_wp2_with fail
    go_ret
    exact ⟨by rw [HR.out]; rfl, rfl⟩
  | true =>
    have HR := Lib.hid (show actF l = (l != tauL) by simp [actF, hn])
    rw [hn] at S1
    clear hn
    go_enter Tryz.func125, Tryz.ntmps125
    go_wp2_with fail
    refine S1.out.mono ?_
    rintro e w1 ⟨rfl, rfl⟩
    clear S1
    go_wp2_with fail
    go_ret
    refine ⟨?_, rfl⟩
    rw [HR.out]
    simp [tauL, bne]

/-- the place of the first "(" of a text, or its length. -/
def openAt (s : List UInt8) : Nat := (s.takeWhile (fun b => b != 40)).length

theorem tw_all : ∀ s : List UInt8, (∀ x ∈ s, x ≠ 40) → s.takeWhile (fun b => b != 40) = s
  | [], _ => rfl
  | b :: s, h => by
    have h1 : b ≠ 40 := h b (by simp)
    rw [List.takeWhile_cons, if_pos (by simpa using h1), tw_all s (fun x hx => h x (List.mem_cons_of_mem _ hx))]

theorem openAt_none {s : List UInt8} : ∀ k, (∀ j (_ : j < k) (hj2 : j < s.length), s[j] ≠ 40) → k = s.length → openAt s = s.length := by
  intro k h hk
  unfold openAt
  rw [tw_all]
  intro x hx
  obtain ⟨j, hj, rfl⟩ := List.mem_iff_getElem.1 hx
  exact h j (by omega) hj
theorem openAt_at : ∀ {s : List UInt8} (k : Nat) (hk : k < s.length), (∀ j (_ : j < k) (hj2 : j < s.length), s[j] ≠ 40) → s[k] = 40 → openAt s = k
  | [], k, hk, _, _ => by simp at hk
  | b :: s, 0, hk, _, h0 => by
    have : b = 40 := by simpa using h0
    simp [openAt, this]
  | b :: s, k + 1, hk, h, h0 => by
    have h1 : b ≠ 40 := h 0 (by omega) (by omega)
    have h2 := openAt_at (s := s) k (by simpa using hk) (fun j hj hj2 => h (j + 1) (by omega) (by simpa using hj2)) (by simpa using h0)
    unfold openAt at h2 ⊢
    rw [List.takeWhile_cons, if_pos (by simpa using h1), List.length_cons, h2]

set_option maxRecDepth 20000 in
set_option maxHeartbeats 2000000 in
theorem openS (l : List UInt8) (w : World) (hl : l.length ≤ 2000000) : Calls Tryz.prog 123 #[es l] w fun e w' => e = .returned (.int .i64 (openAt l)) ∧ w = w' := by
  go_enter Tryz.func123, Tryz.ntmps123
  go_wp2_with fail
  go_loop [3] (fun i => ∃ k : Nat, k ≤ l.length ∧ i = .int .i64 k ∧ Hid (∀ j (hj : j < k) (hj2 : j < l.length), l[j] ≠ 40)) (fun i => l.length - (intOf i).toNat)
  case atStart => exact ⟨0, Nat.zero_le _, rfl, Lib.hid (fun j hj => by omega)⟩
  case round =>
    obtain ⟨k, hk, rfl, HF⟩ := hrel
    by_cases hlt : k < l.length
    · obtain ⟨b, hb⟩ : ∃ b, l[k] = b := ⟨_, rfl⟩
      have hix : (⟨l.toArray⟩ : ByteArray)[k]'(by simpa [ByteArray.size] using hlt) = b := by rw [← hb]; simp [ByteArray.getElem_eq_getElem_data]
      by_cases h4 : b = 40
      · have HR := Lib.hid (openAt_at k hlt HF.out (by rw [hb, h4]))
        subst h4
        clear HF hb
        go_wp2_with fail
        go_ret
        exact ⟨by rw [HR.out]; rfl, rfl⟩
      · have HQ := Lib.hid (show ∀ j (hj : j < k + 1) (hj2 : j < l.length), l[j] ≠ 40 from fun j hj hj2 => by
          by_cases e : j = k
          · subst e; rw [hb]; exact h4
          · exact HF.out j (by omega) hj2)
        have h5 : ((b.toNat : Int) == 40) = false := by
          simp; intro h; apply h4; exact UInt8.toNat_inj.1 (by simpa using (by omega : b.toNat = 40))
        clear HF hb h4
        go_wp2_with fail
        go_round
        case rel => exact ⟨k + 1, by omega, by go_num, HQ⟩
        case measure => simp [intOf]; omega
    · obtain rfl : k = l.length := by omega
      have HR := Lib.hid (openAt_none _ HF.out rfl)
      clear HF
      go_wp2_with fail
      go_ret
      exact ⟨by rw [HR.out]; rfl, rfl⟩

end Go.Proofs.YtcnaapiljmgfoaaGreatDoor

/-
  A number in decimal, read by the reference. (Printed by gennum.py: the two signs alike.)
-/
namespace Go.Proofs.YtcnaapiljmgfoaaGreatDoor
open Go.RowKit

def NumS (l : List UInt8) (w : World) (e : Ending) (w' : World) : Prop := e = .returned (.tuple #[.int .i64 ((numF l).getD 0), .bool (numF l).isSome]) ∧ w = w'

theorem valD_take (d : List UInt8) (q : Nat) (hq : q < d.length) : valD 0 (d.take (q + 1)) = valD 0 (d.take q) * 10 + (d[q].toNat - 48) := by
  rw [List.take_succ_eq_append_getElem hq, valD_append, valD_cons, valD_nil]
theorem valD_take_lt (d : List UInt8) (q : Nat) (h18 : d.length ≤ 18) (h : (d.take q).all isDig = true) : valD 0 (d.take q) < 1000000000000000000 := by
  have h1 := valD_lt 0 (d.take q) h
  have h2 : (d.take q).length ≤ 18 := by rw [List.length_take]; omega
  have h3 : 10 ^ (d.take q).length ≤ 10 ^ 18 := Nat.pow_le_pow_right (by omega) h2
  omega
theorem valD_take_lt17 (d : List UInt8) (q : Nat) (h18 : d.length ≤ 18) (hq : q < d.length) (h : (d.take q).all isDig = true) : valD 0 (d.take q) < 100000000000000000 := by
  have h1 := valD_lt 0 (d.take q) h
  have h2 : (d.take q).length ≤ 17 := by rw [List.length_take]; omega
  have h3 : 10 ^ (d.take q).length ≤ 10 ^ 17 := Nat.pow_le_pow_right (by omega) h2
  omega
theorem all_take_succ (d : List UInt8) (q : Nat) (hq : q < d.length) (h : (d.take q).all isDig = true) (h2 : isDig d[q] = true) : (d.take (q + 1)).all isDig = true := by
  rw [List.take_succ_eq_append_getElem hq, List.all_append, h]; simp [h2]
theorem all_bad (d : List UInt8) (q : Nat) (hq : q < d.length) (h2 : isDig d[q] = false) : d.all isDig = false := by
  cases h : d.all isDig with
  | false => rfl
  | true => rw [List.all_eq_true.1 h d[q] (List.getElem_mem hq)] at h2; cases h2
theorem byte_ne {b : UInt8} {n : Nat} (hn : n < 256) (h : b ≠ UInt8.ofNat n) : ((b.toNat : Int) == (n : Int)) = false := by
  simp; intro h2; apply h; apply UInt8.toNat_inj.1; simp; omega

set_option maxRecDepth 20000 in
set_option maxHeartbeats 4000000 in
theorem numberS0 (l d : List UInt8) (w : World) (hl : l.length ≤ 2000000) (hneg : negL l = false) (hd : digL l = d) (hlen : l.length = d.length + 0) (hpos : 0 < l.length)
    (hget : ∀ q (hq : q < d.length) (hq2 : q < l.length), l[q] = d[q]) (c : UInt8) (hc : l[0] = c) (hc45 : c ≠ 45) :
    Calls Tryz.prog 127 #[es l] w (NumS l w) := by
  have hix0 : (⟨l.toArray⟩ : ByteArray)[0]'(by simpa [ByteArray.size] using hpos) = c := by rw [← hc]; simp [ByteArray.getElem_eq_getElem_data]
  have gp : (0 : Int) < (l.length : Int) := by omega
  have HLEN := Lib.hid hlen
  have g45 := byte_ne (n := 45) (by omega) hc45
  clear hc
  by_cases hd0 : d = []
  · have HR := Lib.hid (show numF l = none by unfold numF; rw [hd, if_pos (Or.inl hd0)])
    have hl1 : l.length = 0 := by rw [hlen, hd0]; simp
    exact absurd hl1 (by omega)
  · have hdpos : 0 < d.length := List.length_pos_iff.2 hd0
    have g1 : ((l.length : Int) == 0) = false := by rw [beq_eq_false_iff_ne]; omega
    by_cases h18 : 18 < d.length
    · have HR := Lib.hid (show numF l = none by unfold numF; rw [hd, if_pos (Or.inr (Or.inl h18))])
      have g2 : (18 : Int) < (l.length : Int) := by omega
      clear hget hd0 hneg hd hlen h18 hdpos
      go_enter Tryz.func127, Tryz.ntmps127
      go_wp2_with fail
      go_ret2
      exact ⟨by rw [HR.out]; rfl, rfl⟩
    · have g2 : ¬ (18 : Int) < (l.length : Int) := by omega
      obtain ⟨x, hx⟩ : ∃ x, d[0] = x := ⟨_, rfl⟩
      have hat : 0 < l.length := by omega
      have hixa : (⟨l.toArray⟩ : ByteArray)[0]'(by simpa [ByteArray.size] using hat) = x := by
        rw [← hx, ← hget 0 hdpos (by omega)]; simp [ByteArray.getElem_eq_getElem_data]
      have hxc : x = c := hixa.symm.trans hix0
      subst hxc
      clear hix0
      have hhead : d.head? = some x := by rw [← hx]; cases d with
        | nil => simp at hdpos
        | cons y d => rfl
      by_cases hz : x = 48 ∧ 1 < l.length
      · have HR := Lib.hid (show numF l = none by unfold numF; rw [hd, if_pos (Or.inr (Or.inr (Or.inl ⟨by rw [hhead, hz.1], hz.2⟩)))])
        obtain ⟨hz1, hz2⟩ := hz
        subst hz1
        have g3 : (1 : Int) < (l.length : Int) := by omega
        clear hget hd0 hneg hd hx hhead hlen
        go_enter Tryz.func127, Tryz.ntmps127
        go_wp2_with fail
        go_ret2
        exact ⟨by rw [HR.out]; rfl, rfl⟩
      · have HF := Lib.hid (show numF l = if d.all isDig = false then none else some ((valD 0 d : Int)) by
          unfold numF
          rw [hd, hneg]
          by_cases ha : d.all isDig = false
          · rw [if_pos (Or.inr (Or.inr (Or.inr ha))), if_pos ha]
          · rw [if_neg, if_neg ha]
            · simp
            · rintro (h | h | h | h)
              · exact hd0 h
              · exact h18 h
              · rw [hhead] at h; exact hz ⟨by simpa using h.1, h.2⟩
              · exact ha h)
        have hcase : Hid (∀ K : Prop, (((x.toNat : Int) == 48) = false → K) → (x = 48 → ¬ (1 : Int) < (l.length : Int) → K) → K) := Lib.hid (fun K h1 h2 => by
          by_cases h : x = 48
          · exact h2 h (fun h3 => hz ⟨h, by omega⟩)
          · exact h1 (byte_ne (n := 48) (by omega) h))
        have HG := Lib.hid hget
        clear hget hd0 hneg hd hx hhead hz hlen
        refine hcase.out _ ?_ ?_
        · intro gz
          clear hcase
          go_enter Tryz.func127, Tryz.ntmps127
          go_wp2_with fail
          go_loop [5, 6] (fun n i => ∃ q : Nat, q ≤ d.length ∧ i = .int .i64 (q : Nat) ∧ n = .int .i64 (valD 0 (d.take q) : Nat) ∧ Hid ((d.take q).all isDig = true)) (fun n i => l.length - (intOf i).toNat)
          case atStart => exact ⟨0, Nat.zero_le _, rfl, rfl, Lib.hid rfl⟩
          case round =>
            try clear hixa
            try clear hix0
            obtain ⟨q, hq, rfl, rfl, HA⟩ := hrel
            have hql : q ≤ l.length := by have hlen := HLEN.out; omega
            have hvl := valD_take_lt d q (by omega) HA.out
            by_cases hlt : q < d.length
            · have hlt2 : q < l.length := by have hlen := HLEN.out; omega
              obtain ⟨b, hb⟩ : ∃ b, d[q] = b := ⟨_, rfl⟩
              have hixq : (⟨l.toArray⟩ : ByteArray)[q]'(by simpa [ByteArray.size] using hlt2) = b := by rw [← hb, ← HG.out q hlt hlt2]; simp [ByteArray.getElem_eq_getElem_data]
              have S1 := Lib.hid (digitS b w)
              cases hdg : isDig b with
              | false =>
                have HR := Lib.hid (show numF l = none by rw [HF.out, if_pos (all_bad d q hlt (by rw [hb]; exact hdg))])
                rw [hdg] at S1
                clear hdg hb
                go_wp2_with fail
                refine S1.out.mono ?_
                rintro e w1 ⟨rfl, rfl⟩
                clear S1
                go_wp2_with fail
                go_ret2
                exact ⟨by rw [HR.out]; rfl, rfl⟩
              | true =>
                have hd2 : 48 ≤ b.toNat ∧ b.toNat ≤ 57 := by simpa [isDig] using hdg
                have HV := Lib.hid (valD_take d q hlt)
                have hvl7 := valD_take_lt17 d q (by omega) hlt HA.out
                have HA2 := Lib.hid (all_take_succ d q hlt HA.out (by rw [hb]; exact hdg))
                rw [hb] at HV
                rw [hdg] at S1
                generalize valD 0 (d.take q) = V at *
                clear hdg hb HA
                go_wp2_with fail
                refine S1.out.mono ?_
                rintro e w1 ⟨rfl, rfl⟩
                clear S1
                go_wp2_with fail
                go_round
                case rel => exact ⟨q + 1, by omega, by go_num, by rw [HV.out]; exact congrArg _ (by omega), HA2⟩
                case measure => simp [intOf]; omega
            · have hend : ¬ ((q : Nat) : Int) < (l.length : Int) := by have hlen := HLEN.out; omega
              obtain rfl : q = d.length := by omega
              have hall := HA.out
              rw [List.take_of_length_le (Nat.le_refl _)] at hall
              have HR := Lib.hid (show numF l = some ((valD 0 d : Int)) by rw [HF.out, if_neg (by rw [hall]; simp)])
              rw [List.take_of_length_le (Nat.le_refl _)] at hvl ⊢
              generalize valD 0 d = V at *
              clear HA HF hall
              go_wp2_with fail
              go_ret2
              exact ⟨by rw [HR.out]; first | rfl | (simp; try omega), rfl⟩
        · intro gz1 gz2
          subst gz1
          clear hcase
          go_enter Tryz.func127, Tryz.ntmps127
          go_wp2_with fail
          go_loop [5, 6] (fun n i => ∃ q : Nat, q ≤ d.length ∧ i = .int .i64 (q : Nat) ∧ n = .int .i64 (valD 0 (d.take q) : Nat) ∧ Hid ((d.take q).all isDig = true)) (fun n i => l.length - (intOf i).toNat)
          case atStart => exact ⟨0, Nat.zero_le _, rfl, rfl, Lib.hid rfl⟩
          case round =>
            try clear hixa
            try clear hix0
            obtain ⟨q, hq, rfl, rfl, HA⟩ := hrel
            have hql : q ≤ l.length := by have hlen := HLEN.out; omega
            have hvl := valD_take_lt d q (by omega) HA.out
            by_cases hlt : q < d.length
            · have hlt2 : q < l.length := by have hlen := HLEN.out; omega
              obtain ⟨b, hb⟩ : ∃ b, d[q] = b := ⟨_, rfl⟩
              have hixq : (⟨l.toArray⟩ : ByteArray)[q]'(by simpa [ByteArray.size] using hlt2) = b := by rw [← hb, ← HG.out q hlt hlt2]; simp [ByteArray.getElem_eq_getElem_data]
              have S1 := Lib.hid (digitS b w)
              cases hdg : isDig b with
              | false =>
                have HR := Lib.hid (show numF l = none by rw [HF.out, if_pos (all_bad d q hlt (by rw [hb]; exact hdg))])
                rw [hdg] at S1
                clear hdg hb
                go_wp2_with fail
                refine S1.out.mono ?_
                rintro e w1 ⟨rfl, rfl⟩
                clear S1
                go_wp2_with fail
                go_ret2
                exact ⟨by rw [HR.out]; rfl, rfl⟩
              | true =>
                have hd2 : 48 ≤ b.toNat ∧ b.toNat ≤ 57 := by simpa [isDig] using hdg
                have HV := Lib.hid (valD_take d q hlt)
                have hvl7 := valD_take_lt17 d q (by omega) hlt HA.out
                have HA2 := Lib.hid (all_take_succ d q hlt HA.out (by rw [hb]; exact hdg))
                rw [hb] at HV
                rw [hdg] at S1
                generalize valD 0 (d.take q) = V at *
                clear hdg hb HA
                go_wp2_with fail
                refine S1.out.mono ?_
                rintro e w1 ⟨rfl, rfl⟩
                clear S1
                go_wp2_with fail
                go_round
                case rel => exact ⟨q + 1, by omega, by go_num, by rw [HV.out]; exact congrArg _ (by omega), HA2⟩
                case measure => simp [intOf]; omega
            · have hend : ¬ ((q : Nat) : Int) < (l.length : Int) := by have hlen := HLEN.out; omega
              obtain rfl : q = d.length := by omega
              have hall := HA.out
              rw [List.take_of_length_le (Nat.le_refl _)] at hall
              have HR := Lib.hid (show numF l = some ((valD 0 d : Int)) by rw [HF.out, if_neg (by rw [hall]; simp)])
              rw [List.take_of_length_le (Nat.le_refl _)] at hvl ⊢
              generalize valD 0 d = V at *
              clear HA HF hall
              go_wp2_with fail
              go_ret2
              exact ⟨by rw [HR.out]; first | rfl | (simp; try omega), rfl⟩

set_option maxRecDepth 20000 in
set_option maxHeartbeats 4000000 in
theorem numberS1 (l d : List UInt8) (w : World) (hl : l.length ≤ 2000000) (hneg : negL l = true) (hd : digL l = d) (hlen : l.length = d.length + 1) (hpos : 0 < l.length)
    (hget : ∀ q (hq : q < d.length) (hq2 : 1 + q < l.length), l[1 + q] = d[q]) (c : UInt8) (hc : l[0] = c) (hc45 : c = 45) :
    Calls Tryz.prog 127 #[es l] w (NumS l w) := by
  have hix0 : (⟨l.toArray⟩ : ByteArray)[0]'(by simpa [ByteArray.size] using hpos) = c := by rw [← hc]; simp [ByteArray.getElem_eq_getElem_data]
  have gp : (0 : Int) < (l.length : Int) := by omega
  have HLEN := Lib.hid hlen
  subst hc45
  clear hc
  by_cases hd0 : d = []
  · have HR := Lib.hid (show numF l = none by unfold numF; rw [hd, if_pos (Or.inl hd0)])
    have hl1 : l.length = 1 := by rw [hlen, hd0]; simp
    have gl1 : (l.length : Int) = 1 := by omega
    clear hget hd0 hneg hd hlen hl1
    go_enter Tryz.func127, Tryz.ntmps127
    go_wp2_with fail
    go_ret2
    exact ⟨by rw [HR.out]; rfl, rfl⟩
  · have hdpos : 0 < d.length := List.length_pos_iff.2 hd0
    have g1 : ((l.length : Int) == 1) = false := by rw [beq_eq_false_iff_ne]; omega
    by_cases h18 : 18 < d.length
    · have HR := Lib.hid (show numF l = none by unfold numF; rw [hd, if_pos (Or.inr (Or.inl h18))])
      have g2 : (18 : Int) < (l.length : Int) - 1 := by omega
      clear hget hd0 hneg hd hlen h18 hdpos
      go_enter Tryz.func127, Tryz.ntmps127
      go_wp2_with fail
      go_ret2
      exact ⟨by rw [HR.out]; rfl, rfl⟩
    · have g2 : ¬ (18 : Int) < (l.length : Int) - 1 := by omega
      obtain ⟨x, hx⟩ : ∃ x, d[0] = x := ⟨_, rfl⟩
      have hat : 1 < l.length := by omega
      have hixa : (⟨l.toArray⟩ : ByteArray)[1]'(by simpa [ByteArray.size] using hat) = x := by
        rw [← hx, ← hget 0 hdpos (by omega)]; simp [ByteArray.getElem_eq_getElem_data]
      skip
      have hhead : d.head? = some x := by rw [← hx]; cases d with
        | nil => simp at hdpos
        | cons y d => rfl
      by_cases hz : x = 48 ∧ 1 < l.length
      · have HR := Lib.hid (show numF l = none by unfold numF; rw [hd, if_pos (Or.inr (Or.inr (Or.inl ⟨by rw [hhead, hz.1], hz.2⟩)))])
        obtain ⟨hz1, hz2⟩ := hz
        subst hz1
        have g3 : (1 : Int) < (l.length : Int) := by omega
        clear hget hd0 hneg hd hx hhead hlen
        go_enter Tryz.func127, Tryz.ntmps127
        go_wp2_with fail
        go_ret2
        exact ⟨by rw [HR.out]; rfl, rfl⟩
      · have HF := Lib.hid (show numF l = if d.all isDig = false then none else some (-(valD 0 d : Int)) by
          unfold numF
          rw [hd, hneg]
          by_cases ha : d.all isDig = false
          · rw [if_pos (Or.inr (Or.inr (Or.inr ha))), if_pos ha]
          · rw [if_neg, if_neg ha]
            · simp
            · rintro (h | h | h | h)
              · exact hd0 h
              · exact h18 h
              · rw [hhead] at h; exact hz ⟨by simpa using h.1, h.2⟩
              · exact ha h)
        have hcase : Hid (∀ K : Prop, (((x.toNat : Int) == 48) = false → K) → (x = 48 → ¬ (1 : Int) < (l.length : Int) → K) → K) := Lib.hid (fun K h1 h2 => by
          by_cases h : x = 48
          · exact h2 h (fun h3 => hz ⟨h, by omega⟩)
          · exact h1 (byte_ne (n := 48) (by omega) h))
        have HG := Lib.hid hget
        clear hget hd0 hneg hd hx hhead hz hlen
        refine hcase.out _ ?_ ?_
        · intro gz
          clear hcase
          go_enter Tryz.func127, Tryz.ntmps127
          go_wp2_with fail
          go_loop [5, 6] (fun n i => ∃ q : Nat, q ≤ d.length ∧ i = .int .i64 (1 + q : Nat) ∧ n = .int .i64 (valD 0 (d.take q) : Nat) ∧ Hid ((d.take q).all isDig = true)) (fun n i => l.length - (intOf i).toNat)
          case atStart => exact ⟨0, Nat.zero_le _, rfl, rfl, Lib.hid rfl⟩
          case round =>
            try clear hixa
            try clear hix0
            obtain ⟨q, hq, rfl, rfl, HA⟩ := hrel
            have hql : 1 + q ≤ l.length := by have hlen := HLEN.out; omega
            have hvl := valD_take_lt d q (by omega) HA.out
            by_cases hlt : q < d.length
            · have hlt2 : 1 + q < l.length := by have hlen := HLEN.out; omega
              obtain ⟨b, hb⟩ : ∃ b, d[q] = b := ⟨_, rfl⟩
              have hixq : (⟨l.toArray⟩ : ByteArray)[1 + q]'(by simpa [ByteArray.size] using hlt2) = b := by rw [← hb, ← HG.out q hlt hlt2]; simp [ByteArray.getElem_eq_getElem_data]
              have S1 := Lib.hid (digitS b w)
              cases hdg : isDig b with
              | false =>
                have HR := Lib.hid (show numF l = none by rw [HF.out, if_pos (all_bad d q hlt (by rw [hb]; exact hdg))])
                rw [hdg] at S1
                clear hdg hb
                go_wp2_with fail
                refine S1.out.mono ?_
                rintro e w1 ⟨rfl, rfl⟩
                clear S1
                go_wp2_with fail
                go_ret2
                exact ⟨by rw [HR.out]; rfl, rfl⟩
              | true =>
                have hd2 : 48 ≤ b.toNat ∧ b.toNat ≤ 57 := by simpa [isDig] using hdg
                have HV := Lib.hid (valD_take d q hlt)
                have hvl7 := valD_take_lt17 d q (by omega) hlt HA.out
                have HA2 := Lib.hid (all_take_succ d q hlt HA.out (by rw [hb]; exact hdg))
                rw [hb] at HV
                rw [hdg] at S1
                generalize valD 0 (d.take q) = V at *
                clear hdg hb HA
                go_wp2_with fail
                refine S1.out.mono ?_
                rintro e w1 ⟨rfl, rfl⟩
                clear S1
                go_wp2_with fail
                go_round
                case rel => exact ⟨q + 1, by omega, by go_num, by rw [HV.out]; exact congrArg _ (by omega), HA2⟩
                case measure => simp [intOf]; omega
            · have hend : ¬ ((1 + q : Nat) : Int) < (l.length : Int) := by have hlen := HLEN.out; omega
              obtain rfl : q = d.length := by omega
              have hall := HA.out
              rw [List.take_of_length_le (Nat.le_refl _)] at hall
              have HR := Lib.hid (show numF l = some (-(valD 0 d : Int)) by rw [HF.out, if_neg (by rw [hall]; simp)])
              rw [List.take_of_length_le (Nat.le_refl _)] at hvl ⊢
              generalize valD 0 d = V at *
              clear HA HF hall
              go_wp2_with fail
              go_ret2
              exact ⟨by rw [HR.out]; first | rfl | (simp; try omega), rfl⟩
        · intro gz1 gz2
          exact absurd (show (1 : Int) < (l.length : Int) by have hlen := HLEN.out; omega) gz2

theorem numberS (l : List UInt8) (w : World) (hl : l.length ≤ 2000000) : Calls Tryz.prog 127 #[es l] w (NumS l w) := by
  cases l with
  | nil =>
    have HR := Lib.hid (show numF [] = none by rfl)
    go_enter Tryz.func127, Tryz.ntmps127
    go_wp2_with fail
    go_ret2
    exact ⟨by rw [HR.out]; rfl, rfl⟩
  | cons c r =>
    by_cases hc : c = 45
    · exact numberS1 (c :: r) r w hl (by simp [negL, hc]) (by simp [digL, negL, hc]) (by simp) (by simp) (fun q hq hq2 => by
        have e : (c :: r)[1 + q]? = r[q]? := by rw [Nat.add_comm]; rfl
        rw [List.getElem?_eq_getElem hq2, List.getElem?_eq_getElem hq] at e
        exact Option.some.inj e) c rfl hc
    · exact numberS0 (c :: r) (c :: r) w hl (by simp [negL, hc]) (by simp [digL, negL, hc]) (by simp) (by simp) (fun q hq hq2 => rfl) c rfl hc

end Go.Proofs.YtcnaapiljmgfoaaGreatDoor

/-
  The values of a label, as the reference reads them, are those that the program reads.
-/
namespace Go.Proofs.YtcnaapiljmgfoaaGreatDoor
open Go.RowKit

theorem open_app : ∀ (p r : List UInt8), (40 : UInt8) ∉ p → openAt (p ++ 40 :: r) = p.length
  | [], r, _ => by simp [openAt]
  | b :: p, r, h => by
    have h1 : b ≠ 40 := fun e => h (by simp [e])
    have h2 := open_app p r (fun hm => h (List.mem_cons_of_mem _ hm))
    unfold openAt at h2 ⊢
    rw [List.cons_append, List.takeWhile_cons, if_pos (by simpa using h1), List.length_cons, h2, List.length_cons]
theorem open_no {s : List UInt8} (h : (40 : UInt8) ∉ s) : openAt s = s.length := by
  unfold openAt; rw [tw_all s (fun x hx e => h (e ▸ hx))]
theorem open_le (s : List UInt8) : openAt s ≤ s.length := by
  unfold openAt
  induction s with
  | nil => simp
  | cons b s ih =>
    rw [List.takeWhile_cons]
    split
    · simp only [List.length_cons]; omega
    · simp
theorem open_lt : ∀ {s : List UInt8}, openAt s ≠ s.length → s = s.take (openAt s) ++ 40 :: s.drop (openAt s + 1) ∧ (40 : UInt8) ∉ s.take (openAt s) := by
  intro s hne
  by_cases hm : (40 : UInt8) ∈ s
  · obtain ⟨p, r, e, hp⟩ : ∃ p r, s = p ++ 40 :: r ∧ (40 : UInt8) ∉ p := by
      clear hne
      induction s with
      | nil => cases hm
      | cons b s ih =>
        by_cases hb : b = 40
        · exact ⟨[], s, by simp [hb], by simp⟩
        · obtain ⟨p, r, e, hp⟩ := ih (by rcases List.mem_cons.1 hm with h | h; · exact absurd h.symm hb
                                         · exact h)
          exact ⟨b :: p, r, by simp [e], fun h => by rcases List.mem_cons.1 h with h | h; · exact hb h.symm
                                                     · exact hp h⟩
    subst e
    rw [open_app p r hp]
    simp [hp]
  · exact absurd (open_no hm) hne

/-- the values of a label, as the reference reads them. -/
def specV (s : List UInt8) : Option (List Int) :=
  if openAt s = s.length then (if nameF s = true then some [] else none)
  else if actF (s.take (openAt s)) = true ∧ s.getLast? = some 41 then
    match numsF (splitC 44 ((s.drop (openAt s + 1)).take (s.length - 1 - (openAt s + 1)))) with
    | none => none
    | some vs => if vs.all isV = true ∧ vs.length ≤ 2 then some vs else none
  else none

theorem nameF_split {s : List UInt8} (h : nameF s = true) : labT s [] = some s := by
  unfold labT
  by_cases ht : s = tauL
  · rw [if_pos ht, if_pos rfl, ht]
  · rw [if_neg ht]
    have : actF s = true := by
      unfold actF; rw [h]; simpa using ht
    rw [this]; simp

theorem specV_labT {name s : List UInt8} {vs : List Int} (h : labT name vs = some s) : specV s = some vs := by
  unfold labT at h
  split at h
  · rename_i ht
    split at h
    · rename_i hv
      cases h; subst hv; rfl
    · cases h
  · rename_i ht
    split at h
    · rename_i hc
      simp only [Bool.and_eq_true, decide_eq_true_eq] at hc
      obtain ⟨⟨ha, hl⟩, hv⟩ := hc
      have hno := name_char (actF_name ha).1 40 (by decide) (by decide)
      split at h
      · rename_i hve
        cases h; subst hve
        unfold specV
        rw [if_pos (open_no hno), if_pos (actF_name ha).1]
      · rename_i hve
        cases h
        have e : ((name ++ [40]) ++ txtV vs) ++ [41] = name ++ 40 :: (txtV vs ++ [41]) := by simp
        have hsp : splitC 44 (txtV vs) = vs.map Lib.itoa := by
          refine split_join 44 _ (by simpa using hve) (fun p hp => ?_)
          obtain ⟨n, -, rfl⟩ := List.mem_map.1 hp
          exact itoa_no n 44 (by decide) (by decide)
        have hnum := numsF_itoa vs (fun n hn => itoa_len64 (List.all_eq_true.1 hv n hn))
        unfold specV
        rw [e, open_app _ _ hno, if_neg (by simp), if_pos ⟨by simpa using ha, by rw [show name ++ 40 :: (txtV vs ++ [41]) = (name ++ 40 :: txtV vs) ++ [41] by simp]; exact List.getLast?_concat⟩]
        have e2 : ((name ++ 40 :: (txtV vs ++ [41])).drop (name.length + 1)).take ((name ++ 40 :: (txtV vs ++ [41])).length - 1 - (name.length + 1)) = txtV vs := by
          have e3 : (name ++ 40 :: (txtV vs ++ [41])).drop (name.length + 1) = txtV vs ++ [41] := by
            rw [List.drop_append]; simp
          rw [e3]
          have e4 : (name ++ 40 :: (txtV vs ++ [41])).length - 1 - (name.length + 1) = (txtV vs).length := by simp; omega
          rw [e4, List.take_left']; rfl
        rw [e2, hsp, hnum]
        simp [hv, hl]
    · cases h

theorem labT_specV {s : List UInt8} {vs : List Int} (h : specV s = some vs) : ∃ name, labT name vs = some s := by
  unfold specV at h
  split at h
  · split at h
    · rename_i hn
      cases h
      exact ⟨s, nameF_split hn⟩
    · cases h
  · rename_i hne
    split at h
    · rename_i hc
      obtain ⟨ha, hlast⟩ := hc
      obtain ⟨hs, hno⟩ := open_lt hne
      split at h
      · cases h
      · rename_i vs' hnum
        split at h
        · rename_i hv
          cases h
          obtain ⟨hv1, hv2⟩ := hv
          refine ⟨s.take (openAt s), ?_⟩
          have hparts := (numsF_some hnum).1
          have hj := congrArg (joinC 44) hparts
          rw [join_split] at hj
          obtain ⟨-, ht⟩ := actF_name ha
          have hvne : vs ≠ [] := by
            intro e
            rw [e] at hparts
            exact splitC_ne 44 _ hparts
          unfold labT
          rw [if_neg ht, ha]
          simp only [Bool.true_and, hv1, Bool.and_true, decide_eq_true_eq, if_pos hv2, if_neg hvne]
          congr 1
          have hin : s.drop (openAt s + 1) = txtV vs ++ [41] := by
            have hlen := open_le s
            have hl2 : openAt s < s.length := by omega
            have hdl : (s.drop (openAt s + 1)).getLast? = some 41 := by
              have hr : s.drop (openAt s + 1) ≠ [] := by
                intro e
                rw [hs, e] at hlast
                simp at hlast
              rw [hs, List.getLast?_append] at hlast
              rw [List.getLast?_cons] at hlast
              cases hq : (s.drop (openAt s + 1)).getLast? with
              | none => exact absurd (List.getLast?_eq_none_iff.1 hq) hr
              | some x => rw [hq] at hlast; simpa using hlast
            obtain ⟨ys, hys⟩ := List.getLast?_eq_some_iff.1 hdl
            have hyl : ys.length = s.length - 1 - (openAt s + 1) := by
              have := congrArg List.length hys
              simp at this; omega
            rw [hys] at hj
            rw [← hyl, List.take_left'] at hj
            · rw [hys, hj]; rfl
            · rfl
          conv => rhs; rw [hs, hin]
          simp
        · cases h
    · cases h

/-- both sides read the same values. -/
theorem specV_readF (s : List UInt8) : specV s = (readF s).map (·.2) := by
  cases hr : readF s with
  | some x =>
    obtain ⟨n, vs⟩ := x
    exact specV_labT (readF_some hr)
  | none =>
    cases hs : specV s with
    | none => rfl
    | some vs =>
      obtain ⟨n, hn⟩ := labT_specV hs
      rw [readF_labT hn] at hr; cases hr

end Go.Proofs.YtcnaapiljmgfoaaGreatDoor

/-
  The values of a label, read by the reference.
-/
namespace Go.Proofs.YtcnaapiljmgfoaaGreatDoor
open Go.RowKit

theorem inS (n : Int) (w : World) : Calls Tryz.prog 53 #[.int .i64 n, .int .i64 0, .int .i64 63] w fun e w' => e = .returned (.bool (isV n)) ∧ w = w' := by
  by_cases h1 : 0 ≤ n
  · by_cases h2 : n ≤ 63
    · have HR := Lib.hid (show isV n = true from inB_mk ⟨h1, h2⟩)
      go_enter Tryz.func53, Tryz.ntmps53
      go_wp2_with fail
      go_ret
      exact ⟨by rw [HR.out]; rfl, rfl⟩
    · have HR := Lib.hid (show isV n = false by
        cases h : isV n with
        | false => rfl
        | true => have := inB_true h; omega)
      go_enter Tryz.func53, Tryz.ntmps53
      go_wp2_with fail
      go_ret
      exact ⟨by rw [HR.out]; rfl, rfl⟩
  · have HR := Lib.hid (show isV n = false by
      cases h : isV n with
      | false => rfl
      | true => have := inB_true h; omega)
    go_enter Tryz.func53, Tryz.ntmps53
    go_wp2_with fail
    go_ret
    exact ⟨by rw [HR.out]; rfl, rfl⟩

def ValuesS (s : List UInt8) (w : World) (e : Ending) (w' : World) : Prop :=
  (∃ v' vs, e = .returned (.tuple #[v', .bool (readF s).isSome]) ∧ New R1 w w' v' vs ∧ Hid (∀ us, (readF s).map (·.2) = some us → vs = us)) ∧ Upd [] w w'

theorem splitC_len' (c : UInt8) : ∀ l : List UInt8, (splitC c l).length ≤ l.length + 1 ∧ ∀ p ∈ splitC c l, p.length ≤ l.length
  | [] => by simp [splitC]
  | b :: l => by
    obtain ⟨h1, h2⟩ := splitC_len' c l
    by_cases hb : b = c
    · subst hb
      have e : splitC b (b :: l) = [] :: splitC b l := by rw [splitC, if_pos rfl]
      rw [e]
      refine ⟨by simp; omega, fun p hp => ?_⟩
      rcases List.mem_cons.1 hp with rfl | hp
      · simp
      · have := h2 p hp; simp; omega
    · obtain ⟨p, ps, e1, e2⟩ := splitC_cons c b l hb
      rw [e2]
      rw [e1] at h1 h2
      refine ⟨by simp at h1 ⊢; omega, fun q hq => ?_⟩
      rcases List.mem_cons.1 hq with rfl | hq
      · have := h2 p (by simp); simp; omega
      · have := h2 q (by simp [hq]); simp; omega

/-- what the loop over the words gives. -/
def loopV (ps : List (List UInt8)) : Option (List Int) := match numsF ps with
  | none => none
  | some vs => if vs.all isV then some vs else none

theorem loopV_cons (p : List UInt8) (ps : List (List UInt8)) : loopV (p :: ps) = (numF p).bind fun n => if isV n then (loopV ps).map (n :: ·) else none := by
  unfold loopV
  rw [numsF_cons]
  cases numF p with
  | none => rfl
  | some n =>
    cases numsF ps with
    | none => simp
    | some vs =>
      cases h1 : isV n <;> cases h2 : vs.all isV <;> simp [h1, h2]

theorem readF_isSome (s : List UInt8) : (readF s).isSome = (specV s).isSome := by rw [specV_readF]; cases readF s <;> rfl

set_option maxRecDepth 20000 in
set_option maxHeartbeats 4000000 in
theorem valuesS (l : List UInt8) (w : World) (hl : l.length ≤ 2000000) : Calls Tryz.prog 109 #[es l] w (ValuesS l w) := by
  obtain ⟨i1, ki, kz0, kz1, kz2⟩ := info_parts Tryz.info2
  have S1 := Lib.hid (openS l w hl)
  have hle := open_le l
  have HV := Lib.hid (show (readF l).map (·.2) = specV l from (specV_readF l).symm)
  have HI := Lib.hid (readF_isSome l)
  by_cases hat : openAt l = l.length
  · have hsp : specV l = if nameF l = true then some [] else none := by unfold specV; rw [if_pos hat]
    have S2 := Lib.hid (fun w1 : World => nameS l w1 hl)
    obtain ⟨f0, hR0, hO0, hG0⟩ := new_lit (enc := ei) w 2 [] (by simp [maxLen])
    have HN := Lib.hid (show New R1 w (w.alloc (.cells #[] 2)) (.slice (some ⟨w.heap.size, 0, none⟩) 0 0) [] from ⟨f0, hR0, hO0, hG0⟩)
    rw [hat] at S1
    have HS := Lib.hid (show (readF l).isSome = nameF l by rw [HI.out, hsp]; cases nameF l <;> rfl)
    have HU := Lib.hid (show ∀ us, (readF l).map (·.2) = some us → ([] : List Int) = us by
      intro us hus
      rw [HV.out, hsp] at hus
      split at hus
      · simpa using hus
      · cases hus)
    clear hsp hR0 hO0 hG0 HV HI hat hle
    go_enter Tryz.func109, Tryz.ntmps109
    go_wp2_with fail
    refine S1.out.mono ?_
    rintro e w1 ⟨rfl, rfl⟩
    clear S1
    have S2 := Lib.hid (S2.out (w.alloc (.cells #[] 2)))
    go_wp2_with fail
    refine S2.out.mono ?_
    rintro e w1 ⟨rfl, rfl⟩
    clear S2
    go_wp2_with fail
    go_ret2
    exact ⟨⟨_, [], by rw [HS.out]; rfl, HN.out, HU⟩, (Upd.refl _ _).alloc _⟩
  · obtain ⟨hs40, hno⟩ := open_lt hat
    obtain ⟨A, hA⟩ : ∃ A, openAt l = A := ⟨_, rfl⟩
    obtain ⟨m, hm⟩ : ∃ m, l.length = m + 1 := ⟨l.length - 1, by omega⟩
    have hAm : A ≤ m := by omega
    obtain ⟨b, hb⟩ : ∃ b, l[m]'(by omega) = b := ⟨_, rfl⟩
    have hix : (⟨l.toArray⟩ : ByteArray)[m]'(by simp [ByteArray.size]; omega) = b := by rw [← hb]; simp [ByteArray.getElem_eq_getElem_data]
    have hlast : l.getLast? = some b := by
      rw [List.getLast?_eq_getElem?, ← hb, List.getElem?_eq_getElem (by omega)]
      congr 1
      simp [hm]
    have hext := extract_list l 0 A
    rw [List.drop_zero, Nat.sub_zero] at hext
    have hsp : specV l = if actF (l.take A) = true ∧ b = 41 then (loopV (splitC 44 ((l.drop (A + 1)).take (m - (A + 1))))).bind (fun vs => if vs.length ≤ 2 then some vs else none) else none := by
      unfold specV
      rw [if_neg hat, hA, hlast, hm]
      simp only [Option.some.injEq, Nat.add_sub_cancel]
      by_cases hc : actF (l.take A) = true ∧ b = 41
      · rw [if_pos hc, if_pos hc]
        unfold loopV
        cases numsF (splitC 44 ((l.drop (A + 1)).take (m - (A + 1)))) with
        | none => rfl
        | some vs => by_cases h1 : vs.all isV = true <;> by_cases h2 : vs.length ≤ 2 <;> simp [h1, h2]
      · rw [if_neg hc, if_neg hc]
    have hA40 : A = m → b = 40 := by
      intro e
      rw [hA] at hs40
      have h1 : l[A]? = some 40 := by
        have hl1 : (l.take A).length = A := by simp; omega
        rw [hs40, List.getElem?_append_right (by omega), hl1]; simp
      subst e
      rw [List.getElem?_eq_getElem (by omega), hb] at h1
      exact Option.some.inj h1
    have hext2 := extract_list l (A + 1) m
    rw [hA] at S1
    have hnl : (l.take A).length ≤ 2000000 := by simp; omega
    have hil : ((l.drop (A + 1)).take (m - (A + 1))).length ≤ 2000000 := by simp; omega
    have S2 := Lib.hid (actionS (l.take A) w hnl)
    have S3 := Lib.hid (show Calls Tryz.prog 126 #[es ((l.drop (A + 1)).take (m - (A + 1))), .int .u8 ((44 : UInt8).toNat : Int)] w (fun e w' => (∃ v', e = .returned v' ∧ New RS w w' v' (splitC 44 ((l.drop (A + 1)).take (m - (A + 1))))) ∧ Upd [] w w') from splitS _ 44 w hil)
    generalize l.take A = nm at *
    generalize (l.drop (A + 1)).take (m - (A + 1)) = inr5 at *
    obtain ⟨hpc1, hpc2⟩ := splitC_len' 44 inr5
    have HPC := Lib.hid (show ∀ p ∈ splitC 44 inr5, p.length ≤ 2000000 from fun p hp => Nat.le_trans (hpc2 p hp) hil)
    have hpc3 : (splitC 44 inr5).length ≤ 2000001 := by omega
    generalize splitC 44 inr5 = ps at *
    have gA : ((A : Int) == (m : Int) + 1) = false := by rw [beq_eq_false_iff_ne]; omega
    have hA1 : A < m + 1 := by omega
    clear hat hs40 hno hA hb hlast hpc1 hpc2 hle
    cases ha : actF nm with
    | false =>
      have HS := Lib.hid (show readF l = none by
        have h1 := HI.out
        rw [hsp, if_neg (by rw [ha]; simp)] at h1
        cases hr : readF l with
        | none => rfl
        | some x => rw [hr] at h1; cases h1)
      rw [ha] at S2
      clear hsp ha HV HI hA40 S3
      go_enter Tryz.func109, Tryz.ntmps109
      go_wp2_with fail
      refine S1.out.mono ?_
      rintro e w1 ⟨rfl, rfl⟩
      clear S1
      go_wp2_with fail
      refine S2.out.mono ?_
      rintro e w1 ⟨rfl, rfl⟩
      clear S2
      go_wp2_with fail
      go_ret2
      exact ⟨⟨_, [], by rw [HS.out]; rfl, new_nil _ _, Lib.hid (fun us hus => by rw [HS.out] at hus; cases hus)⟩, Upd.refl _ _⟩
    | true =>
      rw [ha] at S2
      by_cases h41 : b = 41
      · have hAlt : A + 1 ≤ m := by
          rcases Nat.lt_or_ge A m with h | h
          · exact h
          · have := hA40 (by omega); rw [h41] at this; cases this
        rw [if_pos ⟨ha, h41⟩] at hsp
        have HSP := Lib.hid hsp
        subst h41
        clear hsp ha hA40
        go_enter Tryz.func109, Tryz.ntmps109
        go_wp2_with fail
        refine S1.out.mono ?_
        rintro e w1 ⟨rfl, rfl⟩
        clear S1
        go_wp2_with fail
        refine S2.out.mono ?_
        rintro e w1 ⟨rfl, rfl⟩
        clear S2
        go_wp2_with fail
        refine S3.out.mono ?_
        rintro e w3 ⟨⟨v3, rfl, fq, hq1, hq2, hq3⟩, hu3⟩
        obtain ⟨a3, c3, rfl, hc1, hc2, -⟩ := slF1_open hq1
        unfold maxLen at hc2
        have HR := Lib.hid hq1
        have hlit := World.ownsRow_lit (base := w3.heap.size) (e := 2) (size := 1) w3 #[] 0 (Nat.le_refl _) (by simp [maxLen]) (by simp)
        have HLIT := Lib.hid hlit
        have HU3 := Lib.hid hu3
        have hsz3 := hu3.size
        clear S3 hq1 hq2 hq3 hu3 hlit
        go_wp2_with fail
        go_loopw [6, 7] (fun ov iv wr => ∃ (k : Nat) (ns : List Int), k ≤ ps.length ∧ iv = .int .i64 k ∧ ns.length = k ∧ Hid (loopV ps = (loopV (ps.drop k)).map (ns ++ ·)) ∧ Hid (wr.ownsRow w3.heap.size 2 1 ov k (ns.map ei)) ∧ Upd [] w3 wr) (fun _ iv _ => ps.length - (intOf iv).toNat)
        case atStart => exact ⟨0, [], by omega, rfl, rfl, Lib.hid (by simp), HLIT, (Upd.refl _ _).alloc _⟩
        case round =>
          clear HLIT
          obtain ⟨k, ns, hk, rfl, hnl2, hF, hown, hU⟩ := hrel
          have HNL := Lib.hid hnl2
          clear hnl2
          have hszr := hU.size
          by_cases hlt : k < ps.length
          · obtain ⟨a', cap', hv, -, -, hc⟩ := slF1_open ((slF_kept _ _).upd HR.out hU (by simp))
            cases hv
            obtain ⟨b1, o1, rfl, -, -, p1⟩ := hc k hlt
            have hF1 := hF.out
            rw [List.drop_eq_getElem_cons hlt, loopV_cons] at hF1
            have hpk := HPC.out ps[k] (List.getElem_mem hlt)
            have HF := Lib.hid hF1
            have HU := Lib.hid hU
            clear hF1 hF hc hU
            generalize ps[k] = s at *
            have T1 := Lib.hid (numberS s wr hpk)
            cases hn : numF s with
            | none =>
              rw [hn] at HF
              have HRF := Lib.hid (show readF l = none by
                have h1 := HI.out
                rw [HSP.out, HF.out] at h1
                cases hr : readF l with
                | none => rfl
                | some x => rw [hr] at h1; cases h1)
              have T1' := T1.out
              unfold NumS at T1'
              rw [hn] at T1'
              have T2 := Lib.hid T1'
              clear HF T1 T1' hn
              go_wp2_with fail
              refine T2.out.mono ?_
              rintro e w5 ⟨rfl, rfl⟩
              clear T2
              go_wp2_with fail
              go_ret2
              exact ⟨⟨_, [], by rw [HRF.out]; rfl, new_nil _ _, Lib.hid (fun us hus => by rw [HRF.out] at hus; cases hus)⟩, HU3.out.trans HU.out⟩
            | some x =>
              rw [hn] at HF
              have T1' := T1.out
              unfold NumS at T1'
              rw [hn] at T1'
              have T2 := Lib.hid T1'
              have T3 := Lib.hid (inS x wr)
              clear T1 T1' hn
              cases hx : isV x with
              | false =>
                have HRF := Lib.hid (show readF l = none by
                  have h1 := HI.out
                  rw [HSP.out, HF.out] at h1
                  simp only [Option.bind_some, hx, Bool.false_eq_true, if_false] at h1
                  cases hr : readF l with
                  | none => rfl
                  | some x => rw [hr] at h1; cases h1)
                rw [hx] at T3
                clear HF hx
                go_wp2_with fail
                refine T2.out.mono ?_
                rintro e w5 ⟨rfl, rfl⟩
                clear T2
                simp only [Option.getD_some, Option.isSome_some]
                go_wp2_with fail
                refine T3.out.mono ?_
                rintro e w5 ⟨rfl, rfl⟩
                clear T3
                go_wp2_with fail
                go_ret2
                exact ⟨⟨_, [], by rw [HRF.out]; rfl, new_nil _ _, Lib.hid (fun us hus => by rw [HRF.out] at hus; cases hus)⟩, HU3.out.trans HU.out⟩
              | true =>
                have HN := Lib.hid (show loopV ps = (loopV (ps.drop (k + 1))).map ((ns ++ [x]) ++ ·) by
                  rw [HF.out]
                  simp only [Option.bind_some, hx, if_true]
                  cases loopV (ps.drop (k + 1)) <;> simp)
                rw [hx] at T3
                have hown3 := hown.out
                clear HF hx hown
                go_wp2_with fail
                refine T2.out.mono ?_
                rintro e w5 ⟨rfl, rfl⟩
                clear T2
                simp only [Option.getD_some, Option.isSome_some]
                go_wp2_with fail
                refine T3.out.mono ?_
                rintro e w5 ⟨rfl, rfl⟩
                clear T3
                go_wp2_with (first
                  | (at_builtin; refine wpList_append_tight _ rfl _ _ 45 rfl w3.heap.size 2 i1 (.int .i64 0) 1 8 Tryz.underlying45 ki kz0 kz1 kz2 rfl (by decide) _ _ _ rfl (hown3.alloc _) ⟨wr.heap.size, 0, none⟩ 1 1 [ei x] rfl rfl (fun j u hj => by rw [addr_add]; exact cell_new wr #[ei x] _ _ rfl _ _ (by simpa using hj)) (by simp [Value.oneCell']) (by unfold maxLen; omega) (by omega) (by simp; omega) ?_)
                  | fail)
                intro v4 w4 hown4 hg4 ht4
                have hu4 := (HU.out.alloc _).grown hg4 (fun b hb => Or.inl (by have := (hown3.lt b hb).1; omega))
                have HQ := Lib.hid (And.intro hown4 hu4)
                clear hown4 hg4 ht4 hu4 hown3
                go_wp2_with fail
                go_roundw
                case rel => exact ⟨k + 1, ns ++ [x], by omega, by go_num, by simp [HNL.out], HN, Lib.hid (by simpa using HQ.out.1), HQ.out.2⟩
                case measure => simp [intOf]; omega
          · obtain rfl : k = ps.length := by omega
            have hF1 := hF.out
            rw [List.drop_of_length_le (Nat.le_refl _)] at hF1
            have hl0 : loopV ps = some ns := by rw [hF1]; simp [loopV, numsF]
            have hs2 : specV l = if ns.length ≤ 2 then some ns else none := by rw [HSP.out, hl0]; rfl
            rw [HNL.out] at hs2
            have HS := Lib.hid (show (readF l).isSome = decide (ps.length ≤ 2) by
              rw [HI.out, hs2]
              by_cases h : ps.length ≤ 2 <;> simp [h])
            have HU5 := Lib.hid (show ∀ us, (readF l).map (·.2) = some us → ns = us by
              intro us hus
              rw [HV.out, hs2] at hus
              split at hus
              · simpa using hus
              · cases hus)
            obtain ⟨a6, c6, hv6⟩ := ownsRow_form hown.out
            have HQ := Lib.hid (And.intro ((New.ofOwns (w := w3) (e := 2) (enc := ei) (xs := ns) (by rw [HNL.out]; exact hown.out)).mono hsz3) (HU3.out.trans hU))
            subst hv6
            clear hown hU hF hF1 hl0 hs2
            by_cases h2 : ps.length ≤ 2
            · rw [decide_eq_true h2] at HS
              have h2' : (ps.length : Int) ≤ 2 := by omega
              go_wp2_with fail
              go_ret2
              exact ⟨⟨_, ns, by rw [HS.out]; rfl, HQ.out.1, HU5⟩, HQ.out.2⟩
            · rw [decide_eq_false h2] at HS
              have h2' : ¬ (ps.length : Int) ≤ 2 := by omega
              go_wp2_with fail
              go_ret2
              exact ⟨⟨_, ns, by rw [HS.out]; rfl, HQ.out.1, HU5⟩, HQ.out.2⟩
      · have hne : ((b.toNat : Int) == 41) = false := byte_ne (n := 41) (by omega) h41
        have HS := Lib.hid (show readF l = none by
          have h1 := HI.out
          rw [hsp, if_neg (fun h => h41 h.2)] at h1
          cases hr : readF l with
          | none => rfl
          | some x => rw [hr] at h1; cases h1)
        clear hsp ha HV HI hA40 S3
        go_enter Tryz.func109, Tryz.ntmps109
        go_wp2_with fail
        refine S1.out.mono ?_
        rintro e w1 ⟨rfl, rfl⟩
        clear S1
        go_wp2_with fail
        refine S2.out.mono ?_
        rintro e w1 ⟨rfl, rfl⟩
        clear S2
        go_wp2_with fail
        go_ret2
        exact ⟨⟨_, [], by rw [HS.out]; rfl, new_nil _ _, Lib.hid (fun us hus => by rw [HS.out] at hus; cases hus)⟩, Upd.refl _ _⟩

end Go.Proofs.YtcnaapiljmgfoaaGreatDoor

/-
  Words read as numbers.
-/
namespace Go.Proofs.YtcnaapiljmgfoaaGreatDoor
open Go.RowKit

def NumsV (ps : List (List UInt8)) (w : World) (e : Ending) (w' : World) : Prop :=
  (∃ v', e = .returned (.tuple #[v', .bool (numsF ps).isSome]) ∧ New R1 w w' v' ((numsF ps).getD [])) ∧ Upd [] w w'

set_option maxRecDepth 20000 in
set_option maxHeartbeats 4000000 in
theorem readNumbersI (v : Value) (ps : List (List UInt8)) (w : World) (fp : List Nat) (hR : slF 1 (fun s => [es s]) fp w [v] ps) (hl : ps.length ≤ 2000001) (hp : ∀ p ∈ ps, p.length ≤ 2000000) (he : Env w) :
    Calls Tryz.prog 129 #[v] w (NumsV ps w) := by
  obtain ⟨i1, ki, kz0, kz1, kz2⟩ := info_parts Tryz.info2
  obtain ⟨a, cap, rfl, h1, h2, -⟩ := slF1_open hR
  unfold maxLen at h2
  have hlit := World.ownsRow_nil w w.heap.size 2 1
  have HLIT := Lib.hid hlit
  have HR := Lib.hid hR
  have HP := Lib.hid hp
  have HE := Lib.hid he
  clear hR hp he hlit
  go_enter Tryz.func129, Tryz.ntmps129
  go_wp2_with fail
  go_loopw [4, 11] (fun ov i wr => ∃ (k : Nat) (ns : List Int), k ≤ ps.length ∧ i = .int .i64 k ∧ ns.length = k ∧ Hid (numsF ps = (numsF (ps.drop k)).map (ns ++ ·)) ∧ Hid (wr.ownsRow w.heap.size 2 1 ov k (ns.map ei)) ∧ Upd [] w wr) (fun _ i _ => ps.length - (intOf i).toNat)
  case atStart => exact ⟨0, [], by omega, rfl, rfl, Lib.hid (by simp), HLIT, Upd.refl _ _⟩
  case round =>
    clear HLIT
    obtain ⟨k, ns, hk, rfl, hnl, hF, hown, hU⟩ := hrel
    have HNL := Lib.hid hnl
    clear hnl
    by_cases hlt : k < ps.length
    · obtain ⟨a', cap', hv, -, -, hc⟩ := slF1_open ((slF_kept _ _).upd HR.out hU (by simp))
      cases hv
      obtain ⟨b1, o1, rfl, -, -, p1⟩ := hc k hlt
      have hF1 := hF.out
      rw [List.drop_eq_getElem_cons hlt, numsF_cons] at hF1
      have hpk := HP.out ps[k] (List.getElem_mem hlt)
      have HF := Lib.hid hF1
      have HU := Lib.hid hU
      clear hF1 hF hc
      generalize ps[k] = s at *
      have S1 := Lib.hid (readDecimalI s wr hpk (HE.out.upd hU))
      clear hU
      go_wp2_with fail
      refine S1.out.mono ?_
      rintro e w3 ⟨rfl, hu3⟩
      have HU3 := Lib.hid (HU.out.trans hu3)
      have hown3 := ownsRow_upd hown.out hu3
      have hsz3 := HU3.out.size
      clear S1 HU hu3 hown
      cases hn : numF s with
      | none =>
        rw [hn] at HF
        have HN := Lib.hid (show numsF ps = none from HF.out)
        clear HF hown3
        go_wp2_with fail
        go_ret2
        exact ⟨⟨_, by rw [HN.out]; rfl, by rw [HN.out]; exact new_nil _ _⟩, HU3.out⟩
      | some x =>
        rw [hn] at HF
        have HN := Lib.hid (show numsF ps = (numsF (ps.drop (k + 1))).map ((ns ++ [x]) ++ ·) by
          rw [HF.out]
          simp [Function.comp_def])
        clear HF
        simp only [Option.getD_some, Option.isSome_some]
        go_wp2_with (first
          | (at_builtin; refine wpList_append_tight _ rfl _ _ 45 rfl w.heap.size 2 i1 (.int .i64 0) 1 8 Tryz.underlying45 ki kz0 kz1 kz2 rfl (by decide) _ _ _ rfl (hown3.alloc _) ⟨w3.heap.size, 0, none⟩ 1 1 [ei x] rfl rfl (fun j u hj => by rw [addr_add]; exact cell_new w3 #[ei x] _ _ rfl _ _ (by simpa using hj)) (by simp [Value.oneCell']) (by unfold maxLen; omega) (by omega) (by simp; omega) ?_)
          | fail)
        intro v4 w4 hown4 hg4 ht4
        have hu4 : Upd [] w w4 := (HU3.out.alloc _).grown hg4 (fun b hb => Or.inl (by have := (hown3.lt b hb).1; omega))
        have HQ := Lib.hid (And.intro hown4 hu4)
        clear hown4 hg4 ht4 hu4 hown3
        go_wp2_with fail
        go_roundw
        case rel => exact ⟨k + 1, ns ++ [x], by omega, by go_num, by simp [HNL.out], HN, Lib.hid (by simpa using HQ.out.1), HQ.out.2⟩
        case measure => simp [intOf]; omega
    · obtain rfl : k = ps.length := by omega
      have hF1 := hF.out
      rw [List.drop_of_length_le (Nat.le_refl _)] at hF1
      have HN := Lib.hid (show numsF ps = some ns by rw [hF1]; simp [numsF])
      have HQ := Lib.hid (And.intro (New.ofOwns (w := w) (e := 2) (enc := ei) (xs := ns) (by rw [HNL.out]; exact hown.out)) hU)
      clear hown hU hF hF1
      go_wp2_with fail
      go_ret2
      exact ⟨⟨_, by rw [HN.out]; rfl, by rw [HN.out]; exact HQ.out.1⟩, HQ.out.2⟩

end Go.Proofs.YtcnaapiljmgfoaaGreatDoor

/-
  Labels made and read: what the program's calls return.
-/
namespace Go.Proofs.YtcnaapiljmgfoaaGreatDoor
open Go.RowKit

def LabV (name : List UInt8) (xs : List Int) (w : World) (e : Ending) (w' : World) : Prop :=
  (∃ t : List UInt8, e = .returned (.tuple #[es t, .bool (labT name xs).isSome]) ∧ Hid (∀ s, labT name xs = some s → t = s)) ∧ Upd [] w w'

theorem isV_itoa {x : Int} (h : isV x = true) : (-9223372036854775808 ≤ x ∧ x ≤ 9223372036854775807) ∧ (Lib.itoa x).length ≤ 30 := by
  have hb := inB_true h
  have h1 := itoa_len64 h
  have h2 : (Lib.itoa x).length ≤ (digL (Lib.itoa x)).length + 1 := by unfold digL; split <;> simp <;> omega
  omega

theorem labT_no {name : List UInt8} {xs : List Int} (ht : name ≠ tauL) (h : (actF name && decide (xs.length ≤ 2) && xs.all isV) = false) : labT name xs = none := by
  unfold labT; rw [if_neg ht, h]; rfl
theorem labT_yes {name : List UInt8} {xs : List Int} (ht : name ≠ tauL) (h : (actF name && decide (xs.length ≤ 2) && xs.all isV) = true) : labT name xs = some (if xs = [] then name else ((name ++ [40]) ++ txtV xs) ++ [41]) := by
  unfold labT; rw [if_neg ht, if_pos h]

set_option maxRecDepth 20000 in
set_option maxHeartbeats 4000000 in
theorem labelOfI (name : List UInt8) (v : Value) (xs : List Int) (w : World) (fp : List Nat) (hn : name.length ≤ 2000000) (hR : R1 fp w [v] xs) (he : Env w) :
    Calls Tryz.prog 132 #[es name, v] w (LabV name xs w) := by
  obtain ⟨a, cap, rfl, h1, h2, -⟩ := slF1_open hR
  unfold maxLen at h2
  by_cases htau : name = tauL
  · have HT := Lib.hid (show labT name xs = if xs = [] then some tauL else none by unfold labT; rw [if_pos htau])
    have e1 : es name = .string ⟨#[116, 97, 117]⟩ := by rw [htau]; rfl
    rw [e1]
    clear hR he e1 htau
    cases xs with
    | nil =>
      go_enter Tryz.func132, Tryz.ntmps132
      go_wp2_with fail
      go_ret2
      exact ⟨⟨tauL, by rw [HT.out]; rfl, Lib.hid (fun s hs => by rw [HT.out] at hs; simpa using hs)⟩, Upd.refl _ _⟩
    | cons x xs =>
      have g0 : ¬ (((x :: xs).length : Int) = 0) := by simp; omega
      have HT2 := Lib.hid (show labT name (x :: xs) = none by rw [HT.out]; rfl)
      clear HT
      generalize x :: xs = ys at *
      have g1 : ((ys.length : Int) == 0) = false := by simpa using g0
      go_enter Tryz.func132, Tryz.ntmps132
      go_wp2_with fail
      go_ret2
      exact ⟨⟨tauL, by rw [HT2.out]; first | rfl | (simp [tauL, g1, es]), Lib.hid (fun s hs => by rw [HT2.out] at hs; cases hs)⟩, Upd.refl _ _⟩
  · have g0 : (name == [116, 97, 117]) = false := by simpa [tauL] using htau
    have HTAU := Lib.hid htau
    have S1 := Lib.hid (isActionI name w hn)
    cases ha : actF name with
    | false =>
      have HT := Lib.hid (labT_no (xs := xs) htau (by rw [ha]; rfl))
      rw [ha] at S1
      clear hR he htau ha
      go_enter Tryz.func132, Tryz.ntmps132
      go_wp2_with fail
      refine S1.out.mono ?_
      rintro e w1 ⟨rfl, rfl⟩
      clear S1
      go_wp2_with fail
      go_ret2
      exact ⟨⟨[], by rw [HT.out]; rfl, Lib.hid (fun s hs => by rw [HT.out] at hs; cases hs)⟩, Upd.refl _ _⟩
    | true =>
      rw [ha] at S1
      by_cases hlen : xs.length ≤ 2
      · have g3 : ¬ ((2 : Int) < (xs.length : Int)) := by omega
        have S2 := Lib.hid (areValues _ xs w fp hR)
        cases hv : xs.all isV with
        | false =>
          have HT := Lib.hid (labT_no (xs := xs) htau (by rw [hv]; simp))
          rw [hv] at S2
          clear hR he htau ha hv hlen
          go_enter Tryz.func132, Tryz.ntmps132
          go_wp2_with fail
          refine S1.out.mono ?_
          rintro e w1 ⟨rfl, rfl⟩
          clear S1
          go_wp2_with fail
          refine S2.out.mono ?_
          rintro e w1 ⟨rfl, rfl⟩
          clear S2
          go_wp2_with fail
          go_ret2
          exact ⟨⟨[], by rw [HT.out]; rfl, Lib.hid (fun s hs => by rw [HT.out] at hs; cases hs)⟩, Upd.refl _ _⟩
        | true =>
          have HT := Lib.hid (labT_yes (xs := xs) htau (by rw [ha, hv, decide_eq_true hlen]; rfl))
          rw [hv] at S2
          by_cases h0 : xs = []
          · have HT2 := Lib.hid (HT.out.trans (by rw [if_pos h0]))
            have g4 : ((xs.length : Int) == 0) = true := by rw [h0]; rfl
            clear hR he htau ha hv hlen h0 HT
            go_enter Tryz.func132, Tryz.ntmps132
            go_wp2_with fail
            refine S1.out.mono ?_
            rintro e w1 ⟨rfl, rfl⟩
            clear S1
            go_wp2_with fail
            refine S2.out.mono ?_
            rintro e w1 ⟨rfl, rfl⟩
            clear S2
            go_wp2_with fail
            go_ret2
            exact ⟨⟨name, by rw [HT2.out]; rfl, Lib.hid (fun s hs => by rw [HT2.out] at hs; simpa using hs)⟩, Upd.refl _ _⟩
          · have HT2 := Lib.hid (HT.out.trans (by rw [if_neg h0]))
            have hpos : 0 < xs.length := List.length_pos_iff.2 h0
            have g4 : ((xs.length : Int) == 0) = false := by simp; omega
            have S3 := Lib.hid (joinedI _ xs w fp hR hpos (by omega) (fun x hx => isV_itoa (List.all_eq_true.1 hv x hx)) he)
            have hjl : (txtV xs).length ≤ 2 * 31 := by
              refine Nat.le_trans (joinC_le 44 30 (xs.map Lib.itoa) (fun p hp => ?_)) ?_
              · obtain ⟨x, hx, rfl⟩ := List.mem_map.1 hp
                exact (isV_itoa (List.all_eq_true.1 hv x hx)).2
              · rw [List.length_map]; omega
            clear hR he htau ha hv hlen h0 HT
            generalize txtV xs = J at *
            go_enter Tryz.func132, Tryz.ntmps132
            go_wp2_with fail
            refine S1.out.mono ?_
            rintro e w1 ⟨rfl, rfl⟩
            clear S1
            go_wp2_with fail
            refine S2.out.mono ?_
            rintro e w1 ⟨rfl, rfl⟩
            clear S2
            go_wp2_with fail
            refine S3.out.mono ?_
            rintro e w3 ⟨rfl, hu3⟩
            have HU := Lib.hid hu3
            clear S3 hu3
            go_wp2_with fail
            go_ret2
            exact ⟨⟨_, by rw [HT2.out]; rfl, Lib.hid (fun s hs => by rw [HT2.out] at hs; simpa using hs)⟩, HU.out⟩
      · have g3 : (2 : Int) < (xs.length : Int) := by omega
        have HT := Lib.hid (labT_no (xs := xs) htau (by rw [decide_eq_false hlen]; simp))
        clear hR he htau ha hlen
        go_enter Tryz.func132, Tryz.ntmps132
        go_wp2_with fail
        refine S1.out.mono ?_
        rintro e w1 ⟨rfl, rfl⟩
        clear S1
        go_wp2_with fail
        go_ret2
        exact ⟨⟨[], by rw [HT.out]; rfl, Lib.hid (fun s hs => by rw [HT.out] at hs; cases hs)⟩, Upd.refl _ _⟩

end Go.Proofs.YtcnaapiljmgfoaaGreatDoor

/-
  Labels read: what the program's calls return.
-/
namespace Go.Proofs.YtcnaapiljmgfoaaGreatDoor
open Go.RowKit

theorem es_bytes (b : ByteArray) : es b.data.toList = .string b := by simp [es]

theorem splitC_len (c : UInt8) : ∀ l : List UInt8, (splitC c l).length ≤ l.length + 1 ∧ ∀ p ∈ splitC c l, p.length ≤ l.length
  | [] => by simp [splitC]
  | b :: l => by
    obtain ⟨h1, h2⟩ := splitC_len c l
    by_cases hb : b = c
    · subst hb
      have e : splitC b (b :: l) = [] :: splitC b l := by rw [splitC, if_pos rfl]
      rw [e]
      refine ⟨by simp; omega, fun p hp => ?_⟩
      rcases List.mem_cons.1 hp with rfl | hp
      · simp
      · have := h2 p hp; simp; omega
    · obtain ⟨p, ps, e1, e2⟩ := splitC_cons c b l hb
      rw [e2]
      rw [e1] at h1 h2
      refine ⟨by simp at h1 ⊢; omega, fun q hq => ?_⟩
      rcases List.mem_cons.1 hq with rfl | hq
      · have := h2 p (by simp); simp; omega
      · have := h2 q (by simp [hq]); simp; omega

theorem cut_len (s sep : List UInt8) : (Lib.cut s sep).1.length ≤ s.length ∧ (Lib.cut s sep).2.1.length ≤ s.length := by
  unfold Lib.cut
  split <;> simp <;> omega
theorem trim_len (s p : List UInt8) : (Lib.trimSuffix s p).length ≤ s.length := by
  unfold Lib.trimSuffix
  split <;> simp <;> omega
theorem cut_false {s : List UInt8} (h : (Lib.cut s [40]).2.2 = false) : Lib.cut s [40] = (s, [], false) := by
  unfold Lib.cut at h ⊢
  split at h
  · cases h
  · rename_i h1; rw [if_neg h1]

theorem cutI (l : List UInt8) (w : World) (hl : l.length ≤ 2000000) (he : Env w) :
    Calls Tryz.prog 128 #[es l, .string ⟨#[40]⟩] w fun e w' => e = .returned (.tuple #[es (Lib.cut l [40]).1, es (Lib.cut l [40]).2.1, .bool (Lib.cut l [40]).2.2]) ∧ Upd [] w w' := by
  obtain ⟨m, hm⟩ := he.m
  have hsz : (⟨l.toArray⟩ : ByteArray).size = l.length := rfl
  refine (Tryz.strings_Cut ⟨l.toArray⟩ ⟨#[40]⟩ m w (by rw [hsz]; omega) hm).mono ?_
  rintro e w1 ⟨rfl, n, rfl⟩
  exact ⟨rfl, (Upd.refl _ _).drewN n⟩

theorem trimI (l : List UInt8) (w : World) (hl : l.length ≤ 2000000) :
    Calls Tryz.prog 131 #[es l, .string ⟨#[41]⟩] w fun e w' => e = .returned (es (Lib.trimSuffix l [41])) ∧ w' = w := by
  have hsz : (⟨l.toArray⟩ : ByteArray).size = l.length := rfl
  exact (Tryz.strings_TrimSuffix ⟨l.toArray⟩ ⟨#[41]⟩ w (by rw [hsz]; omega)).mono (fun e w1 h => h)

theorem splitI (l : List UInt8) (w : World) (hl : l.length ≤ 2000000) (he : Env w) :
    Calls Tryz.prog 130 #[es l, .string ⟨#[44]⟩] w fun e w' => (∃ v', e = .returned v' ∧ New RS w w' v' (splitC 44 l)) ∧ Upd [] w w' := by
  obtain ⟨m, hm⟩ := he.m
  have hsz : (⟨l.toArray⟩ : ByteArray).size = l.length := rfl
  have hlen := Lib.splitB_all ⟨#[44]⟩ (by decide) 0 (Lib.countB ⟨l.toArray⟩ ⟨#[44]⟩) ⟨l.toArray⟩ rfl
  have hdat : (Lib.splitB ⟨#[44]⟩ 0 (Lib.countB ⟨l.toArray⟩ ⟨#[44]⟩) ⟨l.toArray⟩).map (·.data.toList) = splitC 44 l := by
    rw [Lib.splitB_data]; exact split_lib 44 l
  refine (Tryz.strings_Split ⟨l.toArray⟩ ⟨#[44]⟩ m w (by rw [hsz]; omega) hm (by decide)).mono ?_
  rintro e w1 ⟨rfl, rfl⟩
  generalize Lib.splitB ⟨#[44]⟩ 0 (Lib.countB ⟨l.toArray⟩ ⟨#[44]⟩) ⟨l.toArray⟩ = bs at *
  generalize Lib.countB ⟨l.toArray⟩ ⟨#[44]⟩ = n at *
  have hsp := (splitC_len 44 l).1
  have hmap : bs.map Value.string = (splitC 44 l).map es := by
    rw [← hdat, List.map_map]
    exact List.map_congr_left (fun b _ => (es_bytes b).symm)
  have hn : n + 1 = (splitC 44 l).length := by rw [← hdat, List.length_map, hlen]
  rw [hmap, hn]
  exact ⟨⟨_, rfl, new_lit (enc := es) w 9 (splitC 44 l) (by unfold maxLen; omega)⟩, (Upd.refl _ _).alloc _⟩

def ReadV (s : List UInt8) (w : World) (e : Ending) (w' : World) : Prop :=
  (∃ (n : List UInt8) (v' : Value) (vs : List Int), e = .returned (.tuple #[es n, v', .bool (readF s).isSome]) ∧ New R1 w w' v' vs ∧ (readF s).getD ([], []) = (n, vs)) ∧ Upd [] w w'

set_option maxRecDepth 20000 in
set_option maxHeartbeats 4000000 in
theorem readLabelI (s : List UInt8) (w : World) (hl : s.length ≤ 2000000) (he : Env w) : Calls Tryz.prog 110 #[es s] w (ReadV s w) := by
  have S1 := Lib.hid (cutI s w hl he)
  obtain ⟨hc1, hc2⟩ := cut_len s [40]
  have HE := Lib.hid he
  clear he
  cases hm : (Lib.cut s [40]).2.2 with
  | false =>
    have hcf := cut_false hm
    have HF := Lib.hid (show readF s = if labT s [] = some s then some (s, []) else none by unfold readF; rw [hm]; rfl)
    rw [hcf] at S1
    clear hm hcf hc1 hc2
    go_enter Tryz.func110, Tryz.ntmps110
    go_wp2_with fail
    refine S1.out.mono ?_
    rintro e w1 ⟨rfl, hu1⟩
    obtain ⟨f0, hR0, hO0, hG0⟩ := new_nil w w1
    have S4 := Lib.hid (labelOfI s (.slice none 0 0) [] w1 f0 hl hR0 (HE.out.upd hu1))
    have HU1 := Lib.hid hu1
    have HN := Lib.hid (show New R1 w w1 (.slice none 0 0) [] from ⟨f0, hR0, hO0, hG0⟩)
    clear S1 hu1 hR0 hO0 hG0
    go_wp2_with fail
    refine S4.out.mono ?_
    rintro e w4 ⟨⟨t, rfl, ht⟩, hu4⟩
    have HU := Lib.hid (HU1.out.trans hu4)
    have HN4 := Lib.hid (R1k.new HN.out hu4 (by simp))
    clear S4 HU1 HN hu4
    cases hL : labT s [] with
    | none =>
      have HR := Lib.hid (show readF s = none by rw [HF.out, hL]; rfl)
      clear HF ht hL
      go_wp2_with fail
      go_ret3
      exact ⟨⟨[], _, [], by rw [HR.out]; rfl, new_nil _ _, by rw [HR.out]; rfl⟩, HU.out⟩
    | some s' =>
      obtain rfl := ht.out s' hL
      by_cases heq : t = s
      · have HR := Lib.hid (show readF s = some (s, []) by rw [HF.out, hL, if_pos (by rw [heq])])
        clear HF hL
        subst heq
        clear ht
        go_wp2_with fail
        go_ret3
        exact ⟨⟨t, _, [], by rw [HR.out]; rfl, HN4.out, by rw [HR.out]; rfl⟩, HU.out⟩
      · have HR := Lib.hid (show readF s = none by rw [HF.out, hL, if_neg (by simpa using heq)])
        have hne : (t == s) = false := by simpa using heq
        clear HF ht hL
        go_wp2_with fail
        go_ret3
        exact ⟨⟨[], _, [], by rw [HR.out]; rfl, new_nil _ _, by rw [HR.out]; rfl⟩, HU.out⟩
  | true =>
    have HF := Lib.hid (show readF s = match numsF (splitC 44 (Lib.trimSuffix (Lib.cut s [40]).2.1 [41])) with
      | none => none
      | some vs => if labT (Lib.cut s [40]).1 vs = some s then some ((Lib.cut s [40]).1, vs) else none by unfold readF; rw [hm]; rfl)
    rw [hm] at S1
    clear hm
    generalize (Lib.cut s [40]).1 = nm at *
    generalize (Lib.cut s [40]).2.1 = rest at *
    have htl := trim_len rest [41]
    have hnm : nm.length ≤ 2000000 := by omega
    have S2 := Lib.hid (fun w1 : World => trimI rest w1 (by omega))
    generalize Lib.trimSuffix rest [41] = r2 at *
    obtain ⟨hp1, hp2⟩ := splitC_len 44 r2
    have S3 := Lib.hid (fun (w1 : World) (hu : Upd [] w w1) => splitI r2 w1 (by omega) (HE.out.upd hu))
    generalize splitC 44 r2 = ps at *
    have HPL := Lib.hid (show ∀ p ∈ ps, p.length ≤ 2000000 from fun p hp => by have := hp2 p hp; omega)
    have hpl : ps.length ≤ 2000001 := by omega
    clear hp1 hp2 htl hc1 hc2
    go_enter Tryz.func110, Tryz.ntmps110
    go_wp2_with fail
    refine S1.out.mono ?_
    rintro e w1 ⟨rfl, hu1⟩
    have S2 := Lib.hid (S2.out w1)
    have S3 := Lib.hid (S3.out w1 hu1)
    have HU1 := Lib.hid hu1
    clear S1 hu1
    go_wp2_with fail
    refine S2.out.mono ?_
    rintro e w2 ⟨rfl, rfl⟩
    clear S2
    go_wp2_with fail
    refine S3.out.mono ?_
    rintro e w3 ⟨⟨v3, rfl, fq, hq1, hq2, hq3⟩, hu3⟩
    have HU3 := Lib.hid (HU1.out.trans hu3)
    have S4 := Lib.hid (readNumbersI v3 ps w3 fq hq1 (by omega) HPL.out (HE.out.upd HU3.out))
    have hsz3 := HU3.out.size
    clear S3 HU1 hu3 hq1 hq2 hq3
    go_wp2_with fail
    refine S4.out.mono ?_
    rintro e w4 ⟨⟨v4, rfl, hn4⟩, hu4⟩
    have HU4 := Lib.hid (HU3.out.trans hu4)
    clear S4 HU3 hu4
    cases hN : numsF ps with
    | none =>
      have HR := Lib.hid (show readF s = none by rw [HF.out, hN])
      clear HF hN hn4
      go_wp2_with fail
      go_ret3
      exact ⟨⟨[], _, [], by rw [HR.out]; rfl, new_nil _ _, by rw [HR.out]; rfl⟩, HU4.out⟩
    | some vs =>
      rw [hN] at hn4 HF
      have HF2 := Lib.hid (show readF s = if labT nm vs = some s then some (nm, vs) else none from HF.out)
      obtain ⟨f4, hr4, -, -⟩ := id hn4
      have S5 := Lib.hid (labelOfI nm v4 vs w4 f4 hnm hr4 (HE.out.upd HU4.out))
      have HN := Lib.hid (show New R1 w w4 v4 vs from hn4.mono hsz3)
      clear HF hN hn4 hr4
      go_wp2_with fail
      refine S5.out.mono ?_
      rintro e w5 ⟨⟨t, rfl, ht⟩, hu5⟩
      have HU := Lib.hid (HU4.out.trans hu5)
      have HN5 := Lib.hid (R1k.new HN.out hu5 (by simp))
      clear S5 HU4 HN hu5
      cases hL : labT nm vs with
      | none =>
        have HR := Lib.hid (show readF s = none by rw [HF2.out, hL]; rfl)
        clear HF2 ht hL
        go_wp2_with fail
        go_ret3
        exact ⟨⟨[], _, [], by rw [HR.out]; rfl, new_nil _ _, by rw [HR.out]; rfl⟩, HU.out⟩
      | some s' =>
        obtain rfl := ht.out s' hL
        by_cases heq : t = s
        · have HR := Lib.hid (show readF s = some (nm, vs) by rw [HF2.out, hL, if_pos (by rw [heq])])
          clear HF2 hL
          subst heq
          clear ht
          go_wp2_with fail
          go_ret3
          exact ⟨⟨nm, _, vs, by rw [HR.out]; rfl, HN5.out, by rw [HR.out]; rfl⟩, HU.out⟩
        · have HR := Lib.hid (show readF s = none by rw [HF2.out, hL, if_neg (by simpa using heq)])
          have hne : (t == s) = false := by simpa using heq
          clear HF2 ht hL
          go_wp2_with fail
          go_ret3
          exact ⟨⟨[], _, [], by rw [HR.out]; rfl, new_nil _ _, by rw [HR.out]; rfl⟩, HU.out⟩

set_option maxRecDepth 20000 in
theorem isLabelI (s : List UInt8) (w : World) (hl : s.length ≤ 2000000) (he : Env w) : Calls Tryz.prog 86 #[es s] w fun e w' => e = .returned (.bool (readF s).isSome) ∧ Upd [] w w' := by
  have S1 := Lib.hid (readLabelI s w hl he)
  clear he
  go_enter Tryz.func86, Tryz.ntmps86
  go_wp2_with fail
  refine S1.out.mono ?_
  rintro e w1 ⟨⟨n, v, vs, rfl, hn, hr⟩, hu⟩
  have HU := Lib.hid hu
  clear S1 hn hr hu
  go_wp2_with fail
  go_ret
  exact ⟨rfl, HU.out⟩

def ValuesV (s : List UInt8) (w : World) (e : Ending) (w' : World) : Prop :=
  (∃ (v' : Value), e = .returned (.tuple #[v', .bool (readF s).isSome]) ∧ New R1 w w' v' ((readF s).getD ([], [])).2) ∧ Upd [] w w'

end Go.Proofs.YtcnaapiljmgfoaaGreatDoor

/-
  Lists of labels: what the program's and the reference's calls return.
-/
namespace Go.Proofs.YtcnaapiljmgfoaaGreatDoor
open Go.RowKit

/-- whether a text is a label. -/
def isLab (s : List UInt8) : Bool := (readF s).isSome

def IdxL (xs : List (List UInt8)) (w : World) (e : Ending) (w' : World) : Prop := (∃ q : Int, e = .returned (.int .i64 q) ∧ -1 ≤ q ∧ q ≤ 9223372036854775807 ∧ decide (0 ≤ q) = xs.any (fun n => !isLab n)) ∧ Upd [] w w'

set_option maxRecDepth 20000 in
theorem labelS (s : List UInt8) (w : World) (hl : s.length ≤ 2000000) : Calls Tryz.prog 83 #[es s] w fun e w' => e = .returned (.bool (isLab s)) ∧ Upd [] w w' := by
  have S1 := Lib.hid (valuesS s w hl)
  go_enter Tryz.func83, Tryz.ntmps83
  go_wp2_with fail
  refine S1.out.mono ?_
  rintro e w1 ⟨⟨v, vs, rfl, hn, -⟩, hu⟩
  have HU := Lib.hid hu
  clear S1 hn hu
  go_wp2_with fail
  go_ret
  exact ⟨rfl, HU.out⟩

theorem joinC_snoc (c : UInt8) : ∀ (ps : List (List UInt8)) (p : List UInt8), ps ≠ [] → joinC c (ps ++ [p]) = joinC c ps ++ ([c] ++ p)
  | [], _, h => absurd rfl h
  | [q], p, _ => by simp [joinC]
  | q :: r :: ps, p, _ => by
    have h := joinC_snoc c (r :: ps) p (by simp)
    simp only [List.cons_append] at h ⊢
    simp only [joinC]
    rw [h]; simp
theorem joinC_tot (c : UInt8) : ∀ ps : List (List UInt8), ((joinC c ps).length : Int) ≤ totS ps + ps.length
  | [] => by simp [joinC, totS]
  | [p] => by simp [joinC, totS]; omega
  | p :: q :: ps => by
    have h := joinC_tot c (q :: ps)
    simp only [joinC, totS, List.map_cons, List.sum_cons, List.length_append, List.length_cons] at h ⊢
    omega

end Go.Proofs.YtcnaapiljmgfoaaGreatDoor

/-
  Binary images, plainly: numbers, texts, the check value, the seal.
-/
namespace Go.Proofs.YtcnaapiljmgfoaaGreatDoor
open Go.RowKit

/-- a number in bytes of seven bits. -/
def numL (n : Nat) : List UInt8 := if h : n < 128 then [UInt8.ofNat n] else UInt8.ofNat (128 + n % 128) :: numL (n / 128)
termination_by n
decreasing_by omega
theorem numL_small {n : Nat} (h : n < 128) : numL n = [UInt8.ofNat n] := by rw [numL, dif_pos h]
theorem numL_big {n : Nat} (h : ¬ n < 128) : numL n = UInt8.ofNat (128 + n % 128) :: numL (n / 128) := by rw [numL, dif_neg h]
theorem numL_len (n j : Nat) (h : n < 128 ^ (j + 1)) : (numL n).length ≤ j + 1 := by
  induction j generalizing n with
  | zero => rw [numL_small (by omega)]; simp
  | succ j ih =>
    by_cases hn : n < 128
    · rw [numL_small hn]; simp
    · rw [numL_big hn, List.length_cons]
      have := ih (n / 128) (by rw [Nat.pow_succ] at h; omega)
      omega
/-- a text behind its length. -/
def textL (s : List UInt8) : List UInt8 := numL s.length ++ s

/-- one bit of the check value. -/
def crcB (c : Nat) : Nat := if 65535 < c * 2 then ((c * 2) &&& 65535) ^^^ 4129 else c * 2
def crcN : Nat → Nat → Nat
  | 0, c => c
  | n + 1, c => crcN n (crcB c)
def crcY (c : Nat) (b : UInt8) : Nat := crcN 8 (c ^^^ (b.toNat * 256))
def crcL : List UInt8 → Nat → Nat
  | [], c => c
  | b :: l, c => crcL l (crcY c b)
theorem crcB_lt {c : Nat} (h : c < 65536) : crcB c < 65536 := by
  unfold crcB
  split
  · refine Nat.xor_lt_two_pow (n := 16) ?_ (by decide)
    have : (c * 2) &&& 65535 ≤ 65535 := Nat.and_le_right
    omega
  · omega
theorem crcN_lt : ∀ (n : Nat) {c : Nat}, c < 65536 → crcN n c < 65536
  | 0, _, h => h
  | n + 1, _, h => crcN_lt n (crcB_lt h)
theorem crcX_lt {c : Nat} (b : UInt8) (h : c < 65536) : c ^^^ (b.toNat * 256) < 65536 :=
  Nat.xor_lt_two_pow (n := 16) (by omega) (by have := b.toNat_lt; omega)
theorem crcY_lt {c : Nat} (b : UInt8) (h : c < 65536) : crcY c b < 65536 := crcN_lt 8 (crcX_lt b h)
theorem crcL_lt : ∀ (l : List UInt8) {c : Nat}, c < 65536 → crcL l c < 65536
  | [], _, h => h
  | b :: l, _, h => crcL_lt l (crcY_lt b h)

/-- an image: its check value behind the contents, if it is not too long. -/
def sealL (body : List UInt8) : List UInt8 := if 6000 < body.length + 2 then [] else body ++ [UInt8.ofNat (crcL body 65535 / 256), UInt8.ofNat (crcL body 65535 % 256)]

/-- the contents of a system's image. -/
def sysB (x : Sys) : List UInt8 :=
  (((numL x.st.toNat ++ numL x.ini.toNat) ++ numL x.labs.length) ++ (x.labs.drop 1).flatMap textL) ++ (numL x.eds.length ++ x.eds.flatMap fun e => (numL e.fr.toNat ++ numL e.lb.toNat) ++ numL e.to.toNat)
def sysImg (x : Sys) : List UInt8 := sealL (1 :: sysB x)

/-- texts in order. -/
def bl (a b : List UInt8) : Bool := Op.bytesLess a b
theorem bl_total : ∀ a b : List UInt8, (bl a b || a == b) = !bl b a
  | [], [] => rfl
  | [], _ :: _ => rfl
  | _ :: _, [] => rfl
  | a :: x, b :: y => by
    have ih := bl_total x y
    unfold bl at ih ⊢
    simp only [Op.bytesLess]
    rcases Nat.lt_trichotomy a.toNat b.toNat with h | h | h
    · have h1 : a < b := UInt8.lt_iff_toNat_lt.2 h
      have h2 : ¬ b < a := fun h2 => by have := UInt8.lt_iff_toNat_lt.1 h2; omega
      have h3 : ¬ b = a := fun e => by rw [e] at h; omega
      simp [h1, h2, h3]
    · have e : a = b := UInt8.toNat_inj.1 h
      subst e
      have h2 : ¬ a < a := fun h2 => by have := UInt8.lt_iff_toNat_lt.1 h2; omega
      simp only [h2, decide_false, Bool.false_or, beq_self_eq_true, Bool.true_and]
      rw [← ih]
      simp
    · have h1 : b < a := UInt8.lt_iff_toNat_lt.2 h
      have h2 : ¬ a < b := fun h2 => by have := UInt8.lt_iff_toNat_lt.1 h2; omega
      have h3 : ¬ a = b := fun e => by rw [e] at h; omega
      simp [h1, h2, h3]
def edLt (a b : Ed) : Bool := if a.fr ≠ b.fr then decide (a.fr < b.fr) else if a.lb ≠ b.lb then decide (a.lb < b.lb) else decide (a.to < b.to)

/-- all of m from k on. -/
def allF (P : Nat → Bool) : Nat → Nat → Bool
  | _, 0 => true
  | k, m + 1 => P k && allF P (k + 1) m
theorem allF_step (P : Nat → Bool) (k n : Nat) (h : k < n) : allF P k (n - k) = (P k && allF P (k + 1) (n - (k + 1))) := by
  obtain ⟨m, hm⟩ : ∃ m, n - k = m + 1 := ⟨n - k - 1, by omega⟩
  rw [hm, allF, show n - (k + 1) = m by omega]
theorem allF_end (P : Nat → Bool) (n : Nat) : allF P n (n - n) = true := by rw [Nat.sub_self]; rfl

def labP (labs : List (List UInt8)) (i : Nat) : Bool := isLab (labs.getD i []) && ((labs.getD i [] == tauL) == decide (i = 0)) && (!decide (1 < i) || bl (labs.getD (i - 1) []) (labs.getD i []))
def edP (x : Sys) (i : Nat) : Bool :=
  inB (x.eds.getD i ⟨0, 0, 0⟩).fr 0 (x.st - 1) && inB (x.eds.getD i ⟨0, 0, 0⟩).to 0 (x.st - 1) && inB (x.eds.getD i ⟨0, 0, 0⟩).lb 0 (x.labs.length - 1) && (decide (i = 0) || edLt (x.eds.getD (i - 1) ⟨0, 0, 0⟩) (x.eds.getD i ⟨0, 0, 0⟩))
/-- the labels of a system are in order. -/
def labsOk (labs : List (List UInt8)) : Bool := decide (1 ≤ labs.length) && decide (labs.length ≤ 12) && allF (labP labs) 0 labs.length
/-- a system is valid. -/
def sysOk (x : Sys) : Bool := inB x.st 1 40 && inB x.ini 0 (x.st - 1) && labsOk x.labs && decide (x.eds.length ≤ 300) && allF (edP x) 0 x.eds.length

end Go.Proofs.YtcnaapiljmgfoaaGreatDoor
