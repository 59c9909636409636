/-
  Texts joined in one file: LabE, LabJ, LabC, BisS, BisO, BisI, BisC, LabN, LabL, LabM, TrT, EncP, BisQ, EncC, EncW, EncX, EncV, EncL, EncI, BisT0, BisF, BisP, BisV, BisA, BisB, BisE, BisG, LvP, SortG, SortGc, BisN, BisX, BisZ, LvQ, BisW.
-/
import Derived.Test.YtlondofadjcooaaGreatDoorZP1
import Derived.Test.YtlondofadjcooaaGreatDoorZP2
import Derived.Test.YtlondofadjcooaaGreatDoorShelf
import Derived.Deep.QuietTactic
import Derived.BigQuiet
import Derived.Deep.DeepCutAuto
import Derived.IntWalk
import Derived.Laws.Bits64b
import Derived.Lib.AppendStr
import Derived.Deep.RegionLaw
/-
  Numbers in decimal: what the program's calls return.
-/
namespace Go.Proofs.YtlondofadjcooaaGreatDoor
open Go.RowKit

/-- what the calls of the library read of the package's variables. -/
structure Env (w : World) : Prop where
  m : ∃ m : Int, w.cell? ⟨0, 0, none⟩ = some (.int .i64 m)
  tab : Lib.TabIs Tryz.prog w "internal/strconv.uint64pow10" .u64 Lib.pow10Tab
  syn : ∃ tp p, w.var? Tryz.prog "strconv.ErrSyntax" = some #[.iface tp p]
  rng : ∃ tp p, w.var? Tryz.prog "strconv.ErrRange" = some #[.iface tp p]

theorem Upd.var {P : Program} {w w1 : World} {n : String} {cs : Array Value} (hu : Upd [] w w1) (h : w.var? P n = some cs) : w1.var? P n = some cs := by
  unfold World.var? at h ⊢
  cases hg : P.globalNamed n with
  | none => rw [hg] at h; cases h
  | some g =>
    rw [hg] at h
    simp only [Option.bind_some] at h ⊢
    have hlt : g < w.heap.size := by
      rcases Nat.lt_or_ge g w.heap.size with h1 | h1
      · exact h1
      · rw [Array.getElem?_eq_none h1] at h; cases h
    rw [hu.block g hlt (by simp)]
    exact h

theorem Env.upd {w w1 : World} (h : Env w) (hu : Upd [] w w1) : Env w1 :=
  ⟨h.m.imp fun _ hm => hu.keep hm, hu.var h.tab, h.syn.imp fun _ hs => hs.imp fun _ hs => hu.var hs, h.rng.imp fun _ hs => hs.imp fun _ hs => hu.var hs⟩

theorem Upd.grow (w : World) (k : Nat) (os : Array Obj) : Upd [] w (Sort.grow (w.drewN k) os) := by
  refine ⟨rfl, rfl, rfl, ?_, fun i hi _ => ?_⟩
  · show w.heap.size ≤ (w.heap ++ os).size
    rw [Array.size_append]; omega
  · show (w.heap ++ os)[i]? = w.heap[i]?
    rw [Array.getElem?_append_left hi]

theorem decimal (n : Int) (w : World) (h0 : -9223372036854775808 ≤ n) (h1 : n ≤ 9223372036854775807) (he : Env w) :
    Calls Tryz.prog 137 #[.int .i64 n] w fun e w' => e = .returned (es (Lib.itoa n)) ∧ Upd [] w w' := by
  have S1 := Lib.hid (Tryz.strconv_FormatInt_10 n h0 h1 w he.tab)
  clear he h0 h1
  go_enter Tryz.func137, Tryz.ntmps137
  go_wp2_with fail
  refine S1.out.mono ?_
  rintro e w1 ⟨rfl, k, os, rfl⟩
  have HU := Lib.hid (Upd.grow w k os)
  generalize Sort.grow (w.drewN k) os = w1 at *
  clear S1
  go_wp2_with fail
  go_ret
  exact ⟨rfl, HU.out⟩

theorem isActionI (l : List UInt8) (w : World) (hl : l.length ≤ 2000000) :
    Calls Tryz.prog 125 #[es l] w fun e w' => e = .returned (.bool (actF l)) ∧ w = w' := by
  have S1 := Lib.hid (isNameI l w hl)
  cases hn : nameF l with
  | false =>
    have HR := Lib.hid (show actF l = false by simp [actF, hn])
    rw [hn] at S1
    clear hn
    go_enter Tryz.func125, Tryz.ntmps125
    go_wp2_with fail
    refine S1.out.mono ?_
    rintro e w1 ⟨rfl, rfl⟩
    clear S1
    go_wp2_with fail
    go_ret
    exact ⟨by rw [HR.out]; rfl, rfl⟩
  | true =>
    have HR := Lib.hid (show actF l = (l != tauL) by simp [actF, hn])
    rw [hn] at S1
    clear hn
    go_enter Tryz.func125, Tryz.ntmps125
    go_wp2_with fail
    refine S1.out.mono ?_
    rintro e w1 ⟨rfl, rfl⟩
    clear S1
    go_wp2_with fail
    go_ret
    refine ⟨?_, rfl⟩
    rw [HR.out]
    simp [tauL, bne]

theorem parse_range {l : List UInt8} {v : Int} (h : Lib.parseIntB 64 l = .ok v) : -9223372036854775808 ≤ v ∧ v ≤ 9223372036854775807 := by
  unfold Lib.parseIntB at h
  cases l with
  | nil => cases h
  | cons c r =>
    simp only at h
    split at h
    · cases h
    · cases h
    · split at h
      · cases h
      · split at h
        · cases h
        · rename_i h1 h2
          simp only [Lib.NumEnd.ok.injEq] at h
          subst h
          by_cases hc : c.toNat = 45
          · simp only [hc, not_true_eq_false, true_and, false_and, not_false_eq_true] at h1 h2
            simp only [hc, if_true]; omega
          · simp only [hc, not_false_eq_true, true_and, false_and] at h1 h2
            simp only [hc, if_false]; omega

theorem digL_trim (s : List UInt8) : Lib.trimPrefix s [45] = digL s := by
  cases s with
  | nil => rfl
  | cons b r =>
    by_cases hb : b = 45
    · subst hb; simp [Lib.trimPrefix, Lib.hasPrefix, digL, negL, List.isPrefixOf]
    · have h1 : (b == 45) = false := by simpa using hb
      have h2 : ((45 : UInt8) == b) = false := by simpa using fun e => hb e.symm
      simp [Lib.trimPrefix, Lib.hasPrefix, digL, negL, List.isPrefixOf, h1, h2]

def NumV (s : List UInt8) (w : World) (e : Ending) (w' : World) : Prop := e = .returned (.tuple #[.int .i64 ((numF s).getD 0), .bool (numF s).isSome]) ∧ Upd [] w w'

set_option maxRecDepth 20000 in
set_option maxHeartbeats 2000000 in
theorem readDecimalI (s : List UInt8) (w : World) (hl : s.length ≤ 2000000) (he : Env w) : Calls Tryz.prog 122 #[es s] w (NumV s w) := by
  have S1 := Lib.hid (Tryz.strings_TrimPrefix ⟨s.toArray⟩ ⟨#[45]⟩ w)
  have e1 : Lib.trimPrefix (⟨s.toArray⟩ : ByteArray).data.toList (⟨#[45]⟩ : ByteArray).data.toList = digL s := digL_trim s
  rw [e1] at S1
  clear e1
  have hdl : (digL s).length ≤ s.length := by
    unfold digL; split <;> simp
  by_cases hlen : 18 < (digL s).length
  · have HR := Lib.hid (show numF s = none by unfold numF; rw [if_pos (Or.inr (Or.inl hlen))])
    generalize digL s = d at *
    have g1 : (18 : Int) < (d.length : Int) := by omega
    clear hlen he
    go_enter Tryz.func122, Tryz.ntmps122
    go_wp2_with fail
    refine S1.out.mono ?_
    rintro e w1 ⟨rfl, rfl⟩
    clear S1
    go_wp2_with fail
    go_ret2
    exact ⟨by rw [HR.out]; rfl, Upd.refl _ _⟩
  · have hsz : (⟨s.toArray⟩ : ByteArray).size = s.length := rfl
    rcases hp : Lib.parseIntB 64 s with v | _ | _
    rotate_left
    · skip
      have HR := Lib.hid (show numF s = none by
        cases hn : numF s with
        | none => rfl
        | some n =>
          obtain ⟨a, -, b⟩ := numF_some hn
          rw [a, parse_itoa n b] at hp; cases hp)
      obtain ⟨tp, p, hsyn⟩ := he.syn
      have S2 := Lib.hid (Tryz.strconv_ParseInt_10_at64_syntax_var ⟨s.toArray⟩ (by rw [hsz]; omega) hp tp p w hsyn)
      clear hsyn hp hsz he
      generalize digL s = d at *
      have g1 : ¬ (18 : Int) < (d.length : Int) := by omega
      clear hlen
      go_enter Tryz.func122, Tryz.ntmps122
      go_wp2_with fail
      refine S1.out.mono ?_
      rintro e w1 ⟨rfl, rfl⟩
      clear S1
      go_wp2_with fail
      refine S2.out.mono ?_
      rintro e w1 ⟨N, rfl, -, -, hb⟩
      have HU := Lib.hid (Upd.ofBelow hb)
      clear S2 hb
      go_wp2_with fail
      go_ret2
      exact ⟨by rw [HR.out]; rfl, HU.out⟩
    · skip
      have HR := Lib.hid (show numF s = none by
        cases hn : numF s with
        | none => rfl
        | some n =>
          obtain ⟨a, -, b⟩ := numF_some hn
          rw [a, parse_itoa n b] at hp; cases hp)
      obtain ⟨tp, p, hsyn⟩ := he.rng
      have S2 := Lib.hid (Tryz.strconv_ParseInt_10_at64_range_var ⟨s.toArray⟩ (by rw [hsz]; omega) hp tp p w hsyn)
      clear hsyn hp hsz he
      generalize digL s = d at *
      have g1 : ¬ (18 : Int) < (d.length : Int) := by omega
      clear hlen
      go_enter Tryz.func122, Tryz.ntmps122
      go_wp2_with fail
      refine S1.out.mono ?_
      rintro e w1 ⟨rfl, rfl⟩
      clear S1
      go_wp2_with fail
      refine S2.out.mono ?_
      rintro e w1 ⟨N, rfl, -, -, hb⟩
      have HU := Lib.hid (Upd.ofBelow hb)
      clear S2 hb
      go_wp2_with fail
      go_ret2
      exact ⟨by rw [HR.out]; rfl, HU.out⟩
    · skip
      obtain ⟨v0, v1⟩ := parse_range hp
      have S2 := Lib.hid (Tryz.strconv_ParseInt_10_at64_ok ⟨s.toArray⟩ (by rw [hsz]; omega) v hp w)
      have HR := Lib.hid (show numF s = if Lib.itoa v = s then some v else none by
        split
        · rename_i h
          rw [← h]; exact numF_itoa v (by rw [h]; omega)
        · rename_i h
          cases hn : numF s with
          | none => rfl
          | some n =>
            exfalso
            obtain ⟨a, -, b⟩ := numF_some hn
            rw [a, parse_itoa n b] at hp
            cases hp
            exact h a.symm)
      have S3 := Lib.hid (fun w1 (hu : Upd [] w w1) => decimal v w1 v0 v1 (he.upd hu))
      clear hp hsz he
      generalize digL s = d at *
      have g1 : ¬ (18 : Int) < (d.length : Int) := by omega
      clear hlen
      go_enter Tryz.func122, Tryz.ntmps122
      go_wp2_with fail
      refine S1.out.mono ?_
      rintro e wa ⟨rfl, rfl⟩
      clear S1
      go_wp2_with fail
      refine S2.out.mono ?_
      rintro e w1 ⟨rfl, hw⟩
      have hu : Upd [] wa w1 := by
        rcases hw with rfl | ⟨t, rfl⟩
        · exact Upd.refl _ _
        · exact Upd.ofBelow (Lib.bytesWorld_below _ _ _)
      have S4 := Lib.hid (S3.out w1 hu)
      have HU := Lib.hid hu
      clear S2 S3 hw hu
      go_wp2_with fail
      refine S4.out.mono ?_
      rintro e w2 ⟨rfl, hu2⟩
      have HU2 := Lib.hid (HU.out.trans hu2)
      clear S4 HU hu2
      by_cases heq : Lib.itoa v = s
      · have HR2 := Lib.hid (HR.out.trans (if_pos heq))
        rw [heq]
        clear HR heq
        go_wp2_with fail
        go_ret2
        exact ⟨by rw [HR2.out]; rfl, HU2.out⟩
      · have HR2 := Lib.hid (HR.out.trans (if_neg heq))
        clear HR
        generalize Lib.itoa v = A at *
        have hne : (A == s) = false := by simpa using heq
        go_wp2_with fail
        go_ret2
        exact ⟨by rw [HR2.out]; rfl, HU2.out⟩

end Go.Proofs.YtlondofadjcooaaGreatDoor

/-
  Labels made: what the program's calls return.
-/
namespace Go.Proofs.YtlondofadjcooaaGreatDoor
open Go.RowKit

set_option maxRecDepth 20000 in
set_option maxHeartbeats 4000000 in
theorem joinedI (v : Value) (xs : List Int) (w : World) (fp : List Nat) (hR : R1 fp w [v] xs) (h0 : 0 < xs.length) (hl : xs.length ≤ 1000000)
    (hv : ∀ x ∈ xs, (-9223372036854775808 ≤ x ∧ x ≤ 9223372036854775807) ∧ (Lib.itoa x).length ≤ 30) (he : Env w) :
    Calls Tryz.prog 127 #[v, es [44]] w fun e w' => e = .returned (es (txtV xs)) ∧ Upd [] w w' := by
  obtain ⟨i0, hi, hz0, hz1, hz2⟩ := info_parts Tryz.info9
  obtain ⟨a, cap, rfl, h1, h2, -⟩ := slF1_open hR
  unfold maxLen at h2
  have HR := Lib.hid hR
  have HV := Lib.hid hv
  have HE := Lib.hid he
  have hm2 : i0.bytes * xs.length ≤ 281474976710656 := by rw [hz2]; omega
  clear hR hv he
  go_enter Tryz.func127, Tryz.ntmps127
  go_wp2_with (first
    | (at_make; refine wpList_make_full _ rfl _ _ 22 rfl w.heap.size 9 i0 (es []) 1 Tryz.underlying22 hi hz0 hz1 .i64 .i64 _ _ xs.length rfl rfl rfl rfl hm2 (by unfold maxLen; omega) (Nat.le_refl _) ?_; intro w2 hrow hgrow)
    | fail)
  rw [made_one _ rfl] at hrow
  have hU : Upd [] w w2 := (Upd.refl _ _).grown hgrow (by simp)
  obtain ⟨fo, ho1, ho2, ho3⟩ := New.ofOwns (w := w) (e := 9) (enc := es) (xs := List.replicate xs.length ([] : List UInt8)) (by simpa using hrow)
  have HST := Lib.hid (And.intro (show RS fo w2 [.slice (some ⟨w.heap.size, 0, none⟩) xs.length xs.length] ((xs.take 0).map Lib.itoa ++ List.replicate (xs.length - 0) []) from by simpa using ho1) ho2)
  clear hrow hgrow ho1 ho2 ho3 hm2
  go_wp2_with fail
  go_loopw [13] (fun i wr => ∃ k : Nat, k ≤ xs.length ∧ i = .int .i64 k ∧ Upd [] w wr ∧ RS fo wr [.slice (some ⟨w.heap.size, 0, none⟩) xs.length xs.length] ((xs.take k).map Lib.itoa ++ List.replicate (xs.length - k) []) ∧ Own fo wr) (fun i _ => xs.length - (intOf i).toNat)
  case atStart => exact ⟨0, Nat.zero_le _, rfl, hU, HST.out.1, HST.out.2⟩
  case round =>
    clear HST hU
    obtain ⟨k, hk, rfl, hU, ho1, ho2⟩ := hrel
    by_cases hlt : k < xs.length
    · obtain ⟨a', cap', hv, -, -, hc⟩ := slF1_open (R1k.upd HR.out hU (by simp))
      cases hv
      obtain ⟨b1, o1, rfl, -, -, p1⟩ := hc k hlt
      have hset := set_fill Lib.itoa [] xs k hlt
      obtain ⟨⟨x0, x1⟩, -⟩ := HV.out xs[k] (List.getElem_mem hlt)
      have hlen : ((xs.take k).map Lib.itoa ++ List.replicate (xs.length - k) ([] : List UInt8)).length = xs.length := by simp; omega
      have HL := Lib.hid hlen
      have HS := Lib.hid hset
      have HU := Lib.hid hU
      have HO := Lib.hid (And.intro ho1 ho2)
      generalize xs[k] = x at *
      have S1 := Lib.hid (decimal x wr x0 x1 (HE.out.upd hU))
      clear hc hset hlen hU ho1 ho2
      go_wp2_with fail
      refine S1.out.mono ?_
      rintro e w3 ⟨rfl, hu3⟩
      obtain ⟨hbl, hcl0, hfz, hos⟩ := rowCellS (RSk.upd HO.out.1 hu3 (by simp)) (HO.out.2.upd hu3 (by simp)) HL.out k hlt
      have hos := hos (Lib.itoa x)
      rw [HS.out] at hos
      obtain ⟨z0, hz0'⟩ : ∃ z0 : List UInt8, w3.cell? ⟨w.heap.size, k, none⟩ = some (es z0) := ⟨_, hcl0⟩
      clear hcl0
      have HP := Lib.hid (And.intro hos (HU.out.trans hu3))
      clear S1 hos HO HU hu3 HS HL
      generalize Lib.itoa x = A at *
      go_wp2_with fail
      go_roundw
      case rel => exact ⟨k + 1, by omega, by go_num, HP.out.2.setCell (Or.inl (Nat.le_refl _)) _, HP.out.1.1, HP.out.1.2⟩
      case measure => simp [intOf]; omega
    · obtain rfl : k = xs.length := by omega
      obtain ⟨ps, hps⟩ : ∃ ps, ps = xs.map Lib.itoa := ⟨_, rfl⟩
      have hpl : ps.length = xs.length := by rw [hps]; simp
      have ho3 : RS fo wr [.slice (some ⟨w.heap.size, 0, none⟩) xs.length xs.length] ps := by rw [hps]; simpa using ho1
      obtain ⟨a', cap', hv, -, hc2, hc⟩ := slF1_open ho3
      simp only [Value.slice.injEq] at hv
      obtain ⟨rfl, -, rfl⟩ := hv
      have hle : (joinC 44 ps).length ≤ ps.length * (30 + 1) := joinC_le 44 30 ps (fun p hp => by
        rw [hps] at hp
        obtain ⟨x, hx, rfl⟩ := List.mem_map.1 hp
        exact (HV.out x hx).2)
      have hbk : w.heap.size < wr.heap.size := by
        obtain ⟨b, off, hb, -, hbl, -⟩ := hc 0 (by omega)
        cases hb; exact hbl
      have hmm : (ps.map (fun p => (⟨p.toArray⟩ : ByteArray))).map (fun b => b.data.toList) = ps := by
        rw [List.map_map]; exact (List.map_congr_left (fun p _ => rfl)).trans (List.map_id _)
      have hj : Lib.join ((ps.map (fun p => (⟨p.toArray⟩ : ByteArray))).map (fun b => b.data.toList)) (⟨#[44]⟩ : ByteArray).data.toList = joinC 44 ps := by
        rw [hmm]; exact join_lib 44 ps
      have S0 := Tryz.strings_Join w.heap.size 0 xs.length (ps.map (fun p => (⟨p.toArray⟩ : ByteArray))) ⟨#[44]⟩ wr (fun j x hx => by
        obtain ⟨hj1, rfl⟩ := List.getElem?_eq_some_iff.1 hx
        have hj2 : j < ps.length := by simpa using hj1
        obtain ⟨b, off, hb, -, -, hcl⟩ := hc j hj2
        cases hb
        rw [hcl]
        simp [es]) hbk (by simp; omega) (by simp; omega) (by rw [hj]; omega)
      rw [hj] at S0
      simp only [List.length_map, hpl] at S0
      have S1 := Lib.hid S0
      have HX := Lib.hid (show joinC 44 ps = txtV xs by rw [hps, txtV])
      have HU := Lib.hid hU
      clear hj hmm hle hc hc2 ho3 ho1 ho2 hps hU S0 HV HE HR
      generalize joinC 44 ps = J at *
      go_wp2_with fail
      refine S1.out.mono ?_
      rintro e w3 ⟨rfl, hb3⟩
      have HP := Lib.hid (HU.out.trans (Upd.ofBelow hb3))
      clear S1 hb3 HU
      go_wp2_with fail
      go_ret
      exact ⟨by rw [← HX.out]; rfl, HP.out⟩

end Go.Proofs.YtlondofadjcooaaGreatDoor

/-
  Lists compared; lists drawn.
-/
namespace Go.Proofs.YtlondofadjcooaaGreatDoor
open Go.RowKit

def cmp1 (x y : Int) : Int := if x < y then -1 else if y < x then 1 else 0
theorem cmp1_self (x : Int) : cmp1 x x = 0 := by simp [cmp1]
theorem isNaNI (x : Int) (w : World) : Calls Tryz.prog 111 #[.int .i64 x] w fun e w' => e = .returned (.bool false) ∧ w = w' := by
  go_enter Tryz.func111, Tryz.ntmps111
  go_wp2_with fail
  go_ret
  exact ⟨by simp, rfl⟩

set_option maxRecDepth 20000 in
theorem cmpOne (x y : Int) (w : World) : Calls Tryz.prog 98 #[.int .i64 x, .int .i64 y] w fun e w' => e = .returned (.int .i64 (cmp1 x y)) ∧ w = w' := by
  have S1 := Lib.hid (isNaNI x w)
  have S2 := Lib.hid (isNaNI y w)
  rcases Int.lt_trichotomy x y with h | h | h
  · have HR := Lib.hid (show cmp1 x y = -1 by simp [cmp1, h])
    go_enter Tryz.func98, Tryz.ntmps98
    go_wp2_with fail
    refine S1.out.mono ?_
    rintro e w1 ⟨rfl, rfl⟩
    go_wp2_with fail
    refine S2.out.mono ?_
    rintro e w1 ⟨rfl, rfl⟩
    go_wp2_with fail
    go_ret
    exact ⟨by rw [HR.out]; rfl, rfl⟩
  · have HR := Lib.hid (show cmp1 x y = 0 by rw [h]; exact cmp1_self y)
    have g1 : ¬ x < y := by omega
    have g2 : ¬ y < x := by omega
    clear h
    go_enter Tryz.func98, Tryz.ntmps98
    go_wp2_with fail
    refine S1.out.mono ?_
    rintro e w1 ⟨rfl, rfl⟩
    go_wp2_with fail
    refine S2.out.mono ?_
    rintro e w1 ⟨rfl, rfl⟩
    go_wp2_with fail
    go_ret
    exact ⟨by rw [HR.out]; rfl, rfl⟩
  · have HR := Lib.hid (show cmp1 x y = 1 by simp [cmp1, h]; omega)
    have g1 : ¬ x < y := by omega
    go_enter Tryz.func98, Tryz.ntmps98
    go_wp2_with fail
    refine S1.out.mono ?_
    rintro e w1 ⟨rfl, rfl⟩
    go_wp2_with fail
    refine S2.out.mono ?_
    rintro e w1 ⟨rfl, rfl⟩
    go_wp2_with fail
    go_ret
    exact ⟨by rw [HR.out]; rfl, rfl⟩

end Go.Proofs.YtlondofadjcooaaGreatDoor

/-
  Relations between systems, the reference's parts: lists compared, pairs found, the edges from a state.
-/
namespace Go.Proofs.YtlondofadjcooaaGreatDoor
open Go.RowKit

end Go.Proofs.YtlondofadjcooaaGreatDoor

/-
  Relations between systems, the reference's parts: the edges from a state, and lists of pairs.
-/
namespace Go.Proofs.YtlondofadjcooaaGreatDoor
open Go.RowKit

/-- the edges from a state. -/
def outF (eds : List Ed) (k : Int) : List Ed := eds.filter fun e => e.fr == k
theorem outF_mem {eds : List Ed} {k : Int} {e : Ed} (h : e ∈ outF eds k) : e ∈ eds := (List.mem_filter.1 h).1
theorem outF_step (eds : List Ed) (k : Int) (i : Nat) (h : i < eds.length) : outF (eds.take (i + 1)) k = outF (eds.take i) k ++ (if eds[i].fr == k then [eds[i]] else []) := by
  unfold outF
  rw [List.take_succ_eq_append_getElem h, List.filter_append]
  congr 1
  cases hq : eds[i].fr == k <;> simp [hq]
theorem outF_len (eds : List Ed) (k : Int) : (outF eds k).length ≤ eds.length := List.length_filter_le _ _

end Go.Proofs.YtlondofadjcooaaGreatDoor

/-
  Relations between systems, the program's parts: the edges from a state, lists held against each other.
-/
namespace Go.Proofs.YtlondofadjcooaaGreatDoor
open Go.RowKit

set_option maxRecDepth 20000 in
set_option maxHeartbeats 4000000 in
theorem outEI (st ini : Int) (v1 v2 : Value) (eds : List Ed) (k : Int) (w : World) (f2 : List Nat) (h2 : R_E1 f2 w [v2] eds) (hm : eds.length ≤ 2000000) :
    Calls Tryz.prog 32 #[.agg #[ei st, ei ini, v1, v2], .int .i64 k] w fun e w' => (∃ v', e = .returned v' ∧ New R_E1 w w' v' (outF eds k)) ∧ Upd [] w w' := by
  obtain ⟨i3, ni, nz0, nz1, nz2⟩ := info_parts Tryz.infoEd
  obtain ⟨a, cap, rfl, l1, l2, hc⟩ := slF3_open h2
  unfold maxLen at l2
  have HC := Lib.hid hc
  obtain ⟨wA, hwA⟩ : ∃ wA, wA = w.alloc (.cells #[ei st, ei ini, v1, .slice a eds.length cap] 30) := ⟨_, rfl⟩
  have HUA := Lib.hid (show Upd [] w wA by rw [hwA]; exact (Upd.refl _ _).alloc _)
  have z3 : wA.cell? ⟨w.heap.size, 3, none⟩ = some (.slice a eds.length cap) := by rw [hwA]; exact cell_new w _ _ _ rfl 3 _ rfl
  clear h2 hc
  go_enter Tryz.func32, Tryz.ntmps32
  go_upto_region 2 with (fail)
  rw [← hwA]
  clear hwA
  go_wp2_with fail
  go_loopw [5, 11] (fun ov iv wr => ∃ i : Nat, i ≤ eds.length ∧ iv = .int .i64 i ∧ Hid (wr.ownsRow w.heap.size 55 3 ov (outF (eds.take i) k).length ((outF (eds.take i) k).flatMap edCs)) ∧ Hid (Upd [] w wr)) (fun _ iv _ => eds.length - (intOf iv).toNat)
  case atStart => exact ⟨0, Nat.zero_le _, rfl, Lib.hid (World.ownsRow_nil _ _ _ _), HUA⟩
  case round =>
    clear HUA z3
    obtain ⟨wo, rfl⟩ : ∃ wo : World, wo = wr := ⟨_, rfl⟩
    obtain ⟨i, hi, rfl, HO, HU⟩ := hrel
    obtain ⟨oa, oc, hov⟩ := ownsRow_form HO.out
    subst hov
    by_cases hlt : i < eds.length
    · obtain ⟨b, o, rfl, -, -, p1, p2, p3⟩ := HC.out i hlt
      have q1 := HU.out.keep p1
      have q2 := HU.out.keep p2
      have q3 := HU.out.keep p3
      have HST := Lib.hid (outF_step eds k i hlt)
      have hll : (outF (eds.take i) k).length ≤ 2000000 := by have := outF_len (eds.take i) k; simp at this; omega
      have hil : (i : Int) < (eds.length : Int) := by omega
      clear p1 p2 p3
      generalize outF (eds.take i) k = P at *
      generalize eds[i] = x at *
      obtain ⟨x1, x2, x3⟩ := x
      simp only at q1 q2 q3 HST
      cases hk : (x1 == k) with
      | false =>
        have HP := Lib.hid (show outF (eds.take (i + 1)) k = P by rw [HST.out, hk]; simp)
        clear HST
        go_wp2_with fail
        go_roundw
        case rel => exact ⟨i + 1, by omega, by go_num, Lib.hid (by rw [HP.out]; exact HO.out.alloc _), Lib.hid (HU.out.alloc _)⟩
        case measure => simp [intOf]; omega
      | true =>
        have HP := Lib.hid (show outF (eds.take (i + 1)) k = P ++ [⟨x1, x2, x3⟩] by rw [HST.out, hk]; simp)
        have hsz := HU.out.size
        obtain ⟨wB, hwB⟩ : ∃ wB, wB = wo.alloc (.cells #[.int .i64 x1, .int .i64 x2, .int .i64 x3] 55) := ⟨_, rfl⟩
        have hown0 : wB.ownsRow w.heap.size 55 3 (.slice oa P.length oc) P.length (P.flatMap edCs) := by rw [hwB]; exact HO.out.alloc _
        have HUB := Lib.hid (show Upd [] w wB by rw [hwB]; exact HU.out.alloc _)
        have t0 : wB.cell? ⟨wo.heap.size, 0, none⟩ = some (ei x1) := by rw [hwB]; exact cell_new wo _ _ _ rfl 0 _ rfl
        have t1 : wB.cell? ⟨wo.heap.size, 1, none⟩ = some (ei x2) := by rw [hwB]; exact cell_new wo _ _ _ rfl 1 _ rfl
        have t2 : wB.cell? ⟨wo.heap.size, 2, none⟩ = some (ei x3) := by rw [hwB]; exact cell_new wo _ _ _ rfl 2 _ rfl
        have hszB : w.heap.size ≤ wB.heap.size := HUB.out.size
        clear HST
        go_upto_region 5 with (fail)
        rw [← hwB]
        clear hwB HO HU q1 q2 q3
        go_wp2_with (first
          | (at_builtin; refine wpList_append_tight _ rfl _ _ 28 rfl w.heap.size 55 i3 (.agg #[.int .i64 0, .int .i64 0, .int .i64 0]) 3 24 Tryz.underlying28 ni nz0 nz1 nz2 rfl (by decide) _ _ _ rfl (hown0.alloc _) ⟨wB.heap.size, 0, none⟩ 1 1 [.int .i64 x1, .int .i64 x2, .int .i64 x3] rfl rfl (fun j u hj => by rw [addr_add]; exact cell_new wB #[.int .i64 x1, .int .i64 x2, .int .i64 x3] _ _ rfl _ _ (by simpa using hj)) (by simp [Value.oneCell']) (by unfold maxLen; omega) (by omega) (by simp; omega) ?_)
          | fail)
        intro v4 w4 hown4 hg4 ht4
        have HO4 := Lib.hid (show w4.ownsRow w.heap.size 55 3 v4 (P ++ [(⟨x1, x2, x3⟩ : Ed)]).length ((P ++ [(⟨x1, x2, x3⟩ : Ed)]).flatMap edCs) by
          rw [List.length_append, List.flatMap_append]; simpa [edCs] using hown4)
        have HU4 := Lib.hid ((HUB.out.alloc (.cells #[.int .i64 x1, .int .i64 x2, .int .i64 x3] 55)).grown hg4 (fun b hb => Or.inl ((hown0.lt b hb).1)))
        clear hown4 hg4 ht4 hown0 t0 t1 t2 HUB
        go_wp2_with fail
        go_roundw
        case rel => exact ⟨i + 1, by omega, by go_num, Lib.hid (by rw [HP.out]; exact HO4.out), HU4⟩
        case measure => simp [intOf]; omega
    · obtain rfl : i = eds.length := by omega
      have HO2 := Lib.hid (show wo.ownsRow w.heap.size 55 3 (.slice oa (outF (eds.take eds.length) k).length oc) (outF eds k).length ((outF eds k).flatMap edCs) by
        have := HO.out
        rw [List.take_length] at this ⊢
        exact this)
      clear HO
      go_wp2_with fail
      go_ret
      exact ⟨⟨_, rfl, New.ofOwns3 HO2.out⟩, HU.out⟩

end Go.Proofs.YtlondofadjcooaaGreatDoor

/-
  The library's sort of numbers, at a list that rises already: it stays.
-/
namespace Go.Proofs.YtlondofadjcooaaGreatDoor
open Go.RowKit

end Go.Proofs.YtlondofadjcooaaGreatDoor

/-
  Words read as numbers.
-/
namespace Go.Proofs.YtlondofadjcooaaGreatDoor
open Go.RowKit

def NumsV (ps : List (List UInt8)) (w : World) (e : Ending) (w' : World) : Prop :=
  (∃ v', e = .returned (.tuple #[v', .bool (numsF ps).isSome]) ∧ New R1 w w' v' ((numsF ps).getD [])) ∧ Upd [] w w'

set_option maxRecDepth 20000 in
set_option maxHeartbeats 4000000 in
theorem readNumbersI (v : Value) (ps : List (List UInt8)) (w : World) (fp : List Nat) (hR : slF 1 (fun s => [es s]) fp w [v] ps) (hl : ps.length ≤ 2000001) (hp : ∀ p ∈ ps, p.length ≤ 2000000) (he : Env w) :
    Calls Tryz.prog 107 #[v] w (NumsV ps w) := by
  obtain ⟨i1, ki, kz0, kz1, kz2⟩ := info_parts Tryz.info2
  obtain ⟨a, cap, rfl, h1, h2, -⟩ := slF1_open hR
  unfold maxLen at h2
  have hlit := World.ownsRow_nil w w.heap.size 2 1
  have HLIT := Lib.hid hlit
  have HR := Lib.hid hR
  have HP := Lib.hid hp
  have HE := Lib.hid he
  clear hR hp he hlit
  go_enter Tryz.func107, Tryz.ntmps107
  go_wp2_with fail
  go_loopw [4, 11] (fun ov i wr => ∃ (k : Nat) (ns : List Int), k ≤ ps.length ∧ i = .int .i64 k ∧ ns.length = k ∧ Hid (numsF ps = (numsF (ps.drop k)).map (ns ++ ·)) ∧ Hid (wr.ownsRow w.heap.size 2 1 ov k (ns.map ei)) ∧ Upd [] w wr) (fun _ i _ => ps.length - (intOf i).toNat)
  case atStart => exact ⟨0, [], by omega, rfl, rfl, Lib.hid (by simp), HLIT, Upd.refl _ _⟩
  case round =>
    clear HLIT
    obtain ⟨k, ns, hk, rfl, hnl, hF, hown, hU⟩ := hrel
    have HNL := Lib.hid hnl
    clear hnl
    by_cases hlt : k < ps.length
    · obtain ⟨a', cap', hv, -, -, hc⟩ := slF1_open ((slF_kept _ _).upd HR.out hU (by simp))
      cases hv
      obtain ⟨b1, o1, rfl, -, -, p1⟩ := hc k hlt
      have hF1 := hF.out
      rw [List.drop_eq_getElem_cons hlt, numsF_cons] at hF1
      have hpk := HP.out ps[k] (List.getElem_mem hlt)
      have HF := Lib.hid hF1
      have HU := Lib.hid hU
      clear hF1 hF hc
      generalize ps[k] = s at *
      have S1 := Lib.hid (readDecimalI s wr hpk (HE.out.upd hU))
      clear hU
      go_wp2_with fail
      refine S1.out.mono ?_
      rintro e w3 ⟨rfl, hu3⟩
      have HU3 := Lib.hid (HU.out.trans hu3)
      have hown3 := ownsRow_upd hown.out hu3
      have hsz3 := HU3.out.size
      clear S1 HU hu3 hown
      cases hn : numF s with
      | none =>
        rw [hn] at HF
        have HN := Lib.hid (show numsF ps = none from HF.out)
        clear HF hown3
        go_wp2_with fail
        go_ret2
        exact ⟨⟨_, by rw [HN.out]; rfl, by rw [HN.out]; exact new_nil _ _⟩, HU3.out⟩
      | some x =>
        rw [hn] at HF
        have HN := Lib.hid (show numsF ps = (numsF (ps.drop (k + 1))).map ((ns ++ [x]) ++ ·) by
          rw [HF.out]
          simp [Function.comp_def])
        clear HF
        simp only [Option.getD_some, Option.isSome_some]
        go_wp2_with (first
          | (at_builtin; refine wpList_append_tight _ rfl _ _ 26 rfl w.heap.size 2 i1 (.int .i64 0) 1 8 Tryz.underlying26 ki kz0 kz1 kz2 rfl (by decide) _ _ _ rfl (hown3.alloc _) ⟨w3.heap.size, 0, none⟩ 1 1 [ei x] rfl rfl (fun j u hj => by rw [addr_add]; exact cell_new w3 #[ei x] _ _ rfl _ _ (by simpa using hj)) (by simp [Value.oneCell']) (by unfold maxLen; omega) (by omega) (by simp; omega) ?_)
          | fail)
        intro v4 w4 hown4 hg4 ht4
        have hu4 : Upd [] w w4 := (HU3.out.alloc _).grown hg4 (fun b hb => Or.inl (by have := (hown3.lt b hb).1; omega))
        have HQ := Lib.hid (And.intro hown4 hu4)
        clear hown4 hg4 ht4 hu4 hown3
        go_wp2_with fail
        go_roundw
        case rel => exact ⟨k + 1, ns ++ [x], by omega, by go_num, by simp [HNL.out], HN, Lib.hid (by simpa using HQ.out.1), HQ.out.2⟩
        case measure => simp [intOf]; omega
    · obtain rfl : k = ps.length := by omega
      have hF1 := hF.out
      rw [List.drop_of_length_le (Nat.le_refl _)] at hF1
      have HN := Lib.hid (show numsF ps = some ns by rw [hF1]; simp [numsF])
      have HQ := Lib.hid (And.intro (New.ofOwns (w := w) (e := 2) (enc := ei) (xs := ns) (by rw [HNL.out]; exact hown.out)) hU)
      clear hown hU hF hF1
      go_wp2_with fail
      go_ret2
      exact ⟨⟨_, by rw [HN.out]; rfl, by rw [HN.out]; exact HQ.out.1⟩, HQ.out.2⟩

end Go.Proofs.YtlondofadjcooaaGreatDoor

/-
  Labels made and read: what the program's calls return.
-/
namespace Go.Proofs.YtlondofadjcooaaGreatDoor
open Go.RowKit

def LabV (name : List UInt8) (xs : List Int) (w : World) (e : Ending) (w' : World) : Prop :=
  (∃ t : List UInt8, e = .returned (.tuple #[es t, .bool (labT name xs).isSome]) ∧ Hid (∀ s, labT name xs = some s → t = s)) ∧ Upd [] w w'

theorem isV_itoa {x : Int} (h : isV x = true) : (-9223372036854775808 ≤ x ∧ x ≤ 9223372036854775807) ∧ (Lib.itoa x).length ≤ 30 := by
  have hb := inB_true h
  have h1 := itoa_len64 h
  have h2 : (Lib.itoa x).length ≤ (digL (Lib.itoa x)).length + 1 := by unfold digL; split <;> simp <;> omega
  omega

theorem labT_no {name : List UInt8} {xs : List Int} (ht : name ≠ tauL) (h : (actF name && decide (xs.length ≤ 2) && xs.all isV) = false) : labT name xs = none := by
  unfold labT; rw [if_neg ht, h]; rfl
theorem labT_yes {name : List UInt8} {xs : List Int} (ht : name ≠ tauL) (h : (actF name && decide (xs.length ≤ 2) && xs.all isV) = true) : labT name xs = some (if xs = [] then name else ((name ++ [40]) ++ txtV xs) ++ [41]) := by
  unfold labT; rw [if_neg ht, if_pos h]

set_option maxRecDepth 20000 in
set_option maxHeartbeats 4000000 in
theorem labelOfI (name : List UInt8) (v : Value) (xs : List Int) (w : World) (fp : List Nat) (hn : name.length ≤ 2000000) (hR : R1 fp w [v] xs) (he : Env w) :
    Calls Tryz.prog 110 #[es name, v] w (LabV name xs w) := by
  obtain ⟨a, cap, rfl, h1, h2, -⟩ := slF1_open hR
  unfold maxLen at h2
  by_cases htau : name = tauL
  · have HT := Lib.hid (show labT name xs = if xs = [] then some tauL else none by unfold labT; rw [if_pos htau])
    have e1 : es name = .string ⟨#[116, 97, 117]⟩ := by rw [htau]; rfl
    rw [e1]
    clear hR he e1 htau
    cases xs with
    | nil =>
      go_enter Tryz.func110, Tryz.ntmps110
      go_wp2_with fail
      go_ret2
      exact ⟨⟨tauL, by rw [HT.out]; rfl, Lib.hid (fun s hs => by rw [HT.out] at hs; simpa using hs)⟩, Upd.refl _ _⟩
    | cons x xs =>
      have g0 : ¬ (((x :: xs).length : Int) = 0) := by simp; omega
      have HT2 := Lib.hid (show labT name (x :: xs) = none by rw [HT.out]; rfl)
      clear HT
      generalize x :: xs = ys at *
      have g1 : ((ys.length : Int) == 0) = false := by simpa using g0
      go_enter Tryz.func110, Tryz.ntmps110
      go_wp2_with fail
      go_ret2
      exact ⟨⟨tauL, by rw [HT2.out]; first | rfl | (simp [tauL, g1, es]), Lib.hid (fun s hs => by rw [HT2.out] at hs; cases hs)⟩, Upd.refl _ _⟩
  · have g0 : (name == [116, 97, 117]) = false := by simpa [tauL] using htau
    have HTAU := Lib.hid htau
    have S1 := Lib.hid (isActionI name w hn)
    cases ha : actF name with
    | false =>
      have HT := Lib.hid (labT_no (xs := xs) htau (by rw [ha]; rfl))
      rw [ha] at S1
      clear hR he htau ha
      go_enter Tryz.func110, Tryz.ntmps110
      go_wp2_with fail
      refine S1.out.mono ?_
      rintro e w1 ⟨rfl, rfl⟩
      clear S1
      go_wp2_with fail
      go_ret2
      exact ⟨⟨[], by rw [HT.out]; rfl, Lib.hid (fun s hs => by rw [HT.out] at hs; cases hs)⟩, Upd.refl _ _⟩
    | true =>
      rw [ha] at S1
      by_cases hlen : xs.length ≤ 2
      · have g3 : ¬ ((2 : Int) < (xs.length : Int)) := by omega
        have S2 := Lib.hid (areValues _ xs w fp hR)
        cases hv : xs.all isV with
        | false =>
          have HT := Lib.hid (labT_no (xs := xs) htau (by rw [hv]; simp))
          rw [hv] at S2
          clear hR he htau ha hv hlen
          go_enter Tryz.func110, Tryz.ntmps110
          go_wp2_with fail
          refine S1.out.mono ?_
          rintro e w1 ⟨rfl, rfl⟩
          clear S1
          go_wp2_with fail
          refine S2.out.mono ?_
          rintro e w1 ⟨rfl, rfl⟩
          clear S2
          go_wp2_with fail
          go_ret2
          exact ⟨⟨[], by rw [HT.out]; rfl, Lib.hid (fun s hs => by rw [HT.out] at hs; cases hs)⟩, Upd.refl _ _⟩
        | true =>
          have HT := Lib.hid (labT_yes (xs := xs) htau (by rw [ha, hv, decide_eq_true hlen]; rfl))
          rw [hv] at S2
          by_cases h0 : xs = []
          · have HT2 := Lib.hid (HT.out.trans (by rw [if_pos h0]))
            have g4 : ((xs.length : Int) == 0) = true := by rw [h0]; rfl
            clear hR he htau ha hv hlen h0 HT
            go_enter Tryz.func110, Tryz.ntmps110
            go_wp2_with fail
            refine S1.out.mono ?_
            rintro e w1 ⟨rfl, rfl⟩
            clear S1
            go_wp2_with fail
            refine S2.out.mono ?_
            rintro e w1 ⟨rfl, rfl⟩
            clear S2
            go_wp2_with fail
            go_ret2
            exact ⟨⟨name, by rw [HT2.out]; rfl, Lib.hid (fun s hs => by rw [HT2.out] at hs; simpa using hs)⟩, Upd.refl _ _⟩
          · have HT2 := Lib.hid (HT.out.trans (by rw [if_neg h0]))
            have hpos : 0 < xs.length := List.length_pos_iff.2 h0
            have g4 : ((xs.length : Int) == 0) = false := by simp; omega
            have S3 := Lib.hid (joinedI _ xs w fp hR hpos (by omega) (fun x hx => isV_itoa (List.all_eq_true.1 hv x hx)) he)
            have hjl : (txtV xs).length ≤ 2 * 31 := by
              refine Nat.le_trans (joinC_le 44 30 (xs.map Lib.itoa) (fun p hp => ?_)) ?_
              · obtain ⟨x, hx, rfl⟩ := List.mem_map.1 hp
                exact (isV_itoa (List.all_eq_true.1 hv x hx)).2
              · rw [List.length_map]; omega
            clear hR he htau ha hv hlen h0 HT
            generalize txtV xs = J at *
            go_enter Tryz.func110, Tryz.ntmps110
            go_wp2_with fail
            refine S1.out.mono ?_
            rintro e w1 ⟨rfl, rfl⟩
            clear S1
            go_wp2_with fail
            refine S2.out.mono ?_
            rintro e w1 ⟨rfl, rfl⟩
            clear S2
            go_wp2_with fail
            refine S3.out.mono ?_
            rintro e w3 ⟨rfl, hu3⟩
            have HU := Lib.hid hu3
            clear S3 hu3
            go_wp2_with fail
            go_ret2
            exact ⟨⟨_, by rw [HT2.out]; rfl, Lib.hid (fun s hs => by rw [HT2.out] at hs; simpa using hs)⟩, HU.out⟩
      · have g3 : (2 : Int) < (xs.length : Int) := by omega
        have HT := Lib.hid (labT_no (xs := xs) htau (by rw [decide_eq_false hlen]; simp))
        clear hR he htau ha hlen
        go_enter Tryz.func110, Tryz.ntmps110
        go_wp2_with fail
        refine S1.out.mono ?_
        rintro e w1 ⟨rfl, rfl⟩
        clear S1
        go_wp2_with fail
        go_ret2
        exact ⟨⟨[], by rw [HT.out]; rfl, Lib.hid (fun s hs => by rw [HT.out] at hs; cases hs)⟩, Upd.refl _ _⟩

end Go.Proofs.YtlondofadjcooaaGreatDoor

/-
  Labels read: what the program's calls return.
-/
namespace Go.Proofs.YtlondofadjcooaaGreatDoor
open Go.RowKit

theorem es_bytes (b : ByteArray) : es b.data.toList = .string b := by simp [es]

theorem splitC_len (c : UInt8) : ∀ l : List UInt8, (splitC c l).length ≤ l.length + 1 ∧ ∀ p ∈ splitC c l, p.length ≤ l.length
  | [] => by simp [splitC]
  | b :: l => by
    obtain ⟨h1, h2⟩ := splitC_len c l
    by_cases hb : b = c
    · subst hb
      have e : splitC b (b :: l) = [] :: splitC b l := by rw [splitC, if_pos rfl]
      rw [e]
      refine ⟨by simp; omega, fun p hp => ?_⟩
      rcases List.mem_cons.1 hp with rfl | hp
      · simp
      · have := h2 p hp; simp; omega
    · obtain ⟨p, ps, e1, e2⟩ := splitC_cons c b l hb
      rw [e2]
      rw [e1] at h1 h2
      refine ⟨by simp at h1 ⊢; omega, fun q hq => ?_⟩
      rcases List.mem_cons.1 hq with rfl | hq
      · have := h2 p (by simp); simp; omega
      · have := h2 q (by simp [hq]); simp; omega

theorem cut_len (s sep : List UInt8) : (Lib.cut s sep).1.length ≤ s.length ∧ (Lib.cut s sep).2.1.length ≤ s.length := by
  unfold Lib.cut
  split <;> simp <;> omega
theorem trim_len (s p : List UInt8) : (Lib.trimSuffix s p).length ≤ s.length := by
  unfold Lib.trimSuffix
  split <;> simp <;> omega
theorem cut_false {s : List UInt8} (h : (Lib.cut s [40]).2.2 = false) : Lib.cut s [40] = (s, [], false) := by
  unfold Lib.cut at h ⊢
  split at h
  · cases h
  · rename_i h1; rw [if_neg h1]

theorem cutI (l : List UInt8) (w : World) (hl : l.length ≤ 2000000) (he : Env w) :
    Calls Tryz.prog 106 #[es l, .string ⟨#[40]⟩] w fun e w' => e = .returned (.tuple #[es (Lib.cut l [40]).1, es (Lib.cut l [40]).2.1, .bool (Lib.cut l [40]).2.2]) ∧ Upd [] w w' := by
  obtain ⟨m, hm⟩ := he.m
  have hsz : (⟨l.toArray⟩ : ByteArray).size = l.length := rfl
  refine (Tryz.strings_Cut ⟨l.toArray⟩ ⟨#[40]⟩ m w (by rw [hsz]; omega) hm).mono ?_
  rintro e w1 ⟨rfl, n, rfl⟩
  exact ⟨rfl, (Upd.refl _ _).drewN n⟩

theorem trimI (l : List UInt8) (w : World) (hl : l.length ≤ 2000000) :
    Calls Tryz.prog 109 #[es l, .string ⟨#[41]⟩] w fun e w' => e = .returned (es (Lib.trimSuffix l [41])) ∧ w' = w := by
  have hsz : (⟨l.toArray⟩ : ByteArray).size = l.length := rfl
  exact (Tryz.strings_TrimSuffix ⟨l.toArray⟩ ⟨#[41]⟩ w (by rw [hsz]; omega)).mono (fun e w1 h => h)

theorem splitI (l : List UInt8) (w : World) (hl : l.length ≤ 2000000) (he : Env w) :
    Calls Tryz.prog 108 #[es l, .string ⟨#[44]⟩] w fun e w' => (∃ v', e = .returned v' ∧ New RS w w' v' (splitC 44 l)) ∧ Upd [] w w' := by
  obtain ⟨m, hm⟩ := he.m
  have hsz : (⟨l.toArray⟩ : ByteArray).size = l.length := rfl
  have hlen := Lib.splitB_all ⟨#[44]⟩ (by decide) 0 (Lib.countB ⟨l.toArray⟩ ⟨#[44]⟩) ⟨l.toArray⟩ rfl
  have hdat : (Lib.splitB ⟨#[44]⟩ 0 (Lib.countB ⟨l.toArray⟩ ⟨#[44]⟩) ⟨l.toArray⟩).map (·.data.toList) = splitC 44 l := by
    rw [Lib.splitB_data]; exact split_lib 44 l
  refine (Tryz.strings_Split ⟨l.toArray⟩ ⟨#[44]⟩ m w (by rw [hsz]; omega) hm (by decide)).mono ?_
  rintro e w1 ⟨rfl, rfl⟩
  generalize Lib.splitB ⟨#[44]⟩ 0 (Lib.countB ⟨l.toArray⟩ ⟨#[44]⟩) ⟨l.toArray⟩ = bs at *
  generalize Lib.countB ⟨l.toArray⟩ ⟨#[44]⟩ = n at *
  have hsp := (splitC_len 44 l).1
  have hmap : bs.map Value.string = (splitC 44 l).map es := by
    rw [← hdat, List.map_map]
    exact List.map_congr_left (fun b _ => (es_bytes b).symm)
  have hn : n + 1 = (splitC 44 l).length := by rw [← hdat, List.length_map, hlen]
  rw [hmap, hn]
  exact ⟨⟨_, rfl, new_lit (enc := es) w 9 (splitC 44 l) (by unfold maxLen; omega)⟩, (Upd.refl _ _).alloc _⟩

def ReadV (s : List UInt8) (w : World) (e : Ending) (w' : World) : Prop :=
  (∃ (n : List UInt8) (v' : Value) (vs : List Int), e = .returned (.tuple #[es n, v', .bool (readF s).isSome]) ∧ New R1 w w' v' vs ∧ (readF s).getD ([], []) = (n, vs)) ∧ Upd [] w w'

set_option maxRecDepth 20000 in
set_option maxHeartbeats 4000000 in
theorem readLabelI (s : List UInt8) (w : World) (hl : s.length ≤ 2000000) (he : Env w) : Calls Tryz.prog 96 #[es s] w (ReadV s w) := by
  have S1 := Lib.hid (cutI s w hl he)
  obtain ⟨hc1, hc2⟩ := cut_len s [40]
  have HE := Lib.hid he
  clear he
  cases hm : (Lib.cut s [40]).2.2 with
  | false =>
    have hcf := cut_false hm
    have HF := Lib.hid (show readF s = if labT s [] = some s then some (s, []) else none by unfold readF; rw [hm]; rfl)
    rw [hcf] at S1
    clear hm hcf hc1 hc2
    go_enter Tryz.func96, Tryz.ntmps96
    go_wp2_with fail
    refine S1.out.mono ?_
    rintro e w1 ⟨rfl, hu1⟩
    obtain ⟨f0, hR0, hO0, hG0⟩ := new_nil w w1
    have S4 := Lib.hid (labelOfI s (.slice none 0 0) [] w1 f0 hl hR0 (HE.out.upd hu1))
    have HU1 := Lib.hid hu1
    have HN := Lib.hid (show New R1 w w1 (.slice none 0 0) [] from ⟨f0, hR0, hO0, hG0⟩)
    clear S1 hu1 hR0 hO0 hG0
    go_wp2_with fail
    refine S4.out.mono ?_
    rintro e w4 ⟨⟨t, rfl, ht⟩, hu4⟩
    have HU := Lib.hid (HU1.out.trans hu4)
    have HN4 := Lib.hid (R1k.new HN.out hu4 (by simp))
    clear S4 HU1 HN hu4
    cases hL : labT s [] with
    | none =>
      have HR := Lib.hid (show readF s = none by rw [HF.out, hL]; rfl)
      clear HF ht hL
      go_wp2_with fail
      go_ret3
      exact ⟨⟨[], _, [], by rw [HR.out]; rfl, new_nil _ _, by rw [HR.out]; rfl⟩, HU.out⟩
    | some s' =>
      obtain rfl := ht.out s' hL
      by_cases heq : t = s
      · have HR := Lib.hid (show readF s = some (s, []) by rw [HF.out, hL, if_pos (by rw [heq])])
        clear HF hL
        subst heq
        clear ht
        go_wp2_with fail
        go_ret3
        exact ⟨⟨t, _, [], by rw [HR.out]; rfl, HN4.out, by rw [HR.out]; rfl⟩, HU.out⟩
      · have HR := Lib.hid (show readF s = none by rw [HF.out, hL, if_neg (by simpa using heq)])
        have hne : (t == s) = false := by simpa using heq
        clear HF ht hL
        go_wp2_with fail
        go_ret3
        exact ⟨⟨[], _, [], by rw [HR.out]; rfl, new_nil _ _, by rw [HR.out]; rfl⟩, HU.out⟩
  | true =>
    have HF := Lib.hid (show readF s = match numsF (splitC 44 (Lib.trimSuffix (Lib.cut s [40]).2.1 [41])) with
      | none => none
      | some vs => if labT (Lib.cut s [40]).1 vs = some s then some ((Lib.cut s [40]).1, vs) else none by unfold readF; rw [hm]; rfl)
    rw [hm] at S1
    clear hm
    generalize (Lib.cut s [40]).1 = nm at *
    generalize (Lib.cut s [40]).2.1 = rest at *
    have htl := trim_len rest [41]
    have hnm : nm.length ≤ 2000000 := by omega
    have S2 := Lib.hid (fun w1 : World => trimI rest w1 (by omega))
    generalize Lib.trimSuffix rest [41] = r2 at *
    obtain ⟨hp1, hp2⟩ := splitC_len 44 r2
    have S3 := Lib.hid (fun (w1 : World) (hu : Upd [] w w1) => splitI r2 w1 (by omega) (HE.out.upd hu))
    generalize splitC 44 r2 = ps at *
    have HPL := Lib.hid (show ∀ p ∈ ps, p.length ≤ 2000000 from fun p hp => by have := hp2 p hp; omega)
    have hpl : ps.length ≤ 2000001 := by omega
    clear hp1 hp2 htl hc1 hc2
    go_enter Tryz.func96, Tryz.ntmps96
    go_wp2_with fail
    refine S1.out.mono ?_
    rintro e w1 ⟨rfl, hu1⟩
    have S2 := Lib.hid (S2.out w1)
    have S3 := Lib.hid (S3.out w1 hu1)
    have HU1 := Lib.hid hu1
    clear S1 hu1
    go_wp2_with fail
    refine S2.out.mono ?_
    rintro e w2 ⟨rfl, rfl⟩
    clear S2
    go_wp2_with fail
    refine S3.out.mono ?_
    rintro e w3 ⟨⟨v3, rfl, fq, hq1, hq2, hq3⟩, hu3⟩
    have HU3 := Lib.hid (HU1.out.trans hu3)
    have S4 := Lib.hid (readNumbersI v3 ps w3 fq hq1 (by omega) HPL.out (HE.out.upd HU3.out))
    have hsz3 := HU3.out.size
    clear S3 HU1 hu3 hq1 hq2 hq3
    go_wp2_with fail
    refine S4.out.mono ?_
    rintro e w4 ⟨⟨v4, rfl, hn4⟩, hu4⟩
    have HU4 := Lib.hid (HU3.out.trans hu4)
    clear S4 HU3 hu4
    cases hN : numsF ps with
    | none =>
      have HR := Lib.hid (show readF s = none by rw [HF.out, hN])
      clear HF hN hn4
      go_wp2_with fail
      go_ret3
      exact ⟨⟨[], _, [], by rw [HR.out]; rfl, new_nil _ _, by rw [HR.out]; rfl⟩, HU4.out⟩
    | some vs =>
      rw [hN] at hn4 HF
      have HF2 := Lib.hid (show readF s = if labT nm vs = some s then some (nm, vs) else none from HF.out)
      obtain ⟨f4, hr4, -, -⟩ := id hn4
      have S5 := Lib.hid (labelOfI nm v4 vs w4 f4 hnm hr4 (HE.out.upd HU4.out))
      have HN := Lib.hid (show New R1 w w4 v4 vs from hn4.mono hsz3)
      clear HF hN hn4 hr4
      go_wp2_with fail
      refine S5.out.mono ?_
      rintro e w5 ⟨⟨t, rfl, ht⟩, hu5⟩
      have HU := Lib.hid (HU4.out.trans hu5)
      have HN5 := Lib.hid (R1k.new HN.out hu5 (by simp))
      clear S5 HU4 HN hu5
      cases hL : labT nm vs with
      | none =>
        have HR := Lib.hid (show readF s = none by rw [HF2.out, hL]; rfl)
        clear HF2 ht hL
        go_wp2_with fail
        go_ret3
        exact ⟨⟨[], _, [], by rw [HR.out]; rfl, new_nil _ _, by rw [HR.out]; rfl⟩, HU.out⟩
      | some s' =>
        obtain rfl := ht.out s' hL
        by_cases heq : t = s
        · have HR := Lib.hid (show readF s = some (nm, vs) by rw [HF2.out, hL, if_pos (by rw [heq])])
          clear HF2 hL
          subst heq
          clear ht
          go_wp2_with fail
          go_ret3
          exact ⟨⟨nm, _, vs, by rw [HR.out]; rfl, HN5.out, by rw [HR.out]; rfl⟩, HU.out⟩
        · have HR := Lib.hid (show readF s = none by rw [HF2.out, hL, if_neg (by simpa using heq)])
          have hne : (t == s) = false := by simpa using heq
          clear HF2 ht hL
          go_wp2_with fail
          go_ret3
          exact ⟨⟨[], _, [], by rw [HR.out]; rfl, new_nil _ _, by rw [HR.out]; rfl⟩, HU.out⟩

set_option maxRecDepth 20000 in
theorem isLabelI (s : List UInt8) (w : World) (hl : s.length ≤ 2000000) (he : Env w) : Calls Tryz.prog 82 #[es s] w fun e w' => e = .returned (.bool (readF s).isSome) ∧ Upd [] w w' := by
  have S1 := Lib.hid (readLabelI s w hl he)
  clear he
  go_enter Tryz.func82, Tryz.ntmps82
  go_wp2_with fail
  refine S1.out.mono ?_
  rintro e w1 ⟨⟨n, v, vs, rfl, hn, hr⟩, hu⟩
  have HU := Lib.hid hu
  clear S1 hn hr hu
  go_wp2_with fail
  go_ret
  exact ⟨rfl, HU.out⟩

end Go.Proofs.YtlondofadjcooaaGreatDoor

/-
  Lists of labels: what the program's and the reference's calls return.
-/
namespace Go.Proofs.YtlondofadjcooaaGreatDoor
open Go.RowKit

/-- whether a text is a label. -/
def isLab (s : List UInt8) : Bool := (readF s).isSome

set_option maxRecDepth 20000 in
theorem labelS (s : List UInt8) (w : World) (hl : s.length ≤ 2000000) : Calls Tryz.prog 88 #[es s] w fun e w' => e = .returned (.bool (isLab s)) ∧ Upd [] w w' := by
  have S1 := Lib.hid (valuesS s w hl)
  go_enter Tryz.func88, Tryz.ntmps88
  go_wp2_with fail
  refine S1.out.mono ?_
  rintro e w1 ⟨⟨v, vs, rfl, hn, -⟩, hu⟩
  have HU := Lib.hid hu
  clear S1 hn hu
  go_wp2_with fail
  go_ret
  exact ⟨rfl, HU.out⟩

end Go.Proofs.YtlondofadjcooaaGreatDoor

/-
  Binary images, plainly: numbers, texts, the check value, the seal.
-/
namespace Go.Proofs.YtlondofadjcooaaGreatDoor
open Go.RowKit

def edLt (a b : Ed) : Bool := if a.fr ≠ b.fr then decide (a.fr < b.fr) else if a.lb ≠ b.lb then decide (a.lb < b.lb) else decide (a.to < b.to)

/-- all of m from k on. -/
def allF (P : Nat → Bool) : Nat → Nat → Bool
  | _, 0 => true
  | k, m + 1 => P k && allF P (k + 1) m
theorem allF_step (P : Nat → Bool) (k n : Nat) (h : k < n) : allF P k (n - k) = (P k && allF P (k + 1) (n - (k + 1))) := by
  obtain ⟨m, hm⟩ : ∃ m, n - k = m + 1 := ⟨n - k - 1, by omega⟩
  rw [hm, allF, show n - (k + 1) = m by omega]
theorem allF_end (P : Nat → Bool) (n : Nat) : allF P n (n - n) = true := by rw [Nat.sub_self]; rfl

def labP (labs : List (List UInt8)) (i : Nat) : Bool := isLab (labs.getD i []) && ((labs.getD i [] == tauL) == decide (i = 0)) && (!decide (1 < i) || bl (labs.getD (i - 1) []) (labs.getD i []))
def edP (x : Sys) (i : Nat) : Bool :=
  inB (x.eds.getD i ⟨0, 0, 0⟩).fr 0 (x.st - 1) && inB (x.eds.getD i ⟨0, 0, 0⟩).to 0 (x.st - 1) && inB (x.eds.getD i ⟨0, 0, 0⟩).lb 0 (x.labs.length - 1) && (decide (i = 0) || edLt (x.eds.getD (i - 1) ⟨0, 0, 0⟩) (x.eds.getD i ⟨0, 0, 0⟩))
/-- the labels of a system are in order. -/
def labsOk (labs : List (List UInt8)) : Bool := decide (1 ≤ labs.length) && decide (labs.length ≤ 12) && allF (labP labs) 0 labs.length
/-- a system is valid. -/
def sysOk (x : Sys) : Bool := inB x.st 1 40 && inB x.ini 0 (x.st - 1) && labsOk x.labs && decide (x.eds.length ≤ 300) && allF (edP x) 0 x.eds.length

end Go.Proofs.YtlondofadjcooaaGreatDoor

/-
  Relations between systems, the reference's parts: strictly rising lists of pairs.
-/
namespace Go.Proofs.YtlondofadjcooaaGreatDoor
open Go.RowKit

end Go.Proofs.YtlondofadjcooaaGreatDoor

/-
  The check value: what both sides' calls return.
-/
namespace Go.Proofs.YtlondofadjcooaaGreatDoor
open Go.RowKit

end Go.Proofs.YtlondofadjcooaaGreatDoor

/-
  The writer of images: what its calls leave.
-/
namespace Go.Proofs.YtlondofadjcooaaGreatDoor
open Go.RowKit

/-- nothing older than base is written. -/
def Fresh (base : Nat) (w w' : World) : Prop := ∀ w0 : World, w0.heap.size ≤ base → Upd [] w0 w → Upd [] w0 w'
theorem Fresh.refl (base : Nat) (w : World) : Fresh base w w := fun _ _ h => h
theorem Fresh.trans {base : Nat} {w w1 w2 : World} (h : Fresh base w w1) (k : Fresh base w1 w2) : Fresh base w w2 := fun w0 h0 hu => k w0 h0 (h w0 h0 hu)
theorem Fresh.of {base : Nat} {w w1 : World} (h : Upd [] w w1) : Fresh base w w1 := fun _ _ hu => hu.trans h

end Go.Proofs.YtlondofadjcooaaGreatDoor

/-
  Texts and whole images written, by the program and by the reference.
-/
namespace Go.Proofs.YtlondofadjcooaaGreatDoor
open Go.RowKit

end Go.Proofs.YtlondofadjcooaaGreatDoor

/-
  Validity of systems: the parts of both sides' walks.
-/
namespace Go.Proofs.YtlondofadjcooaaGreatDoor
open Go.RowKit

def firstNZ : List Int → Int
  | [] => 0
  | x :: r => if x ≠ 0 then x else firstNZ r

set_option maxRecDepth 20000 in
theorem cmpOr (v : Value) (xs : List Int) (w : World) (fp : List Nat) (hR : R1 fp w [v] xs) : Calls Tryz.prog 97 #[v] w fun e w' => e = .returned (.int .i64 (firstNZ xs)) ∧ w = w' := by
  obtain ⟨a, cap, rfl, h1, h2, hc⟩ := slF1_open hR
  unfold maxLen at h2
  clear hR
  go_enter Tryz.func97, Tryz.ntmps97
  go_wp2_with fail
  go_loop [8] (fun iv => ∃ k : Nat, k ≤ xs.length ∧ iv = .int .i64 k ∧ Hid (firstNZ (xs.drop k) = firstNZ xs)) (fun iv => xs.length - (intOf iv).toNat)
  case atStart => exact ⟨0, Nat.zero_le _, rfl, Lib.hid rfl⟩
  case round =>
    obtain ⟨k, hk, rfl, HF⟩ := hrel
    by_cases hlt : k < xs.length
    · obtain ⟨b, o, rfl, -, -, p1⟩ := hc k hlt
      have HG := Lib.hid (show firstNZ xs = if xs[k] ≠ 0 then xs[k] else firstNZ (xs.drop (k + 1)) by rw [← HF.out, List.drop_eq_getElem_cons hlt, firstNZ])
      generalize xs[k] = x at *
      clear hc HF
      by_cases hx : x = 0
      · have HQ := Lib.hid (HG.out.trans (if_neg (by simpa using hx)))
        subst hx
        clear HG
        go_wp2_with fail
        go_round
        case rel => exact ⟨k + 1, by omega, by go_num, Lib.hid HQ.out.symm⟩
        case measure => simp [intOf]; omega
      · have HQ := Lib.hid (HG.out.trans (if_pos hx))
        have hx1 : (x == 0) = false := by simpa using hx
        have hx2 : (x != 0) = true := by simpa using hx
        clear HG
        go_wp2_with fail
        go_ret
        exact ⟨by rw [HQ.out]; rfl, rfl⟩
    · have HQ := Lib.hid (show firstNZ xs = 0 by rw [← HF.out, List.drop_of_length_le (by omega)]; rfl)
      clear HF hc
      go_wp2_with fail
      go_ret
      exact ⟨by rw [HQ.out]; rfl, rfl⟩

theorem edLt_cmp (a b : Ed) : decide (0 ≤ firstNZ [cmp1 a.fr b.fr, cmp1 a.lb b.lb, cmp1 a.to b.to]) = !edLt a b := by
  unfold edLt firstNZ firstNZ firstNZ firstNZ cmp1
  rcases Int.lt_trichotomy a.fr b.fr with h1 | h1 | h1
  · have h2 : a.fr ≠ b.fr := by omega
    simp [h1, h2]
  · rcases Int.lt_trichotomy a.lb b.lb with h3 | h3 | h3
    · have h4 : a.lb ≠ b.lb := by omega
      simp [h1, h3, h4]
    · rcases Int.lt_trichotomy a.to b.to with h5 | h5 | h5
      · simp [h1, h3, h5]
      · simp [h1, h3, h5]
      · have h6 : ¬ a.to < b.to := by omega
        simp [h1, h3, h5, h6]
    · have h4 : a.lb ≠ b.lb := by omega
      have h5 : ¬ a.lb < b.lb := by omega
      simp [h1, h3, h4, h5]
  · have h2 : a.fr ≠ b.fr := by omega
    have h3 : ¬ a.fr < b.fr := by omega
    simp [h1, h2, h3]

def CmpEd (a b : Ed) (w : World) (e : Ending) (w' : World) : Prop := (∃ c : Int, e = .returned (.int .i64 c) ∧ decide (0 ≤ c) = !edLt a b) ∧ Upd [] w w'

set_option maxRecDepth 20000 in
set_option maxHeartbeats 2000000 in
theorem cmpEdges (a b : Ed) (w : World) : Calls Tryz.prog 84 #[.agg #[ei a.fr, ei a.lb, ei a.to], .agg #[ei b.fr, ei b.lb, ei b.to]] w (CmpEd a b w) := by
  have HE := Lib.hid (edLt_cmp a b)
  have HOR := Lib.hid (fun (W : World) (H : Nat) (hH : W.heap.size = H) (x y z : Int) => show Calls Tryz.prog 97 #[.slice (some ⟨H, 0, none⟩) 3 3] (W.alloc (.cells #[.int .i64 x, .int .i64 y, .int .i64 z] 3)).drew (fun e w' => e = .returned (.int .i64 (firstNZ [x, y, z])) ∧ (W.alloc (.cells #[.int .i64 x, .int .i64 y, .int .i64 z] 3)).drew = w') by
    subst hH
    obtain ⟨fp, h1, -, -⟩ := new_lit (enc := ei) W 3 [x, y, z] (by simp [maxLen])
    exact cmpOr _ [x, y, z] _ fp (R1k.drew h1))
  obtain ⟨a1, a2, a3⟩ := a
  obtain ⟨b1, b2, b3⟩ := b
  simp only at HE ⊢
  go_enter Tryz.func84, Tryz.ntmps84
  go_upto_region 1 with (fail)
  have hs : (w.alloc (.cells #[ei a1, ei a2, ei a3] 55)).heap.size = w.heap.size + 1 := by simp
  go_region_held3 (fun w' => w'.cell? ⟨w.heap.size, 0, none⟩ = some (ei a1) ∧ w'.cell? ⟨w.heap.size, 1, none⟩ = some (ei a2) ∧ w'.cell? ⟨w.heap.size, 2, none⟩ = some (ei a3) ∧ w'.cell? ⟨w.heap.size + 1, 0, none⟩ = some (ei b1) ∧ w'.cell? ⟨w.heap.size + 1, 1, none⟩ = some (ei b2) ∧ w'.cell? ⟨w.heap.size + 1, 2, none⟩ = some (ei b3)) (go_keep)
    (first
      | (go_at_call 98; (with_reducible refine (cmpOne _ _ _).mono ?_); rintro e w1 ⟨rfl, rfl⟩)
      | (go_at_call 97; (with_reducible refine (HOR.out _ _ (by simp) _ _ _).mono ?_); rintro e w1 ⟨rfl, rfl⟩))
  go_wp2_with fail
  go_ret
  exact ⟨⟨_, rfl, HE.out⟩, (((Upd.refl _ _).alloc _).alloc _).alloc _ |>.drew⟩

theorem isStateI (st ini : Int) (v1 v2 : Value) (n : Int) (w : World) (h0 : 1 ≤ st) (h1 : st ≤ 40) :
    Calls Tryz.prog 81 #[.agg #[ei st, ei ini, v1, v2], .int .i64 n] w fun e w' => e = .returned (.bool (inB n 0 (st - 1))) ∧ Upd [] w w' := by
  have S1 := Lib.hid (fun W : World => within n 0 (st - 1) W)
  generalize inB n 0 (st - 1) = b at *
  go_enter Tryz.func81, Tryz.ntmps81
  go_wp2_with fail
  refine (S1.out _).mono ?_
  rintro e w1 ⟨rfl, rfl⟩
  clear S1
  go_wp2_with fail
  go_ret
  exact ⟨rfl, (Upd.refl _ _).alloc _⟩

set_option maxRecDepth 20000 in
set_option maxHeartbeats 2000000 in
theorem lessS (a b : Ed) (p o q o2 : Nat) (w : World) (c1 : w.cell? ⟨p, o, none⟩ = some (ei a.fr)) (c2 : w.cell? ⟨p, o + 1, none⟩ = some (ei a.lb)) (c3 : w.cell? ⟨p, o + 2, none⟩ = some (ei a.to))
    (d1 : w.cell? ⟨q, o2, none⟩ = some (ei b.fr)) (d2 : w.cell? ⟨q, o2 + 1, none⟩ = some (ei b.lb)) (d3 : w.cell? ⟨q, o2 + 2, none⟩ = some (ei b.to)) :
    Calls Tryz.prog 70 #[.pointer (some ⟨p, o, none⟩), .pointer (some ⟨q, o2, none⟩)] w fun e w' => e = .returned (.bool (edLt a b)) ∧ Upd [] w w' := by
  obtain ⟨a1, a2, a3⟩ := a
  obtain ⟨b1, b2, b3⟩ := b
  simp only at c1 c2 c3 d1 d2 d3
  have HE := Lib.hid (show edLt ⟨a1, a2, a3⟩ ⟨b1, b2, b3⟩ = if a1 ≠ b1 then decide (a1 < b1) else if a2 ≠ b2 then decide (a2 < b2) else decide (a3 < b3) from rfl)
  by_cases h1 : a1 = b1
  · have g1 : (a1 != b1) = false := by simp [h1]
    have HE2 := Lib.hid (HE.out.trans (if_neg (by simpa using h1)))
    clear HE h1
    by_cases h2 : a2 = b2
    · have g2 : (a2 != b2) = false := by simp [h2]
      have HE3 := Lib.hid (HE2.out.trans (if_neg (by simpa using h2)))
      clear HE2 h2
      go_enter Tryz.func70, Tryz.ntmps70
      go_wp2_with fail
      go_quiet (fail)
      go_wp2_with fail
      go_quiet (fail)
      go_wp2_with fail
      go_quiet (fail)
      go_wp2_with fail
      go_ret
      exact ⟨by rw [HE3.out]; rfl, by simp only [drewN_add]; exact (Upd.refl _ _).drewN _⟩
    · have g2 : (a2 != b2) = true := by simp [h2]
      have HE3 := Lib.hid (HE2.out.trans (if_pos (by simpa using h2)))
      clear HE2 h2
      go_enter Tryz.func70, Tryz.ntmps70
      go_wp2_with fail
      go_quiet (fail)
      go_wp2_with fail
      go_quiet (fail)
      go_wp2_with fail
      go_quiet (fail)
      go_wp2_with fail
      go_ret
      exact ⟨by rw [HE3.out]; rfl, by simp only [drewN_add]; exact (Upd.refl _ _).drewN _⟩
  · have g1 : (a1 != b1) = true := by simp [h1]
    have HE2 := Lib.hid (HE.out.trans (if_pos (by simpa using h1)))
    clear HE h1
    go_enter Tryz.func70, Tryz.ntmps70
    go_wp2_with fail
    go_quiet (fail)
    go_wp2_with fail
    go_quiet (fail)
    go_wp2_with fail
    go_ret
    exact ⟨by rw [HE2.out]; rfl, by simp only [drewN_add]; exact (Upd.refl _ _).drewN _⟩

end Go.Proofs.YtlondofadjcooaaGreatDoor

/-
  Validity of systems: what the program's call returns.
-/
namespace Go.Proofs.YtlondofadjcooaaGreatDoor
open Go.RowKit

theorem inB_len (n : Nat) : inB (n : Int) 1 12 = (decide (1 ≤ n) && decide (n ≤ 12)) := by
  rw [Bool.eq_iff_iff]
  constructor
  · intro h
    have := inB_true h
    simp; omega
  · intro h
    simp at h
    exact inB_mk (by omega)

theorem labP_at (labs : List (List UInt8)) (k : Nat) (hk : k < labs.length) : labP labs k = (isLab labs[k] && ((labs[k] == tauL) == decide (k = 0)) && (!decide (1 < k) || bl (labs.getD (k - 1) []) labs[k])) := by
  unfold labP
  rw [List.getD_eq_getElem?_getD, List.getElem?_eq_getElem hk]; rfl

theorem edP_at (x : Sys) (k : Nat) (hk : k < x.eds.length) : edP x k = (inB x.eds[k].fr 0 (x.st - 1) && inB x.eds[k].to 0 (x.st - 1) && inB x.eds[k].lb 0 (x.labs.length - 1) && (decide (k = 0) || edLt (x.eds.getD (k - 1) ⟨0, 0, 0⟩) x.eds[k])) := by
  unfold edP
  rw [List.getD_eq_getElem?_getD, List.getElem?_eq_getElem hk]; rfl

set_option maxRecDepth 20000 in
set_option maxHeartbeats 4000000 in
theorem validI (x : Sys) (v1 v2 : Value) (w : World) (f1 f2 : List Nat) (h1 : RS f1 w [v1] x.labs) (h2 : R_E1 f2 w [v2] x.eds) (hp : ∀ p ∈ x.labs, p.length ≤ 2000000) (he : Env w) :
    Calls Tryz.prog 62 #[.agg #[ei x.st, ei x.ini, v1, v2]] w fun e w' => e = .returned (.bool (sysOk x)) ∧ Upd [] w w' := by
  obtain ⟨st, ini, labs, eds⟩ := x
  simp only at h1 h2 hp ⊢
  have HOK := Lib.hid (show sysOk ⟨st, ini, labs, eds⟩ = (inB st 1 40 && inB ini 0 (st - 1) && labsOk labs && decide (eds.length ≤ 300) && allF (edP ⟨st, ini, labs, eds⟩) 0 eds.length) from rfl)
  have HLO := Lib.hid (show labsOk labs = (inB (labs.length : Int) 1 12 && allF (labP labs) 0 labs.length) by rw [inB_len]; rfl)
  obtain ⟨a1, c1, rfl, hl1, hm1, -⟩ := slF1_open h1
  obtain ⟨a2, c2, rfl, hl2, hm2, -⟩ := slF3_open h2
  unfold maxLen at hm1 hm2
  have H1 := Lib.hid h1
  have H2 := Lib.hid h2
  have HP := Lib.hid hp
  have HE := Lib.hid he
  have S1 := Lib.hid (fun W : World => within st 1 40 W)
  have S3 := Lib.hid (fun W : World => within (labs.length : Int) 1 12 W)
  have HB0 := Lib.hid ((Upd.refl [] w).alloc (.cells #[ei st, ei ini, .slice a1 labs.length c1, .slice a2 eds.length c2] 30))
  have HBX := Lib.hid (fun W => fun (hu : Upd [] (w.alloc (.cells #[ei st, ei ini, .slice a1 labs.length c1, .slice a2 eds.length c2] 30)) W) => show W.cell? ⟨w.heap.size, 0, none⟩ = some (ei st) ∧ W.cell? ⟨w.heap.size, 1, none⟩ = some (ei ini) ∧ W.cell? ⟨w.heap.size, 2, none⟩ = some (.slice a1 labs.length c1) ∧ W.cell? ⟨w.heap.size, 3, none⟩ = some (.slice a2 eds.length c2) from
    ⟨hu.keep (cell_new w _ _ _ rfl 0 _ rfl), hu.keep (cell_new w _ _ _ rfl 1 _ rfl), hu.keep (cell_new w _ _ _ rfl 2 _ rfl), hu.keep (cell_new w _ _ _ rfl 3 _ rfl)⟩)
  clear h1 h2 hp he
  cases hb1 : inB st 1 40 with
  | false =>
    have HR := Lib.hid (show sysOk ⟨st, ini, labs, eds⟩ = false by rw [HOK.out, hb1]; rfl)
    rw [hb1] at S1
    clear HOK HLO hb1 S3
    go_enter Tryz.func62, Tryz.ntmps62
    go_wp2_with fail
    refine (S1.out _).mono ?_
    rintro e w1 ⟨rfl, rfl⟩
    clear S1
    go_wp2_with fail
    go_ret
    exact ⟨by rw [HR.out]; rfl, HB0.out⟩
  | true =>
    have hst := inB_true hb1
    have S2 := Lib.hid (fun W : World => isStateI st ini (.slice a1 labs.length c1) (.slice a2 eds.length c2) ini W hst.1 hst.2)
    rw [hb1] at S1 HOK
    cases hb2 : inB ini 0 (st - 1) with
    | false =>
      have HR := Lib.hid (show sysOk ⟨st, ini, labs, eds⟩ = false by rw [HOK.out, hb2]; rfl)
      rw [hb2] at S2
      clear HOK HLO hb1 hb2 S3
      go_enter Tryz.func62, Tryz.ntmps62
      go_wp2_with fail
      refine (S1.out _).mono ?_
      rintro e w1 ⟨rfl, rfl⟩
      clear S1
      go_wp2_with fail
      refine (S2.out _).mono ?_
      rintro e w2 ⟨rfl, hu2⟩
      have HU2 := Lib.hid (HB0.out.trans hu2)
      clear S2 hu2
      go_wp2_with fail
      go_ret
      exact ⟨by rw [HR.out]; rfl, HU2.out⟩
    | true =>
      rw [hb2] at S2 HOK
      cases hb3 : inB (labs.length : Int) 1 12 with
      | false =>
        have HR := Lib.hid (show sysOk ⟨st, ini, labs, eds⟩ = false by rw [HOK.out, HLO.out, hb3]; rfl)
        rw [hb3] at S3
        clear HOK HLO hb1 hb2 hb3
        go_enter Tryz.func62, Tryz.ntmps62
        go_wp2_with fail
        refine (S1.out _).mono ?_
        rintro e w1 ⟨rfl, rfl⟩
        clear S1
        go_wp2_with fail
        refine (S2.out _).mono ?_
        rintro e w2 ⟨rfl, hu2⟩
        have HU2 := Lib.hid (HB0.out.trans hu2)
        obtain ⟨x0, x1, x2, x3⟩ := HBX.out w2 hu2
        clear S2 hu2
        go_wp2_with fail
        refine (S3.out _).mono ?_
        rintro e w3 ⟨rfl, rfl⟩
        clear S3
        go_wp2_with fail
        go_ret
        exact ⟨by rw [HR.out]; rfl, HU2.out⟩
      | true =>
        have hn3 := inB_true hb3
        rw [hb3] at S3 HLO
        by_cases hel : eds.length ≤ 300
        · have HOK2 := Lib.hid (show sysOk ⟨st, ini, labs, eds⟩ = (allF (labP labs) 0 labs.length && allF (edP ⟨st, ini, labs, eds⟩) 0 eds.length) by
            rw [HOK.out, HLO.out, decide_eq_true hel]; simp)
          have he3 : ¬ (300 : Int) < (eds.length : Int) := by omega
          clear HOK HLO hb1 hb2 hb3
          go_enter Tryz.func62, Tryz.ntmps62
          go_wp2_with fail
          refine (S1.out _).mono ?_
          rintro e w1 ⟨rfl, rfl⟩
          clear S1
          go_wp2_with fail
          refine (S2.out _).mono ?_
          rintro e w2 ⟨rfl, hu2⟩
          have HU2 := Lib.hid hu2
          obtain ⟨x0, x1, x2, x3⟩ := HBX.out w2 hu2
          clear S2 hu2
          go_wp2_with fail
          refine (S3.out _).mono ?_
          rintro e w3 ⟨rfl, rfl⟩
          clear S3
          go_wp2_with fail
          obtain ⟨wb, hwb⟩ : ∃ wb, wb = w.alloc (.cells #[ei st, ei ini, .slice a1 labs.length c1, .slice a2 eds.length c2] 30) := ⟨_, rfl⟩
          rw [← hwb] at HU2 HBX HB0
          clear hwb x0 x1 x2 x3
          go_loopw [34] (fun iv wr => ∃ k : Nat, k ≤ labs.length ∧ iv = .int .i64 k ∧ Hid (allF (labP labs) k (labs.length - k) = allF (labP labs) 0 labs.length) ∧ Upd [] wb wr) (fun iv _ => labs.length - (intOf iv).toNat)
          case atStart => exact ⟨0, Nat.zero_le _, rfl, Lib.hid rfl, HU2.out⟩
          case round =>
            clear HU2
            obtain ⟨k, hk, rfl, HA, hU⟩ := hrel
            by_cases hlt : k < labs.length
            · obtain ⟨a', c', hv, -, -, hc⟩ := slF1_open (RSk.upd H1.out (HB0.out.trans hU) (by simp))
              cases hv
              obtain ⟨b1, o1, rfl, -, -, p1⟩ := hc k hlt
              have HA2 := Lib.hid (HA.out.symm.trans (allF_step (labP labs) k labs.length hlt))
              have HLP := Lib.hid (labP_at labs k hlt)
              have hsl := HP.out labs[k] (List.getElem_mem hlt)
              have hpr : 1 < k → wr.cell? ⟨b1, o1 + (k - 1), none⟩ = some (es (labs.getD (k - 1) [])) := fun h => by
                obtain ⟨b2, o2, hv2, -, -, p2⟩ := hc (k - 1) (by omega)
                cases hv2
                rw [p2, List.getD_eq_getElem?_getD, List.getElem?_eq_getElem (by omega)]; rfl
              have HPR := Lib.hid hpr
              obtain ⟨x0, x1, x2, x3⟩ := HBX.out wr hU
              have SL := Lib.hid (show Calls Tryz.prog 82 #[es labs[k]] wr fun e w' => e = .returned (.bool (isLab labs[k])) ∧ Upd [] wr w' from isLabelI _ wr hsl (HE.out.upd (HB0.out.trans hU)))
              generalize labs[k] = s at *
              have HU := Lib.hid hU
              clear hc HA hU hpr
              cases hls : isLab s with
              | false =>
                have HR := Lib.hid (show sysOk ⟨st, ini, labs, eds⟩ = false by rw [HOK2.out, HA2.out, HLP.out, hls]; rfl)
                rw [hls] at SL
                clear HOK2 HA2 HLP hls HPR
                go_wp2_with fail
                refine SL.out.mono ?_
                rintro e w4 ⟨rfl, hu4⟩
                have HU4 := Lib.hid (HB0.out.trans (HU.out.trans hu4))
                clear SL hu4
                go_wp2_with fail
                go_ret
                exact ⟨by rw [HR.out]; rfl, HU4.out⟩
              | true =>
                rw [hls] at SL HLP
                by_cases ht : s = tauL
                · by_cases k0 : k = 0
                  · have HA3 := Lib.hid (show allF (labP labs) (k + 1) (labs.length - (k + 1)) = allF (labP labs) 0 labs.length by
                      rw [HA2.out, HLP.out, ht, k0]; simp)
                    have g1 : (s == [116, 97, 117]) = true := by simpa [tauL] using ht
                    have g2 : ((k : Int) == 0) = true := by rw [k0]; rfl
                    have g3 : ¬ (1 : Int) < (k : Int) := by omega
                    have K0 := Lib.hid k0
                    clear HA2 HLP ht hls HPR k0
                    go_wp2_with fail
                    refine SL.out.mono ?_
                    rintro e w4 ⟨rfl, hu4⟩
                    have HU4 := Lib.hid (HU.out.trans hu4)
                    clear SL hu4
                    go_wp2_with fail
                    go_roundw
                    case rel => exact ⟨k + 1, by omega, by go_num, HA3, HU4.out⟩
                    case measure => simp [intOf]; omega
                  · have HR := Lib.hid (show sysOk ⟨st, ini, labs, eds⟩ = false by rw [HOK2.out, HA2.out, HLP.out, ht, decide_eq_false k0]; simp)
                    have g1 : (s == [116, 97, 117]) = true := by simpa [tauL] using ht
                    have g2 : ((k : Int) == 0) = false := by simpa using k0
                    clear HOK2 HA2 HLP ht hls HPR k0
                    go_wp2_with fail
                    refine SL.out.mono ?_
                    rintro e w4 ⟨rfl, hu4⟩
                    have HU4 := Lib.hid (HB0.out.trans (HU.out.trans hu4))
                    clear SL hu4
                    go_wp2_with fail
                    go_ret
                    exact ⟨by rw [HR.out]; rfl, HU4.out⟩
                · have g1 : (s == [116, 97, 117]) = false := by simpa [tauL] using ht
                  have hst0 : (s == tauL) = false := by simpa using ht
                  rw [hst0] at HLP
                  by_cases k0 : k = 0
                  · have HR := Lib.hid (show sysOk ⟨st, ini, labs, eds⟩ = false by rw [HOK2.out, HA2.out, HLP.out, decide_eq_true k0]; simp)
                    have g2 : ((k : Int) == 0) = true := by rw [k0]; rfl
                    clear HOK2 HA2 HLP ht hst0 hls HPR k0
                    go_wp2_with fail
                    refine SL.out.mono ?_
                    rintro e w4 ⟨rfl, hu4⟩
                    have HU4 := Lib.hid (HB0.out.trans (HU.out.trans hu4))
                    clear SL hu4
                    go_wp2_with fail
                    go_ret
                    exact ⟨by rw [HR.out]; rfl, HU4.out⟩
                  · have g2 : ((k : Int) == 0) = false := by simpa using k0
                    by_cases k1 : 1 < k
                    · have p0 := HPR.out k1
                      have hk1 : (1 : Int) < (k : Int) := by omega
                      have HLP2 := Lib.hid (show labP labs k = bl (labs.getD (k - 1) []) s by rw [HLP.out, decide_eq_false k0, decide_eq_true k1]; simp)
                      have i1 : ((k : Int) - 1).toNat = k - 1 := by omega
                      have i2 : k - 1 < labs.length := by omega
                      have i3 : (0 : Int) ≤ (k : Int) - 1 := by omega
                      have i4 : (k : Int) - 1 < (labs.length : Int) := by omega
                      generalize labs.getD (k - 1) [] = pv at *
                      have hcmp : (Op.bytesLess s pv || s == pv) = !bl pv s := bl_total s pv
                      cases hbl : bl pv s with
                      | false =>
                        rw [hbl] at HLP2 hcmp
                        have HR := Lib.hid (show sysOk ⟨st, ini, labs, eds⟩ = false by rw [HOK2.out, HA2.out, HLP2.out]; rfl)
                        clear HOK2 HA2 HLP ht hst0 hls HPR k0 HLP2 hbl
                        go_wp2_with fail
                        refine SL.out.mono ?_
                        rintro e w4 ⟨rfl, hu4⟩
                        have q0 := hu4.keep p0
                        obtain ⟨x0, x1, x2, x3⟩ := HBX.out w4 (HU.out.trans hu4)
                        have HU4 := Lib.hid (HB0.out.trans (HU.out.trans hu4))
                        clear SL hu4 p0
                        go_wp2_with fail
                        go_ret
                        exact ⟨by rw [HR.out]; rfl, HU4.out⟩
                      | true =>
                        rw [hbl] at HLP2 hcmp
                        have HA3 := Lib.hid (show allF (labP labs) (k + 1) (labs.length - (k + 1)) = allF (labP labs) 0 labs.length by
                          rw [HA2.out, HLP2.out]; simp)
                        clear HA2 HLP ht hst0 hls HPR k0 HLP2 hbl
                        go_wp2_with fail
                        refine SL.out.mono ?_
                        rintro e w4 ⟨rfl, hu4⟩
                        have q0 := hu4.keep p0
                        have HU4 := Lib.hid (HU.out.trans hu4)
                        obtain ⟨x0, x1, x2, x3⟩ := HBX.out w4 HU4.out
                        clear SL hu4 p0
                        go_wp2_with fail
                        go_roundw
                        case rel => exact ⟨k + 1, by omega, by go_num, HA3, HU4.out⟩
                        case measure => simp [intOf]; omega
                    · have HA3 := Lib.hid (show allF (labP labs) (k + 1) (labs.length - (k + 1)) = allF (labP labs) 0 labs.length by
                        rw [HA2.out, HLP.out, decide_eq_false k0, decide_eq_false k1]; simp)
                      have g3 : ¬ (1 : Int) < (k : Int) := by omega
                      clear HA2 HLP ht hst0 hls HPR k0 k1
                      go_wp2_with fail
                      refine SL.out.mono ?_
                      rintro e w4 ⟨rfl, hu4⟩
                      have HU4 := Lib.hid (HU.out.trans hu4)
                      clear SL hu4
                      go_wp2_with fail
                      go_roundw
                      case rel => exact ⟨k + 1, by omega, by go_num, HA3, HU4.out⟩
                      case measure => simp [intOf]; omega
            · obtain rfl : k = labs.length := by omega
              have HLT := Lib.hid (show allF (labP labs) 0 labs.length = true by rw [← HA.out, allF_end])
              have HOK3 := Lib.hid (show sysOk ⟨st, ini, labs, eds⟩ = allF (edP ⟨st, ini, labs, eds⟩) 0 eds.length by rw [HOK2.out, HLT.out]; rfl)
              obtain ⟨wo, rfl⟩ : ∃ wo : World, wo = wr := ⟨_, rfl⟩
              obtain ⟨x0, x1, x2, x3⟩ := HBX.out wo hU
              have HU := Lib.hid hU
              have HIS := Lib.hid (fun (n : Int) (W : World) => isStateI st ini (.slice a1 labs.length c1) (.slice a2 eds.length c2) n W hst.1 hst.2)
              have HIX := Lib.hid (fun (n : Int) (W : World) => idxI n labs.length W (by omega))
              clear HA HLT HOK2 hU H1 HP HE
              go_wp2_with fail
              clear x0 x1 x2 x3
              go_loopw [67] (fun iv wr => ∃ k : Nat, k ≤ eds.length ∧ iv = .int .i64 k ∧ Hid (allF (edP ⟨st, ini, labs, eds⟩) k (eds.length - k) = allF (edP ⟨st, ini, labs, eds⟩) 0 eds.length) ∧ Upd [] wb wr) (fun iv _ => eds.length - (intOf iv).toNat)
              case atStart => exact ⟨0, Nat.zero_le _, rfl, Lib.hid rfl, HU.out⟩
              case round =>
                clear HU
                obtain ⟨k, hk, rfl, HA, hU⟩ := hrel
                by_cases hlt : k < eds.length
                · obtain ⟨a', c', hv, -, -, hc⟩ := slF3_open (R_E1k.upd H2.out (HB0.out.trans hU) (by simp))
                  cases hv
                  obtain ⟨b1, o1, rfl, -, -, p1, p2, p3⟩ := hc k hlt
                  have HA2 := Lib.hid (HA.out.symm.trans (allF_step (edP ⟨st, ini, labs, eds⟩) k eds.length hlt))
                  have HEP := Lib.hid (edP_at ⟨st, ini, labs, eds⟩ k hlt)
                  have hpr : 0 < k → wr.cell? ⟨b1, o1 + (k - 1) * 3, none⟩ = some (ei (eds.getD (k - 1) ⟨0, 0, 0⟩).fr) ∧ wr.cell? ⟨b1, o1 + (k - 1) * 3 + 1, none⟩ = some (ei (eds.getD (k - 1) ⟨0, 0, 0⟩).lb) ∧ wr.cell? ⟨b1, o1 + (k - 1) * 3 + 2, none⟩ = some (ei (eds.getD (k - 1) ⟨0, 0, 0⟩).to) := fun h => by
                    obtain ⟨b2, o2, hv2, -, -, q1, q2, q3⟩ := hc (k - 1) (by omega)
                    cases hv2
                    rw [List.getD_eq_getElem?_getD, List.getElem?_eq_getElem (by omega)]
                    exact ⟨q1, q2, q3⟩
                  have HPR := Lib.hid hpr
                  have hx := HBX.out wr hU
                  simp only at HEP
                  generalize eds[k] = ek at *
                  generalize eds.getD (k - 1) ⟨0, 0, 0⟩ = pk at *
                  obtain ⟨fr, lb, td⟩ := ek
                  simp only at p1 p2 p3 HEP
                  have HU := Lib.hid hU
                  have SF := Lib.hid (HIS.out fr)
                  have ST := Lib.hid (HIS.out td)
                  have SI := Lib.hid (HIX.out lb)
                  have SC := Lib.hid (fun W : World => show Calls Tryz.prog 84 #[.agg #[ei pk.fr, ei pk.lb, ei pk.to], .agg #[ei fr, ei lb, ei td]] W (fun e w' => (∃ c : Int, e = .returned (.int .i64 c) ∧ decide (0 ≤ c) = !edLt pk ⟨fr, lb, td⟩) ∧ Upd [] W w') from cmpEdges pk ⟨fr, lb, td⟩ W)
                  have hbl := (HBX.out wr hU).1
                  have hbs : w.heap.size < wr.heap.size := World.block_lt_of_cell? wr ⟨w.heap.size, 0, none⟩ hbl
                  obtain ⟨x0, x1, x2, x3⟩ := hx
                  clear hc HA hU hpr hbl HIS HIX
                  go_wp2_with fail
                  obtain ⟨w5, hw5⟩ : ∃ w5, w5 = wr.alloc (.cells #[.int .i64 fr, .int .i64 lb, .int .i64 td] 55) := ⟨_, rfl⟩
                  rw [← hw5]
                  have hu5 : Upd [] wr w5 := by rw [hw5]; exact (Upd.refl _ _).alloc _
                  obtain ⟨BB, hBB⟩ : ∃ BB, BB = wr.heap.size := ⟨_, rfl⟩
                  have z0 : w5.cell? ⟨BB, 0, none⟩ = some (ei fr) := by rw [hw5]; exact cell_new wr _ _ _ hBB.symm 0 _ rfl
                  have z1 : w5.cell? ⟨BB, 1, none⟩ = some (ei lb) := by rw [hw5]; exact cell_new wr _ _ _ hBB.symm 1 _ rfl
                  have z2 : w5.cell? ⟨BB, 2, none⟩ = some (ei td) := by rw [hw5]; exact cell_new wr _ _ _ hBB.symm 2 _ rfl
                  have y0 := hu5.keep x0
                  have y1 := hu5.keep x1
                  have y2 := hu5.keep x2
                  have y3 := hu5.keep x3
                  have HPR5 := Lib.hid (fun h : 0 < k => show w5.cell? ⟨b1, o1 + (k - 1) * 3, none⟩ = some (ei pk.fr) ∧ w5.cell? ⟨b1, o1 + (k - 1) * 3 + 1, none⟩ = some (ei pk.lb) ∧ w5.cell? ⟨b1, o1 + (k - 1) * 3 + 2, none⟩ = some (ei pk.to) from ⟨hu5.keep (HPR.out h).1, hu5.keep (HPR.out h).2.1, hu5.keep (HPR.out h).2.2⟩)
                  have HU5 := Lib.hid (HU.out.trans hu5)
                  rw [← hBB]
                  clear hw5 hu5 hBB x0 x1 x2 x3 p1 p2 p3 HPR HU hbs
                  cases hf1 : inB fr 0 (st - 1) with
                  | false =>
                    rw [hf1] at SF
                    have HR := Lib.hid (show sysOk ⟨st, ini, labs, eds⟩ = false by rw [HOK3.out, HA2.out, HEP.out, hf1]; simp)
                    clear HOK3 HA2 HEP
                    clear hf1
                    refine wp_region_held_drew (S := fun w' => w'.cell? ⟨w.heap.size, 0, none⟩ = some (ei st) ∧ w'.cell? ⟨w.heap.size, 1, none⟩ = some (ei ini) ∧ w'.cell? ⟨w.heap.size, 2, none⟩ = some (.slice a1 labs.length c1) ∧ w'.cell? ⟨w.heap.size, 3, none⟩ = some (.slice (some ⟨b1, o1, none⟩) eds.length c2) ∧ w'.cell? ⟨BB, 0, none⟩ = some (ei fr) ∧ w'.cell? ⟨BB, 1, none⟩ = some (ei lb) ∧ w'.cell? ⟨BB, 2, none⟩ = some (ei td)) (by kernel_rfl) ?_ (fun hHeld => ?_)
                    · exact ⟨y0, y1, y2, y3, z0, z1, z2⟩
                    refine wpAnyH_take (i := 0) (v := ?_) rfl (by kernel_rfl) (by kernel_rfl) (by kernel_rfl) (fun _ _ _ h => h) (Or.inl ⟨by rfl, ?_⟩) (by assumption) ?_
                    rotate_left
                    · (intro w hSw; (try dsimp only at hSw); go_simp)
                      first | done | with_reducible rfl
                    simp only [Act.put, List.getElem_toArray, List.getElem_cons_zero, List.setIfInBounds_toArray, List.set_cons_zero, List.set_cons_succ]
                    refine wpAnyH_take (i := 1) (v := ?_) rfl (by kernel_rfl) (by kernel_rfl) (by kernel_rfl) (fun _ _ _ h => h) (Or.inl ⟨by rfl, ?_⟩) (by assumption) ?_
                    rotate_left
                    · (intro w hSw; (try dsimp only at hSw); go_simp)
                      first | done | with_reducible rfl
                    simp only [Act.put, List.getElem_toArray, List.getElem_cons_zero, List.getElem_cons_succ, List.setIfInBounds_toArray, List.set_cons_zero, List.set_cons_succ]
                    refine wpAnyH_take (i := 2) (v := ?_) rfl (by kernel_rfl) (by kernel_rfl) (by kernel_rfl) (fun _ _ _ h => h) (Or.inl ⟨by rfl, ?_⟩) (by assumption) ?_
                    rotate_left
                    · (intro w hSw; (try dsimp only at hSw); go_simp)
                      first | done | with_reducible rfl
                    simp only [Act.put, List.getElem_toArray, List.getElem_cons_zero, List.getElem_cons_succ, List.setIfInBounds_toArray, List.set_cons_zero, List.set_cons_succ]
                    refine wpAnyH_ready (rs := [3]) (by kernel_rfl) (by simp) ?_
                    refine AllReadyH.cons rfl (fun K hK => ?_) AllReadyH.nil
                    go_simp
                    refine (SF.out _).mono ?_
                    rintro e w3 ⟨rfl, hu1⟩
                    refine hK.out _ _ ?_ (fun hHeld => ?_)
                    · exact ⟨hu1.keep hHeld.1, hu1.keep hHeld.2.1, hu1.keep hHeld.2.2.1, hu1.keep hHeld.2.2.2.1, hu1.keep hHeld.2.2.2.2.1, hu1.keep hHeld.2.2.2.2.2.1, hu1.keep hHeld.2.2.2.2.2.2⟩
                    clear hK K
                    try simp only [Act.put, List.getElem_toArray, List.getElem_cons_zero, List.getElem_cons_succ, List.setIfInBounds_toArray, List.set_cons_zero, List.set_cons_succ]
                    refine wpAnyH_take (i := 4) (v := ?_) rfl (by kernel_rfl) (by kernel_rfl) (by kernel_rfl) (fun _ _ _ h => h) (Or.inl ⟨by rfl, ?_⟩) (by assumption) ?_
                    rotate_left
                    · (intro w hSw; (try dsimp only at hSw); go_simp)
                      first | done | with_reducible rfl
                    simp only [Act.put, List.getElem_toArray, List.getElem_cons_zero, List.getElem_cons_succ, List.setIfInBounds_toArray, List.set_cons_zero, List.set_cons_succ]
                    refine wpAnyH_take (i := 5) (v := ?_) rfl (by kernel_rfl) (by kernel_rfl) (by kernel_rfl) (fun _ _ _ h => h) (Or.inl ⟨by rfl, ?_⟩) (by assumption) ?_
                    rotate_left
                    · (intro w hSw; (try dsimp only at hSw); go_simp)
                      first | done | with_reducible rfl
                    simp only [Act.put, List.getElem_toArray, List.getElem_cons_zero, List.getElem_cons_succ, List.setIfInBounds_toArray, List.set_cons_zero, List.set_cons_succ]
                    refine wpAnyH_take (i := 6) rfl (by kernel_rfl) (by kernel_rfl) (by kernel_rfl) (fun _ _ _ h => h) (Or.inr ⟨by rfl, rfl⟩) (by assumption) ?_
                    simp only [Act.put, List.getElem_toArray, List.getElem_cons_zero, List.getElem_cons_succ, List.setIfInBounds_toArray, List.set_cons_zero, List.set_cons_succ]
                    refine wpAnyH_take (i := 7) rfl (by kernel_rfl) (by kernel_rfl) (by kernel_rfl) (fun _ _ _ h => h) (Or.inr ⟨by rfl, rfl⟩) (by assumption) ?_
                    simp only [Act.put, List.getElem_toArray, List.getElem_cons_zero, List.getElem_cons_succ, List.setIfInBounds_toArray, List.set_cons_zero, List.set_cons_succ]
                    refine wpAnyH_take (i := 8) rfl (by kernel_rfl) (by kernel_rfl) (by kernel_rfl) (fun _ _ _ h => h) (Or.inr ⟨by rfl, rfl⟩) (by assumption) ?_
                    simp only [Act.put, List.getElem_toArray, List.getElem_cons_zero, List.getElem_cons_succ, List.setIfInBounds_toArray, List.set_cons_zero, List.set_cons_succ]
                    refine wpAnyH_take (i := 9) rfl (by kernel_rfl) (by kernel_rfl) (by kernel_rfl) (fun _ _ _ h => h) (Or.inr ⟨by rfl, rfl⟩) (by assumption) ?_
                    simp only [Act.put, List.getElem_toArray, List.getElem_cons_zero, List.getElem_cons_succ, List.setIfInBounds_toArray, List.set_cons_zero, List.set_cons_succ]
                    refine wpAnyH_take (i := 10) rfl (by kernel_rfl) (by kernel_rfl) (by kernel_rfl) (fun _ _ _ h => h) (Or.inr ⟨by rfl, rfl⟩) (by assumption) ?_
                    simp only [Act.put, List.getElem_toArray, List.getElem_cons_zero, List.getElem_cons_succ, List.setIfInBounds_toArray, List.set_cons_zero, List.set_cons_succ]
                    refine wpAnyH_take (i := 11) (v := ?_) rfl (by kernel_rfl) (by kernel_rfl) (by kernel_rfl) (fun _ _ _ h => h) (Or.inl ⟨by rfl, ?_⟩) (by assumption) ?_
                    rotate_left
                    · (intro w hSw; (try dsimp only at hSw); go_simp)
                      first | done | with_reducible rfl
                    simp only [Act.put, List.getElem_toArray, List.getElem_cons_zero, List.getElem_cons_succ, List.setIfInBounds_toArray, List.set_cons_zero, List.set_cons_succ]
                    refine wpAnyH_take (i := 12) (v := ?_) rfl (by kernel_rfl) (by kernel_rfl) (by kernel_rfl) (fun _ _ _ h => h) (Or.inl ⟨by rfl, ?_⟩) (by assumption) ?_
                    rotate_left
                    · (intro w hSw; (try dsimp only at hSw); go_simp)
                      first | done | with_reducible rfl
                    simp only [Act.put, List.getElem_toArray, List.getElem_cons_zero, List.getElem_cons_succ, List.setIfInBounds_toArray, List.set_cons_zero, List.set_cons_succ]
                    refine wpAnyH_take (i := 13) rfl (by kernel_rfl) (by kernel_rfl) (by kernel_rfl) (fun _ _ _ h => h) (Or.inr ⟨by rfl, rfl⟩) (by assumption) ?_
                    simp only [Act.put, List.getElem_toArray, List.getElem_cons_zero, List.getElem_cons_succ, List.setIfInBounds_toArray, List.set_cons_zero, List.set_cons_succ]
                    refine wpAnyH_take (i := 14) rfl (by kernel_rfl) (by kernel_rfl) (by kernel_rfl) (fun _ _ _ h => h) (Or.inr ⟨by rfl, rfl⟩) (by assumption) ?_
                    simp only [Act.put, List.getElem_toArray, List.getElem_cons_zero, List.getElem_cons_succ, List.setIfInBounds_toArray, List.set_cons_zero, List.set_cons_succ]
                    refine wpAnyH_take (i := 15) rfl (by kernel_rfl) (by kernel_rfl) (by kernel_rfl) (fun _ _ _ h => h) (Or.inr ⟨by rfl, rfl⟩) (by assumption) ?_
                    simp only [Act.put, List.getElem_toArray, List.getElem_cons_zero, List.getElem_cons_succ, List.setIfInBounds_toArray, List.set_cons_zero, List.set_cons_succ]
                    refine wpAnyH_take (i := 16) rfl (by kernel_rfl) (by kernel_rfl) (by kernel_rfl) (fun _ _ _ h => h) (Or.inr ⟨by rfl, rfl⟩) (by assumption) ?_
                    simp only [Act.put, List.getElem_toArray, List.getElem_cons_zero, List.getElem_cons_succ, List.setIfInBounds_toArray, List.set_cons_zero, List.set_cons_succ]
                    refine wpAnyH_take (i := 17) rfl (by kernel_rfl) (by kernel_rfl) (by kernel_rfl) (fun _ _ _ h => h) (Or.inr ⟨by rfl, rfl⟩) (by assumption) ?_
                    simp only [Act.put, List.getElem_toArray, List.getElem_cons_zero, List.getElem_cons_succ, List.setIfInBounds_toArray, List.set_cons_zero, List.set_cons_succ]
                    refine wpAnyH_take (i := 18) rfl (by kernel_rfl) (by kernel_rfl) (by kernel_rfl) (fun _ _ _ h => h) (Or.inr ⟨by rfl, rfl⟩) (by assumption) ?_
                    simp only [Act.put, List.getElem_toArray, List.getElem_cons_zero, List.getElem_cons_succ, List.setIfInBounds_toArray, List.set_cons_zero, List.set_cons_succ]
                    refine wpAnyH_take (i := 19) rfl (by kernel_rfl) (by kernel_rfl) (by kernel_rfl) (fun _ _ _ h => h) (Or.inr ⟨by rfl, rfl⟩) (by assumption) ?_
                    simp only [Act.put, List.getElem_toArray, List.getElem_cons_zero, List.getElem_cons_succ, List.setIfInBounds_toArray, List.set_cons_zero, List.set_cons_succ]
                    refine wpAnyH_take (i := 20) (v := ?_) rfl (by kernel_rfl) (by kernel_rfl) (by kernel_rfl) (fun _ _ _ h => h) (Or.inl ⟨by rfl, ?_⟩) (by assumption) ?_
                    rotate_left
                    · (intro w hSw; (try dsimp only at hSw); go_simp)
                      first | done | with_reducible rfl
                    simp only [Act.put, List.getElem_toArray, List.getElem_cons_zero, List.getElem_cons_succ, List.setIfInBounds_toArray, List.set_cons_zero, List.set_cons_succ]
                    refine wpAnyH_take (i := 21) (v := ?_) rfl (by kernel_rfl) (by kernel_rfl) (by kernel_rfl) (fun _ _ _ h => h) (Or.inl ⟨by rfl, ?_⟩) (by assumption) ?_
                    rotate_left
                    · (intro w hSw; (try dsimp only at hSw); go_simp)
                      first | done | with_reducible rfl
                    simp only [Act.put, List.getElem_toArray, List.getElem_cons_zero, List.getElem_cons_succ, List.setIfInBounds_toArray, List.set_cons_zero, List.set_cons_succ]
                    refine wpAnyH_take (i := 22) rfl (by kernel_rfl) (by kernel_rfl) (by kernel_rfl) (fun _ _ _ h => h) (Or.inr ⟨by rfl, rfl⟩) (by assumption) ?_
                    simp only [Act.put, List.getElem_toArray, List.getElem_cons_zero, List.getElem_cons_succ, List.setIfInBounds_toArray, List.set_cons_zero, List.set_cons_succ]
                    refine wpAnyH_take (i := 23) rfl (by kernel_rfl) (by kernel_rfl) (by kernel_rfl) (fun _ _ _ h => h) (Or.inr ⟨by rfl, rfl⟩) (by assumption) ?_
                    simp only [Act.put, List.getElem_toArray, List.getElem_cons_zero, List.getElem_cons_succ, List.setIfInBounds_toArray, List.set_cons_zero, List.set_cons_succ]
                    refine wpAnyH_take (i := 24) rfl (by kernel_rfl) (by kernel_rfl) (by kernel_rfl) (fun _ _ _ h => h) (Or.inr ⟨by rfl, rfl⟩) (by assumption) ?_
                    simp only [Act.put, List.getElem_toArray, List.getElem_cons_zero, List.getElem_cons_succ, List.setIfInBounds_toArray, List.set_cons_zero, List.set_cons_succ]
                    refine wpAnyH_take (i := 25) rfl (by kernel_rfl) (by kernel_rfl) (by kernel_rfl) (fun _ _ _ h => h) (Or.inr ⟨by rfl, rfl⟩) (by assumption) ?_
                    simp only [Act.put, List.getElem_toArray, List.getElem_cons_zero, List.getElem_cons_succ, List.setIfInBounds_toArray, List.set_cons_zero, List.set_cons_succ]
                    refine wpAnyH_take (i := 26) rfl (by kernel_rfl) (by kernel_rfl) (by kernel_rfl) (fun _ _ _ h => h) (Or.inr ⟨by rfl, rfl⟩) (by assumption) ?_
                    simp only [Act.put, List.getElem_toArray, List.getElem_cons_zero, List.getElem_cons_succ, List.setIfInBounds_toArray, List.set_cons_zero, List.set_cons_succ]
                    refine wpAnyH_take (i := 27) rfl (by kernel_rfl) (by kernel_rfl) (by kernel_rfl) (fun _ _ _ h => h) (Or.inr ⟨by rfl, rfl⟩) (by assumption) ?_
                    simp only [Act.put, List.getElem_toArray, List.getElem_cons_zero, List.getElem_cons_succ, List.setIfInBounds_toArray, List.set_cons_zero, List.set_cons_succ]
                    refine wpAnyH_take (i := 28) rfl (by kernel_rfl) (by kernel_rfl) (by kernel_rfl) (fun _ _ _ h => h) (Or.inr ⟨by rfl, rfl⟩) (by assumption) ?_
                    simp only [Act.put, List.getElem_toArray, List.getElem_cons_zero, List.getElem_cons_succ, List.setIfInBounds_toArray, List.set_cons_zero, List.set_cons_succ]
                    refine wpAnyH_take (i := 29) rfl (by kernel_rfl) (by kernel_rfl) (by kernel_rfl) (fun _ _ _ h => h) (Or.inr ⟨by rfl, rfl⟩) (by assumption) ?_
                    simp only [Act.put, List.getElem_toArray, List.getElem_cons_zero, List.getElem_cons_succ, List.setIfInBounds_toArray, List.set_cons_zero, List.set_cons_succ]
                    refine wpAnyH_take (i := 30) rfl (by kernel_rfl) (by kernel_rfl) (by kernel_rfl) (fun _ _ _ h => h) (Or.inr ⟨by rfl, rfl⟩) (by assumption) ?_
                    simp only [Act.put, List.getElem_toArray, List.getElem_cons_zero, List.getElem_cons_succ, List.setIfInBounds_toArray, List.set_cons_zero, List.set_cons_succ]
                    refine wpAnyH_take (i := 31) rfl (by kernel_rfl) (by kernel_rfl) (by kernel_rfl) (fun _ _ _ h => h) (Or.inr ⟨by rfl, rfl⟩) (by assumption) ?_
                    simp only [Act.put, List.getElem_toArray, List.getElem_cons_zero, List.getElem_cons_succ, List.setIfInBounds_toArray, List.set_cons_zero, List.set_cons_succ]
                    refine wpAnyH_take (i := 32) rfl (by kernel_rfl) (by kernel_rfl) (by kernel_rfl) (fun _ _ _ h => h) (Or.inr ⟨by rfl, rfl⟩) (by assumption) ?_
                    simp only [Act.put, List.getElem_toArray, List.getElem_cons_zero, List.getElem_cons_succ, List.setIfInBounds_toArray, List.set_cons_zero, List.set_cons_succ]
                    refine wpAnyH_take (i := 33) rfl (by kernel_rfl) (by kernel_rfl) (by kernel_rfl) (fun _ _ _ h => h) (Or.inr ⟨by rfl, rfl⟩) (by assumption) ?_
                    simp only [Act.put, List.getElem_toArray, List.getElem_cons_zero, List.getElem_cons_succ, List.setIfInBounds_toArray, List.set_cons_zero, List.set_cons_succ]
                    refine wpAnyH_take (i := 34) rfl (by kernel_rfl) (by kernel_rfl) (by kernel_rfl) (fun _ _ _ h => h) (Or.inr ⟨by rfl, rfl⟩) (by assumption) ?_
                    simp only [Act.put, List.getElem_toArray, List.getElem_cons_zero, List.getElem_cons_succ, List.setIfInBounds_toArray, List.set_cons_zero, List.set_cons_succ]
                    refine wpAnyH_take (i := 35) (v := ?_) rfl (by kernel_rfl) (by kernel_rfl) (by kernel_rfl) (fun _ _ _ h => h) (Or.inl ⟨by rfl, ?_⟩) (by assumption) ?_
                    rotate_left
                    · (intro w hSw; (try dsimp only at hSw); go_simp)
                      first | done | with_reducible rfl
                    simp only [Act.put, List.getElem_toArray, List.getElem_cons_zero, List.getElem_cons_succ, List.setIfInBounds_toArray, List.set_cons_zero, List.set_cons_succ]
                    refine wpAnyH_done (by kernel_rfl) ?_ _
                    have HU9 := Lib.hid (HB0.out.trans (HU5.out.drew.trans hu1))
                    clear HU5 hHeld y0 y1 y2 y3 z0 z1 z2
                    go_wp2_with fail
                    go_ret
                    exact ⟨by rw [HR.out]; rfl, HU9.out⟩
                  | true =>
                    rw [hf1] at SF HEP
                    clear hf1
                    cases hf2 : inB td 0 (st - 1) with
                    | false =>
                      rw [hf2] at ST
                      have HR := Lib.hid (show sysOk ⟨st, ini, labs, eds⟩ = false by rw [HOK3.out, HA2.out, HEP.out, hf2]; simp)
                      clear HOK3 HA2 HEP
                      clear hf2
                      refine wp_region_held_drew (S := fun w' => w'.cell? ⟨w.heap.size, 0, none⟩ = some (ei st) ∧ w'.cell? ⟨w.heap.size, 1, none⟩ = some (ei ini) ∧ w'.cell? ⟨w.heap.size, 2, none⟩ = some (.slice a1 labs.length c1) ∧ w'.cell? ⟨w.heap.size, 3, none⟩ = some (.slice (some ⟨b1, o1, none⟩) eds.length c2) ∧ w'.cell? ⟨BB, 0, none⟩ = some (ei fr) ∧ w'.cell? ⟨BB, 1, none⟩ = some (ei lb) ∧ w'.cell? ⟨BB, 2, none⟩ = some (ei td)) (by kernel_rfl) ?_ (fun hHeld => ?_)
                      · exact ⟨y0, y1, y2, y3, z0, z1, z2⟩
                      refine wpAnyH_take (i := 0) (v := ?_) rfl (by kernel_rfl) (by kernel_rfl) (by kernel_rfl) (fun _ _ _ h => h) (Or.inl ⟨by rfl, ?_⟩) (by assumption) ?_
                      rotate_left
                      · (intro w hSw; (try dsimp only at hSw); go_simp)
                        first | done | with_reducible rfl
                      simp only [Act.put, List.getElem_toArray, List.getElem_cons_zero, List.setIfInBounds_toArray, List.set_cons_zero, List.set_cons_succ]
                      refine wpAnyH_take (i := 1) (v := ?_) rfl (by kernel_rfl) (by kernel_rfl) (by kernel_rfl) (fun _ _ _ h => h) (Or.inl ⟨by rfl, ?_⟩) (by assumption) ?_
                      rotate_left
                      · (intro w hSw; (try dsimp only at hSw); go_simp)
                        first | done | with_reducible rfl
                      simp only [Act.put, List.getElem_toArray, List.getElem_cons_zero, List.getElem_cons_succ, List.setIfInBounds_toArray, List.set_cons_zero, List.set_cons_succ]
                      refine wpAnyH_take (i := 2) (v := ?_) rfl (by kernel_rfl) (by kernel_rfl) (by kernel_rfl) (fun _ _ _ h => h) (Or.inl ⟨by rfl, ?_⟩) (by assumption) ?_
                      rotate_left
                      · (intro w hSw; (try dsimp only at hSw); go_simp)
                        first | done | with_reducible rfl
                      simp only [Act.put, List.getElem_toArray, List.getElem_cons_zero, List.getElem_cons_succ, List.setIfInBounds_toArray, List.set_cons_zero, List.set_cons_succ]
                      refine wpAnyH_ready (rs := [3]) (by kernel_rfl) (by simp) ?_
                      refine AllReadyH.cons rfl (fun K hK => ?_) AllReadyH.nil
                      go_simp
                      refine (SF.out _).mono ?_
                      rintro e w3 ⟨rfl, hu1⟩
                      refine hK.out _ _ ?_ (fun hHeld => ?_)
                      · exact ⟨hu1.keep hHeld.1, hu1.keep hHeld.2.1, hu1.keep hHeld.2.2.1, hu1.keep hHeld.2.2.2.1, hu1.keep hHeld.2.2.2.2.1, hu1.keep hHeld.2.2.2.2.2.1, hu1.keep hHeld.2.2.2.2.2.2⟩
                      clear hK K
                      try simp only [Act.put, List.getElem_toArray, List.getElem_cons_zero, List.getElem_cons_succ, List.setIfInBounds_toArray, List.set_cons_zero, List.set_cons_succ]
                      refine wpAnyH_take (i := 4) (v := ?_) rfl (by kernel_rfl) (by kernel_rfl) (by kernel_rfl) (fun _ _ _ h => h) (Or.inl ⟨by rfl, ?_⟩) (by assumption) ?_
                      rotate_left
                      · (intro w hSw; (try dsimp only at hSw); go_simp)
                        first | done | with_reducible rfl
                      simp only [Act.put, List.getElem_toArray, List.getElem_cons_zero, List.getElem_cons_succ, List.setIfInBounds_toArray, List.set_cons_zero, List.set_cons_succ]
                      refine wpAnyH_take (i := 5) (v := ?_) rfl (by kernel_rfl) (by kernel_rfl) (by kernel_rfl) (fun _ _ _ h => h) (Or.inl ⟨by rfl, ?_⟩) (by assumption) ?_
                      rotate_left
                      · (intro w hSw; (try dsimp only at hSw); go_simp)
                        first | done | with_reducible rfl
                      simp only [Act.put, List.getElem_toArray, List.getElem_cons_zero, List.getElem_cons_succ, List.setIfInBounds_toArray, List.set_cons_zero, List.set_cons_succ]
                      refine wpAnyH_take (i := 6) (v := ?_) rfl (by kernel_rfl) (by kernel_rfl) (by kernel_rfl) (fun _ _ _ h => h) (Or.inl ⟨by rfl, ?_⟩) (by assumption) ?_
                      rotate_left
                      · (intro w hSw; (try dsimp only at hSw); go_simp)
                        first | done | with_reducible rfl
                      simp only [Act.put, List.getElem_toArray, List.getElem_cons_zero, List.getElem_cons_succ, List.setIfInBounds_toArray, List.set_cons_zero, List.set_cons_succ]
                      refine wpAnyH_take (i := 7) (v := ?_) rfl (by kernel_rfl) (by kernel_rfl) (by kernel_rfl) (fun _ _ _ h => h) (Or.inl ⟨by rfl, ?_⟩) (by assumption) ?_
                      rotate_left
                      · (intro w hSw; (try dsimp only at hSw); go_simp)
                        first | done | with_reducible rfl
                      simp only [Act.put, List.getElem_toArray, List.getElem_cons_zero, List.getElem_cons_succ, List.setIfInBounds_toArray, List.set_cons_zero, List.set_cons_succ]
                      refine wpAnyH_take (i := 8) (v := ?_) rfl (by kernel_rfl) (by kernel_rfl) (by kernel_rfl) (fun _ _ _ h => h) (Or.inl ⟨by rfl, ?_⟩) (by assumption) ?_
                      rotate_left
                      · (intro w hSw; (try dsimp only at hSw); go_simp)
                        first | done | with_reducible rfl
                      simp only [Act.put, List.getElem_toArray, List.getElem_cons_zero, List.getElem_cons_succ, List.setIfInBounds_toArray, List.set_cons_zero, List.set_cons_succ]
                      refine wpAnyH_ready (rs := [9]) (by kernel_rfl) (by simp) ?_
                      refine AllReadyH.cons rfl (fun K hK => ?_) AllReadyH.nil
                      go_simp
                      refine (ST.out _).mono ?_
                      rintro e w9 ⟨rfl, hu2⟩
                      refine hK.out _ _ ?_ (fun hHeld => ?_)
                      · exact ⟨hu2.keep hHeld.1, hu2.keep hHeld.2.1, hu2.keep hHeld.2.2.1, hu2.keep hHeld.2.2.2.1, hu2.keep hHeld.2.2.2.2.1, hu2.keep hHeld.2.2.2.2.2.1, hu2.keep hHeld.2.2.2.2.2.2⟩
                      clear hK K
                      try simp only [Act.put, List.getElem_toArray, List.getElem_cons_zero, List.getElem_cons_succ, List.setIfInBounds_toArray, List.set_cons_zero, List.set_cons_succ]
                      refine wpAnyH_take (i := 10) (v := ?_) rfl (by kernel_rfl) (by kernel_rfl) (by kernel_rfl) (fun _ _ _ h => h) (Or.inl ⟨by rfl, ?_⟩) (by assumption) ?_
                      rotate_left
                      · (intro w hSw; (try dsimp only at hSw); go_simp)
                        first | done | with_reducible rfl
                      simp only [Act.put, List.getElem_toArray, List.getElem_cons_zero, List.getElem_cons_succ, List.setIfInBounds_toArray, List.set_cons_zero, List.set_cons_succ]
                      refine wpAnyH_take (i := 11) (v := ?_) rfl (by kernel_rfl) (by kernel_rfl) (by kernel_rfl) (fun _ _ _ h => h) (Or.inl ⟨by rfl, ?_⟩) (by assumption) ?_
                      rotate_left
                      · (intro w hSw; (try dsimp only at hSw); go_simp)
                        first | done | with_reducible rfl
                      simp only [Act.put, List.getElem_toArray, List.getElem_cons_zero, List.getElem_cons_succ, List.setIfInBounds_toArray, List.set_cons_zero, List.set_cons_succ]
                      refine wpAnyH_take (i := 12) (v := ?_) rfl (by kernel_rfl) (by kernel_rfl) (by kernel_rfl) (fun _ _ _ h => h) (Or.inl ⟨by rfl, ?_⟩) (by assumption) ?_
                      rotate_left
                      · (intro w hSw; (try dsimp only at hSw); go_simp)
                        first | done | with_reducible rfl
                      simp only [Act.put, List.getElem_toArray, List.getElem_cons_zero, List.getElem_cons_succ, List.setIfInBounds_toArray, List.set_cons_zero, List.set_cons_succ]
                      refine wpAnyH_take (i := 13) rfl (by kernel_rfl) (by kernel_rfl) (by kernel_rfl) (fun _ _ _ h => h) (Or.inr ⟨by rfl, rfl⟩) (by assumption) ?_
                      simp only [Act.put, List.getElem_toArray, List.getElem_cons_zero, List.getElem_cons_succ, List.setIfInBounds_toArray, List.set_cons_zero, List.set_cons_succ]
                      refine wpAnyH_take (i := 14) rfl (by kernel_rfl) (by kernel_rfl) (by kernel_rfl) (fun _ _ _ h => h) (Or.inr ⟨by rfl, rfl⟩) (by assumption) ?_
                      simp only [Act.put, List.getElem_toArray, List.getElem_cons_zero, List.getElem_cons_succ, List.setIfInBounds_toArray, List.set_cons_zero, List.set_cons_succ]
                      refine wpAnyH_take (i := 15) rfl (by kernel_rfl) (by kernel_rfl) (by kernel_rfl) (fun _ _ _ h => h) (Or.inr ⟨by rfl, rfl⟩) (by assumption) ?_
                      simp only [Act.put, List.getElem_toArray, List.getElem_cons_zero, List.getElem_cons_succ, List.setIfInBounds_toArray, List.set_cons_zero, List.set_cons_succ]
                      refine wpAnyH_take (i := 16) rfl (by kernel_rfl) (by kernel_rfl) (by kernel_rfl) (fun _ _ _ h => h) (Or.inr ⟨by rfl, rfl⟩) (by assumption) ?_
                      simp only [Act.put, List.getElem_toArray, List.getElem_cons_zero, List.getElem_cons_succ, List.setIfInBounds_toArray, List.set_cons_zero, List.set_cons_succ]
                      refine wpAnyH_take (i := 17) rfl (by kernel_rfl) (by kernel_rfl) (by kernel_rfl) (fun _ _ _ h => h) (Or.inr ⟨by rfl, rfl⟩) (by assumption) ?_
                      simp only [Act.put, List.getElem_toArray, List.getElem_cons_zero, List.getElem_cons_succ, List.setIfInBounds_toArray, List.set_cons_zero, List.set_cons_succ]
                      refine wpAnyH_take (i := 18) rfl (by kernel_rfl) (by kernel_rfl) (by kernel_rfl) (fun _ _ _ h => h) (Or.inr ⟨by rfl, rfl⟩) (by assumption) ?_
                      simp only [Act.put, List.getElem_toArray, List.getElem_cons_zero, List.getElem_cons_succ, List.setIfInBounds_toArray, List.set_cons_zero, List.set_cons_succ]
                      refine wpAnyH_take (i := 19) rfl (by kernel_rfl) (by kernel_rfl) (by kernel_rfl) (fun _ _ _ h => h) (Or.inr ⟨by rfl, rfl⟩) (by assumption) ?_
                      simp only [Act.put, List.getElem_toArray, List.getElem_cons_zero, List.getElem_cons_succ, List.setIfInBounds_toArray, List.set_cons_zero, List.set_cons_succ]
                      refine wpAnyH_take (i := 20) (v := ?_) rfl (by kernel_rfl) (by kernel_rfl) (by kernel_rfl) (fun _ _ _ h => h) (Or.inl ⟨by rfl, ?_⟩) (by assumption) ?_
                      rotate_left
                      · (intro w hSw; (try dsimp only at hSw); go_simp)
                        first | done | with_reducible rfl
                      simp only [Act.put, List.getElem_toArray, List.getElem_cons_zero, List.getElem_cons_succ, List.setIfInBounds_toArray, List.set_cons_zero, List.set_cons_succ]
                      refine wpAnyH_take (i := 21) (v := ?_) rfl (by kernel_rfl) (by kernel_rfl) (by kernel_rfl) (fun _ _ _ h => h) (Or.inl ⟨by rfl, ?_⟩) (by assumption) ?_
                      rotate_left
                      · (intro w hSw; (try dsimp only at hSw); go_simp)
                        first | done | with_reducible rfl
                      simp only [Act.put, List.getElem_toArray, List.getElem_cons_zero, List.getElem_cons_succ, List.setIfInBounds_toArray, List.set_cons_zero, List.set_cons_succ]
                      refine wpAnyH_take (i := 22) rfl (by kernel_rfl) (by kernel_rfl) (by kernel_rfl) (fun _ _ _ h => h) (Or.inr ⟨by rfl, rfl⟩) (by assumption) ?_
                      simp only [Act.put, List.getElem_toArray, List.getElem_cons_zero, List.getElem_cons_succ, List.setIfInBounds_toArray, List.set_cons_zero, List.set_cons_succ]
                      refine wpAnyH_take (i := 23) rfl (by kernel_rfl) (by kernel_rfl) (by kernel_rfl) (fun _ _ _ h => h) (Or.inr ⟨by rfl, rfl⟩) (by assumption) ?_
                      simp only [Act.put, List.getElem_toArray, List.getElem_cons_zero, List.getElem_cons_succ, List.setIfInBounds_toArray, List.set_cons_zero, List.set_cons_succ]
                      refine wpAnyH_take (i := 24) rfl (by kernel_rfl) (by kernel_rfl) (by kernel_rfl) (fun _ _ _ h => h) (Or.inr ⟨by rfl, rfl⟩) (by assumption) ?_
                      simp only [Act.put, List.getElem_toArray, List.getElem_cons_zero, List.getElem_cons_succ, List.setIfInBounds_toArray, List.set_cons_zero, List.set_cons_succ]
                      refine wpAnyH_take (i := 25) rfl (by kernel_rfl) (by kernel_rfl) (by kernel_rfl) (fun _ _ _ h => h) (Or.inr ⟨by rfl, rfl⟩) (by assumption) ?_
                      simp only [Act.put, List.getElem_toArray, List.getElem_cons_zero, List.getElem_cons_succ, List.setIfInBounds_toArray, List.set_cons_zero, List.set_cons_succ]
                      refine wpAnyH_take (i := 26) rfl (by kernel_rfl) (by kernel_rfl) (by kernel_rfl) (fun _ _ _ h => h) (Or.inr ⟨by rfl, rfl⟩) (by assumption) ?_
                      simp only [Act.put, List.getElem_toArray, List.getElem_cons_zero, List.getElem_cons_succ, List.setIfInBounds_toArray, List.set_cons_zero, List.set_cons_succ]
                      refine wpAnyH_take (i := 27) rfl (by kernel_rfl) (by kernel_rfl) (by kernel_rfl) (fun _ _ _ h => h) (Or.inr ⟨by rfl, rfl⟩) (by assumption) ?_
                      simp only [Act.put, List.getElem_toArray, List.getElem_cons_zero, List.getElem_cons_succ, List.setIfInBounds_toArray, List.set_cons_zero, List.set_cons_succ]
                      refine wpAnyH_take (i := 28) rfl (by kernel_rfl) (by kernel_rfl) (by kernel_rfl) (fun _ _ _ h => h) (Or.inr ⟨by rfl, rfl⟩) (by assumption) ?_
                      simp only [Act.put, List.getElem_toArray, List.getElem_cons_zero, List.getElem_cons_succ, List.setIfInBounds_toArray, List.set_cons_zero, List.set_cons_succ]
                      refine wpAnyH_take (i := 29) rfl (by kernel_rfl) (by kernel_rfl) (by kernel_rfl) (fun _ _ _ h => h) (Or.inr ⟨by rfl, rfl⟩) (by assumption) ?_
                      simp only [Act.put, List.getElem_toArray, List.getElem_cons_zero, List.getElem_cons_succ, List.setIfInBounds_toArray, List.set_cons_zero, List.set_cons_succ]
                      refine wpAnyH_take (i := 30) rfl (by kernel_rfl) (by kernel_rfl) (by kernel_rfl) (fun _ _ _ h => h) (Or.inr ⟨by rfl, rfl⟩) (by assumption) ?_
                      simp only [Act.put, List.getElem_toArray, List.getElem_cons_zero, List.getElem_cons_succ, List.setIfInBounds_toArray, List.set_cons_zero, List.set_cons_succ]
                      refine wpAnyH_take (i := 31) rfl (by kernel_rfl) (by kernel_rfl) (by kernel_rfl) (fun _ _ _ h => h) (Or.inr ⟨by rfl, rfl⟩) (by assumption) ?_
                      simp only [Act.put, List.getElem_toArray, List.getElem_cons_zero, List.getElem_cons_succ, List.setIfInBounds_toArray, List.set_cons_zero, List.set_cons_succ]
                      refine wpAnyH_take (i := 32) rfl (by kernel_rfl) (by kernel_rfl) (by kernel_rfl) (fun _ _ _ h => h) (Or.inr ⟨by rfl, rfl⟩) (by assumption) ?_
                      simp only [Act.put, List.getElem_toArray, List.getElem_cons_zero, List.getElem_cons_succ, List.setIfInBounds_toArray, List.set_cons_zero, List.set_cons_succ]
                      refine wpAnyH_take (i := 33) rfl (by kernel_rfl) (by kernel_rfl) (by kernel_rfl) (fun _ _ _ h => h) (Or.inr ⟨by rfl, rfl⟩) (by assumption) ?_
                      simp only [Act.put, List.getElem_toArray, List.getElem_cons_zero, List.getElem_cons_succ, List.setIfInBounds_toArray, List.set_cons_zero, List.set_cons_succ]
                      refine wpAnyH_take (i := 34) rfl (by kernel_rfl) (by kernel_rfl) (by kernel_rfl) (fun _ _ _ h => h) (Or.inr ⟨by rfl, rfl⟩) (by assumption) ?_
                      simp only [Act.put, List.getElem_toArray, List.getElem_cons_zero, List.getElem_cons_succ, List.setIfInBounds_toArray, List.set_cons_zero, List.set_cons_succ]
                      refine wpAnyH_take (i := 35) (v := ?_) rfl (by kernel_rfl) (by kernel_rfl) (by kernel_rfl) (fun _ _ _ h => h) (Or.inl ⟨by rfl, ?_⟩) (by assumption) ?_
                      rotate_left
                      · (intro w hSw; (try dsimp only at hSw); go_simp)
                        first | done | with_reducible rfl
                      simp only [Act.put, List.getElem_toArray, List.getElem_cons_zero, List.getElem_cons_succ, List.setIfInBounds_toArray, List.set_cons_zero, List.set_cons_succ]
                      refine wpAnyH_done (by kernel_rfl) ?_ _
                      have HU9 := Lib.hid (HB0.out.trans ((HU5.out.drew.trans hu1).trans hu2))
                      clear HU5 hHeld y0 y1 y2 y3 z0 z1 z2
                      go_wp2_with fail
                      go_ret
                      exact ⟨by rw [HR.out]; rfl, HU9.out⟩
                    | true =>
                      rw [hf2] at ST HEP
                      clear hf2
                      cases hf3 : inB lb 0 ((labs.length : Int) - 1) with
                      | false =>
                        rw [hf3] at SI
                        have HR := Lib.hid (show sysOk ⟨st, ini, labs, eds⟩ = false by rw [HOK3.out, HA2.out, HEP.out, hf3]; simp)
                        clear HOK3 HA2 HEP
                        clear hf3
                        refine wp_region_held_drew (S := fun w' => w'.cell? ⟨w.heap.size, 0, none⟩ = some (ei st) ∧ w'.cell? ⟨w.heap.size, 1, none⟩ = some (ei ini) ∧ w'.cell? ⟨w.heap.size, 2, none⟩ = some (.slice a1 labs.length c1) ∧ w'.cell? ⟨w.heap.size, 3, none⟩ = some (.slice (some ⟨b1, o1, none⟩) eds.length c2) ∧ w'.cell? ⟨BB, 0, none⟩ = some (ei fr) ∧ w'.cell? ⟨BB, 1, none⟩ = some (ei lb) ∧ w'.cell? ⟨BB, 2, none⟩ = some (ei td)) (by kernel_rfl) ?_ (fun hHeld => ?_)
                        · exact ⟨y0, y1, y2, y3, z0, z1, z2⟩
                        refine wpAnyH_take (i := 0) (v := ?_) rfl (by kernel_rfl) (by kernel_rfl) (by kernel_rfl) (fun _ _ _ h => h) (Or.inl ⟨by rfl, ?_⟩) (by assumption) ?_
                        rotate_left
                        · (intro w hSw; (try dsimp only at hSw); go_simp)
                          first | done | with_reducible rfl
                        simp only [Act.put, List.getElem_toArray, List.getElem_cons_zero, List.setIfInBounds_toArray, List.set_cons_zero, List.set_cons_succ]
                        refine wpAnyH_take (i := 1) (v := ?_) rfl (by kernel_rfl) (by kernel_rfl) (by kernel_rfl) (fun _ _ _ h => h) (Or.inl ⟨by rfl, ?_⟩) (by assumption) ?_
                        rotate_left
                        · (intro w hSw; (try dsimp only at hSw); go_simp)
                          first | done | with_reducible rfl
                        simp only [Act.put, List.getElem_toArray, List.getElem_cons_zero, List.getElem_cons_succ, List.setIfInBounds_toArray, List.set_cons_zero, List.set_cons_succ]
                        refine wpAnyH_take (i := 2) (v := ?_) rfl (by kernel_rfl) (by kernel_rfl) (by kernel_rfl) (fun _ _ _ h => h) (Or.inl ⟨by rfl, ?_⟩) (by assumption) ?_
                        rotate_left
                        · (intro w hSw; (try dsimp only at hSw); go_simp)
                          first | done | with_reducible rfl
                        simp only [Act.put, List.getElem_toArray, List.getElem_cons_zero, List.getElem_cons_succ, List.setIfInBounds_toArray, List.set_cons_zero, List.set_cons_succ]
                        refine wpAnyH_ready (rs := [3]) (by kernel_rfl) (by simp) ?_
                        refine AllReadyH.cons rfl (fun K hK => ?_) AllReadyH.nil
                        go_simp
                        refine (SF.out _).mono ?_
                        rintro e w3 ⟨rfl, hu1⟩
                        refine hK.out _ _ ?_ (fun hHeld => ?_)
                        · exact ⟨hu1.keep hHeld.1, hu1.keep hHeld.2.1, hu1.keep hHeld.2.2.1, hu1.keep hHeld.2.2.2.1, hu1.keep hHeld.2.2.2.2.1, hu1.keep hHeld.2.2.2.2.2.1, hu1.keep hHeld.2.2.2.2.2.2⟩
                        clear hK K
                        try simp only [Act.put, List.getElem_toArray, List.getElem_cons_zero, List.getElem_cons_succ, List.setIfInBounds_toArray, List.set_cons_zero, List.set_cons_succ]
                        refine wpAnyH_take (i := 4) (v := ?_) rfl (by kernel_rfl) (by kernel_rfl) (by kernel_rfl) (fun _ _ _ h => h) (Or.inl ⟨by rfl, ?_⟩) (by assumption) ?_
                        rotate_left
                        · (intro w hSw; (try dsimp only at hSw); go_simp)
                          first | done | with_reducible rfl
                        simp only [Act.put, List.getElem_toArray, List.getElem_cons_zero, List.getElem_cons_succ, List.setIfInBounds_toArray, List.set_cons_zero, List.set_cons_succ]
                        refine wpAnyH_take (i := 5) (v := ?_) rfl (by kernel_rfl) (by kernel_rfl) (by kernel_rfl) (fun _ _ _ h => h) (Or.inl ⟨by rfl, ?_⟩) (by assumption) ?_
                        rotate_left
                        · (intro w hSw; (try dsimp only at hSw); go_simp)
                          first | done | with_reducible rfl
                        simp only [Act.put, List.getElem_toArray, List.getElem_cons_zero, List.getElem_cons_succ, List.setIfInBounds_toArray, List.set_cons_zero, List.set_cons_succ]
                        refine wpAnyH_take (i := 6) (v := ?_) rfl (by kernel_rfl) (by kernel_rfl) (by kernel_rfl) (fun _ _ _ h => h) (Or.inl ⟨by rfl, ?_⟩) (by assumption) ?_
                        rotate_left
                        · (intro w hSw; (try dsimp only at hSw); go_simp)
                          first | done | with_reducible rfl
                        simp only [Act.put, List.getElem_toArray, List.getElem_cons_zero, List.getElem_cons_succ, List.setIfInBounds_toArray, List.set_cons_zero, List.set_cons_succ]
                        refine wpAnyH_take (i := 7) (v := ?_) rfl (by kernel_rfl) (by kernel_rfl) (by kernel_rfl) (fun _ _ _ h => h) (Or.inl ⟨by rfl, ?_⟩) (by assumption) ?_
                        rotate_left
                        · (intro w hSw; (try dsimp only at hSw); go_simp)
                          first | done | with_reducible rfl
                        simp only [Act.put, List.getElem_toArray, List.getElem_cons_zero, List.getElem_cons_succ, List.setIfInBounds_toArray, List.set_cons_zero, List.set_cons_succ]
                        refine wpAnyH_take (i := 8) (v := ?_) rfl (by kernel_rfl) (by kernel_rfl) (by kernel_rfl) (fun _ _ _ h => h) (Or.inl ⟨by rfl, ?_⟩) (by assumption) ?_
                        rotate_left
                        · (intro w hSw; (try dsimp only at hSw); go_simp)
                          first | done | with_reducible rfl
                        simp only [Act.put, List.getElem_toArray, List.getElem_cons_zero, List.getElem_cons_succ, List.setIfInBounds_toArray, List.set_cons_zero, List.set_cons_succ]
                        refine wpAnyH_ready (rs := [9]) (by kernel_rfl) (by simp) ?_
                        refine AllReadyH.cons rfl (fun K hK => ?_) AllReadyH.nil
                        go_simp
                        refine (ST.out _).mono ?_
                        rintro e w9 ⟨rfl, hu2⟩
                        refine hK.out _ _ ?_ (fun hHeld => ?_)
                        · exact ⟨hu2.keep hHeld.1, hu2.keep hHeld.2.1, hu2.keep hHeld.2.2.1, hu2.keep hHeld.2.2.2.1, hu2.keep hHeld.2.2.2.2.1, hu2.keep hHeld.2.2.2.2.2.1, hu2.keep hHeld.2.2.2.2.2.2⟩
                        clear hK K
                        try simp only [Act.put, List.getElem_toArray, List.getElem_cons_zero, List.getElem_cons_succ, List.setIfInBounds_toArray, List.set_cons_zero, List.set_cons_succ]
                        refine wpAnyH_take (i := 10) (v := ?_) rfl (by kernel_rfl) (by kernel_rfl) (by kernel_rfl) (fun _ _ _ h => h) (Or.inl ⟨by rfl, ?_⟩) (by assumption) ?_
                        rotate_left
                        · (intro w hSw; (try dsimp only at hSw); go_simp)
                          first | done | with_reducible rfl
                        simp only [Act.put, List.getElem_toArray, List.getElem_cons_zero, List.getElem_cons_succ, List.setIfInBounds_toArray, List.set_cons_zero, List.set_cons_succ]
                        refine wpAnyH_take (i := 11) (v := ?_) rfl (by kernel_rfl) (by kernel_rfl) (by kernel_rfl) (fun _ _ _ h => h) (Or.inl ⟨by rfl, ?_⟩) (by assumption) ?_
                        rotate_left
                        · (intro w hSw; (try dsimp only at hSw); go_simp)
                          first | done | with_reducible rfl
                        simp only [Act.put, List.getElem_toArray, List.getElem_cons_zero, List.getElem_cons_succ, List.setIfInBounds_toArray, List.set_cons_zero, List.set_cons_succ]
                        refine wpAnyH_take (i := 12) (v := ?_) rfl (by kernel_rfl) (by kernel_rfl) (by kernel_rfl) (fun _ _ _ h => h) (Or.inl ⟨by rfl, ?_⟩) (by assumption) ?_
                        rotate_left
                        · (intro w hSw; (try dsimp only at hSw); go_simp)
                          first | done | with_reducible rfl
                        simp only [Act.put, List.getElem_toArray, List.getElem_cons_zero, List.getElem_cons_succ, List.setIfInBounds_toArray, List.set_cons_zero, List.set_cons_succ]
                        refine wpAnyH_take (i := 13) (v := ?_) rfl (by kernel_rfl) (by kernel_rfl) (by kernel_rfl) (fun _ _ _ h => h) (Or.inl ⟨by rfl, ?_⟩) (by assumption) ?_
                        rotate_left
                        · (intro w hSw; (try dsimp only at hSw); go_simp)
                          first | done | with_reducible rfl
                        simp only [Act.put, List.getElem_toArray, List.getElem_cons_zero, List.getElem_cons_succ, List.setIfInBounds_toArray, List.set_cons_zero, List.set_cons_succ]
                        refine wpAnyH_take (i := 14) (v := ?_) rfl (by kernel_rfl) (by kernel_rfl) (by kernel_rfl) (fun _ _ _ h => h) (Or.inl ⟨by rfl, ?_⟩) (by assumption) ?_
                        rotate_left
                        · (intro w hSw; (try dsimp only at hSw); go_simp)
                          first | done | with_reducible rfl
                        simp only [Act.put, List.getElem_toArray, List.getElem_cons_zero, List.getElem_cons_succ, List.setIfInBounds_toArray, List.set_cons_zero, List.set_cons_succ]
                        refine wpAnyH_take (i := 15) (v := ?_) rfl (by kernel_rfl) (by kernel_rfl) (by kernel_rfl) (fun _ _ _ h => h) (Or.inl ⟨by rfl, ?_⟩) (by assumption) ?_
                        rotate_left
                        · (intro w hSw; (try dsimp only at hSw); go_simp)
                          first | done | with_reducible rfl
                        simp only [Act.put, List.getElem_toArray, List.getElem_cons_zero, List.getElem_cons_succ, List.setIfInBounds_toArray, List.set_cons_zero, List.set_cons_succ]
                        refine wpAnyH_take (i := 16) (v := ?_) rfl (by kernel_rfl) (by kernel_rfl) (by kernel_rfl) (fun _ _ _ h => h) (Or.inl ⟨by rfl, ?_⟩) (by assumption) ?_
                        rotate_left
                        · (intro w hSw; (try dsimp only at hSw); go_simp)
                          first | done | with_reducible rfl
                        simp only [Act.put, List.getElem_toArray, List.getElem_cons_zero, List.getElem_cons_succ, List.setIfInBounds_toArray, List.set_cons_zero, List.set_cons_succ]
                        refine wpAnyH_take (i := 17) (v := ?_) rfl (by kernel_rfl) (by kernel_rfl) (by kernel_rfl) (fun _ _ _ h => h) (Or.inl ⟨by rfl, ?_⟩) (by assumption) ?_
                        rotate_left
                        · (intro w hSw; (try dsimp only at hSw); go_simp)
                          first | done | with_reducible rfl
                        simp only [Act.put, List.getElem_toArray, List.getElem_cons_zero, List.getElem_cons_succ, List.setIfInBounds_toArray, List.set_cons_zero, List.set_cons_succ]
                        refine wpAnyH_ready (rs := [18]) (by kernel_rfl) (by simp) ?_
                        refine AllReadyH.cons rfl (fun K hK => ?_) AllReadyH.nil
                        go_simp
                        refine (SI.out _).mono ?_
                        rintro e w18 ⟨rfl, rfl⟩
                        refine hK.out _ _ ?_ (fun hHeld => ?_)
                        · exact ⟨hHeld.1, hHeld.2.1, hHeld.2.2.1, hHeld.2.2.2.1, hHeld.2.2.2.2.1, hHeld.2.2.2.2.2.1, hHeld.2.2.2.2.2.2⟩
                        clear hK K
                        try simp only [Act.put, List.getElem_toArray, List.getElem_cons_zero, List.getElem_cons_succ, List.setIfInBounds_toArray, List.set_cons_zero, List.set_cons_succ]
                        refine wpAnyH_take (i := 19) (v := ?_) rfl (by kernel_rfl) (by kernel_rfl) (by kernel_rfl) (fun _ _ _ h => h) (Or.inl ⟨by rfl, ?_⟩) (by assumption) ?_
                        rotate_left
                        · (intro w hSw; (try dsimp only at hSw); go_simp)
                          first | done | with_reducible rfl
                        simp only [Act.put, List.getElem_toArray, List.getElem_cons_zero, List.getElem_cons_succ, List.setIfInBounds_toArray, List.set_cons_zero, List.set_cons_succ]
                        refine wpAnyH_take (i := 20) (v := ?_) rfl (by kernel_rfl) (by kernel_rfl) (by kernel_rfl) (fun _ _ _ h => h) (Or.inl ⟨by rfl, ?_⟩) (by assumption) ?_
                        rotate_left
                        · (intro w hSw; (try dsimp only at hSw); go_simp)
                          first | done | with_reducible rfl
                        simp only [Act.put, List.getElem_toArray, List.getElem_cons_zero, List.getElem_cons_succ, List.setIfInBounds_toArray, List.set_cons_zero, List.set_cons_succ]
                        refine wpAnyH_take (i := 21) (v := ?_) rfl (by kernel_rfl) (by kernel_rfl) (by kernel_rfl) (fun _ _ _ h => h) (Or.inl ⟨by rfl, ?_⟩) (by assumption) ?_
                        rotate_left
                        · (intro w hSw; (try dsimp only at hSw); go_simp)
                          first | done | with_reducible rfl
                        simp only [Act.put, List.getElem_toArray, List.getElem_cons_zero, List.getElem_cons_succ, List.setIfInBounds_toArray, List.set_cons_zero, List.set_cons_succ]
                        refine wpAnyH_take (i := 22) rfl (by kernel_rfl) (by kernel_rfl) (by kernel_rfl) (fun _ _ _ h => h) (Or.inr ⟨by rfl, rfl⟩) (by assumption) ?_
                        simp only [Act.put, List.getElem_toArray, List.getElem_cons_zero, List.getElem_cons_succ, List.setIfInBounds_toArray, List.set_cons_zero, List.set_cons_succ]
                        refine wpAnyH_take (i := 23) rfl (by kernel_rfl) (by kernel_rfl) (by kernel_rfl) (fun _ _ _ h => h) (Or.inr ⟨by rfl, rfl⟩) (by assumption) ?_
                        simp only [Act.put, List.getElem_toArray, List.getElem_cons_zero, List.getElem_cons_succ, List.setIfInBounds_toArray, List.set_cons_zero, List.set_cons_succ]
                        refine wpAnyH_take (i := 24) rfl (by kernel_rfl) (by kernel_rfl) (by kernel_rfl) (fun _ _ _ h => h) (Or.inr ⟨by rfl, rfl⟩) (by assumption) ?_
                        simp only [Act.put, List.getElem_toArray, List.getElem_cons_zero, List.getElem_cons_succ, List.setIfInBounds_toArray, List.set_cons_zero, List.set_cons_succ]
                        refine wpAnyH_take (i := 25) rfl (by kernel_rfl) (by kernel_rfl) (by kernel_rfl) (fun _ _ _ h => h) (Or.inr ⟨by rfl, rfl⟩) (by assumption) ?_
                        simp only [Act.put, List.getElem_toArray, List.getElem_cons_zero, List.getElem_cons_succ, List.setIfInBounds_toArray, List.set_cons_zero, List.set_cons_succ]
                        refine wpAnyH_take (i := 26) rfl (by kernel_rfl) (by kernel_rfl) (by kernel_rfl) (fun _ _ _ h => h) (Or.inr ⟨by rfl, rfl⟩) (by assumption) ?_
                        simp only [Act.put, List.getElem_toArray, List.getElem_cons_zero, List.getElem_cons_succ, List.setIfInBounds_toArray, List.set_cons_zero, List.set_cons_succ]
                        refine wpAnyH_take (i := 27) rfl (by kernel_rfl) (by kernel_rfl) (by kernel_rfl) (fun _ _ _ h => h) (Or.inr ⟨by rfl, rfl⟩) (by assumption) ?_
                        simp only [Act.put, List.getElem_toArray, List.getElem_cons_zero, List.getElem_cons_succ, List.setIfInBounds_toArray, List.set_cons_zero, List.set_cons_succ]
                        refine wpAnyH_take (i := 28) rfl (by kernel_rfl) (by kernel_rfl) (by kernel_rfl) (fun _ _ _ h => h) (Or.inr ⟨by rfl, rfl⟩) (by assumption) ?_
                        simp only [Act.put, List.getElem_toArray, List.getElem_cons_zero, List.getElem_cons_succ, List.setIfInBounds_toArray, List.set_cons_zero, List.set_cons_succ]
                        refine wpAnyH_take (i := 29) rfl (by kernel_rfl) (by kernel_rfl) (by kernel_rfl) (fun _ _ _ h => h) (Or.inr ⟨by rfl, rfl⟩) (by assumption) ?_
                        simp only [Act.put, List.getElem_toArray, List.getElem_cons_zero, List.getElem_cons_succ, List.setIfInBounds_toArray, List.set_cons_zero, List.set_cons_succ]
                        refine wpAnyH_take (i := 30) rfl (by kernel_rfl) (by kernel_rfl) (by kernel_rfl) (fun _ _ _ h => h) (Or.inr ⟨by rfl, rfl⟩) (by assumption) ?_
                        simp only [Act.put, List.getElem_toArray, List.getElem_cons_zero, List.getElem_cons_succ, List.setIfInBounds_toArray, List.set_cons_zero, List.set_cons_succ]
                        refine wpAnyH_take (i := 31) rfl (by kernel_rfl) (by kernel_rfl) (by kernel_rfl) (fun _ _ _ h => h) (Or.inr ⟨by rfl, rfl⟩) (by assumption) ?_
                        simp only [Act.put, List.getElem_toArray, List.getElem_cons_zero, List.getElem_cons_succ, List.setIfInBounds_toArray, List.set_cons_zero, List.set_cons_succ]
                        refine wpAnyH_take (i := 32) rfl (by kernel_rfl) (by kernel_rfl) (by kernel_rfl) (fun _ _ _ h => h) (Or.inr ⟨by rfl, rfl⟩) (by assumption) ?_
                        simp only [Act.put, List.getElem_toArray, List.getElem_cons_zero, List.getElem_cons_succ, List.setIfInBounds_toArray, List.set_cons_zero, List.set_cons_succ]
                        refine wpAnyH_take (i := 33) rfl (by kernel_rfl) (by kernel_rfl) (by kernel_rfl) (fun _ _ _ h => h) (Or.inr ⟨by rfl, rfl⟩) (by assumption) ?_
                        simp only [Act.put, List.getElem_toArray, List.getElem_cons_zero, List.getElem_cons_succ, List.setIfInBounds_toArray, List.set_cons_zero, List.set_cons_succ]
                        refine wpAnyH_take (i := 34) rfl (by kernel_rfl) (by kernel_rfl) (by kernel_rfl) (fun _ _ _ h => h) (Or.inr ⟨by rfl, rfl⟩) (by assumption) ?_
                        simp only [Act.put, List.getElem_toArray, List.getElem_cons_zero, List.getElem_cons_succ, List.setIfInBounds_toArray, List.set_cons_zero, List.set_cons_succ]
                        refine wpAnyH_take (i := 35) (v := ?_) rfl (by kernel_rfl) (by kernel_rfl) (by kernel_rfl) (fun _ _ _ h => h) (Or.inl ⟨by rfl, ?_⟩) (by assumption) ?_
                        rotate_left
                        · (intro w hSw; (try dsimp only at hSw); go_simp)
                          first | done | with_reducible rfl
                        simp only [Act.put, List.getElem_toArray, List.getElem_cons_zero, List.getElem_cons_succ, List.setIfInBounds_toArray, List.set_cons_zero, List.set_cons_succ]
                        refine wpAnyH_done (by kernel_rfl) ?_ _
                        have HU9 := Lib.hid (HB0.out.trans ((HU5.out.drew.trans hu1).trans hu2))
                        clear HU5 hHeld y0 y1 y2 y3 z0 z1 z2
                        go_wp2_with fail
                        go_ret
                        exact ⟨by rw [HR.out]; rfl, HU9.out⟩
                      | true =>
                        rw [hf3] at SI HEP
                        clear hf3
                        by_cases k0 : k = 0
                        · have HA3 := Lib.hid (show allF (edP ⟨st, ini, labs, eds⟩) (k + 1) (eds.length - (k + 1)) = allF (edP ⟨st, ini, labs, eds⟩) 0 eds.length by rw [HA2.out, HEP.out, decide_eq_true k0]; simp)
                          have kk : decide (0 < k) = false := by rw [k0]; rfl
                          have kk2 : ¬ (0 : Int) < (k : Int) := by omega
                          clear HA2 HEP k0
                          refine wp_region_held_drew (S := fun w' => w'.cell? ⟨w.heap.size, 0, none⟩ = some (ei st) ∧ w'.cell? ⟨w.heap.size, 1, none⟩ = some (ei ini) ∧ w'.cell? ⟨w.heap.size, 2, none⟩ = some (.slice a1 labs.length c1) ∧ w'.cell? ⟨w.heap.size, 3, none⟩ = some (.slice (some ⟨b1, o1, none⟩) eds.length c2) ∧ w'.cell? ⟨BB, 0, none⟩ = some (ei fr) ∧ w'.cell? ⟨BB, 1, none⟩ = some (ei lb) ∧ w'.cell? ⟨BB, 2, none⟩ = some (ei td)) (by kernel_rfl) ?_ (fun hHeld => ?_)
                          · exact ⟨y0, y1, y2, y3, z0, z1, z2⟩
                          refine wpAnyH_take (i := 0) (v := ?_) rfl (by kernel_rfl) (by kernel_rfl) (by kernel_rfl) (fun _ _ _ h => h) (Or.inl ⟨by rfl, ?_⟩) (by assumption) ?_
                          rotate_left
                          · (intro w hSw; (try dsimp only at hSw); go_simp)
                            first | done | with_reducible rfl
                          simp only [Act.put, List.getElem_toArray, List.getElem_cons_zero, List.setIfInBounds_toArray, List.set_cons_zero, List.set_cons_succ]
                          refine wpAnyH_take (i := 1) (v := ?_) rfl (by kernel_rfl) (by kernel_rfl) (by kernel_rfl) (fun _ _ _ h => h) (Or.inl ⟨by rfl, ?_⟩) (by assumption) ?_
                          rotate_left
                          · (intro w hSw; (try dsimp only at hSw); go_simp)
                            first | done | with_reducible rfl
                          simp only [Act.put, List.getElem_toArray, List.getElem_cons_zero, List.getElem_cons_succ, List.setIfInBounds_toArray, List.set_cons_zero, List.set_cons_succ]
                          refine wpAnyH_take (i := 2) (v := ?_) rfl (by kernel_rfl) (by kernel_rfl) (by kernel_rfl) (fun _ _ _ h => h) (Or.inl ⟨by rfl, ?_⟩) (by assumption) ?_
                          rotate_left
                          · (intro w hSw; (try dsimp only at hSw); go_simp)
                            first | done | with_reducible rfl
                          simp only [Act.put, List.getElem_toArray, List.getElem_cons_zero, List.getElem_cons_succ, List.setIfInBounds_toArray, List.set_cons_zero, List.set_cons_succ]
                          refine wpAnyH_ready (rs := [3]) (by kernel_rfl) (by simp) ?_
                          refine AllReadyH.cons rfl (fun K hK => ?_) AllReadyH.nil
                          go_simp
                          refine (SF.out _).mono ?_
                          rintro e w3 ⟨rfl, hu1⟩
                          refine hK.out _ _ ?_ (fun hHeld => ?_)
                          · exact ⟨hu1.keep hHeld.1, hu1.keep hHeld.2.1, hu1.keep hHeld.2.2.1, hu1.keep hHeld.2.2.2.1, hu1.keep hHeld.2.2.2.2.1, hu1.keep hHeld.2.2.2.2.2.1, hu1.keep hHeld.2.2.2.2.2.2⟩
                          clear hK K
                          try simp only [Act.put, List.getElem_toArray, List.getElem_cons_zero, List.getElem_cons_succ, List.setIfInBounds_toArray, List.set_cons_zero, List.set_cons_succ]
                          refine wpAnyH_take (i := 4) (v := ?_) rfl (by kernel_rfl) (by kernel_rfl) (by kernel_rfl) (fun _ _ _ h => h) (Or.inl ⟨by rfl, ?_⟩) (by assumption) ?_
                          rotate_left
                          · (intro w hSw; (try dsimp only at hSw); go_simp)
                            first | done | with_reducible rfl
                          simp only [Act.put, List.getElem_toArray, List.getElem_cons_zero, List.getElem_cons_succ, List.setIfInBounds_toArray, List.set_cons_zero, List.set_cons_succ]
                          refine wpAnyH_take (i := 5) (v := ?_) rfl (by kernel_rfl) (by kernel_rfl) (by kernel_rfl) (fun _ _ _ h => h) (Or.inl ⟨by rfl, ?_⟩) (by assumption) ?_
                          rotate_left
                          · (intro w hSw; (try dsimp only at hSw); go_simp)
                            first | done | with_reducible rfl
                          simp only [Act.put, List.getElem_toArray, List.getElem_cons_zero, List.getElem_cons_succ, List.setIfInBounds_toArray, List.set_cons_zero, List.set_cons_succ]
                          refine wpAnyH_take (i := 6) (v := ?_) rfl (by kernel_rfl) (by kernel_rfl) (by kernel_rfl) (fun _ _ _ h => h) (Or.inl ⟨by rfl, ?_⟩) (by assumption) ?_
                          rotate_left
                          · (intro w hSw; (try dsimp only at hSw); go_simp)
                            first | done | with_reducible rfl
                          simp only [Act.put, List.getElem_toArray, List.getElem_cons_zero, List.getElem_cons_succ, List.setIfInBounds_toArray, List.set_cons_zero, List.set_cons_succ]
                          refine wpAnyH_take (i := 7) (v := ?_) rfl (by kernel_rfl) (by kernel_rfl) (by kernel_rfl) (fun _ _ _ h => h) (Or.inl ⟨by rfl, ?_⟩) (by assumption) ?_
                          rotate_left
                          · (intro w hSw; (try dsimp only at hSw); go_simp)
                            first | done | with_reducible rfl
                          simp only [Act.put, List.getElem_toArray, List.getElem_cons_zero, List.getElem_cons_succ, List.setIfInBounds_toArray, List.set_cons_zero, List.set_cons_succ]
                          refine wpAnyH_take (i := 8) (v := ?_) rfl (by kernel_rfl) (by kernel_rfl) (by kernel_rfl) (fun _ _ _ h => h) (Or.inl ⟨by rfl, ?_⟩) (by assumption) ?_
                          rotate_left
                          · (intro w hSw; (try dsimp only at hSw); go_simp)
                            first | done | with_reducible rfl
                          simp only [Act.put, List.getElem_toArray, List.getElem_cons_zero, List.getElem_cons_succ, List.setIfInBounds_toArray, List.set_cons_zero, List.set_cons_succ]
                          refine wpAnyH_ready (rs := [9]) (by kernel_rfl) (by simp) ?_
                          refine AllReadyH.cons rfl (fun K hK => ?_) AllReadyH.nil
                          go_simp
                          refine (ST.out _).mono ?_
                          rintro e w9 ⟨rfl, hu2⟩
                          refine hK.out _ _ ?_ (fun hHeld => ?_)
                          · exact ⟨hu2.keep hHeld.1, hu2.keep hHeld.2.1, hu2.keep hHeld.2.2.1, hu2.keep hHeld.2.2.2.1, hu2.keep hHeld.2.2.2.2.1, hu2.keep hHeld.2.2.2.2.2.1, hu2.keep hHeld.2.2.2.2.2.2⟩
                          clear hK K
                          try simp only [Act.put, List.getElem_toArray, List.getElem_cons_zero, List.getElem_cons_succ, List.setIfInBounds_toArray, List.set_cons_zero, List.set_cons_succ]
                          refine wpAnyH_take (i := 10) (v := ?_) rfl (by kernel_rfl) (by kernel_rfl) (by kernel_rfl) (fun _ _ _ h => h) (Or.inl ⟨by rfl, ?_⟩) (by assumption) ?_
                          rotate_left
                          · (intro w hSw; (try dsimp only at hSw); go_simp)
                            first | done | with_reducible rfl
                          simp only [Act.put, List.getElem_toArray, List.getElem_cons_zero, List.getElem_cons_succ, List.setIfInBounds_toArray, List.set_cons_zero, List.set_cons_succ]
                          refine wpAnyH_take (i := 11) (v := ?_) rfl (by kernel_rfl) (by kernel_rfl) (by kernel_rfl) (fun _ _ _ h => h) (Or.inl ⟨by rfl, ?_⟩) (by assumption) ?_
                          rotate_left
                          · (intro w hSw; (try dsimp only at hSw); go_simp)
                            first | done | with_reducible rfl
                          simp only [Act.put, List.getElem_toArray, List.getElem_cons_zero, List.getElem_cons_succ, List.setIfInBounds_toArray, List.set_cons_zero, List.set_cons_succ]
                          refine wpAnyH_take (i := 12) (v := ?_) rfl (by kernel_rfl) (by kernel_rfl) (by kernel_rfl) (fun _ _ _ h => h) (Or.inl ⟨by rfl, ?_⟩) (by assumption) ?_
                          rotate_left
                          · (intro w hSw; (try dsimp only at hSw); go_simp)
                            first | done | with_reducible rfl
                          simp only [Act.put, List.getElem_toArray, List.getElem_cons_zero, List.getElem_cons_succ, List.setIfInBounds_toArray, List.set_cons_zero, List.set_cons_succ]
                          refine wpAnyH_take (i := 13) (v := ?_) rfl (by kernel_rfl) (by kernel_rfl) (by kernel_rfl) (fun _ _ _ h => h) (Or.inl ⟨by rfl, ?_⟩) (by assumption) ?_
                          rotate_left
                          · (intro w hSw; (try dsimp only at hSw); go_simp)
                            first | done | with_reducible rfl
                          simp only [Act.put, List.getElem_toArray, List.getElem_cons_zero, List.getElem_cons_succ, List.setIfInBounds_toArray, List.set_cons_zero, List.set_cons_succ]
                          refine wpAnyH_take (i := 14) (v := ?_) rfl (by kernel_rfl) (by kernel_rfl) (by kernel_rfl) (fun _ _ _ h => h) (Or.inl ⟨by rfl, ?_⟩) (by assumption) ?_
                          rotate_left
                          · (intro w hSw; (try dsimp only at hSw); go_simp)
                            first | done | with_reducible rfl
                          simp only [Act.put, List.getElem_toArray, List.getElem_cons_zero, List.getElem_cons_succ, List.setIfInBounds_toArray, List.set_cons_zero, List.set_cons_succ]
                          refine wpAnyH_take (i := 15) (v := ?_) rfl (by kernel_rfl) (by kernel_rfl) (by kernel_rfl) (fun _ _ _ h => h) (Or.inl ⟨by rfl, ?_⟩) (by assumption) ?_
                          rotate_left
                          · (intro w hSw; (try dsimp only at hSw); go_simp)
                            first | done | with_reducible rfl
                          simp only [Act.put, List.getElem_toArray, List.getElem_cons_zero, List.getElem_cons_succ, List.setIfInBounds_toArray, List.set_cons_zero, List.set_cons_succ]
                          refine wpAnyH_take (i := 16) (v := ?_) rfl (by kernel_rfl) (by kernel_rfl) (by kernel_rfl) (fun _ _ _ h => h) (Or.inl ⟨by rfl, ?_⟩) (by assumption) ?_
                          rotate_left
                          · (intro w hSw; (try dsimp only at hSw); go_simp)
                            first | done | with_reducible rfl
                          simp only [Act.put, List.getElem_toArray, List.getElem_cons_zero, List.getElem_cons_succ, List.setIfInBounds_toArray, List.set_cons_zero, List.set_cons_succ]
                          refine wpAnyH_take (i := 17) (v := ?_) rfl (by kernel_rfl) (by kernel_rfl) (by kernel_rfl) (fun _ _ _ h => h) (Or.inl ⟨by rfl, ?_⟩) (by assumption) ?_
                          rotate_left
                          · (intro w hSw; (try dsimp only at hSw); go_simp)
                            first | done | with_reducible rfl
                          simp only [Act.put, List.getElem_toArray, List.getElem_cons_zero, List.getElem_cons_succ, List.setIfInBounds_toArray, List.set_cons_zero, List.set_cons_succ]
                          refine wpAnyH_ready (rs := [18]) (by kernel_rfl) (by simp) ?_
                          refine AllReadyH.cons rfl (fun K hK => ?_) AllReadyH.nil
                          go_simp
                          refine (SI.out _).mono ?_
                          rintro e w18 ⟨rfl, rfl⟩
                          refine hK.out _ _ ?_ (fun hHeld => ?_)
                          · exact ⟨hHeld.1, hHeld.2.1, hHeld.2.2.1, hHeld.2.2.2.1, hHeld.2.2.2.2.1, hHeld.2.2.2.2.2.1, hHeld.2.2.2.2.2.2⟩
                          clear hK K
                          try simp only [Act.put, List.getElem_toArray, List.getElem_cons_zero, List.getElem_cons_succ, List.setIfInBounds_toArray, List.set_cons_zero, List.set_cons_succ]
                          refine wpAnyH_take (i := 19) (v := ?_) rfl (by kernel_rfl) (by kernel_rfl) (by kernel_rfl) (fun _ _ _ h => h) (Or.inl ⟨by rfl, ?_⟩) (by assumption) ?_
                          rotate_left
                          · (intro w hSw; (try dsimp only at hSw); go_simp)
                            first | done | with_reducible rfl
                          simp only [Act.put, List.getElem_toArray, List.getElem_cons_zero, List.getElem_cons_succ, List.setIfInBounds_toArray, List.set_cons_zero, List.set_cons_succ]
                          refine wpAnyH_take (i := 20) (v := ?_) rfl (by kernel_rfl) (by kernel_rfl) (by kernel_rfl) (fun _ _ _ h => h) (Or.inl ⟨by rfl, ?_⟩) (by assumption) ?_
                          rotate_left
                          · (intro w hSw; (try dsimp only at hSw); go_simp)
                            first | done | with_reducible rfl
                          simp only [Act.put, List.getElem_toArray, List.getElem_cons_zero, List.getElem_cons_succ, List.setIfInBounds_toArray, List.set_cons_zero, List.set_cons_succ]
                          refine wpAnyH_take (i := 21) (v := ?_) rfl (by kernel_rfl) (by kernel_rfl) (by kernel_rfl) (fun _ _ _ h => h) (Or.inl ⟨by rfl, ?_⟩) (by assumption) ?_
                          rotate_left
                          · (intro w hSw; (try dsimp only at hSw); go_simp)
                            first | done | with_reducible rfl
                          simp only [Act.put, List.getElem_toArray, List.getElem_cons_zero, List.getElem_cons_succ, List.setIfInBounds_toArray, List.set_cons_zero, List.set_cons_succ]
                          refine wpAnyH_take (i := 22) (v := ?_) rfl (by kernel_rfl) (by kernel_rfl) (by kernel_rfl) (fun _ _ _ h => h) (Or.inl ⟨by rfl, ?_⟩) (by assumption) ?_
                          rotate_left
                          · (intro w hSw; (try dsimp only at hSw); go_simp)
                            first | done | with_reducible rfl
                          simp only [Act.put, List.getElem_toArray, List.getElem_cons_zero, List.getElem_cons_succ, List.setIfInBounds_toArray, List.set_cons_zero, List.set_cons_succ]
                          refine wpAnyH_take (i := 23) (v := ?_) rfl (by kernel_rfl) (by kernel_rfl) (by kernel_rfl) (fun _ _ _ h => h) (Or.inl ⟨by rfl, ?_⟩) (by assumption) ?_
                          rotate_left
                          · (intro w hSw; (try dsimp only at hSw); go_simp)
                            first | done | with_reducible rfl
                          simp only [Act.put, List.getElem_toArray, List.getElem_cons_zero, List.getElem_cons_succ, List.setIfInBounds_toArray, List.set_cons_zero, List.set_cons_succ]
                          try simp only [kk]
                          refine wpAnyH_take (i := 24) (v := ?_) rfl (by kernel_rfl) (by kernel_rfl) (by kernel_rfl) (fun _ _ _ h => h) (Or.inl ⟨by rfl, ?_⟩) (by assumption) ?_
                          rotate_left
                          · (intro w hSw; (try dsimp only at hSw); go_simp)
                            first | done | with_reducible rfl
                          simp only [Act.put, List.getElem_toArray, List.getElem_cons_zero, List.getElem_cons_succ, List.setIfInBounds_toArray, List.set_cons_zero, List.set_cons_succ]
                          refine wpAnyH_take (i := 25) rfl (by kernel_rfl) (by kernel_rfl) (by kernel_rfl) (fun _ _ _ h => h) (Or.inr ⟨by rfl, rfl⟩) (by assumption) ?_
                          simp only [Act.put, List.getElem_toArray, List.getElem_cons_zero, List.getElem_cons_succ, List.setIfInBounds_toArray, List.set_cons_zero, List.set_cons_succ]
                          refine wpAnyH_take (i := 26) rfl (by kernel_rfl) (by kernel_rfl) (by kernel_rfl) (fun _ _ _ h => h) (Or.inr ⟨by rfl, rfl⟩) (by assumption) ?_
                          simp only [Act.put, List.getElem_toArray, List.getElem_cons_zero, List.getElem_cons_succ, List.setIfInBounds_toArray, List.set_cons_zero, List.set_cons_succ]
                          refine wpAnyH_take (i := 27) rfl (by kernel_rfl) (by kernel_rfl) (by kernel_rfl) (fun _ _ _ h => h) (Or.inr ⟨by rfl, rfl⟩) (by assumption) ?_
                          simp only [Act.put, List.getElem_toArray, List.getElem_cons_zero, List.getElem_cons_succ, List.setIfInBounds_toArray, List.set_cons_zero, List.set_cons_succ]
                          refine wpAnyH_take (i := 28) rfl (by kernel_rfl) (by kernel_rfl) (by kernel_rfl) (fun _ _ _ h => h) (Or.inr ⟨by rfl, rfl⟩) (by assumption) ?_
                          simp only [Act.put, List.getElem_toArray, List.getElem_cons_zero, List.getElem_cons_succ, List.setIfInBounds_toArray, List.set_cons_zero, List.set_cons_succ]
                          refine wpAnyH_take (i := 29) rfl (by kernel_rfl) (by kernel_rfl) (by kernel_rfl) (fun _ _ _ h => h) (Or.inr ⟨by rfl, rfl⟩) (by assumption) ?_
                          simp only [Act.put, List.getElem_toArray, List.getElem_cons_zero, List.getElem_cons_succ, List.setIfInBounds_toArray, List.set_cons_zero, List.set_cons_succ]
                          refine wpAnyH_take (i := 30) rfl (by kernel_rfl) (by kernel_rfl) (by kernel_rfl) (fun _ _ _ h => h) (Or.inr ⟨by rfl, rfl⟩) (by assumption) ?_
                          simp only [Act.put, List.getElem_toArray, List.getElem_cons_zero, List.getElem_cons_succ, List.setIfInBounds_toArray, List.set_cons_zero, List.set_cons_succ]
                          refine wpAnyH_take (i := 31) rfl (by kernel_rfl) (by kernel_rfl) (by kernel_rfl) (fun _ _ _ h => h) (Or.inr ⟨by rfl, rfl⟩) (by assumption) ?_
                          simp only [Act.put, List.getElem_toArray, List.getElem_cons_zero, List.getElem_cons_succ, List.setIfInBounds_toArray, List.set_cons_zero, List.set_cons_succ]
                          refine wpAnyH_take (i := 32) rfl (by kernel_rfl) (by kernel_rfl) (by kernel_rfl) (fun _ _ _ h => h) (Or.inr ⟨by rfl, rfl⟩) (by assumption) ?_
                          simp only [Act.put, List.getElem_toArray, List.getElem_cons_zero, List.getElem_cons_succ, List.setIfInBounds_toArray, List.set_cons_zero, List.set_cons_succ]
                          refine wpAnyH_take (i := 33) rfl (by kernel_rfl) (by kernel_rfl) (by kernel_rfl) (fun _ _ _ h => h) (Or.inr ⟨by rfl, rfl⟩) (by assumption) ?_
                          simp only [Act.put, List.getElem_toArray, List.getElem_cons_zero, List.getElem_cons_succ, List.setIfInBounds_toArray, List.set_cons_zero, List.set_cons_succ]
                          refine wpAnyH_take (i := 34) (v := ?_) rfl (by kernel_rfl) (by kernel_rfl) (by kernel_rfl) (fun _ _ _ h => h) (Or.inl ⟨by rfl, ?_⟩) (by assumption) ?_
                          rotate_left
                          · (intro w hSw; (try dsimp only at hSw); go_simp)
                            first | done | with_reducible rfl
                          simp only [Act.put, List.getElem_toArray, List.getElem_cons_zero, List.getElem_cons_succ, List.setIfInBounds_toArray, List.set_cons_zero, List.set_cons_succ]
                          refine wpAnyH_take (i := 35) (v := ?_) rfl (by kernel_rfl) (by kernel_rfl) (by kernel_rfl) (fun _ _ _ h => h) (Or.inl ⟨by rfl, ?_⟩) (by assumption) ?_
                          rotate_left
                          · (intro w hSw; (try dsimp only at hSw); go_simp)
                            first | done | with_reducible rfl
                          simp only [Act.put, List.getElem_toArray, List.getElem_cons_zero, List.getElem_cons_succ, List.setIfInBounds_toArray, List.set_cons_zero, List.set_cons_succ]
                          refine wpAnyH_done (by kernel_rfl) ?_ _
                          have HU9 := Lib.hid ((HU5.out.drew.trans hu1).trans hu2)
                          clear HU5 hHeld y0 y1 y2 y3 z0 z1 z2
                          go_wp2_with fail
                          go_roundw
                          case rel => exact ⟨k + 1, by omega, by go_num, HA3, HU9.out⟩
                          case measure => simp [intOf]; omega
                        · obtain ⟨q0, q1, q2⟩ := HPR5.out (by omega)
                          have kk : (0 : Int) < (k : Int) := by omega
                          have kkT : decide (0 < k) = true := decide_eq_true (by omega)
                          have i0 : IntKind.i64.wrap ((k : Int) - 1) = (k : Int) - 1 := IntWalk.i64_in _ (by omega)
                          have i1 : ((k : Int) - 1).toNat = k - 1 := by omega
                          have i3 : (0 : Int) ≤ (k : Int) - 1 := by omega
                          have i5 : (1 : Int) ≤ (k : Int) := by omega
                          have i4 : (k : Int) - 1 < (eds.length : Int) := by omega
                          cases hlt9 : edLt pk ⟨fr, lb, td⟩ with
                          | false =>
                            rw [hlt9] at SC
                            have HR := Lib.hid (show sysOk ⟨st, ini, labs, eds⟩ = false by rw [HOK3.out, HA2.out, HEP.out, hlt9, decide_eq_false k0]; simp)
                            clear HOK3 HA2 HEP
                            clear hlt9 k0 HPR5
                            refine wp_region_held_drew (S := fun w' => w'.cell? ⟨w.heap.size, 0, none⟩ = some (ei st) ∧ w'.cell? ⟨w.heap.size, 1, none⟩ = some (ei ini) ∧ w'.cell? ⟨w.heap.size, 2, none⟩ = some (.slice a1 labs.length c1) ∧ w'.cell? ⟨w.heap.size, 3, none⟩ = some (.slice (some ⟨b1, o1, none⟩) eds.length c2) ∧ w'.cell? ⟨BB, 0, none⟩ = some (ei fr) ∧ w'.cell? ⟨BB, 1, none⟩ = some (ei lb) ∧ w'.cell? ⟨BB, 2, none⟩ = some (ei td) ∧ w'.cell? ⟨b1, o1 + (k - 1) * 3, none⟩ = some (ei pk.fr) ∧ w'.cell? ⟨b1, o1 + (k - 1) * 3 + 1, none⟩ = some (ei pk.lb) ∧ w'.cell? ⟨b1, o1 + (k - 1) * 3 + 2, none⟩ = some (ei pk.to)) (by kernel_rfl) ?_ (fun hHeld => ?_)
                            · exact ⟨y0, y1, y2, y3, z0, z1, z2, q0, q1, q2⟩
                            refine wpAnyH_take (i := 0) (v := ?_) rfl (by kernel_rfl) (by kernel_rfl) (by kernel_rfl) (fun _ _ _ h => h) (Or.inl ⟨by rfl, ?_⟩) (by assumption) ?_
                            rotate_left
                            · (intro w hSw; (try dsimp only at hSw); go_simp)
                              first | done | with_reducible rfl
                            simp only [Act.put, List.getElem_toArray, List.getElem_cons_zero, List.setIfInBounds_toArray, List.set_cons_zero, List.set_cons_succ]
                            refine wpAnyH_take (i := 1) (v := ?_) rfl (by kernel_rfl) (by kernel_rfl) (by kernel_rfl) (fun _ _ _ h => h) (Or.inl ⟨by rfl, ?_⟩) (by assumption) ?_
                            rotate_left
                            · (intro w hSw; (try dsimp only at hSw); go_simp)
                              first | done | with_reducible rfl
                            simp only [Act.put, List.getElem_toArray, List.getElem_cons_zero, List.getElem_cons_succ, List.setIfInBounds_toArray, List.set_cons_zero, List.set_cons_succ]
                            refine wpAnyH_take (i := 2) (v := ?_) rfl (by kernel_rfl) (by kernel_rfl) (by kernel_rfl) (fun _ _ _ h => h) (Or.inl ⟨by rfl, ?_⟩) (by assumption) ?_
                            rotate_left
                            · (intro w hSw; (try dsimp only at hSw); go_simp)
                              first | done | with_reducible rfl
                            simp only [Act.put, List.getElem_toArray, List.getElem_cons_zero, List.getElem_cons_succ, List.setIfInBounds_toArray, List.set_cons_zero, List.set_cons_succ]
                            refine wpAnyH_ready (rs := [3]) (by kernel_rfl) (by simp) ?_
                            refine AllReadyH.cons rfl (fun K hK => ?_) AllReadyH.nil
                            go_simp
                            refine (SF.out _).mono ?_
                            rintro e w3 ⟨rfl, hu1⟩
                            refine hK.out _ _ ?_ (fun hHeld => ?_)
                            · exact ⟨hu1.keep hHeld.1, hu1.keep hHeld.2.1, hu1.keep hHeld.2.2.1, hu1.keep hHeld.2.2.2.1, hu1.keep hHeld.2.2.2.2.1, hu1.keep hHeld.2.2.2.2.2.1, hu1.keep hHeld.2.2.2.2.2.2.1, hu1.keep hHeld.2.2.2.2.2.2.2.1, hu1.keep hHeld.2.2.2.2.2.2.2.2.1, hu1.keep hHeld.2.2.2.2.2.2.2.2.2⟩
                            clear hK K
                            try simp only [Act.put, List.getElem_toArray, List.getElem_cons_zero, List.getElem_cons_succ, List.setIfInBounds_toArray, List.set_cons_zero, List.set_cons_succ]
                            refine wpAnyH_take (i := 4) (v := ?_) rfl (by kernel_rfl) (by kernel_rfl) (by kernel_rfl) (fun _ _ _ h => h) (Or.inl ⟨by rfl, ?_⟩) (by assumption) ?_
                            rotate_left
                            · (intro w hSw; (try dsimp only at hSw); go_simp)
                              first | done | with_reducible rfl
                            simp only [Act.put, List.getElem_toArray, List.getElem_cons_zero, List.getElem_cons_succ, List.setIfInBounds_toArray, List.set_cons_zero, List.set_cons_succ]
                            refine wpAnyH_take (i := 5) (v := ?_) rfl (by kernel_rfl) (by kernel_rfl) (by kernel_rfl) (fun _ _ _ h => h) (Or.inl ⟨by rfl, ?_⟩) (by assumption) ?_
                            rotate_left
                            · (intro w hSw; (try dsimp only at hSw); go_simp)
                              first | done | with_reducible rfl
                            simp only [Act.put, List.getElem_toArray, List.getElem_cons_zero, List.getElem_cons_succ, List.setIfInBounds_toArray, List.set_cons_zero, List.set_cons_succ]
                            refine wpAnyH_take (i := 6) (v := ?_) rfl (by kernel_rfl) (by kernel_rfl) (by kernel_rfl) (fun _ _ _ h => h) (Or.inl ⟨by rfl, ?_⟩) (by assumption) ?_
                            rotate_left
                            · (intro w hSw; (try dsimp only at hSw); go_simp)
                              first | done | with_reducible rfl
                            simp only [Act.put, List.getElem_toArray, List.getElem_cons_zero, List.getElem_cons_succ, List.setIfInBounds_toArray, List.set_cons_zero, List.set_cons_succ]
                            refine wpAnyH_take (i := 7) (v := ?_) rfl (by kernel_rfl) (by kernel_rfl) (by kernel_rfl) (fun _ _ _ h => h) (Or.inl ⟨by rfl, ?_⟩) (by assumption) ?_
                            rotate_left
                            · (intro w hSw; (try dsimp only at hSw); go_simp)
                              first | done | with_reducible rfl
                            simp only [Act.put, List.getElem_toArray, List.getElem_cons_zero, List.getElem_cons_succ, List.setIfInBounds_toArray, List.set_cons_zero, List.set_cons_succ]
                            refine wpAnyH_take (i := 8) (v := ?_) rfl (by kernel_rfl) (by kernel_rfl) (by kernel_rfl) (fun _ _ _ h => h) (Or.inl ⟨by rfl, ?_⟩) (by assumption) ?_
                            rotate_left
                            · (intro w hSw; (try dsimp only at hSw); go_simp)
                              first | done | with_reducible rfl
                            simp only [Act.put, List.getElem_toArray, List.getElem_cons_zero, List.getElem_cons_succ, List.setIfInBounds_toArray, List.set_cons_zero, List.set_cons_succ]
                            refine wpAnyH_ready (rs := [9]) (by kernel_rfl) (by simp) ?_
                            refine AllReadyH.cons rfl (fun K hK => ?_) AllReadyH.nil
                            go_simp
                            refine (ST.out _).mono ?_
                            rintro e w9 ⟨rfl, hu2⟩
                            refine hK.out _ _ ?_ (fun hHeld => ?_)
                            · exact ⟨hu2.keep hHeld.1, hu2.keep hHeld.2.1, hu2.keep hHeld.2.2.1, hu2.keep hHeld.2.2.2.1, hu2.keep hHeld.2.2.2.2.1, hu2.keep hHeld.2.2.2.2.2.1, hu2.keep hHeld.2.2.2.2.2.2.1, hu2.keep hHeld.2.2.2.2.2.2.2.1, hu2.keep hHeld.2.2.2.2.2.2.2.2.1, hu2.keep hHeld.2.2.2.2.2.2.2.2.2⟩
                            clear hK K
                            try simp only [Act.put, List.getElem_toArray, List.getElem_cons_zero, List.getElem_cons_succ, List.setIfInBounds_toArray, List.set_cons_zero, List.set_cons_succ]
                            refine wpAnyH_take (i := 10) (v := ?_) rfl (by kernel_rfl) (by kernel_rfl) (by kernel_rfl) (fun _ _ _ h => h) (Or.inl ⟨by rfl, ?_⟩) (by assumption) ?_
                            rotate_left
                            · (intro w hSw; (try dsimp only at hSw); go_simp)
                              first | done | with_reducible rfl
                            simp only [Act.put, List.getElem_toArray, List.getElem_cons_zero, List.getElem_cons_succ, List.setIfInBounds_toArray, List.set_cons_zero, List.set_cons_succ]
                            refine wpAnyH_take (i := 11) (v := ?_) rfl (by kernel_rfl) (by kernel_rfl) (by kernel_rfl) (fun _ _ _ h => h) (Or.inl ⟨by rfl, ?_⟩) (by assumption) ?_
                            rotate_left
                            · (intro w hSw; (try dsimp only at hSw); go_simp)
                              first | done | with_reducible rfl
                            simp only [Act.put, List.getElem_toArray, List.getElem_cons_zero, List.getElem_cons_succ, List.setIfInBounds_toArray, List.set_cons_zero, List.set_cons_succ]
                            refine wpAnyH_take (i := 12) (v := ?_) rfl (by kernel_rfl) (by kernel_rfl) (by kernel_rfl) (fun _ _ _ h => h) (Or.inl ⟨by rfl, ?_⟩) (by assumption) ?_
                            rotate_left
                            · (intro w hSw; (try dsimp only at hSw); go_simp)
                              first | done | with_reducible rfl
                            simp only [Act.put, List.getElem_toArray, List.getElem_cons_zero, List.getElem_cons_succ, List.setIfInBounds_toArray, List.set_cons_zero, List.set_cons_succ]
                            refine wpAnyH_take (i := 13) (v := ?_) rfl (by kernel_rfl) (by kernel_rfl) (by kernel_rfl) (fun _ _ _ h => h) (Or.inl ⟨by rfl, ?_⟩) (by assumption) ?_
                            rotate_left
                            · (intro w hSw; (try dsimp only at hSw); go_simp)
                              first | done | with_reducible rfl
                            simp only [Act.put, List.getElem_toArray, List.getElem_cons_zero, List.getElem_cons_succ, List.setIfInBounds_toArray, List.set_cons_zero, List.set_cons_succ]
                            refine wpAnyH_take (i := 14) (v := ?_) rfl (by kernel_rfl) (by kernel_rfl) (by kernel_rfl) (fun _ _ _ h => h) (Or.inl ⟨by rfl, ?_⟩) (by assumption) ?_
                            rotate_left
                            · (intro w hSw; (try dsimp only at hSw); go_simp)
                              first | done | with_reducible rfl
                            simp only [Act.put, List.getElem_toArray, List.getElem_cons_zero, List.getElem_cons_succ, List.setIfInBounds_toArray, List.set_cons_zero, List.set_cons_succ]
                            refine wpAnyH_take (i := 15) (v := ?_) rfl (by kernel_rfl) (by kernel_rfl) (by kernel_rfl) (fun _ _ _ h => h) (Or.inl ⟨by rfl, ?_⟩) (by assumption) ?_
                            rotate_left
                            · (intro w hSw; (try dsimp only at hSw); go_simp)
                              first | done | with_reducible rfl
                            simp only [Act.put, List.getElem_toArray, List.getElem_cons_zero, List.getElem_cons_succ, List.setIfInBounds_toArray, List.set_cons_zero, List.set_cons_succ]
                            refine wpAnyH_take (i := 16) (v := ?_) rfl (by kernel_rfl) (by kernel_rfl) (by kernel_rfl) (fun _ _ _ h => h) (Or.inl ⟨by rfl, ?_⟩) (by assumption) ?_
                            rotate_left
                            · (intro w hSw; (try dsimp only at hSw); go_simp)
                              first | done | with_reducible rfl
                            simp only [Act.put, List.getElem_toArray, List.getElem_cons_zero, List.getElem_cons_succ, List.setIfInBounds_toArray, List.set_cons_zero, List.set_cons_succ]
                            refine wpAnyH_take (i := 17) (v := ?_) rfl (by kernel_rfl) (by kernel_rfl) (by kernel_rfl) (fun _ _ _ h => h) (Or.inl ⟨by rfl, ?_⟩) (by assumption) ?_
                            rotate_left
                            · (intro w hSw; (try dsimp only at hSw); go_simp)
                              first | done | with_reducible rfl
                            simp only [Act.put, List.getElem_toArray, List.getElem_cons_zero, List.getElem_cons_succ, List.setIfInBounds_toArray, List.set_cons_zero, List.set_cons_succ]
                            refine wpAnyH_ready (rs := [18]) (by kernel_rfl) (by simp) ?_
                            refine AllReadyH.cons rfl (fun K hK => ?_) AllReadyH.nil
                            go_simp
                            refine (SI.out _).mono ?_
                            rintro e w18 ⟨rfl, rfl⟩
                            refine hK.out _ _ ?_ (fun hHeld => ?_)
                            · exact ⟨hHeld.1, hHeld.2.1, hHeld.2.2.1, hHeld.2.2.2.1, hHeld.2.2.2.2.1, hHeld.2.2.2.2.2.1, hHeld.2.2.2.2.2.2.1, hHeld.2.2.2.2.2.2.2.1, hHeld.2.2.2.2.2.2.2.2.1, hHeld.2.2.2.2.2.2.2.2.2⟩
                            clear hK K
                            try simp only [Act.put, List.getElem_toArray, List.getElem_cons_zero, List.getElem_cons_succ, List.setIfInBounds_toArray, List.set_cons_zero, List.set_cons_succ]
                            refine wpAnyH_take (i := 19) (v := ?_) rfl (by kernel_rfl) (by kernel_rfl) (by kernel_rfl) (fun _ _ _ h => h) (Or.inl ⟨by rfl, ?_⟩) (by assumption) ?_
                            rotate_left
                            · (intro w hSw; (try dsimp only at hSw); go_simp)
                              first | done | with_reducible rfl
                            simp only [Act.put, List.getElem_toArray, List.getElem_cons_zero, List.getElem_cons_succ, List.setIfInBounds_toArray, List.set_cons_zero, List.set_cons_succ]
                            refine wpAnyH_take (i := 20) (v := ?_) rfl (by kernel_rfl) (by kernel_rfl) (by kernel_rfl) (fun _ _ _ h => h) (Or.inl ⟨by rfl, ?_⟩) (by assumption) ?_
                            rotate_left
                            · (intro w hSw; (try dsimp only at hSw); go_simp)
                              first | done | with_reducible rfl
                            simp only [Act.put, List.getElem_toArray, List.getElem_cons_zero, List.getElem_cons_succ, List.setIfInBounds_toArray, List.set_cons_zero, List.set_cons_succ]
                            refine wpAnyH_take (i := 21) (v := ?_) rfl (by kernel_rfl) (by kernel_rfl) (by kernel_rfl) (fun _ _ _ h => h) (Or.inl ⟨by rfl, ?_⟩) (by assumption) ?_
                            rotate_left
                            · (intro w hSw; (try dsimp only at hSw); go_simp)
                              first | done | with_reducible rfl
                            simp only [Act.put, List.getElem_toArray, List.getElem_cons_zero, List.getElem_cons_succ, List.setIfInBounds_toArray, List.set_cons_zero, List.set_cons_succ]
                            refine wpAnyH_take (i := 22) (v := ?_) rfl (by kernel_rfl) (by kernel_rfl) (by kernel_rfl) (fun _ _ _ h => h) (Or.inl ⟨by rfl, ?_⟩) (by assumption) ?_
                            rotate_left
                            · (intro w hSw; (try dsimp only at hSw); go_simp)
                              first | done | with_reducible rfl
                            simp only [Act.put, List.getElem_toArray, List.getElem_cons_zero, List.getElem_cons_succ, List.setIfInBounds_toArray, List.set_cons_zero, List.set_cons_succ]
                            refine wpAnyH_take (i := 23) (v := ?_) rfl (by kernel_rfl) (by kernel_rfl) (by kernel_rfl) (fun _ _ _ h => h) (Or.inl ⟨by rfl, ?_⟩) (by assumption) ?_
                            rotate_left
                            · (intro w hSw; (try dsimp only at hSw); go_simp)
                              first | done | with_reducible rfl
                            simp only [Act.put, List.getElem_toArray, List.getElem_cons_zero, List.getElem_cons_succ, List.setIfInBounds_toArray, List.set_cons_zero, List.set_cons_succ]
                            try simp only [kkT]
                            refine wpAnyH_take (i := 24) (v := ?_) rfl (by kernel_rfl) (by kernel_rfl) (by kernel_rfl) (fun _ _ _ h => h) (Or.inl ⟨by rfl, ?_⟩) (by assumption) ?_
                            rotate_left
                            · (intro w hSw; (try dsimp only at hSw); go_simp)
                              first | done | with_reducible rfl
                            simp only [Act.put, List.getElem_toArray, List.getElem_cons_zero, List.getElem_cons_succ, List.setIfInBounds_toArray, List.set_cons_zero, List.set_cons_succ]
                            refine wpAnyH_take (i := 25) (v := ?_) rfl (by kernel_rfl) (by kernel_rfl) (by kernel_rfl) (fun _ _ _ h => h) (Or.inl ⟨by rfl, ?_⟩) (by assumption) ?_
                            rotate_left
                            · (intro w hSw; (try dsimp only at hSw); go_simp)
                              first | done | with_reducible rfl
                            simp only [Act.put, List.getElem_toArray, List.getElem_cons_zero, List.getElem_cons_succ, List.setIfInBounds_toArray, List.set_cons_zero, List.set_cons_succ]
                            refine wpAnyH_take (i := 26) (v := ?_) rfl (by kernel_rfl) (by kernel_rfl) (by kernel_rfl) (fun _ _ _ h => h) (Or.inl ⟨by rfl, ?_⟩) (by assumption) ?_
                            rotate_left
                            · (intro w hSw; (try dsimp only at hSw); go_simp)
                              first | done | with_reducible rfl
                            simp only [Act.put, List.getElem_toArray, List.getElem_cons_zero, List.getElem_cons_succ, List.setIfInBounds_toArray, List.set_cons_zero, List.set_cons_succ]
                            refine wpAnyH_take (i := 27) (v := ?_) rfl (by kernel_rfl) (by kernel_rfl) (by kernel_rfl) (fun _ _ _ h => h) (Or.inl ⟨by rfl, ?_⟩) (by assumption) ?_
                            rotate_left
                            · (intro w hSw; (try dsimp only at hSw); go_simp)
                              first | done | with_reducible rfl
                            simp only [Act.put, List.getElem_toArray, List.getElem_cons_zero, List.getElem_cons_succ, List.setIfInBounds_toArray, List.set_cons_zero, List.set_cons_succ]
                            refine wpAnyH_take (i := 28) (v := ?_) rfl (by kernel_rfl) (by kernel_rfl) (by kernel_rfl) (fun _ _ _ h => h) (Or.inl ⟨by rfl, ?_⟩) (by assumption) ?_
                            rotate_left
                            · (intro w hSw; (try dsimp only at hSw); go_simp)
                              first | done | with_reducible rfl
                            simp only [Act.put, List.getElem_toArray, List.getElem_cons_zero, List.getElem_cons_succ, List.setIfInBounds_toArray, List.set_cons_zero, List.set_cons_succ]
                            try simp only [i0]
                            refine wpAnyH_take (i := 29) (v := ?_) rfl (by kernel_rfl) (by kernel_rfl) (by kernel_rfl) (fun _ _ _ h => h) (Or.inl ⟨by rfl, ?_⟩) (by assumption) ?_
                            rotate_left
                            · (intro w hSw; (try dsimp only at hSw); go_simp)
                              first | done | with_reducible rfl
                            simp only [Act.put, List.getElem_toArray, List.getElem_cons_zero, List.getElem_cons_succ, List.setIfInBounds_toArray, List.set_cons_zero, List.set_cons_succ]
                            try simp only [i1]
                            refine wpAnyH_take (i := 30) (v := ?_) rfl (by kernel_rfl) (by kernel_rfl) (by kernel_rfl) (fun _ _ _ h => h) (Or.inl ⟨by rfl, ?_⟩) (by assumption) ?_
                            rotate_left
                            · (intro w hSw; (try dsimp only at hSw); go_simp)
                              first | done | with_reducible rfl
                            simp only [Act.put, List.getElem_toArray, List.getElem_cons_zero, List.getElem_cons_succ, List.setIfInBounds_toArray, List.set_cons_zero, List.set_cons_succ]
                            refine wpAnyH_take (i := 31) (v := ?_) rfl (by kernel_rfl) (by kernel_rfl) (by kernel_rfl) (fun _ _ _ h => h) (Or.inl ⟨by rfl, ?_⟩) (by assumption) ?_
                            rotate_left
                            · (intro w hSw; (try dsimp only at hSw); go_simp)
                              first | done | with_reducible rfl
                            simp only [Act.put, List.getElem_toArray, List.getElem_cons_zero, List.getElem_cons_succ, List.setIfInBounds_toArray, List.set_cons_zero, List.set_cons_succ]
                            refine wpAnyH_ready (rs := [32]) (by kernel_rfl) (by simp) ?_
                            refine AllReadyH.cons rfl (fun K hK => ?_) AllReadyH.nil
                            go_simp
                            refine (SC.out _).mono ?_
                            rintro e w32 ⟨⟨cc, rfl, hcc⟩, hu4⟩
                            have hc9 : (0 : Int) ≤ cc := by simpa using hcc
                            clear hcc
                            refine hK.out _ _ ?_ (fun hHeld => ?_)
                            · exact ⟨hu4.keep hHeld.1, hu4.keep hHeld.2.1, hu4.keep hHeld.2.2.1, hu4.keep hHeld.2.2.2.1, hu4.keep hHeld.2.2.2.2.1, hu4.keep hHeld.2.2.2.2.2.1, hu4.keep hHeld.2.2.2.2.2.2.1, hu4.keep hHeld.2.2.2.2.2.2.2.1, hu4.keep hHeld.2.2.2.2.2.2.2.2.1, hu4.keep hHeld.2.2.2.2.2.2.2.2.2⟩
                            clear hK K
                            try simp only [Act.put, List.getElem_toArray, List.getElem_cons_zero, List.getElem_cons_succ, List.setIfInBounds_toArray, List.set_cons_zero, List.set_cons_succ]
                            refine wpAnyH_take (i := 33) (v := ?_) rfl (by kernel_rfl) (by kernel_rfl) (by kernel_rfl) (fun _ _ _ h => h) (Or.inl ⟨by rfl, ?_⟩) (by assumption) ?_
                            rotate_left
                            · (intro w hSw; (try dsimp only at hSw); go_simp)
                              first | done | with_reducible rfl
                            simp only [Act.put, List.getElem_toArray, List.getElem_cons_zero, List.getElem_cons_succ, List.setIfInBounds_toArray, List.set_cons_zero, List.set_cons_succ]
                            refine wpAnyH_take (i := 34) (v := ?_) rfl (by kernel_rfl) (by kernel_rfl) (by kernel_rfl) (fun _ _ _ h => h) (Or.inl ⟨by rfl, ?_⟩) (by assumption) ?_
                            rotate_left
                            · (intro w hSw; (try dsimp only at hSw); go_simp)
                              first | done | with_reducible rfl
                            simp only [Act.put, List.getElem_toArray, List.getElem_cons_zero, List.getElem_cons_succ, List.setIfInBounds_toArray, List.set_cons_zero, List.set_cons_succ]
                            refine wpAnyH_take (i := 35) (v := ?_) rfl (by kernel_rfl) (by kernel_rfl) (by kernel_rfl) (fun _ _ _ h => h) (Or.inl ⟨by rfl, ?_⟩) (by assumption) ?_
                            rotate_left
                            · (intro w hSw; (try dsimp only at hSw); go_simp)
                              first | done | with_reducible rfl
                            simp only [Act.put, List.getElem_toArray, List.getElem_cons_zero, List.getElem_cons_succ, List.setIfInBounds_toArray, List.set_cons_zero, List.set_cons_succ]
                            refine wpAnyH_done (by kernel_rfl) ?_ _
                            have HU9 := Lib.hid (HB0.out.trans (((HU5.out.drew.trans hu1).trans hu2).trans hu4))
                            clear q0 q1 q2 HU5 hHeld y0 y1 y2 y3 z0 z1 z2
                            go_wp2_with fail
                            go_ret
                            exact ⟨by rw [HR.out]; rfl, HU9.out⟩
                          | true =>
                            rw [hlt9] at SC
                            have HA3 := Lib.hid (show allF (edP ⟨st, ini, labs, eds⟩) (k + 1) (eds.length - (k + 1)) = allF (edP ⟨st, ini, labs, eds⟩) 0 eds.length by rw [HA2.out, HEP.out, hlt9]; simp)
                            clear HA2 HEP hlt9 k0 HPR5
                            refine wp_region_held_drew (S := fun w' => w'.cell? ⟨w.heap.size, 0, none⟩ = some (ei st) ∧ w'.cell? ⟨w.heap.size, 1, none⟩ = some (ei ini) ∧ w'.cell? ⟨w.heap.size, 2, none⟩ = some (.slice a1 labs.length c1) ∧ w'.cell? ⟨w.heap.size, 3, none⟩ = some (.slice (some ⟨b1, o1, none⟩) eds.length c2) ∧ w'.cell? ⟨BB, 0, none⟩ = some (ei fr) ∧ w'.cell? ⟨BB, 1, none⟩ = some (ei lb) ∧ w'.cell? ⟨BB, 2, none⟩ = some (ei td) ∧ w'.cell? ⟨b1, o1 + (k - 1) * 3, none⟩ = some (ei pk.fr) ∧ w'.cell? ⟨b1, o1 + (k - 1) * 3 + 1, none⟩ = some (ei pk.lb) ∧ w'.cell? ⟨b1, o1 + (k - 1) * 3 + 2, none⟩ = some (ei pk.to)) (by kernel_rfl) ?_ (fun hHeld => ?_)
                            · exact ⟨y0, y1, y2, y3, z0, z1, z2, q0, q1, q2⟩
                            refine wpAnyH_take (i := 0) (v := ?_) rfl (by kernel_rfl) (by kernel_rfl) (by kernel_rfl) (fun _ _ _ h => h) (Or.inl ⟨by rfl, ?_⟩) (by assumption) ?_
                            rotate_left
                            · (intro w hSw; (try dsimp only at hSw); go_simp)
                              first | done | with_reducible rfl
                            simp only [Act.put, List.getElem_toArray, List.getElem_cons_zero, List.setIfInBounds_toArray, List.set_cons_zero, List.set_cons_succ]
                            refine wpAnyH_take (i := 1) (v := ?_) rfl (by kernel_rfl) (by kernel_rfl) (by kernel_rfl) (fun _ _ _ h => h) (Or.inl ⟨by rfl, ?_⟩) (by assumption) ?_
                            rotate_left
                            · (intro w hSw; (try dsimp only at hSw); go_simp)
                              first | done | with_reducible rfl
                            simp only [Act.put, List.getElem_toArray, List.getElem_cons_zero, List.getElem_cons_succ, List.setIfInBounds_toArray, List.set_cons_zero, List.set_cons_succ]
                            refine wpAnyH_take (i := 2) (v := ?_) rfl (by kernel_rfl) (by kernel_rfl) (by kernel_rfl) (fun _ _ _ h => h) (Or.inl ⟨by rfl, ?_⟩) (by assumption) ?_
                            rotate_left
                            · (intro w hSw; (try dsimp only at hSw); go_simp)
                              first | done | with_reducible rfl
                            simp only [Act.put, List.getElem_toArray, List.getElem_cons_zero, List.getElem_cons_succ, List.setIfInBounds_toArray, List.set_cons_zero, List.set_cons_succ]
                            refine wpAnyH_ready (rs := [3]) (by kernel_rfl) (by simp) ?_
                            refine AllReadyH.cons rfl (fun K hK => ?_) AllReadyH.nil
                            go_simp
                            refine (SF.out _).mono ?_
                            rintro e w3 ⟨rfl, hu1⟩
                            refine hK.out _ _ ?_ (fun hHeld => ?_)
                            · exact ⟨hu1.keep hHeld.1, hu1.keep hHeld.2.1, hu1.keep hHeld.2.2.1, hu1.keep hHeld.2.2.2.1, hu1.keep hHeld.2.2.2.2.1, hu1.keep hHeld.2.2.2.2.2.1, hu1.keep hHeld.2.2.2.2.2.2.1, hu1.keep hHeld.2.2.2.2.2.2.2.1, hu1.keep hHeld.2.2.2.2.2.2.2.2.1, hu1.keep hHeld.2.2.2.2.2.2.2.2.2⟩
                            clear hK K
                            try simp only [Act.put, List.getElem_toArray, List.getElem_cons_zero, List.getElem_cons_succ, List.setIfInBounds_toArray, List.set_cons_zero, List.set_cons_succ]
                            refine wpAnyH_take (i := 4) (v := ?_) rfl (by kernel_rfl) (by kernel_rfl) (by kernel_rfl) (fun _ _ _ h => h) (Or.inl ⟨by rfl, ?_⟩) (by assumption) ?_
                            rotate_left
                            · (intro w hSw; (try dsimp only at hSw); go_simp)
                              first | done | with_reducible rfl
                            simp only [Act.put, List.getElem_toArray, List.getElem_cons_zero, List.getElem_cons_succ, List.setIfInBounds_toArray, List.set_cons_zero, List.set_cons_succ]
                            refine wpAnyH_take (i := 5) (v := ?_) rfl (by kernel_rfl) (by kernel_rfl) (by kernel_rfl) (fun _ _ _ h => h) (Or.inl ⟨by rfl, ?_⟩) (by assumption) ?_
                            rotate_left
                            · (intro w hSw; (try dsimp only at hSw); go_simp)
                              first | done | with_reducible rfl
                            simp only [Act.put, List.getElem_toArray, List.getElem_cons_zero, List.getElem_cons_succ, List.setIfInBounds_toArray, List.set_cons_zero, List.set_cons_succ]
                            refine wpAnyH_take (i := 6) (v := ?_) rfl (by kernel_rfl) (by kernel_rfl) (by kernel_rfl) (fun _ _ _ h => h) (Or.inl ⟨by rfl, ?_⟩) (by assumption) ?_
                            rotate_left
                            · (intro w hSw; (try dsimp only at hSw); go_simp)
                              first | done | with_reducible rfl
                            simp only [Act.put, List.getElem_toArray, List.getElem_cons_zero, List.getElem_cons_succ, List.setIfInBounds_toArray, List.set_cons_zero, List.set_cons_succ]
                            refine wpAnyH_take (i := 7) (v := ?_) rfl (by kernel_rfl) (by kernel_rfl) (by kernel_rfl) (fun _ _ _ h => h) (Or.inl ⟨by rfl, ?_⟩) (by assumption) ?_
                            rotate_left
                            · (intro w hSw; (try dsimp only at hSw); go_simp)
                              first | done | with_reducible rfl
                            simp only [Act.put, List.getElem_toArray, List.getElem_cons_zero, List.getElem_cons_succ, List.setIfInBounds_toArray, List.set_cons_zero, List.set_cons_succ]
                            refine wpAnyH_take (i := 8) (v := ?_) rfl (by kernel_rfl) (by kernel_rfl) (by kernel_rfl) (fun _ _ _ h => h) (Or.inl ⟨by rfl, ?_⟩) (by assumption) ?_
                            rotate_left
                            · (intro w hSw; (try dsimp only at hSw); go_simp)
                              first | done | with_reducible rfl
                            simp only [Act.put, List.getElem_toArray, List.getElem_cons_zero, List.getElem_cons_succ, List.setIfInBounds_toArray, List.set_cons_zero, List.set_cons_succ]
                            refine wpAnyH_ready (rs := [9]) (by kernel_rfl) (by simp) ?_
                            refine AllReadyH.cons rfl (fun K hK => ?_) AllReadyH.nil
                            go_simp
                            refine (ST.out _).mono ?_
                            rintro e w9 ⟨rfl, hu2⟩
                            refine hK.out _ _ ?_ (fun hHeld => ?_)
                            · exact ⟨hu2.keep hHeld.1, hu2.keep hHeld.2.1, hu2.keep hHeld.2.2.1, hu2.keep hHeld.2.2.2.1, hu2.keep hHeld.2.2.2.2.1, hu2.keep hHeld.2.2.2.2.2.1, hu2.keep hHeld.2.2.2.2.2.2.1, hu2.keep hHeld.2.2.2.2.2.2.2.1, hu2.keep hHeld.2.2.2.2.2.2.2.2.1, hu2.keep hHeld.2.2.2.2.2.2.2.2.2⟩
                            clear hK K
                            try simp only [Act.put, List.getElem_toArray, List.getElem_cons_zero, List.getElem_cons_succ, List.setIfInBounds_toArray, List.set_cons_zero, List.set_cons_succ]
                            refine wpAnyH_take (i := 10) (v := ?_) rfl (by kernel_rfl) (by kernel_rfl) (by kernel_rfl) (fun _ _ _ h => h) (Or.inl ⟨by rfl, ?_⟩) (by assumption) ?_
                            rotate_left
                            · (intro w hSw; (try dsimp only at hSw); go_simp)
                              first | done | with_reducible rfl
                            simp only [Act.put, List.getElem_toArray, List.getElem_cons_zero, List.getElem_cons_succ, List.setIfInBounds_toArray, List.set_cons_zero, List.set_cons_succ]
                            refine wpAnyH_take (i := 11) (v := ?_) rfl (by kernel_rfl) (by kernel_rfl) (by kernel_rfl) (fun _ _ _ h => h) (Or.inl ⟨by rfl, ?_⟩) (by assumption) ?_
                            rotate_left
                            · (intro w hSw; (try dsimp only at hSw); go_simp)
                              first | done | with_reducible rfl
                            simp only [Act.put, List.getElem_toArray, List.getElem_cons_zero, List.getElem_cons_succ, List.setIfInBounds_toArray, List.set_cons_zero, List.set_cons_succ]
                            refine wpAnyH_take (i := 12) (v := ?_) rfl (by kernel_rfl) (by kernel_rfl) (by kernel_rfl) (fun _ _ _ h => h) (Or.inl ⟨by rfl, ?_⟩) (by assumption) ?_
                            rotate_left
                            · (intro w hSw; (try dsimp only at hSw); go_simp)
                              first | done | with_reducible rfl
                            simp only [Act.put, List.getElem_toArray, List.getElem_cons_zero, List.getElem_cons_succ, List.setIfInBounds_toArray, List.set_cons_zero, List.set_cons_succ]
                            refine wpAnyH_take (i := 13) (v := ?_) rfl (by kernel_rfl) (by kernel_rfl) (by kernel_rfl) (fun _ _ _ h => h) (Or.inl ⟨by rfl, ?_⟩) (by assumption) ?_
                            rotate_left
                            · (intro w hSw; (try dsimp only at hSw); go_simp)
                              first | done | with_reducible rfl
                            simp only [Act.put, List.getElem_toArray, List.getElem_cons_zero, List.getElem_cons_succ, List.setIfInBounds_toArray, List.set_cons_zero, List.set_cons_succ]
                            refine wpAnyH_take (i := 14) (v := ?_) rfl (by kernel_rfl) (by kernel_rfl) (by kernel_rfl) (fun _ _ _ h => h) (Or.inl ⟨by rfl, ?_⟩) (by assumption) ?_
                            rotate_left
                            · (intro w hSw; (try dsimp only at hSw); go_simp)
                              first | done | with_reducible rfl
                            simp only [Act.put, List.getElem_toArray, List.getElem_cons_zero, List.getElem_cons_succ, List.setIfInBounds_toArray, List.set_cons_zero, List.set_cons_succ]
                            refine wpAnyH_take (i := 15) (v := ?_) rfl (by kernel_rfl) (by kernel_rfl) (by kernel_rfl) (fun _ _ _ h => h) (Or.inl ⟨by rfl, ?_⟩) (by assumption) ?_
                            rotate_left
                            · (intro w hSw; (try dsimp only at hSw); go_simp)
                              first | done | with_reducible rfl
                            simp only [Act.put, List.getElem_toArray, List.getElem_cons_zero, List.getElem_cons_succ, List.setIfInBounds_toArray, List.set_cons_zero, List.set_cons_succ]
                            refine wpAnyH_take (i := 16) (v := ?_) rfl (by kernel_rfl) (by kernel_rfl) (by kernel_rfl) (fun _ _ _ h => h) (Or.inl ⟨by rfl, ?_⟩) (by assumption) ?_
                            rotate_left
                            · (intro w hSw; (try dsimp only at hSw); go_simp)
                              first | done | with_reducible rfl
                            simp only [Act.put, List.getElem_toArray, List.getElem_cons_zero, List.getElem_cons_succ, List.setIfInBounds_toArray, List.set_cons_zero, List.set_cons_succ]
                            refine wpAnyH_take (i := 17) (v := ?_) rfl (by kernel_rfl) (by kernel_rfl) (by kernel_rfl) (fun _ _ _ h => h) (Or.inl ⟨by rfl, ?_⟩) (by assumption) ?_
                            rotate_left
                            · (intro w hSw; (try dsimp only at hSw); go_simp)
                              first | done | with_reducible rfl
                            simp only [Act.put, List.getElem_toArray, List.getElem_cons_zero, List.getElem_cons_succ, List.setIfInBounds_toArray, List.set_cons_zero, List.set_cons_succ]
                            refine wpAnyH_ready (rs := [18]) (by kernel_rfl) (by simp) ?_
                            refine AllReadyH.cons rfl (fun K hK => ?_) AllReadyH.nil
                            go_simp
                            refine (SI.out _).mono ?_
                            rintro e w18 ⟨rfl, rfl⟩
                            refine hK.out _ _ ?_ (fun hHeld => ?_)
                            · exact ⟨hHeld.1, hHeld.2.1, hHeld.2.2.1, hHeld.2.2.2.1, hHeld.2.2.2.2.1, hHeld.2.2.2.2.2.1, hHeld.2.2.2.2.2.2.1, hHeld.2.2.2.2.2.2.2.1, hHeld.2.2.2.2.2.2.2.2.1, hHeld.2.2.2.2.2.2.2.2.2⟩
                            clear hK K
                            try simp only [Act.put, List.getElem_toArray, List.getElem_cons_zero, List.getElem_cons_succ, List.setIfInBounds_toArray, List.set_cons_zero, List.set_cons_succ]
                            refine wpAnyH_take (i := 19) (v := ?_) rfl (by kernel_rfl) (by kernel_rfl) (by kernel_rfl) (fun _ _ _ h => h) (Or.inl ⟨by rfl, ?_⟩) (by assumption) ?_
                            rotate_left
                            · (intro w hSw; (try dsimp only at hSw); go_simp)
                              first | done | with_reducible rfl
                            simp only [Act.put, List.getElem_toArray, List.getElem_cons_zero, List.getElem_cons_succ, List.setIfInBounds_toArray, List.set_cons_zero, List.set_cons_succ]
                            refine wpAnyH_take (i := 20) (v := ?_) rfl (by kernel_rfl) (by kernel_rfl) (by kernel_rfl) (fun _ _ _ h => h) (Or.inl ⟨by rfl, ?_⟩) (by assumption) ?_
                            rotate_left
                            · (intro w hSw; (try dsimp only at hSw); go_simp)
                              first | done | with_reducible rfl
                            simp only [Act.put, List.getElem_toArray, List.getElem_cons_zero, List.getElem_cons_succ, List.setIfInBounds_toArray, List.set_cons_zero, List.set_cons_succ]
                            refine wpAnyH_take (i := 21) (v := ?_) rfl (by kernel_rfl) (by kernel_rfl) (by kernel_rfl) (fun _ _ _ h => h) (Or.inl ⟨by rfl, ?_⟩) (by assumption) ?_
                            rotate_left
                            · (intro w hSw; (try dsimp only at hSw); go_simp)
                              first | done | with_reducible rfl
                            simp only [Act.put, List.getElem_toArray, List.getElem_cons_zero, List.getElem_cons_succ, List.setIfInBounds_toArray, List.set_cons_zero, List.set_cons_succ]
                            refine wpAnyH_take (i := 22) (v := ?_) rfl (by kernel_rfl) (by kernel_rfl) (by kernel_rfl) (fun _ _ _ h => h) (Or.inl ⟨by rfl, ?_⟩) (by assumption) ?_
                            rotate_left
                            · (intro w hSw; (try dsimp only at hSw); go_simp)
                              first | done | with_reducible rfl
                            simp only [Act.put, List.getElem_toArray, List.getElem_cons_zero, List.getElem_cons_succ, List.setIfInBounds_toArray, List.set_cons_zero, List.set_cons_succ]
                            refine wpAnyH_take (i := 23) (v := ?_) rfl (by kernel_rfl) (by kernel_rfl) (by kernel_rfl) (fun _ _ _ h => h) (Or.inl ⟨by rfl, ?_⟩) (by assumption) ?_
                            rotate_left
                            · (intro w hSw; (try dsimp only at hSw); go_simp)
                              first | done | with_reducible rfl
                            simp only [Act.put, List.getElem_toArray, List.getElem_cons_zero, List.getElem_cons_succ, List.setIfInBounds_toArray, List.set_cons_zero, List.set_cons_succ]
                            try simp only [kkT]
                            refine wpAnyH_take (i := 24) (v := ?_) rfl (by kernel_rfl) (by kernel_rfl) (by kernel_rfl) (fun _ _ _ h => h) (Or.inl ⟨by rfl, ?_⟩) (by assumption) ?_
                            rotate_left
                            · (intro w hSw; (try dsimp only at hSw); go_simp)
                              first | done | with_reducible rfl
                            simp only [Act.put, List.getElem_toArray, List.getElem_cons_zero, List.getElem_cons_succ, List.setIfInBounds_toArray, List.set_cons_zero, List.set_cons_succ]
                            refine wpAnyH_take (i := 25) (v := ?_) rfl (by kernel_rfl) (by kernel_rfl) (by kernel_rfl) (fun _ _ _ h => h) (Or.inl ⟨by rfl, ?_⟩) (by assumption) ?_
                            rotate_left
                            · (intro w hSw; (try dsimp only at hSw); go_simp)
                              first | done | with_reducible rfl
                            simp only [Act.put, List.getElem_toArray, List.getElem_cons_zero, List.getElem_cons_succ, List.setIfInBounds_toArray, List.set_cons_zero, List.set_cons_succ]
                            refine wpAnyH_take (i := 26) (v := ?_) rfl (by kernel_rfl) (by kernel_rfl) (by kernel_rfl) (fun _ _ _ h => h) (Or.inl ⟨by rfl, ?_⟩) (by assumption) ?_
                            rotate_left
                            · (intro w hSw; (try dsimp only at hSw); go_simp)
                              first | done | with_reducible rfl
                            simp only [Act.put, List.getElem_toArray, List.getElem_cons_zero, List.getElem_cons_succ, List.setIfInBounds_toArray, List.set_cons_zero, List.set_cons_succ]
                            refine wpAnyH_take (i := 27) (v := ?_) rfl (by kernel_rfl) (by kernel_rfl) (by kernel_rfl) (fun _ _ _ h => h) (Or.inl ⟨by rfl, ?_⟩) (by assumption) ?_
                            rotate_left
                            · (intro w hSw; (try dsimp only at hSw); go_simp)
                              first | done | with_reducible rfl
                            simp only [Act.put, List.getElem_toArray, List.getElem_cons_zero, List.getElem_cons_succ, List.setIfInBounds_toArray, List.set_cons_zero, List.set_cons_succ]
                            refine wpAnyH_take (i := 28) (v := ?_) rfl (by kernel_rfl) (by kernel_rfl) (by kernel_rfl) (fun _ _ _ h => h) (Or.inl ⟨by rfl, ?_⟩) (by assumption) ?_
                            rotate_left
                            · (intro w hSw; (try dsimp only at hSw); go_simp)
                              first | done | with_reducible rfl
                            simp only [Act.put, List.getElem_toArray, List.getElem_cons_zero, List.getElem_cons_succ, List.setIfInBounds_toArray, List.set_cons_zero, List.set_cons_succ]
                            try simp only [i0]
                            refine wpAnyH_take (i := 29) (v := ?_) rfl (by kernel_rfl) (by kernel_rfl) (by kernel_rfl) (fun _ _ _ h => h) (Or.inl ⟨by rfl, ?_⟩) (by assumption) ?_
                            rotate_left
                            · (intro w hSw; (try dsimp only at hSw); go_simp)
                              first | done | with_reducible rfl
                            simp only [Act.put, List.getElem_toArray, List.getElem_cons_zero, List.getElem_cons_succ, List.setIfInBounds_toArray, List.set_cons_zero, List.set_cons_succ]
                            try simp only [i1]
                            refine wpAnyH_take (i := 30) (v := ?_) rfl (by kernel_rfl) (by kernel_rfl) (by kernel_rfl) (fun _ _ _ h => h) (Or.inl ⟨by rfl, ?_⟩) (by assumption) ?_
                            rotate_left
                            · (intro w hSw; (try dsimp only at hSw); go_simp)
                              first | done | with_reducible rfl
                            simp only [Act.put, List.getElem_toArray, List.getElem_cons_zero, List.getElem_cons_succ, List.setIfInBounds_toArray, List.set_cons_zero, List.set_cons_succ]
                            refine wpAnyH_take (i := 31) (v := ?_) rfl (by kernel_rfl) (by kernel_rfl) (by kernel_rfl) (fun _ _ _ h => h) (Or.inl ⟨by rfl, ?_⟩) (by assumption) ?_
                            rotate_left
                            · (intro w hSw; (try dsimp only at hSw); go_simp)
                              first | done | with_reducible rfl
                            simp only [Act.put, List.getElem_toArray, List.getElem_cons_zero, List.getElem_cons_succ, List.setIfInBounds_toArray, List.set_cons_zero, List.set_cons_succ]
                            refine wpAnyH_ready (rs := [32]) (by kernel_rfl) (by simp) ?_
                            refine AllReadyH.cons rfl (fun K hK => ?_) AllReadyH.nil
                            go_simp
                            refine (SC.out _).mono ?_
                            rintro e w32 ⟨⟨cc, rfl, hcc⟩, hu4⟩
                            have hc9 : ¬ (0 : Int) ≤ cc := by simpa using hcc
                            clear hcc
                            refine hK.out _ _ ?_ (fun hHeld => ?_)
                            · exact ⟨hu4.keep hHeld.1, hu4.keep hHeld.2.1, hu4.keep hHeld.2.2.1, hu4.keep hHeld.2.2.2.1, hu4.keep hHeld.2.2.2.2.1, hu4.keep hHeld.2.2.2.2.2.1, hu4.keep hHeld.2.2.2.2.2.2.1, hu4.keep hHeld.2.2.2.2.2.2.2.1, hu4.keep hHeld.2.2.2.2.2.2.2.2.1, hu4.keep hHeld.2.2.2.2.2.2.2.2.2⟩
                            clear hK K
                            try simp only [Act.put, List.getElem_toArray, List.getElem_cons_zero, List.getElem_cons_succ, List.setIfInBounds_toArray, List.set_cons_zero, List.set_cons_succ]
                            refine wpAnyH_take (i := 33) (v := ?_) rfl (by kernel_rfl) (by kernel_rfl) (by kernel_rfl) (fun _ _ _ h => h) (Or.inl ⟨by rfl, ?_⟩) (by assumption) ?_
                            rotate_left
                            · (intro w hSw; (try dsimp only at hSw); go_simp)
                              first | done | with_reducible rfl
                            simp only [Act.put, List.getElem_toArray, List.getElem_cons_zero, List.getElem_cons_succ, List.setIfInBounds_toArray, List.set_cons_zero, List.set_cons_succ]
                            refine wpAnyH_take (i := 34) (v := ?_) rfl (by kernel_rfl) (by kernel_rfl) (by kernel_rfl) (fun _ _ _ h => h) (Or.inl ⟨by rfl, ?_⟩) (by assumption) ?_
                            rotate_left
                            · (intro w hSw; (try dsimp only at hSw); go_simp)
                              first | done | with_reducible rfl
                            simp only [Act.put, List.getElem_toArray, List.getElem_cons_zero, List.getElem_cons_succ, List.setIfInBounds_toArray, List.set_cons_zero, List.set_cons_succ]
                            refine wpAnyH_take (i := 35) (v := ?_) rfl (by kernel_rfl) (by kernel_rfl) (by kernel_rfl) (fun _ _ _ h => h) (Or.inl ⟨by rfl, ?_⟩) (by assumption) ?_
                            rotate_left
                            · (intro w hSw; (try dsimp only at hSw); go_simp)
                              first | done | with_reducible rfl
                            simp only [Act.put, List.getElem_toArray, List.getElem_cons_zero, List.getElem_cons_succ, List.setIfInBounds_toArray, List.set_cons_zero, List.set_cons_succ]
                            refine wpAnyH_done (by kernel_rfl) ?_ _
                            have HU9 := Lib.hid (((HU5.out.drew.trans hu1).trans hu2).trans hu4)
                            clear q0 q1 q2 HU5 hHeld y0 y1 y2 y3 z0 z1 z2
                            go_wp2_with fail
                            go_roundw
                            case rel => exact ⟨k + 1, by omega, by go_num, HA3, HU9.out⟩
                            case measure => simp [intOf]; omega
                · have HR := Lib.hid (show sysOk ⟨st, ini, labs, eds⟩ = true by rw [HOK3.out, ← HA.out, show k = eds.length by omega, allF_end])
                  have HU := Lib.hid (HB0.out.trans hU)
                  clear HA hU
                  go_wp2_with fail
                  go_ret
                  exact ⟨by rw [HR.out]; rfl, HU.out⟩
        · have HR := Lib.hid (show sysOk ⟨st, ini, labs, eds⟩ = false by rw [HOK.out, decide_eq_false hel]; simp)
          have he3 : (300 : Int) < (eds.length : Int) := by omega
          clear HOK HLO hb1 hb2 hb3 hel
          go_enter Tryz.func62, Tryz.ntmps62
          go_wp2_with fail
          refine (S1.out _).mono ?_
          rintro e w1 ⟨rfl, rfl⟩
          clear S1
          go_wp2_with fail
          refine (S2.out _).mono ?_
          rintro e w2 ⟨rfl, hu2⟩
          have HU2 := Lib.hid (HB0.out.trans hu2)
          obtain ⟨x0, x1, x2, x3⟩ := HBX.out w2 hu2
          clear S2 hu2
          go_wp2_with fail
          refine (S3.out _).mono ?_
          rintro e w3 ⟨rfl, rfl⟩
          clear S3
          go_wp2_with fail
          go_ret
          exact ⟨by rw [HR.out]; rfl, HU2.out⟩

end Go.Proofs.YtlondofadjcooaaGreatDoor

/-
  The image of a system: what the program's call returns.
-/
namespace Go.Proofs.YtlondofadjcooaaGreatDoor
open Go.RowKit

theorem isLab_le {s : List UInt8} (h : isLab s = true) : s.length ≤ 100 := by
  obtain ⟨nm, vs, hl⟩ : ∃ nm vs, labT nm vs = some s := by
    unfold isLab readF at h
    split at h
    · split at h
      · simp at h
      · split at h
        · next hq => exact ⟨_, _, hq⟩
        · simp at h
    · split at h
      · next hq => exact ⟨_, _, hq⟩
      · simp at h
  unfold labT at hl
  split at hl
  · split at hl
    · cases hl; simp [tauL]
    · simp at hl
  · split at hl
    · next hc =>
      simp only [Bool.and_eq_true, decide_eq_true_eq] at hc
      obtain ⟨⟨ha, h2⟩, hv⟩ := hc
      have hn : nm.length ≤ 10 := by unfold actF nameF at ha; simp only [Bool.and_eq_true, decide_eq_true_eq] at ha; omega
      split at hl
      · cases hl; omega
      · cases hl
        have := joinC_le 44 30 (vs.map Lib.itoa) (by
          intro p hp
          obtain ⟨x, hx, rfl⟩ := List.mem_map.1 hp
          exact (isV_itoa (List.all_eq_true.1 hv x hx)).2)
        have h3 : (vs.map Lib.itoa).length * (30 + 1) ≤ 2 * 31 := Nat.mul_le_mul (by simpa using h2) (by omega)
        simp only [List.length_append, List.length_cons, List.length_nil, txtV]
        omega
    · simp at hl

theorem allF_get {P : Nat → Bool} : ∀ {k m : Nat}, allF P k m = true → ∀ i, k ≤ i → i < k + m → P i = true
  | _, 0, _, i, h1, h2 => by omega
  | k, m + 1, h, i, h1, h2 => by
    rw [allF, Bool.and_eq_true] at h
    by_cases hk : i = k
    · rw [hk]; exact h.1
    · exact allF_get h.2 i (by omega) (by omega)

/-- what a valid system's parts are. -/
theorem sys_parts {x : Sys} (h : sysOk x = true) : (1 ≤ x.st ∧ x.st ≤ 40) ∧ (0 ≤ x.ini ∧ x.ini ≤ 39) ∧ (1 ≤ x.labs.length ∧ x.labs.length ≤ 12) ∧ x.eds.length ≤ 300 ∧ (∀ s ∈ x.labs, s.length ≤ 100) ∧
    ∀ e ∈ x.eds, (0 ≤ e.fr ∧ e.fr ≤ 2000000) ∧ (0 ≤ e.lb ∧ e.lb ≤ 2000000) ∧ (0 ≤ e.to ∧ e.to ≤ 2000000) := by
  unfold sysOk labsOk at h
  simp only [Bool.and_eq_true, decide_eq_true_eq] at h
  obtain ⟨⟨⟨⟨h1, h2⟩, ⟨h3, h4⟩, h5⟩, h6⟩, h7⟩ := h
  have g1 := inB_true h1
  have g2 := inB_true h2
  refine ⟨g1, by omega, ⟨h3, h4⟩, h6, ?_, ?_⟩
  · intro s hs
    obtain ⟨i, hi, rfl⟩ := List.getElem_of_mem hs
    have := allF_get h5 i (by omega) (by omega)
    rw [labP_at _ _ hi] at this
    simp only [Bool.and_eq_true] at this
    exact isLab_le this.1.1
  · intro e he
    obtain ⟨i, hi, rfl⟩ := List.getElem_of_mem he
    have := allF_get h7 i (by omega) (by omega)
    rw [edP_at _ _ hi] at this
    simp only [Bool.and_eq_true] at this
    obtain ⟨⟨⟨q1, q2⟩, q3⟩, -⟩ := this
    have r1 := inB_true q1
    have r2 := inB_true q2
    have r3 := inB_true q3
    omega

end Go.Proofs.YtlondofadjcooaaGreatDoor

/-
  Relations between systems: pairs have two parts; labels of edges lie in their bounds.
-/
namespace Go.Proofs.YtlondofadjcooaaGreatDoor
open Go.RowKit

theorem sys_labs {x : Sys} (h : sysOk x = true) : ∀ e ∈ x.eds, 0 ≤ e.lb ∧ e.lb < x.labs.length := by
  intro e he
  unfold sysOk at h
  simp only [Bool.and_eq_true] at h
  obtain ⟨i, hi, rfl⟩ := List.getElem_of_mem he
  have := allF_get h.2 i (by omega) (by omega)
  rw [edP_at _ _ hi] at this
  simp only [Bool.and_eq_true] at this
  have r3 := inB_true this.1.2
  omega

end Go.Proofs.YtlondofadjcooaaGreatDoor

/-
  Relations between systems: the states that an edge with a label leads to; the plain part.
-/
namespace Go.Proofs.YtlondofadjcooaaGreatDoor
open Go.RowKit

theorem bl_irr : ∀ a : List UInt8, bl a a = false
  | [] => rfl
  | x :: xs => by
    have ih := bl_irr xs
    unfold bl at ih ⊢
    simp only [Op.bytesLess]
    simp [ih]
theorem bl_trans : ∀ a b c : List UInt8, bl a b = true → bl b c = true → bl a c = true
  | [], [], _, h, _ => by simp [bl, Op.bytesLess] at h
  | [], _ :: _, [], _, h => by simp [bl, Op.bytesLess] at h
  | [], _ :: _, _ :: _, _, _ => by simp [bl, Op.bytesLess]
  | _ :: _, [], _, h, _ => by simp [bl, Op.bytesLess] at h
  | _ :: _, _ :: _, [], _, h => by simp [bl, Op.bytesLess] at h
  | x :: xs, y :: ys, z :: zs, h1, h2 => by
    have ih := bl_trans xs ys zs
    unfold bl at *
    simp only [Op.bytesLess, Bool.or_eq_true, Bool.and_eq_true, decide_eq_true_eq, beq_iff_eq] at h1 h2 ⊢
    rcases h1 with h1 | ⟨h1, g1⟩ <;> rcases h2 with h2 | ⟨h2, g2⟩
    · exact Or.inl (UInt8.lt_trans h1 h2)
    · exact Or.inl (h2 ▸ h1)
    · exact Or.inl (h1 ▸ h2)
    · exact Or.inr ⟨h1.trans h2, ih g1 g2⟩

/-- the labels of a valid system differ. -/
theorem labs_inj {labs : List (List UInt8)} (h : labsOk labs = true) : ∀ i j : Nat, i < labs.length → j < labs.length → labs.getD i [] = labs.getD j [] → i = j := by
  unfold labsOk at h
  simp only [Bool.and_eq_true] at h
  have hall := allF_get h.2
  have h0 : ∀ i, i < labs.length → labs.getD i [] = tauL → i = 0 := by
    intro i hi he
    have := hall i (by omega) (by omega)
    unfold labP at this
    simp only [Bool.and_eq_true, beq_iff_eq] at this
    have h1 := this.1.2
    rw [beq_iff_eq.2 he] at h1
    exact of_decide_eq_true h1.symm
  have ht : 0 < labs.length → labs.getD 0 [] = tauL := by
    intro hi
    have := hall 0 (by omega) (by omega)
    unfold labP at this
    simp only [Bool.and_eq_true, beq_iff_eq] at this
    have h1 := this.1.2
    simpa using h1
  have hlt : ∀ d i, 1 ≤ i → i + d + 1 < labs.length → bl (labs.getD i []) (labs.getD (i + d + 1) []) = true := by
    intro d
    induction d with
    | zero =>
      intro i h1 h2
      have := hall (i + 1) (by omega) (by omega)
      unfold labP at this
      simp only [Bool.and_eq_true] at this
      have h3 := this.2
      rw [decide_eq_true (show 1 < i + 1 by omega)] at h3
      simpa using h3
    | succ d ih =>
      intro i h1 h2
      have g1 := ih i h1 (by omega)
      have := hall (i + (d + 1) + 1) (by omega) (by omega)
      unfold labP at this
      simp only [Bool.and_eq_true] at this
      have h3 := this.2
      rw [decide_eq_true (show 1 < i + (d + 1) + 1 by omega)] at h3
      rw [show i + (d + 1) + 1 - 1 = i + d + 1 by omega] at h3
      exact bl_trans _ _ _ g1 (by simpa using h3)
  have main : ∀ i j, i < j → j < labs.length → labs.getD i [] ≠ labs.getD j [] := by
    intro i j hij hj he
    by_cases hi : i = 0
    · subst hi
      have := h0 j hj (he ▸ ht (by omega))
      omega
    · have := hlt (j - i - 1) i (by omega) (by omega)
      rw [show i + (j - i - 1) + 1 = j by omega, he, bl_irr] at this
      exact absurd this (by simp)
  intro i j hi hj he
  rcases Nat.lt_trichotomy i j with h | h | h
  · exact absurd he (main i j h hj)
  · exact h
  · exact absurd he.symm (main j i h hi)

theorem edLt_iff (a b : Ed) : edLt a b = true ↔ (a.fr < b.fr ∨ (a.fr = b.fr ∧ (a.lb < b.lb ∨ (a.lb = b.lb ∧ a.to < b.to)))) := by
  unfold edLt
  split
  · rw [decide_eq_true_iff]; omega
  · split
    · rw [decide_eq_true_iff]; omega
    · rw [decide_eq_true_iff]; omega
theorem edLt_trans {a b c : Ed} (h1 : edLt a b = true) (h2 : edLt b c = true) : edLt a c = true := by
  rw [edLt_iff] at *
  omega
theorem eds_pair {x : Sys} (h : sysOk x = true) : x.eds.Pairwise (fun a b => edLt a b = true) := by
  unfold sysOk at h
  simp only [Bool.and_eq_true] at h
  have hall := allF_get h.2
  have hlt : ∀ d i (h1 : i + d + 1 < x.eds.length), edLt x.eds[i] x.eds[i + d + 1] = true := by
    intro d
    induction d with
    | zero =>
      intro i h1
      have := hall (i + 1) (by omega) (by omega)
      rw [edP_at _ _ (by omega)] at this
      simp only [Bool.and_eq_true] at this
      have h3 := this.2
      rw [decide_eq_false (show ¬ i + 1 = 0 by omega)] at h3
      simp only [Bool.false_or, Nat.add_sub_cancel] at h3
      rw [List.getD_eq_getElem?_getD, List.getElem?_eq_getElem (by omega)] at h3
      exact h3
    | succ d ih =>
      intro i h1
      have g1 := ih i (by omega)
      have := hall (i + (d + 1) + 1) (by omega) (by omega)
      rw [edP_at _ _ (by omega)] at this
      simp only [Bool.and_eq_true] at this
      have h3 := this.2
      rw [decide_eq_false (show ¬ i + (d + 1) + 1 = 0 by omega)] at h3
      simp only [Bool.false_or, Nat.add_sub_cancel] at h3
      rw [List.getD_eq_getElem?_getD, List.getElem?_eq_getElem (by omega)] at h3
      exact edLt_trans g1 h3
  rw [List.pairwise_iff_getElem]
  intro i j hi hj hij
  have := hlt (j - i - 1) i (by omega)
  simp only [show i + (j - i - 1) + 1 = j by omega] at this
  exact this

def folP (T : Sys) (ys : List Int) (s : List UInt8) (e : Ed) : Bool := T.labs.getD e.lb.toNat [] == s && ys.contains e.fr
/-- the states to which edges with a label lead from states. -/
def folF (T : Sys) (ys : List Int) (s : List UInt8) : List Int := (T.eds.filter (folP T ys s)).map Ed.to
end Go.Proofs.YtlondofadjcooaaGreatDoor

/-
  Relations between systems, the program's pairsOk: a set of pairs out of a strictly rising list. (The drawn region's ways are printed by tools/genbisp.py.)
-/
namespace Go.Proofs.YtlondofadjcooaaGreatDoor
open Go.RowKit Go.Maps

end Go.Proofs.YtlondofadjcooaaGreatDoor

/-
  Relations between systems, the program's follow: its result is sorted already.
-/
namespace Go.Proofs.YtlondofadjcooaaGreatDoor
open Go.RowKit

end Go.Proofs.YtlondofadjcooaaGreatDoor

/-
  Relations between systems, the program's: what answers an edge is a function's value; the relation turned round.
-/
namespace Go.Proofs.YtlondofadjcooaaGreatDoor
open Go.RowKit Go.Maps

theorem Upd.setRow {f : List Nat} {w w1 : World} (h : Upd f w w1) {g : Nat} (hg : w.heap.size ≤ g ∨ g ∈ f) (cs : Array Value) : Upd f w (w1.setRow g cs) :=
  h.fresh (f := [g]) ⟨rfl, rfl, rfl, by simp, fun k _ hf => setRow_other _ _ _ _ (by simpa using hf)⟩ (by simpa using hg)
/-- two valid systems as they lie. -/
structure Two (w : World) (A B : Sys) (a1 a2 b1 b2 : Value) (f1 f2 f3 f4 : List Nat) : Prop where
  la : RS f1 w [a1] A.labs
  ea : R_E1 f2 w [a2] A.eds
  lb : RS f3 w [b1] B.labs
  eb : R_E1 f4 w [b2] B.eds
  oka : sysOk A = true
  okb : sysOk B = true
theorem Two.upd {w w1 : World} {A B : Sys} {a1 a2 b1 b2 : Value} {f1 f2 f3 f4 : List Nat} (h : Two w A B a1 a2 b1 b2 f1 f2 f3 f4) (hu : Upd [] w w1) : Two w1 A B a1 a2 b1 b2 f1 f2 f3 f4 :=
  ⟨RSk.upd h.la hu (by simp), R_E1k.upd h.ea hu (by simp), RSk.upd h.lb hu (by simp), R_E1k.upd h.eb hu (by simp), h.oka, h.okb⟩
/-- a function's value that tells of two states whether they are related. -/
def HasC (hv : Value) (sa sb : Int) (H : Int → Int → Bool) (w : World) : Prop :=
  ∃ (g : FuncId) (caps : Array Value), hv = .func (.func g) #[] caps ∧ (∀ args W, Sem.run Tryz.prog (callFunc g args) W = .ok (.enter g args) W) ∧
    ∀ (W : World) (x y : Int), Upd [] w W → 0 ≤ x → x < sa → 0 ≤ y → y < sb → Calls Tryz.prog g (#[.int .i64 x, .int .i64 y] ++ caps) W fun e w' => e = .returned (.bool (H x y)) ∧ Upd [] W w'
theorem HasC.upd {hv : Value} {sa sb : Int} {H : Int → Int → Bool} {w w1 : World} (h : HasC hv sa sb H w) (hu : Upd [] w w1) : HasC hv sa sb H w1 := by
  obtain ⟨g, caps, h1, h2, h3⟩ := h
  exact ⟨g, caps, h1, h2, fun W x y hu2 => h3 W x y (hu.trans hu2)⟩

end Go.Proofs.YtlondofadjcooaaGreatDoor

/-
  Relations between systems, the program's answered: all edges from a state are answered. (The drawn region's way is printed by tools/genbisb.py.)
-/
namespace Go.Proofs.YtlondofadjcooaaGreatDoor
open Go.RowKit

end Go.Proofs.YtlondofadjcooaaGreatDoor

/-
  Relations between systems, the program's holds: all pairs of a set are gone through, in whatever order. (The drawn region's ways are printed by tools/genbise.py.)
-/
namespace Go.Proofs.YtlondofadjcooaaGreatDoor
open Go.RowKit Go.Maps

end Go.Proofs.YtlondofadjcooaaGreatDoor

/-
  Relations between systems, the program's strongly, related and certificate.
-/
namespace Go.Proofs.YtlondofadjcooaaGreatDoor
open Go.RowKit Go.Maps

end Go.Proofs.YtlondofadjcooaaGreatDoor

/-
  From which pairs of states of a model and a property the property can be left, plainly.
-/
namespace Go.Proofs.YtlondofadjcooaaGreatDoor
open Go.RowKit

/-- the state behind a label, -1 for none. -/
def stF (P : Sys) (y : Int) (s : List UInt8) : Int := (folF P [y] s).headD (-1)
/-- the state of the property behind an edge of the model, -1 if it is left. -/
def nxF (T P : Sys) (y : Int) (e : Ed) : Int := if e.lb = 0 then y else stF P y (T.labs.getD e.lb.toNat [])
/-- a pair is to be marked. -/
def chF (T P : Sys) (f : Nat → Nat → Bool) (x y : Nat) : Bool :=
  T.eds.any (fun e => e.fr == (x : Int) && (decide (nxF T P (y : Int) e < 0) || f e.to.toNat (nxF T P (y : Int) e).toNat))
end Go.Proofs.YtlondofadjcooaaGreatDoor

/-
  The library's sort of numbers, at whatever list (the shelf's contract, told as a reading).
-/
namespace Go.Proofs.YtlondofadjcooaaGreatDoor
open Go.RowKit

/-- a slice that points to an element of a block, if to anything. -/
def NoSpot (v : Value) : Prop := ∀ p n c, v = .slice (some p) n c → p.spot = none
theorem NoSpot.mk (b off n c : Nat) : NoSpot (.slice (some ⟨b, off, none⟩) n c) := by
  intro p n' c' h; cases h; rfl
end Go.Proofs.YtlondofadjcooaaGreatDoor

/-
  A copy of a list of numbers (the shelf's contract, told as a reading).
-/
namespace Go.Proofs.YtlondofadjcooaaGreatDoor
open Go.RowKit

end Go.Proofs.YtlondofadjcooaaGreatDoor

/-
  Relations between systems, the program's follow at whatever states; the states that internal edges reach.
-/
namespace Go.Proofs.YtlondofadjcooaaGreatDoor
open Go.RowKit

/-- an internal edge. -/
def TauS (T : Sys) (k j : Int) : Prop := j ∈ folF T [k] tauL
/-- what internal edges reach. -/
inductive ReachT (T : Sys) : Int → Int → Prop
  | refl (k : Int) : ReachT T k k
  | step {k j l : Int} : ReachT T k j → TauS T j l → ReachT T k l
theorem folF_bd2 {T : Sys} (h : sysOk T = true) {ys : List Int} {s : List UInt8} : ∀ u ∈ folF T ys s, 0 ≤ u ∧ u < T.st := by
  intro u hu
  unfold folF at hu
  obtain ⟨e, he, rfl⟩ := List.mem_map.1 hu
  have h2 := (List.mem_filter.1 he).1
  unfold sysOk at h
  simp only [Bool.and_eq_true] at h
  obtain ⟨i, hi, rfl⟩ := List.getElem_of_mem h2
  have := allF_get h.2 i (by omega) (by omega)
  rw [edP_at _ _ hi] at this
  simp only [Bool.and_eq_true] at this
  have r2 := inB_true this.1.1.2
  omega
theorem nodup_le : ∀ (n : Nat) (L : List Int), L.Nodup → (∀ k ∈ L, 0 ≤ k ∧ k < n) → L.length ≤ n
  | 0, L, _, hb => by
    cases L with
    | nil => simp
    | cons x l => have := hb x (by simp); omega
  | n + 1, L, hn, hb => by
    have h1 := nodup_le n (L.erase (n : Int)) (hn.erase _) (fun k hk => by
      have h2 := (List.Nodup.mem_erase_iff hn).1 hk
      have h3 := hb k h2.2
      have : k ≠ n := h2.1
      omega)
    rw [List.length_erase] at h1
    split at h1 <;> omega

/-- the list of states under way, closed for its first i. -/
structure IntInv (T : Sys) (xs L : List Int) (i : Nat) : Prop where
  nd : L.Nodup
  bd : ∀ k ∈ L, 0 ≤ k ∧ k < T.st
  base : ∀ x ∈ xs, x ∈ L
  from' : ∀ k ∈ L, ∃ x ∈ xs, ReachT T x k
  shut : ∀ k ∈ L.take i, ∀ j, TauS T k j → j ∈ L
theorem IntInv.len {T : Sys} {xs L : List Int} {i : Nat} (h : IntInv T xs L i) (hs : 1 ≤ T.st ∧ T.st ≤ 40) : L.length ≤ 40 := by
  have := nodup_le T.st.toNat L h.nd (fun k hk => by have := h.bd k hk; omega)
  omega
theorem IntInv.push {T : Sys} {xs L : List Int} {i : Nat} (h : IntInv T xs L i) (hok : sysOk T = true) {y z : Int} (hi : i ≤ L.length) (hy : y ∈ L) (hz : TauS T y z) (hn : z ∉ L) : IntInv T xs (L ++ [z]) i := by
  refine ⟨?_, ?_, ?_, ?_, ?_⟩
  · rw [List.nodup_append]
    exact ⟨h.nd, by simp, fun a ha b hb => by simp at hb; subst hb; exact fun e => hn (e ▸ ha)⟩
  · intro k hk
    rcases List.mem_append.1 hk with hk | hk
    · exact h.bd k hk
    · simp at hk; subst hk; exact folF_bd2 hok _ hz
  · intro x hx; exact List.mem_append_left _ (h.base x hx)
  · intro k hk
    rcases List.mem_append.1 hk with hk | hk
    · exact h.from' k hk
    · simp at hk; subst hk
      obtain ⟨x, hx, hr⟩ := h.from' y hy
      exact ⟨x, hx, hr.step hz⟩
  · intro k hk j hj
    rw [List.take_append_of_le_length hi] at hk
    exact List.mem_append_left _ (h.shut k hk j hj)
theorem IntInv.next {T : Sys} {xs L : List Int} {i : Nat} (h : IntInv T xs L i) (hi : i < L.length) (hc : ∀ j, TauS T L[i] j → j ∈ L) : IntInv T xs L (i + 1) := by
  refine ⟨h.nd, h.bd, h.base, h.from', fun k hk j hj => ?_⟩
  rw [List.take_succ_eq_append_getElem hi, List.mem_append] at hk
  rcases hk with hk | hk
  · exact h.shut k hk j hj
  · simp at hk; subst hk; exact hc j hj
theorem IntInv.done {T : Sys} {xs L : List Int} {i : Nat} (h : IntInv T xs L i) (hi : L.length ≤ i) (k : Int) : k ∈ L ↔ ∃ x ∈ xs, ReachT T x k := by
  refine ⟨h.from' k, ?_⟩
  rintro ⟨x, hx, hr⟩
  have hx := h.base x hx
  induction hr with
  | refl => exact hx
  | step _ h2 ih => exact h.shut _ (by rw [List.take_of_length_le hi]; exact ih) _ h2

end Go.Proofs.YtlondofadjcooaaGreatDoor

/-
  Relations between systems, the reference's parts for branching: l15In, l15Inert, l15Reach.
-/
namespace Go.Proofs.YtlondofadjcooaaGreatDoor
open Go.RowKit

theorem sys_eds2 {x : Sys} (h : sysOk x = true) : ∀ e ∈ x.eds, (0 ≤ e.fr ∧ e.fr < x.st) ∧ (0 ≤ e.to ∧ e.to < x.st) := by
  intro e he
  unfold sysOk at h
  simp only [Bool.and_eq_true] at h
  obtain ⟨i, hi, rfl⟩ := List.getElem_of_mem he
  have := allF_get h.2 i (by omega) (by omega)
  rw [edP_at _ _ hi] at this
  simp only [Bool.and_eq_true] at this
  have r1 := inB_true this.1.1.1
  have r2 := inB_true this.1.1.2
  omega
theorem tau_lab {labs : List (List UInt8)} (h : labsOk labs = true) {n : Int} (h0 : 0 ≤ n) (h1 : n < labs.length) : labs.getD n.toNat [] = tauL ↔ n = 0 := by
  have ht : labs.getD 0 [] = tauL := by
    have h' := h
    unfold labsOk at h'
    simp only [Bool.and_eq_true] at h'
    have := allF_get h'.2 0 (by omega) (by omega)
    unfold labP at this
    simp only [Bool.and_eq_true, beq_iff_eq] at this
    have h1 := this.1.2
    simpa using h1
  constructor
  · intro he
    have := labs_inj h n.toNat 0 (by omega) (by omega) (he.trans ht.symm)
    omega
  · intro he
    subst he
    exact ht
theorem tauS_iff {T : Sys} (h : sysOk T = true) (k j : Int) : TauS T k j ↔ ∃ e ∈ T.eds, e.fr = k ∧ e.to = j ∧ e.lb = 0 := by
  have hl : labsOk T.labs = true := by
    have h' := h
    unfold sysOk at h'
    simp only [Bool.and_eq_true] at h'
    exact h'.1.1.2
  unfold TauS folF folP
  simp only [List.mem_map, List.mem_filter, Bool.and_eq_true, List.contains_cons, List.contains_nil, Bool.or_false, beq_iff_eq]
  constructor
  · rintro ⟨e, ⟨h1, h2, h3⟩, rfl⟩
    have := sys_labs h e h1
    exact ⟨e, h1, h3, rfl, (tau_lab hl this.1 this.2).1 h2⟩
  · rintro ⟨e, h1, rfl, rfl, h4⟩
    have := sys_labs h e h1
    exact ⟨e, ⟨h1, (tau_lab hl this.1 this.2).2 h4, rfl⟩, rfl⟩

/-- a block of truths. -/
def BlkB (b : Nat) (w : World) (S : List Bool) : Prop := w.heap[b]? = some (.cells (S.map Value.bool).toArray 4 (0, 0))
theorem BlkB.lt {b : Nat} {w : World} {S : List Bool} (h : BlkB b w S) : b < w.heap.size := (Array.getElem?_eq_some_iff.1 h).1
theorem BlkB.cell {b : Nat} {w : World} {S : List Bool} (h : BlkB b w S) (j : Nat) (hj : j < S.length) : w.cell? ⟨b, j, none⟩ = some (.bool S[j]) := by
  unfold BlkB at h
  simp [World.cell?, h, hj]
theorem BlkB.frozen {b : Nat} {w : World} {S : List Bool} (h : BlkB b w S) (j : Nat) : w.frozen? ⟨b, j, none⟩ = false := by
  unfold BlkB at h
  simp [World.frozen?, h]
theorem BlkB.upd {b : Nat} {w w1 : World} {S : List Bool} (h : BlkB b w S) {f : List Nat} (hu : Upd f w w1) (hf : b ∉ f) : BlkB b w1 S := by
  unfold BlkB at *
  rw [hu.block b (Array.getElem?_eq_some_iff.1 h).1 hf]; exact h
theorem BlkB.set {b : Nat} {w : World} {S : List Bool} (h : BlkB b w S) (j : Nat) (c : Bool) : BlkB b (w.setCell ⟨b, j, none⟩ (.bool c)) (S.set j c) := by
  unfold BlkB at *
  have := heap_setCell_same w b j _ _ (.bool c) h
  rw [this, List.map_set]
  simp
/-- how many places of a block of truths are false. -/
def falseAt (w : World) (b : Nat) : Nat := match w.heap[b]? with
  | some (.cells cs _ _) => cs.toList.countP fun v => match v with | .bool false => true | _ => false
  | _ => 0
theorem BlkB.falseAt {b : Nat} {w : World} {S : List Bool} (h : BlkB b w S) : falseAt w b = S.count false := by
  unfold BlkB at h
  unfold Go.Proofs.YtlondofadjcooaaGreatDoor.falseAt
  rw [h]
  simp only [List.countP_map, List.count]
  refine List.countP_congr fun x _ => ?_
  cases x <;> simp
theorem BlkB.ofRow {w : World} {b n : Nat} (h : w.ownsRow b 4 1 (.slice (some ⟨b, 0, none⟩) n n) n (List.replicate n (.bool false))) : BlkB b w (List.replicate n false) := by
  obtain ⟨-, ⟨h1, -⟩ | ⟨g, cap, cur, hv, -, hc, -, -, h3, h4⟩⟩ := h
  · cases h1
  · cases hv
    unfold BlkB
    rw [hc, List.map_replicate, ← h4]
    have : cur.toList.take (n * 1) = cur.toList := List.take_of_length_le (by simp [h3])
    rw [this]

/-- what is marked is reached. -/
structure ReInv (B : Sys) (y : Int) (S : List Bool) : Prop where
  len : (S.length : Int) = B.st
  self : S.getD y.toNat false = true
  from' : ∀ j : Nat, S.getD j false = true → ReachT B y j
def ShutAt (S : List Bool) (g : Ed) : Prop := S.getD g.fr.toNat false = true → g.lb = 0 → S.getD g.to.toNat false = true
theorem ReInv.push {B : Sys} {y : Int} {S : List Bool} (h : ReInv B y S) (hok : sysOk B = true) {g : Ed} (hg : g ∈ B.eds) (hf : S.getD g.fr.toNat false = true) (hl : g.lb = 0) : ReInv B y (S.set g.to.toNat true) := by
  have hb := sys_eds2 hok g hg
  refine ⟨by simpa using h.len, ?_, fun j hj => ?_⟩
  · rw [List.getD_eq_getElem?_getD, List.getElem?_set]
    have := h.self
    rw [List.getD_eq_getElem?_getD] at this
    split
    · split
      · rfl
      · rename_i h1 h2; rw [h1] at h2; rw [List.getElem?_eq_none (by omega)] at this; exact this
    · exact this
  · by_cases e : g.to.toNat = j
    · have h1 := h.from' _ hf
      have e1 : ((g.fr.toNat : Nat) : Int) = g.fr := by omega
      have e2 : (j : Int) = g.to := by omega
      rw [e1] at h1
      rw [e2]
      exact h1.step ((tauS_iff hok _ _).2 ⟨g, hg, rfl, rfl, hl⟩)
    · rw [List.getD_eq_getElem?_getD, List.getElem?_set_ne e, ← List.getD_eq_getElem?_getD] at hj
      exact h.from' j hj
theorem ReInv.done {B : Sys} {y : Int} {S : List Bool} (h : ReInv B y S) (hok : sysOk B = true) (_hy : 0 ≤ y) (hs : ∀ g ∈ B.eds, ShutAt S g) (j : Nat) : S.getD j false = true ↔ ReachT B y j := by
  refine ⟨h.from' j, fun hr => ?_⟩
  have key : ∀ k : Int, ReachT B y k → S.getD k.toNat false = true := by
    intro k hk
    induction hk with
    | refl => exact h.self
    | step _ h2 ih =>
      obtain ⟨e, he, rfl, rfl, hl⟩ := (tauS_iff hok _ _).1 h2
      exact hs e he ih hl
  have := key j hr
  simpa using this

end Go.Proofs.YtlondofadjcooaaGreatDoor

/-
  Relations between systems, the reference's l15Reach: what internal edges reach.
-/
namespace Go.Proofs.YtlondofadjcooaaGreatDoor
open Go.RowKit

def oneIf : Value → Nat
  | .bool true => 1
  | _ => 0
theorem count_push {S : List Bool} {j : Nat} (hj : j < S.length) (h : S[j] = false) : (S.set j true).count false < S.count false := by
  have h1 := List.count_set (l := S) (i := j) (a := true) (b := false) hj
  have h2 : 0 < S.count false := List.count_pos_iff.2 (h ▸ List.getElem_mem hj)
  rw [h1, h]
  simp
  omega
end Go.Proofs.YtlondofadjcooaaGreatDoor

/-
  Marked pairs of states in rows and in one row: plain facts.
-/
namespace Go.Proofs.YtlondofadjcooaaGreatDoor
open Go.RowKit

/-- one row. -/
def rowL (m : Nat) (f : Nat → Nat → Bool) (i : Nat) : List Bool := (List.range m).map (f i)
@[simp] theorem rowL_length (m : Nat) (f : Nat → Nat → Bool) (i : Nat) : (rowL m f i).length = m := by simp [rowL]
theorem rowL_get (m : Nat) (f : Nat → Nat → Bool) (i j : Nat) (h : j < (rowL m f i).length) : (rowL m f i)[j] = f i j := by simp [rowL]
theorem rowL_set (m : Nat) (f : Nat → Nat → Bool) (i j : Nat) (b : Bool) : (rowL m f i).set j b = rowL m (upd f i j b) i := by
  apply List.ext_getElem
  · simp
  · intro c h3 h4
    simp at h3 h4
    rw [List.getElem_set]
    simp only [rowL, List.getElem_map, List.getElem_range, upd, true_and]
    split
    · subst c; simp
    · rw [if_neg (by omega)]
theorem rowL_far (m : Nat) (f : Nat → Nat → Bool) (i j k : Nat) (b : Bool) (h : k ≠ i) : rowL m (upd f i j b) k = rowL m f k := by
  unfold rowL
  apply List.map_congr_left
  intro c _
  simp only [upd]
  rw [if_neg (by omega)]
/-- how many pairs are not marked. -/
def offS (n m : Nat) (f : Nat → Nat → Bool) : Nat := ((List.range n).map fun i => (rowL m f i).count false).sum
theorem offS_congr {n : Nat} {g h : Nat → Nat} (he : ∀ i, i < n → g i = h i) : ((List.range n).map g).sum = ((List.range n).map h).sum :=
  congrArg List.sum (List.map_congr_left fun i hi => he i (List.mem_range.1 hi))

/-- all rows in one. -/
def flatB (n m : Nat) (f : Nat → Nat → Bool) : List Bool := (List.range (n * m)).map fun k => f (k / m) (k % m)
@[simp] theorem flatB_length (n m : Nat) (f : Nat → Nat → Bool) : (flatB n m f).length = n * m := by simp [flatB]
theorem idB_lt {n m i j : Nat} (hi : i < n) (hj : j < m) : i * m + j < n * m := by
  have : (i + 1) * m ≤ n * m := Nat.mul_le_mul_right _ hi
  rw [Nat.add_mul] at this; omega
/-- an edge of the model at a state of the property asks for nothing more. -/
def ShutE (T P : Sys) (f : Nat → Nat → Bool) (e : Ed) (q : Nat) : Prop := (nxF T P q e < 0 ∨ f e.to.toNat (nxF T P q e).toNat = true) → f e.fr.toNat q = true
end Go.Proofs.YtlondofadjcooaaGreatDoor

/-
  Relations between systems, the program's weakly, weakWay and branchingWay.
-/
namespace Go.Proofs.YtlondofadjcooaaGreatDoor
open Go.RowKit

/-- a weak step with a label leads from k to j. -/
def WeakR (T : Sys) (k : Int) (s : List UInt8) (j : Int) : Prop := (s = tauL ∧ ReachT T k j) ∨ (s ≠ tauL ∧ ∃ x l, ReachT T k x ∧ l ∈ folF T [x] s ∧ ReachT T l j)
theorem ReachT.bd {T : Sys} (h : sysOk T = true) {k j : Int} (hr : ReachT T k j) (hk : 0 ≤ k ∧ k < T.st) : 0 ≤ j ∧ j < T.st := by
  induction hr with
  | refl => exact hk
  | step _ h2 _ => exact folF_bd2 h _ h2
theorem WeakR.bd {T : Sys} (h : sysOk T = true) {k j : Int} {s : List UInt8} (hr : WeakR T k s j) (hk : 0 ≤ k ∧ k < T.st) : 0 ≤ j ∧ j < T.st := by
  rcases hr with ⟨-, hr⟩ | ⟨-, x, l, -, h2, h3⟩
  · exact hr.bd h hk
  · exact h3.bd h (folF_bd2 h _ h2)

end Go.Proofs.YtlondofadjcooaaGreatDoor
