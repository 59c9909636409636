/-
  Texts joined in one file: LabE, LabJ, LabN, LabL, LabM, TrT, EncP, ForP, HarnF, HarnG, HarnWk0, HarnLs, HarnLs1, HarnCl, HarnCl1, HarnWk, WkP, EncC, EncW, EncX, LabC, EncV.
-/
import Derived.Test.YtghocakjhfflbaaGreatDoorZV1
import Derived.Test.YtghocakjhfflbaaGreatDoorShelf
import Derived.Deep.RegionHeld3
import Derived.Deep.DeepCutAuto
import Derived.IntWalk
import Derived.Laws.Bits64b
import Derived.Lib.AppendStr
/-
  Numbers in decimal: what the program's calls return.
-/
namespace Go.Proofs.YtghocakjhfflbaaGreatDoor
open Go.RowKit

/-- what the calls of the library read of the package's variables. -/
structure Env (w : World) : Prop where
  m : ∃ m : Int, w.cell? ⟨0, 0, none⟩ = some (.int .i64 m)
  tab : Lib.TabIs Tryz.prog w "internal/strconv.uint64pow10" .u64 Lib.pow10Tab
  syn : ∃ tp p, w.var? Tryz.prog "strconv.ErrSyntax" = some #[.iface tp p]
  rng : ∃ tp p, w.var? Tryz.prog "strconv.ErrRange" = some #[.iface tp p]

theorem Upd.var {P : Program} {w w1 : World} {n : String} {cs : Array Value} (hu : Upd [] w w1) (h : w.var? P n = some cs) : w1.var? P n = some cs := by
  unfold World.var? at h ⊢
  cases hg : P.globalNamed n with
  | none => rw [hg] at h; cases h
  | some g =>
    rw [hg] at h
    simp only [Option.bind_some] at h ⊢
    have hlt : g < w.heap.size := by
      rcases Nat.lt_or_ge g w.heap.size with h1 | h1
      · exact h1
      · rw [Array.getElem?_eq_none h1] at h; cases h
    rw [hu.block g hlt (by simp)]
    exact h

theorem Env.upd {w w1 : World} (h : Env w) (hu : Upd [] w w1) : Env w1 :=
  ⟨h.m.imp fun _ hm => hu.keep hm, hu.var h.tab, h.syn.imp fun _ hs => hs.imp fun _ hs => hu.var hs, h.rng.imp fun _ hs => hs.imp fun _ hs => hu.var hs⟩

theorem Upd.grow (w : World) (k : Nat) (os : Array Obj) : Upd [] w (Sort.grow (w.drewN k) os) := by
  refine ⟨rfl, rfl, rfl, ?_, fun i hi _ => ?_⟩
  · show w.heap.size ≤ (w.heap ++ os).size
    rw [Array.size_append]; omega
  · show (w.heap ++ os)[i]? = w.heap[i]?
    rw [Array.getElem?_append_left hi]

theorem decimal (n : Int) (w : World) (h0 : -9223372036854775808 ≤ n) (h1 : n ≤ 9223372036854775807) (he : Env w) :
    Calls Tryz.prog 121 #[.int .i64 n] w fun e w' => e = .returned (es (Lib.itoa n)) ∧ Upd [] w w' := by
  have S1 := Lib.hid (Tryz.strconv_FormatInt_10 n h0 h1 w he.tab)
  clear he h0 h1
  go_enter Tryz.func121, Tryz.ntmps121
  go_wp2_with fail
  refine S1.out.mono ?_
  rintro e w1 ⟨rfl, k, os, rfl⟩
  have HU := Lib.hid (Upd.grow w k os)
  generalize Sort.grow (w.drewN k) os = w1 at *
  clear S1
  go_wp2_with fail
  go_ret
  exact ⟨rfl, HU.out⟩

theorem isActionI (l : List UInt8) (w : World) (hl : l.length ≤ 2000000) :
    Calls Tryz.prog 105 #[es l] w fun e w' => e = .returned (.bool (actF l)) ∧ w = w' := by
  have S1 := Lib.hid (isNameI l w hl)
  cases hn : nameF l with
  | false =>
    have HR := Lib.hid (show actF l = false by simp [actF, hn])
    rw [hn] at S1
    clear hn
    go_enter Tryz.func105, Tryz.ntmps105
    go_wp2_with fail
    refine S1.out.mono ?_
    rintro e w1 ⟨rfl, rfl⟩
    clear S1
    go_wp2_with fail
    go_ret
    exact ⟨by rw [HR.out]; rfl, rfl⟩
  | true =>
    have HR := Lib.hid (show actF l = (l != tauL) by simp [actF, hn])
    rw [hn] at S1
    clear hn
    go_enter Tryz.func105, Tryz.ntmps105
    go_wp2_with fail
    refine S1.out.mono ?_
    rintro e w1 ⟨rfl, rfl⟩
    clear S1
    go_wp2_with fail
    go_ret
    refine ⟨?_, rfl⟩
    rw [HR.out]
    simp [tauL, bne]

theorem parse_range {l : List UInt8} {v : Int} (h : Lib.parseIntB 64 l = .ok v) : -9223372036854775808 ≤ v ∧ v ≤ 9223372036854775807 := by
  unfold Lib.parseIntB at h
  cases l with
  | nil => cases h
  | cons c r =>
    simp only at h
    split at h
    · cases h
    · cases h
    · split at h
      · cases h
      · split at h
        · cases h
        · rename_i h1 h2
          simp only [Lib.NumEnd.ok.injEq] at h
          subst h
          by_cases hc : c.toNat = 45
          · simp only [hc, not_true_eq_false, true_and, false_and, not_false_eq_true] at h1 h2
            simp only [hc, if_true]; omega
          · simp only [hc, not_false_eq_true, true_and, false_and] at h1 h2
            simp only [hc, if_false]; omega

theorem digL_trim (s : List UInt8) : Lib.trimPrefix s [45] = digL s := by
  cases s with
  | nil => rfl
  | cons b r =>
    by_cases hb : b = 45
    · subst hb; simp [Lib.trimPrefix, Lib.hasPrefix, digL, negL, List.isPrefixOf]
    · have h1 : (b == 45) = false := by simpa using hb
      have h2 : ((45 : UInt8) == b) = false := by simpa using fun e => hb e.symm
      simp [Lib.trimPrefix, Lib.hasPrefix, digL, negL, List.isPrefixOf, h1, h2]

def NumV (s : List UInt8) (w : World) (e : Ending) (w' : World) : Prop := e = .returned (.tuple #[.int .i64 ((numF s).getD 0), .bool (numF s).isSome]) ∧ Upd [] w w'

set_option maxRecDepth 20000 in
set_option maxHeartbeats 2000000 in
theorem readDecimalI (s : List UInt8) (w : World) (hl : s.length ≤ 2000000) (he : Env w) : Calls Tryz.prog 109 #[es s] w (NumV s w) := by
  have S1 := Lib.hid (Tryz.strings_TrimPrefix ⟨s.toArray⟩ ⟨#[45]⟩ w)
  have e1 : Lib.trimPrefix (⟨s.toArray⟩ : ByteArray).data.toList (⟨#[45]⟩ : ByteArray).data.toList = digL s := digL_trim s
  rw [e1] at S1
  clear e1
  have hdl : (digL s).length ≤ s.length := by
    unfold digL; split <;> simp
  by_cases hlen : 18 < (digL s).length
  · have HR := Lib.hid (show numF s = none by unfold numF; rw [if_pos (Or.inr (Or.inl hlen))])
    generalize digL s = d at *
    have g1 : (18 : Int) < (d.length : Int) := by omega
    clear hlen he
    go_enter Tryz.func109, Tryz.ntmps109
    go_wp2_with fail
    refine S1.out.mono ?_
    rintro e w1 ⟨rfl, rfl⟩
    clear S1
    go_wp2_with fail
    go_ret2
    exact ⟨by rw [HR.out]; rfl, Upd.refl _ _⟩
  · have hsz : (⟨s.toArray⟩ : ByteArray).size = s.length := rfl
    rcases hp : Lib.parseIntB 64 s with v | _ | _
    rotate_left
    · skip
      have HR := Lib.hid (show numF s = none by
        cases hn : numF s with
        | none => rfl
        | some n =>
          obtain ⟨a, -, b⟩ := numF_some hn
          rw [a, parse_itoa n b] at hp; cases hp)
      obtain ⟨tp, p, hsyn⟩ := he.syn
      have S2 := Lib.hid (Tryz.strconv_ParseInt_10_at64_syntax_var ⟨s.toArray⟩ (by rw [hsz]; omega) hp tp p w hsyn)
      clear hsyn hp hsz he
      generalize digL s = d at *
      have g1 : ¬ (18 : Int) < (d.length : Int) := by omega
      clear hlen
      go_enter Tryz.func109, Tryz.ntmps109
      go_wp2_with fail
      refine S1.out.mono ?_
      rintro e w1 ⟨rfl, rfl⟩
      clear S1
      go_wp2_with fail
      refine S2.out.mono ?_
      rintro e w1 ⟨N, rfl, -, -, hb⟩
      have HU := Lib.hid (Upd.ofBelow hb)
      clear S2 hb
      go_wp2_with fail
      go_ret2
      exact ⟨by rw [HR.out]; rfl, HU.out⟩
    · skip
      have HR := Lib.hid (show numF s = none by
        cases hn : numF s with
        | none => rfl
        | some n =>
          obtain ⟨a, -, b⟩ := numF_some hn
          rw [a, parse_itoa n b] at hp; cases hp)
      obtain ⟨tp, p, hsyn⟩ := he.rng
      have S2 := Lib.hid (Tryz.strconv_ParseInt_10_at64_range_var ⟨s.toArray⟩ (by rw [hsz]; omega) hp tp p w hsyn)
      clear hsyn hp hsz he
      generalize digL s = d at *
      have g1 : ¬ (18 : Int) < (d.length : Int) := by omega
      clear hlen
      go_enter Tryz.func109, Tryz.ntmps109
      go_wp2_with fail
      refine S1.out.mono ?_
      rintro e w1 ⟨rfl, rfl⟩
      clear S1
      go_wp2_with fail
      refine S2.out.mono ?_
      rintro e w1 ⟨N, rfl, -, -, hb⟩
      have HU := Lib.hid (Upd.ofBelow hb)
      clear S2 hb
      go_wp2_with fail
      go_ret2
      exact ⟨by rw [HR.out]; rfl, HU.out⟩
    · skip
      obtain ⟨v0, v1⟩ := parse_range hp
      have S2 := Lib.hid (Tryz.strconv_ParseInt_10_at64_ok ⟨s.toArray⟩ (by rw [hsz]; omega) v hp w)
      have HR := Lib.hid (show numF s = if Lib.itoa v = s then some v else none by
        split
        · rename_i h
          rw [← h]; exact numF_itoa v (by rw [h]; omega)
        · rename_i h
          cases hn : numF s with
          | none => rfl
          | some n =>
            exfalso
            obtain ⟨a, -, b⟩ := numF_some hn
            rw [a, parse_itoa n b] at hp
            cases hp
            exact h a.symm)
      have S3 := Lib.hid (fun w1 (hu : Upd [] w w1) => decimal v w1 v0 v1 (he.upd hu))
      clear hp hsz he
      generalize digL s = d at *
      have g1 : ¬ (18 : Int) < (d.length : Int) := by omega
      clear hlen
      go_enter Tryz.func109, Tryz.ntmps109
      go_wp2_with fail
      refine S1.out.mono ?_
      rintro e wa ⟨rfl, rfl⟩
      clear S1
      go_wp2_with fail
      refine S2.out.mono ?_
      rintro e w1 ⟨rfl, hw⟩
      have hu : Upd [] wa w1 := by
        rcases hw with rfl | ⟨t, rfl⟩
        · exact Upd.refl _ _
        · exact Upd.ofBelow (Lib.bytesWorld_below _ _ _)
      have S4 := Lib.hid (S3.out w1 hu)
      have HU := Lib.hid hu
      clear S2 S3 hw hu
      go_wp2_with fail
      refine S4.out.mono ?_
      rintro e w2 ⟨rfl, hu2⟩
      have HU2 := Lib.hid (HU.out.trans hu2)
      clear S4 HU hu2
      by_cases heq : Lib.itoa v = s
      · have HR2 := Lib.hid (HR.out.trans (if_pos heq))
        rw [heq]
        clear HR heq
        go_wp2_with fail
        go_ret2
        exact ⟨by rw [HR2.out]; rfl, HU2.out⟩
      · have HR2 := Lib.hid (HR.out.trans (if_neg heq))
        clear HR
        generalize Lib.itoa v = A at *
        have hne : (A == s) = false := by simpa using heq
        go_wp2_with fail
        go_ret2
        exact ⟨by rw [HR2.out]; rfl, HU2.out⟩

end Go.Proofs.YtghocakjhfflbaaGreatDoor

/-
  Labels made: what the program's calls return.
-/
namespace Go.Proofs.YtghocakjhfflbaaGreatDoor
open Go.RowKit

set_option maxRecDepth 20000 in
set_option maxHeartbeats 4000000 in
theorem joinedI (v : Value) (xs : List Int) (w : World) (fp : List Nat) (hR : R1 fp w [v] xs) (h0 : 0 < xs.length) (hl : xs.length ≤ 1000000)
    (hv : ∀ x ∈ xs, (-9223372036854775808 ≤ x ∧ x ≤ 9223372036854775807) ∧ (Lib.itoa x).length ≤ 30) (he : Env w) :
    Calls Tryz.prog 113 #[v, es [44]] w fun e w' => e = .returned (es (txtV xs)) ∧ Upd [] w w' := by
  obtain ⟨i0, hi, hz0, hz1, hz2⟩ := info_parts Tryz.info9
  obtain ⟨a, cap, rfl, h1, h2, -⟩ := slF1_open hR
  unfold maxLen at h2
  have HR := Lib.hid hR
  have HV := Lib.hid hv
  have HE := Lib.hid he
  have hm2 : i0.bytes * xs.length ≤ 281474976710656 := by rw [hz2]; omega
  clear hR hv he
  go_enter Tryz.func113, Tryz.ntmps113
  go_wp2_with (first
    | (at_make; refine wpList_make_full _ rfl _ _ 22 rfl w.heap.size 9 i0 (es []) 1 Tryz.underlying22 hi hz0 hz1 .i64 .i64 _ _ xs.length rfl rfl rfl rfl hm2 (by unfold maxLen; omega) (Nat.le_refl _) ?_; intro w2 hrow hgrow)
    | fail)
  rw [made_one _ rfl] at hrow
  have hU : Upd [] w w2 := (Upd.refl _ _).grown hgrow (by simp)
  obtain ⟨fo, ho1, ho2, ho3⟩ := New.ofOwns (w := w) (e := 9) (enc := es) (xs := List.replicate xs.length ([] : List UInt8)) (by simpa using hrow)
  have HST := Lib.hid (And.intro (show RS fo w2 [.slice (some ⟨w.heap.size, 0, none⟩) xs.length xs.length] ((xs.take 0).map Lib.itoa ++ List.replicate (xs.length - 0) []) from by simpa using ho1) ho2)
  clear hrow hgrow ho1 ho2 ho3 hm2
  go_wp2_with fail
  go_loopw [13] (fun i wr => ∃ k : Nat, k ≤ xs.length ∧ i = .int .i64 k ∧ Upd [] w wr ∧ RS fo wr [.slice (some ⟨w.heap.size, 0, none⟩) xs.length xs.length] ((xs.take k).map Lib.itoa ++ List.replicate (xs.length - k) []) ∧ Own fo wr) (fun i _ => xs.length - (intOf i).toNat)
  case atStart => exact ⟨0, Nat.zero_le _, rfl, hU, HST.out.1, HST.out.2⟩
  case round =>
    clear HST hU
    obtain ⟨k, hk, rfl, hU, ho1, ho2⟩ := hrel
    by_cases hlt : k < xs.length
    · obtain ⟨a', cap', hv, -, -, hc⟩ := slF1_open (R1k.upd HR.out hU (by simp))
      cases hv
      obtain ⟨b1, o1, rfl, -, -, p1⟩ := hc k hlt
      have hset := set_fill Lib.itoa [] xs k hlt
      obtain ⟨⟨x0, x1⟩, -⟩ := HV.out xs[k] (List.getElem_mem hlt)
      have hlen : ((xs.take k).map Lib.itoa ++ List.replicate (xs.length - k) ([] : List UInt8)).length = xs.length := by simp; omega
      have HL := Lib.hid hlen
      have HS := Lib.hid hset
      have HU := Lib.hid hU
      have HO := Lib.hid (And.intro ho1 ho2)
      generalize xs[k] = x at *
      have S1 := Lib.hid (decimal x wr x0 x1 (HE.out.upd hU))
      clear hc hset hlen hU ho1 ho2
      go_wp2_with fail
      refine S1.out.mono ?_
      rintro e w3 ⟨rfl, hu3⟩
      obtain ⟨hbl, hcl0, hfz, hos⟩ := rowCellS (RSk.upd HO.out.1 hu3 (by simp)) (HO.out.2.upd hu3 (by simp)) HL.out k hlt
      have hos := hos (Lib.itoa x)
      rw [HS.out] at hos
      obtain ⟨z0, hz0'⟩ : ∃ z0 : List UInt8, w3.cell? ⟨w.heap.size, k, none⟩ = some (es z0) := ⟨_, hcl0⟩
      clear hcl0
      have HP := Lib.hid (And.intro hos (HU.out.trans hu3))
      clear S1 hos HO HU hu3 HS HL
      generalize Lib.itoa x = A at *
      go_wp2_with fail
      go_roundw
      case rel => exact ⟨k + 1, by omega, by go_num, HP.out.2.setCell (Or.inl (Nat.le_refl _)) _, HP.out.1.1, HP.out.1.2⟩
      case measure => simp [intOf]; omega
    · obtain rfl : k = xs.length := by omega
      obtain ⟨ps, hps⟩ : ∃ ps, ps = xs.map Lib.itoa := ⟨_, rfl⟩
      have hpl : ps.length = xs.length := by rw [hps]; simp
      have ho3 : RS fo wr [.slice (some ⟨w.heap.size, 0, none⟩) xs.length xs.length] ps := by rw [hps]; simpa using ho1
      obtain ⟨a', cap', hv, -, hc2, hc⟩ := slF1_open ho3
      simp only [Value.slice.injEq] at hv
      obtain ⟨rfl, -, rfl⟩ := hv
      have hle : (joinC 44 ps).length ≤ ps.length * (30 + 1) := joinC_le 44 30 ps (fun p hp => by
        rw [hps] at hp
        obtain ⟨x, hx, rfl⟩ := List.mem_map.1 hp
        exact (HV.out x hx).2)
      have hbk : w.heap.size < wr.heap.size := by
        obtain ⟨b, off, hb, -, hbl, -⟩ := hc 0 (by omega)
        cases hb; exact hbl
      have hmm : (ps.map (fun p => (⟨p.toArray⟩ : ByteArray))).map (fun b => b.data.toList) = ps := by
        rw [List.map_map]; exact (List.map_congr_left (fun p _ => rfl)).trans (List.map_id _)
      have hj : Lib.join ((ps.map (fun p => (⟨p.toArray⟩ : ByteArray))).map (fun b => b.data.toList)) (⟨#[44]⟩ : ByteArray).data.toList = joinC 44 ps := by
        rw [hmm]; exact join_lib 44 ps
      have S0 := Tryz.strings_Join w.heap.size 0 xs.length (ps.map (fun p => (⟨p.toArray⟩ : ByteArray))) ⟨#[44]⟩ wr (fun j x hx => by
        obtain ⟨hj1, rfl⟩ := List.getElem?_eq_some_iff.1 hx
        have hj2 : j < ps.length := by simpa using hj1
        obtain ⟨b, off, hb, -, -, hcl⟩ := hc j hj2
        cases hb
        rw [hcl]
        simp [es]) hbk (by simp; omega) (by simp; omega) (by rw [hj]; omega)
      rw [hj] at S0
      simp only [List.length_map, hpl] at S0
      have S1 := Lib.hid S0
      have HX := Lib.hid (show joinC 44 ps = txtV xs by rw [hps, txtV])
      have HU := Lib.hid hU
      clear hj hmm hle hc hc2 ho3 ho1 ho2 hps hU S0 HV HE HR
      generalize joinC 44 ps = J at *
      go_wp2_with fail
      refine S1.out.mono ?_
      rintro e w3 ⟨rfl, hb3⟩
      have HP := Lib.hid (HU.out.trans (Upd.ofBelow hb3))
      clear S1 hb3 HU
      go_wp2_with fail
      go_ret
      exact ⟨by rw [← HX.out]; rfl, HP.out⟩

end Go.Proofs.YtghocakjhfflbaaGreatDoor

/-
  Words read as numbers.
-/
namespace Go.Proofs.YtghocakjhfflbaaGreatDoor
open Go.RowKit

def NumsV (ps : List (List UInt8)) (w : World) (e : Ending) (w' : World) : Prop :=
  (∃ v', e = .returned (.tuple #[v', .bool (numsF ps).isSome]) ∧ New R1 w w' v' ((numsF ps).getD [])) ∧ Upd [] w w'

set_option maxRecDepth 20000 in
set_option maxHeartbeats 4000000 in
theorem readNumbersI (v : Value) (ps : List (List UInt8)) (w : World) (fp : List Nat) (hR : slF 1 (fun s => [es s]) fp w [v] ps) (hl : ps.length ≤ 2000001) (hp : ∀ p ∈ ps, p.length ≤ 2000000) (he : Env w) :
    Calls Tryz.prog 99 #[v] w (NumsV ps w) := by
  obtain ⟨i1, ki, kz0, kz1, kz2⟩ := info_parts Tryz.info2
  obtain ⟨a, cap, rfl, h1, h2, -⟩ := slF1_open hR
  unfold maxLen at h2
  have hlit := World.ownsRow_nil w w.heap.size 2 1
  have HLIT := Lib.hid hlit
  have HR := Lib.hid hR
  have HP := Lib.hid hp
  have HE := Lib.hid he
  clear hR hp he hlit
  go_enter Tryz.func99, Tryz.ntmps99
  go_wp2_with fail
  go_loopw [4, 11] (fun ov i wr => ∃ (k : Nat) (ns : List Int), k ≤ ps.length ∧ i = .int .i64 k ∧ ns.length = k ∧ Hid (numsF ps = (numsF (ps.drop k)).map (ns ++ ·)) ∧ Hid (wr.ownsRow w.heap.size 2 1 ov k (ns.map ei)) ∧ Upd [] w wr) (fun _ i _ => ps.length - (intOf i).toNat)
  case atStart => exact ⟨0, [], by omega, rfl, rfl, Lib.hid (by simp), HLIT, Upd.refl _ _⟩
  case round =>
    clear HLIT
    obtain ⟨k, ns, hk, rfl, hnl, hF, hown, hU⟩ := hrel
    have HNL := Lib.hid hnl
    clear hnl
    by_cases hlt : k < ps.length
    · obtain ⟨a', cap', hv, -, -, hc⟩ := slF1_open ((slF_kept _ _).upd HR.out hU (by simp))
      cases hv
      obtain ⟨b1, o1, rfl, -, -, p1⟩ := hc k hlt
      have hF1 := hF.out
      rw [List.drop_eq_getElem_cons hlt, numsF_cons] at hF1
      have hpk := HP.out ps[k] (List.getElem_mem hlt)
      have HF := Lib.hid hF1
      have HU := Lib.hid hU
      clear hF1 hF hc
      generalize ps[k] = s at *
      have S1 := Lib.hid (readDecimalI s wr hpk (HE.out.upd hU))
      clear hU
      go_wp2_with fail
      refine S1.out.mono ?_
      rintro e w3 ⟨rfl, hu3⟩
      have HU3 := Lib.hid (HU.out.trans hu3)
      have hown3 := ownsRow_upd hown.out hu3
      have hsz3 := HU3.out.size
      clear S1 HU hu3 hown
      cases hn : numF s with
      | none =>
        rw [hn] at HF
        have HN := Lib.hid (show numsF ps = none from HF.out)
        clear HF hown3
        go_wp2_with fail
        go_ret2
        exact ⟨⟨_, by rw [HN.out]; rfl, by rw [HN.out]; exact new_nil _ _⟩, HU3.out⟩
      | some x =>
        rw [hn] at HF
        have HN := Lib.hid (show numsF ps = (numsF (ps.drop (k + 1))).map ((ns ++ [x]) ++ ·) by
          rw [HF.out]
          simp [Function.comp_def])
        clear HF
        simp only [Option.getD_some, Option.isSome_some]
        go_wp2_with (first
          | (at_builtin; refine wpList_append_tight _ rfl _ _ 90 rfl w.heap.size 2 i1 (.int .i64 0) 1 8 Tryz.underlying90 ki kz0 kz1 kz2 rfl (by decide) _ _ _ rfl (hown3.alloc _) ⟨w3.heap.size, 0, none⟩ 1 1 [ei x] rfl rfl (fun j u hj => by rw [addr_add]; exact cell_new w3 #[ei x] _ _ rfl _ _ (by simpa using hj)) (by simp [Value.oneCell']) (by unfold maxLen; omega) (by omega) (by simp; omega) ?_)
          | fail)
        intro v4 w4 hown4 hg4 ht4
        have hu4 : Upd [] w w4 := (HU3.out.alloc _).grown hg4 (fun b hb => Or.inl (by have := (hown3.lt b hb).1; omega))
        have HQ := Lib.hid (And.intro hown4 hu4)
        clear hown4 hg4 ht4 hu4 hown3
        go_wp2_with fail
        go_roundw
        case rel => exact ⟨k + 1, ns ++ [x], by omega, by go_num, by simp [HNL.out], HN, Lib.hid (by simpa using HQ.out.1), HQ.out.2⟩
        case measure => simp [intOf]; omega
    · obtain rfl : k = ps.length := by omega
      have hF1 := hF.out
      rw [List.drop_of_length_le (Nat.le_refl _)] at hF1
      have HN := Lib.hid (show numsF ps = some ns by rw [hF1]; simp [numsF])
      have HQ := Lib.hid (And.intro (New.ofOwns (w := w) (e := 2) (enc := ei) (xs := ns) (by rw [HNL.out]; exact hown.out)) hU)
      clear hown hU hF hF1
      go_wp2_with fail
      go_ret2
      exact ⟨⟨_, by rw [HN.out]; rfl, by rw [HN.out]; exact HQ.out.1⟩, HQ.out.2⟩

end Go.Proofs.YtghocakjhfflbaaGreatDoor

/-
  Labels made and read: what the program's calls return.
-/
namespace Go.Proofs.YtghocakjhfflbaaGreatDoor
open Go.RowKit

def LabV (name : List UInt8) (xs : List Int) (w : World) (e : Ending) (w' : World) : Prop :=
  (∃ t : List UInt8, e = .returned (.tuple #[es t, .bool (labT name xs).isSome]) ∧ Hid (∀ s, labT name xs = some s → t = s)) ∧ Upd [] w w'

theorem isV_itoa {x : Int} (h : isV x = true) : (-9223372036854775808 ≤ x ∧ x ≤ 9223372036854775807) ∧ (Lib.itoa x).length ≤ 30 := by
  have hb := inB_true h
  have h1 := itoa_len64 h
  have h2 : (Lib.itoa x).length ≤ (digL (Lib.itoa x)).length + 1 := by unfold digL; split <;> simp <;> omega
  omega

theorem labT_no {name : List UInt8} {xs : List Int} (ht : name ≠ tauL) (h : (actF name && decide (xs.length ≤ 2) && xs.all isV) = false) : labT name xs = none := by
  unfold labT; rw [if_neg ht, h]; rfl
theorem labT_yes {name : List UInt8} {xs : List Int} (ht : name ≠ tauL) (h : (actF name && decide (xs.length ≤ 2) && xs.all isV) = true) : labT name xs = some (if xs = [] then name else ((name ++ [40]) ++ txtV xs) ++ [41]) := by
  unfold labT; rw [if_neg ht, if_pos h]

set_option maxRecDepth 20000 in
set_option maxHeartbeats 4000000 in
theorem labelOfI (name : List UInt8) (v : Value) (xs : List Int) (w : World) (fp : List Nat) (hn : name.length ≤ 2000000) (hR : R1 fp w [v] xs) (he : Env w) :
    Calls Tryz.prog 102 #[es name, v] w (LabV name xs w) := by
  obtain ⟨a, cap, rfl, h1, h2, -⟩ := slF1_open hR
  unfold maxLen at h2
  by_cases htau : name = tauL
  · have HT := Lib.hid (show labT name xs = if xs = [] then some tauL else none by unfold labT; rw [if_pos htau])
    have e1 : es name = .string ⟨#[116, 97, 117]⟩ := by rw [htau]; rfl
    rw [e1]
    clear hR he e1 htau
    cases xs with
    | nil =>
      go_enter Tryz.func102, Tryz.ntmps102
      go_wp2_with fail
      go_ret2
      exact ⟨⟨tauL, by rw [HT.out]; rfl, Lib.hid (fun s hs => by rw [HT.out] at hs; simpa using hs)⟩, Upd.refl _ _⟩
    | cons x xs =>
      have g0 : ¬ (((x :: xs).length : Int) = 0) := by simp; omega
      have HT2 := Lib.hid (show labT name (x :: xs) = none by rw [HT.out]; rfl)
      clear HT
      generalize x :: xs = ys at *
      have g1 : ((ys.length : Int) == 0) = false := by simpa using g0
      go_enter Tryz.func102, Tryz.ntmps102
      go_wp2_with fail
      go_ret2
      exact ⟨⟨tauL, by rw [HT2.out]; first | rfl | (simp [tauL, g1, es]), Lib.hid (fun s hs => by rw [HT2.out] at hs; cases hs)⟩, Upd.refl _ _⟩
  · have g0 : (name == [116, 97, 117]) = false := by simpa [tauL] using htau
    have HTAU := Lib.hid htau
    have S1 := Lib.hid (isActionI name w hn)
    cases ha : actF name with
    | false =>
      have HT := Lib.hid (labT_no (xs := xs) htau (by rw [ha]; rfl))
      rw [ha] at S1
      clear hR he htau ha
      go_enter Tryz.func102, Tryz.ntmps102
      go_wp2_with fail
      refine S1.out.mono ?_
      rintro e w1 ⟨rfl, rfl⟩
      clear S1
      go_wp2_with fail
      go_ret2
      exact ⟨⟨[], by rw [HT.out]; rfl, Lib.hid (fun s hs => by rw [HT.out] at hs; cases hs)⟩, Upd.refl _ _⟩
    | true =>
      rw [ha] at S1
      by_cases hlen : xs.length ≤ 2
      · have g3 : ¬ ((2 : Int) < (xs.length : Int)) := by omega
        have S2 := Lib.hid (areValues _ xs w fp hR)
        cases hv : xs.all isV with
        | false =>
          have HT := Lib.hid (labT_no (xs := xs) htau (by rw [hv]; simp))
          rw [hv] at S2
          clear hR he htau ha hv hlen
          go_enter Tryz.func102, Tryz.ntmps102
          go_wp2_with fail
          refine S1.out.mono ?_
          rintro e w1 ⟨rfl, rfl⟩
          clear S1
          go_wp2_with fail
          refine S2.out.mono ?_
          rintro e w1 ⟨rfl, rfl⟩
          clear S2
          go_wp2_with fail
          go_ret2
          exact ⟨⟨[], by rw [HT.out]; rfl, Lib.hid (fun s hs => by rw [HT.out] at hs; cases hs)⟩, Upd.refl _ _⟩
        | true =>
          have HT := Lib.hid (labT_yes (xs := xs) htau (by rw [ha, hv, decide_eq_true hlen]; rfl))
          rw [hv] at S2
          by_cases h0 : xs = []
          · have HT2 := Lib.hid (HT.out.trans (by rw [if_pos h0]))
            have g4 : ((xs.length : Int) == 0) = true := by rw [h0]; rfl
            clear hR he htau ha hv hlen h0 HT
            go_enter Tryz.func102, Tryz.ntmps102
            go_wp2_with fail
            refine S1.out.mono ?_
            rintro e w1 ⟨rfl, rfl⟩
            clear S1
            go_wp2_with fail
            refine S2.out.mono ?_
            rintro e w1 ⟨rfl, rfl⟩
            clear S2
            go_wp2_with fail
            go_ret2
            exact ⟨⟨name, by rw [HT2.out]; rfl, Lib.hid (fun s hs => by rw [HT2.out] at hs; simpa using hs)⟩, Upd.refl _ _⟩
          · have HT2 := Lib.hid (HT.out.trans (by rw [if_neg h0]))
            have hpos : 0 < xs.length := List.length_pos_iff.2 h0
            have g4 : ((xs.length : Int) == 0) = false := by simp; omega
            have S3 := Lib.hid (joinedI _ xs w fp hR hpos (by omega) (fun x hx => isV_itoa (List.all_eq_true.1 hv x hx)) he)
            have hjl : (txtV xs).length ≤ 2 * 31 := by
              refine Nat.le_trans (joinC_le 44 30 (xs.map Lib.itoa) (fun p hp => ?_)) ?_
              · obtain ⟨x, hx, rfl⟩ := List.mem_map.1 hp
                exact (isV_itoa (List.all_eq_true.1 hv x hx)).2
              · rw [List.length_map]; omega
            clear hR he htau ha hv hlen h0 HT
            generalize txtV xs = J at *
            go_enter Tryz.func102, Tryz.ntmps102
            go_wp2_with fail
            refine S1.out.mono ?_
            rintro e w1 ⟨rfl, rfl⟩
            clear S1
            go_wp2_with fail
            refine S2.out.mono ?_
            rintro e w1 ⟨rfl, rfl⟩
            clear S2
            go_wp2_with fail
            refine S3.out.mono ?_
            rintro e w3 ⟨rfl, hu3⟩
            have HU := Lib.hid hu3
            clear S3 hu3
            go_wp2_with fail
            go_ret2
            exact ⟨⟨_, by rw [HT2.out]; rfl, Lib.hid (fun s hs => by rw [HT2.out] at hs; simpa using hs)⟩, HU.out⟩
      · have g3 : (2 : Int) < (xs.length : Int) := by omega
        have HT := Lib.hid (labT_no (xs := xs) htau (by rw [decide_eq_false hlen]; simp))
        clear hR he htau ha hlen
        go_enter Tryz.func102, Tryz.ntmps102
        go_wp2_with fail
        refine S1.out.mono ?_
        rintro e w1 ⟨rfl, rfl⟩
        clear S1
        go_wp2_with fail
        go_ret2
        exact ⟨⟨[], by rw [HT.out]; rfl, Lib.hid (fun s hs => by rw [HT.out] at hs; cases hs)⟩, Upd.refl _ _⟩

end Go.Proofs.YtghocakjhfflbaaGreatDoor

/-
  Labels read: what the program's calls return.
-/
namespace Go.Proofs.YtghocakjhfflbaaGreatDoor
open Go.RowKit

theorem es_bytes (b : ByteArray) : es b.data.toList = .string b := by simp [es]

theorem splitC_len (c : UInt8) : ∀ l : List UInt8, (splitC c l).length ≤ l.length + 1 ∧ ∀ p ∈ splitC c l, p.length ≤ l.length
  | [] => by simp [splitC]
  | b :: l => by
    obtain ⟨h1, h2⟩ := splitC_len c l
    by_cases hb : b = c
    · subst hb
      have e : splitC b (b :: l) = [] :: splitC b l := by rw [splitC, if_pos rfl]
      rw [e]
      refine ⟨by simp; omega, fun p hp => ?_⟩
      rcases List.mem_cons.1 hp with rfl | hp
      · simp
      · have := h2 p hp; simp; omega
    · obtain ⟨p, ps, e1, e2⟩ := splitC_cons c b l hb
      rw [e2]
      rw [e1] at h1 h2
      refine ⟨by simp at h1 ⊢; omega, fun q hq => ?_⟩
      rcases List.mem_cons.1 hq with rfl | hq
      · have := h2 p (by simp); simp; omega
      · have := h2 q (by simp [hq]); simp; omega

theorem cut_len (s sep : List UInt8) : (Lib.cut s sep).1.length ≤ s.length ∧ (Lib.cut s sep).2.1.length ≤ s.length := by
  unfold Lib.cut
  split <;> simp <;> omega
theorem trim_len (s p : List UInt8) : (Lib.trimSuffix s p).length ≤ s.length := by
  unfold Lib.trimSuffix
  split <;> simp <;> omega
theorem cut_false {s : List UInt8} (h : (Lib.cut s [40]).2.2 = false) : Lib.cut s [40] = (s, [], false) := by
  unfold Lib.cut at h ⊢
  split at h
  · cases h
  · rename_i h1; rw [if_neg h1]

theorem cutI (l : List UInt8) (w : World) (hl : l.length ≤ 2000000) (he : Env w) :
    Calls Tryz.prog 98 #[es l, .string ⟨#[40]⟩] w fun e w' => e = .returned (.tuple #[es (Lib.cut l [40]).1, es (Lib.cut l [40]).2.1, .bool (Lib.cut l [40]).2.2]) ∧ Upd [] w w' := by
  obtain ⟨m, hm⟩ := he.m
  have hsz : (⟨l.toArray⟩ : ByteArray).size = l.length := rfl
  refine (Tryz.strings_Cut ⟨l.toArray⟩ ⟨#[40]⟩ m w (by rw [hsz]; omega) hm).mono ?_
  rintro e w1 ⟨rfl, n, rfl⟩
  exact ⟨rfl, (Upd.refl _ _).drewN n⟩

theorem trimI (l : List UInt8) (w : World) (hl : l.length ≤ 2000000) :
    Calls Tryz.prog 101 #[es l, .string ⟨#[41]⟩] w fun e w' => e = .returned (es (Lib.trimSuffix l [41])) ∧ w' = w := by
  have hsz : (⟨l.toArray⟩ : ByteArray).size = l.length := rfl
  exact (Tryz.strings_TrimSuffix ⟨l.toArray⟩ ⟨#[41]⟩ w (by rw [hsz]; omega)).mono (fun e w1 h => h)

theorem splitI (l : List UInt8) (w : World) (hl : l.length ≤ 2000000) (he : Env w) :
    Calls Tryz.prog 100 #[es l, .string ⟨#[44]⟩] w fun e w' => (∃ v', e = .returned v' ∧ New RS w w' v' (splitC 44 l)) ∧ Upd [] w w' := by
  obtain ⟨m, hm⟩ := he.m
  have hsz : (⟨l.toArray⟩ : ByteArray).size = l.length := rfl
  have hlen := Lib.splitB_all ⟨#[44]⟩ (by decide) 0 (Lib.countB ⟨l.toArray⟩ ⟨#[44]⟩) ⟨l.toArray⟩ rfl
  have hdat : (Lib.splitB ⟨#[44]⟩ 0 (Lib.countB ⟨l.toArray⟩ ⟨#[44]⟩) ⟨l.toArray⟩).map (·.data.toList) = splitC 44 l := by
    rw [Lib.splitB_data]; exact split_lib 44 l
  refine (Tryz.strings_Split ⟨l.toArray⟩ ⟨#[44]⟩ m w (by rw [hsz]; omega) hm (by decide)).mono ?_
  rintro e w1 ⟨rfl, rfl⟩
  generalize Lib.splitB ⟨#[44]⟩ 0 (Lib.countB ⟨l.toArray⟩ ⟨#[44]⟩) ⟨l.toArray⟩ = bs at *
  generalize Lib.countB ⟨l.toArray⟩ ⟨#[44]⟩ = n at *
  have hsp := (splitC_len 44 l).1
  have hmap : bs.map Value.string = (splitC 44 l).map es := by
    rw [← hdat, List.map_map]
    exact List.map_congr_left (fun b _ => (es_bytes b).symm)
  have hn : n + 1 = (splitC 44 l).length := by rw [← hdat, List.length_map, hlen]
  rw [hmap, hn]
  exact ⟨⟨_, rfl, new_lit (enc := es) w 9 (splitC 44 l) (by unfold maxLen; omega)⟩, (Upd.refl _ _).alloc _⟩

def ReadV (s : List UInt8) (w : World) (e : Ending) (w' : World) : Prop :=
  (∃ (n : List UInt8) (v' : Value) (vs : List Int), e = .returned (.tuple #[es n, v', .bool (readF s).isSome]) ∧ New R1 w w' v' vs ∧ (readF s).getD ([], []) = (n, vs)) ∧ Upd [] w w'

set_option maxRecDepth 20000 in
set_option maxHeartbeats 4000000 in
theorem readLabelI (s : List UInt8) (w : World) (hl : s.length ≤ 2000000) (he : Env w) : Calls Tryz.prog 85 #[es s] w (ReadV s w) := by
  have S1 := Lib.hid (cutI s w hl he)
  obtain ⟨hc1, hc2⟩ := cut_len s [40]
  have HE := Lib.hid he
  clear he
  cases hm : (Lib.cut s [40]).2.2 with
  | false =>
    have hcf := cut_false hm
    have HF := Lib.hid (show readF s = if labT s [] = some s then some (s, []) else none by unfold readF; rw [hm]; rfl)
    rw [hcf] at S1
    clear hm hcf hc1 hc2
    go_enter Tryz.func85, Tryz.ntmps85
    go_wp2_with fail
    refine S1.out.mono ?_
    rintro e w1 ⟨rfl, hu1⟩
    obtain ⟨f0, hR0, hO0, hG0⟩ := new_nil w w1
    have S4 := Lib.hid (labelOfI s (.slice none 0 0) [] w1 f0 hl hR0 (HE.out.upd hu1))
    have HU1 := Lib.hid hu1
    have HN := Lib.hid (show New R1 w w1 (.slice none 0 0) [] from ⟨f0, hR0, hO0, hG0⟩)
    clear S1 hu1 hR0 hO0 hG0
    go_wp2_with fail
    refine S4.out.mono ?_
    rintro e w4 ⟨⟨t, rfl, ht⟩, hu4⟩
    have HU := Lib.hid (HU1.out.trans hu4)
    have HN4 := Lib.hid (R1k.new HN.out hu4 (by simp))
    clear S4 HU1 HN hu4
    cases hL : labT s [] with
    | none =>
      have HR := Lib.hid (show readF s = none by rw [HF.out, hL]; rfl)
      clear HF ht hL
      go_wp2_with fail
      go_ret3
      exact ⟨⟨[], _, [], by rw [HR.out]; rfl, new_nil _ _, by rw [HR.out]; rfl⟩, HU.out⟩
    | some s' =>
      obtain rfl := ht.out s' hL
      by_cases heq : t = s
      · have HR := Lib.hid (show readF s = some (s, []) by rw [HF.out, hL, if_pos (by rw [heq])])
        clear HF hL
        subst heq
        clear ht
        go_wp2_with fail
        go_ret3
        exact ⟨⟨t, _, [], by rw [HR.out]; rfl, HN4.out, by rw [HR.out]; rfl⟩, HU.out⟩
      · have HR := Lib.hid (show readF s = none by rw [HF.out, hL, if_neg (by simpa using heq)])
        have hne : (t == s) = false := by simpa using heq
        clear HF ht hL
        go_wp2_with fail
        go_ret3
        exact ⟨⟨[], _, [], by rw [HR.out]; rfl, new_nil _ _, by rw [HR.out]; rfl⟩, HU.out⟩
  | true =>
    have HF := Lib.hid (show readF s = match numsF (splitC 44 (Lib.trimSuffix (Lib.cut s [40]).2.1 [41])) with
      | none => none
      | some vs => if labT (Lib.cut s [40]).1 vs = some s then some ((Lib.cut s [40]).1, vs) else none by unfold readF; rw [hm]; rfl)
    rw [hm] at S1
    clear hm
    generalize (Lib.cut s [40]).1 = nm at *
    generalize (Lib.cut s [40]).2.1 = rest at *
    have htl := trim_len rest [41]
    have hnm : nm.length ≤ 2000000 := by omega
    have S2 := Lib.hid (fun w1 : World => trimI rest w1 (by omega))
    generalize Lib.trimSuffix rest [41] = r2 at *
    obtain ⟨hp1, hp2⟩ := splitC_len 44 r2
    have S3 := Lib.hid (fun (w1 : World) (hu : Upd [] w w1) => splitI r2 w1 (by omega) (HE.out.upd hu))
    generalize splitC 44 r2 = ps at *
    have HPL := Lib.hid (show ∀ p ∈ ps, p.length ≤ 2000000 from fun p hp => by have := hp2 p hp; omega)
    have hpl : ps.length ≤ 2000001 := by omega
    clear hp1 hp2 htl hc1 hc2
    go_enter Tryz.func85, Tryz.ntmps85
    go_wp2_with fail
    refine S1.out.mono ?_
    rintro e w1 ⟨rfl, hu1⟩
    have S2 := Lib.hid (S2.out w1)
    have S3 := Lib.hid (S3.out w1 hu1)
    have HU1 := Lib.hid hu1
    clear S1 hu1
    go_wp2_with fail
    refine S2.out.mono ?_
    rintro e w2 ⟨rfl, rfl⟩
    clear S2
    go_wp2_with fail
    refine S3.out.mono ?_
    rintro e w3 ⟨⟨v3, rfl, fq, hq1, hq2, hq3⟩, hu3⟩
    have HU3 := Lib.hid (HU1.out.trans hu3)
    have S4 := Lib.hid (readNumbersI v3 ps w3 fq hq1 (by omega) HPL.out (HE.out.upd HU3.out))
    have hsz3 := HU3.out.size
    clear S3 HU1 hu3 hq1 hq2 hq3
    go_wp2_with fail
    refine S4.out.mono ?_
    rintro e w4 ⟨⟨v4, rfl, hn4⟩, hu4⟩
    have HU4 := Lib.hid (HU3.out.trans hu4)
    clear S4 HU3 hu4
    cases hN : numsF ps with
    | none =>
      have HR := Lib.hid (show readF s = none by rw [HF.out, hN])
      clear HF hN hn4
      go_wp2_with fail
      go_ret3
      exact ⟨⟨[], _, [], by rw [HR.out]; rfl, new_nil _ _, by rw [HR.out]; rfl⟩, HU4.out⟩
    | some vs =>
      rw [hN] at hn4 HF
      have HF2 := Lib.hid (show readF s = if labT nm vs = some s then some (nm, vs) else none from HF.out)
      obtain ⟨f4, hr4, -, -⟩ := id hn4
      have S5 := Lib.hid (labelOfI nm v4 vs w4 f4 hnm hr4 (HE.out.upd HU4.out))
      have HN := Lib.hid (show New R1 w w4 v4 vs from hn4.mono hsz3)
      clear HF hN hn4 hr4
      go_wp2_with fail
      refine S5.out.mono ?_
      rintro e w5 ⟨⟨t, rfl, ht⟩, hu5⟩
      have HU := Lib.hid (HU4.out.trans hu5)
      have HN5 := Lib.hid (R1k.new HN.out hu5 (by simp))
      clear S5 HU4 HN hu5
      cases hL : labT nm vs with
      | none =>
        have HR := Lib.hid (show readF s = none by rw [HF2.out, hL]; rfl)
        clear HF2 ht hL
        go_wp2_with fail
        go_ret3
        exact ⟨⟨[], _, [], by rw [HR.out]; rfl, new_nil _ _, by rw [HR.out]; rfl⟩, HU.out⟩
      | some s' =>
        obtain rfl := ht.out s' hL
        by_cases heq : t = s
        · have HR := Lib.hid (show readF s = some (nm, vs) by rw [HF2.out, hL, if_pos (by rw [heq])])
          clear HF2 hL
          subst heq
          clear ht
          go_wp2_with fail
          go_ret3
          exact ⟨⟨nm, _, vs, by rw [HR.out]; rfl, HN5.out, by rw [HR.out]; rfl⟩, HU.out⟩
        · have HR := Lib.hid (show readF s = none by rw [HF2.out, hL, if_neg (by simpa using heq)])
          have hne : (t == s) = false := by simpa using heq
          clear HF2 ht hL
          go_wp2_with fail
          go_ret3
          exact ⟨⟨[], _, [], by rw [HR.out]; rfl, new_nil _ _, by rw [HR.out]; rfl⟩, HU.out⟩

set_option maxRecDepth 20000 in
theorem isLabelI (s : List UInt8) (w : World) (hl : s.length ≤ 2000000) (he : Env w) : Calls Tryz.prog 70 #[es s] w fun e w' => e = .returned (.bool (readF s).isSome) ∧ Upd [] w w' := by
  have S1 := Lib.hid (readLabelI s w hl he)
  clear he
  go_enter Tryz.func70, Tryz.ntmps70
  go_wp2_with fail
  refine S1.out.mono ?_
  rintro e w1 ⟨⟨n, v, vs, rfl, hn, hr⟩, hu⟩
  have HU := Lib.hid hu
  clear S1 hn hr hu
  go_wp2_with fail
  go_ret
  exact ⟨rfl, HU.out⟩

end Go.Proofs.YtghocakjhfflbaaGreatDoor

/-
  Lists of labels: what the program's and the reference's calls return.
-/
namespace Go.Proofs.YtghocakjhfflbaaGreatDoor
open Go.RowKit

/-- whether a text is a label. -/
def isLab (s : List UInt8) : Bool := (readF s).isSome

set_option maxRecDepth 20000 in
theorem labelS (s : List UInt8) (w : World) (hl : s.length ≤ 2000000) : Calls Tryz.prog 94 #[es s] w fun e w' => e = .returned (.bool (isLab s)) ∧ Upd [] w w' := by
  have S1 := Lib.hid (valuesS s w hl)
  go_enter Tryz.func94, Tryz.ntmps94
  go_wp2_with fail
  refine S1.out.mono ?_
  rintro e w1 ⟨⟨v, vs, rfl, hn, -⟩, hu⟩
  have HU := Lib.hid hu
  clear S1 hn hu
  go_wp2_with fail
  go_ret
  exact ⟨rfl, HU.out⟩

end Go.Proofs.YtghocakjhfflbaaGreatDoor

/-
  Binary images, plainly: numbers, texts, the check value, the seal.
-/
namespace Go.Proofs.YtghocakjhfflbaaGreatDoor
open Go.RowKit

def edLt (a b : Ed) : Bool := if a.fr ≠ b.fr then decide (a.fr < b.fr) else if a.lb ≠ b.lb then decide (a.lb < b.lb) else decide (a.to < b.to)

/-- all of m from k on. -/
def allF (P : Nat → Bool) : Nat → Nat → Bool
  | _, 0 => true
  | k, m + 1 => P k && allF P (k + 1) m
theorem allF_step (P : Nat → Bool) (k n : Nat) (h : k < n) : allF P k (n - k) = (P k && allF P (k + 1) (n - (k + 1))) := by
  obtain ⟨m, hm⟩ : ∃ m, n - k = m + 1 := ⟨n - k - 1, by omega⟩
  rw [hm, allF, show n - (k + 1) = m by omega]
theorem allF_end (P : Nat → Bool) (n : Nat) : allF P n (n - n) = true := by rw [Nat.sub_self]; rfl

def labP (labs : List (List UInt8)) (i : Nat) : Bool := isLab (labs.getD i []) && ((labs.getD i [] == tauL) == decide (i = 0)) && (!decide (1 < i) || bl (labs.getD (i - 1) []) (labs.getD i []))
def edP (x : Sys) (i : Nat) : Bool :=
  inB (x.eds.getD i ⟨0, 0, 0⟩).fr 0 (x.st - 1) && inB (x.eds.getD i ⟨0, 0, 0⟩).to 0 (x.st - 1) && inB (x.eds.getD i ⟨0, 0, 0⟩).lb 0 (x.labs.length - 1) && (decide (i = 0) || edLt (x.eds.getD (i - 1) ⟨0, 0, 0⟩) (x.eds.getD i ⟨0, 0, 0⟩))
/-- the labels of a system are in order. -/
def labsOk (labs : List (List UInt8)) : Bool := decide (1 ≤ labs.length) && decide (labs.length ≤ 12) && allF (labP labs) 0 labs.length
/-- a system is valid. -/
def sysOk (x : Sys) : Bool := inB x.st 1 40 && inB x.ini 0 (x.st - 1) && labsOk x.labs && decide (x.eds.length ≤ 300) && allF (edP x) 0 x.eds.length

end Go.Proofs.YtghocakjhfflbaaGreatDoor

/-
  Formulas, plainly: their shape, their fields, what binds a variable; validity as the program and as the reference reckon it.
-/
namespace Go.Proofs.YtghocakjhfflbaaGreatDoor
open Go.RowKit

/-- a node: kind, variable, label, and whether the label is negated. -/
structure Nd where
  kd : Int
  vr : Int
  lb : List UInt8
  nt : Bool
deriving DecidableEq

/-- how many formulas a node of a kind wants behind it, for the program and for the reference. -/
def arI (k : Int) : Int := if k = 2 ∨ k = 3 then 2 else if k = 4 ∨ k = 5 ∨ k = 7 ∨ k = 8 then 1 else 0
def arS (k : Int) : Int := if k = 0 ∨ k = 1 ∨ k = 6 then 0 else if k = 2 ∨ k = 3 then 2 else 1
theorem ar_same {k : Int} (h : inB k 0 8 = true) : arS k = arI k := by
  have := inB_true h
  unfold arS arI
  split <;> split <;> (try split) <;> omega
theorem arI_in (k : Int) : 0 ≤ arI k ∧ arI k ≤ 2 := by unfold arI; split <;> (try split) <;> omega
theorem arS_in (k : Int) : 0 ≤ arS k ∧ arS k ≤ 2 := by unfold arS; split <;> (try split) <;> omega

/-- m formulas are still to come, and the nodes are exactly those. -/
def shapeF (ar : Int → Int) : Int → List Nd → Bool
  | m, [] => m == 0
  | m, n :: l => if m = 0 then false else shapeF ar (m + ar n.kd - 1) l
/-- how many nodes m formulas have. -/
def endF (ar : Int → Int) : Int → List Nd → Nat
  | _, [] => 0
  | m, n :: l => if m ≤ 0 then 0 else endF ar (m + ar n.kd - 1) l + 1
theorem shape_step {ar : Int → Int} {m : Int} {n : Nd} {l : List Nd} (h : shapeF ar m (n :: l) = true) : m ≠ 0 ∧ shapeF ar (m + ar n.kd - 1) l = true := by
  rw [shapeF] at h
  split at h
  · cases h
  · next hm => exact ⟨hm, h⟩
theorem shape_drop {ar : Int → Int} (ha : ∀ k, 0 ≤ ar k ∧ ar k ≤ 2) : ∀ (l : List Nd) (m : Int), 0 ≤ m → shapeF ar m l = true → ∀ k, k < l.length → ∃ q : Int, 1 ≤ q ∧ q ≤ m + l.length ∧ shapeF ar q (l.drop k) = true
  | [], _, _, _, k, hk => by simp at hk
  | n :: l, m, hm, h, k, hk => by
    obtain ⟨h1, h2⟩ := shape_step h
    cases k with
    | zero => exact ⟨m, by omega, by omega, h⟩
    | succ k =>
      have := ha n.kd
      obtain ⟨q, q1, q2, q3⟩ := shape_drop ha l _ (by omega) h2 k (by simpa using hk)
      exact ⟨q, q1, by simp; omega, q3⟩

def fixF (k : Int) : Bool := k == 7 || k == 8
def modF (k : Int) : Bool := k == 4 || k == 5
/-- a pattern: nothing, a label, or a name before a star. -/
def patF (s : List UInt8) : Bool := s == [] || isLab s || (s.getLast? == some 42 && actF s.dropLast)
def fieldsF (n : Nd) : Bool := if modF n.kd then patF n.lb else n.lb == [] && !n.nt
def boundF (n : Nd) : Bool := if fixF n.kd || n.kd == 6 then inB n.vr 0 2 else n.vr == 0
def nd0 : Nd := ⟨0, 0, [], false⟩
/-- node i binds the variable at node k. -/
def bndP (ar : Int → Int) (f : List Nd) (k i : Nat) : Bool := fixF (f.getD i nd0).kd && ((f.getD i nd0).vr == (f.getD k nd0).vr) && decide (k < i + endF ar 1 (f.drop i))
/-- the last of the nodes before i that binds the variable at node k, or -1. -/
def bindF (ar : Int → Int) (f : List Nd) (k : Nat) : Nat → Int
  | 0 => -1
  | i + 1 => if bndP ar f k i then (i : Int) else bindF ar f k i
def varP (ar : Int → Int) (f : List Nd) (k : Nat) : Bool := !((f.getD k nd0).kd == 6 && decide (bindF ar f k k < 0))
def ndkI (f : List Nd) (k : Nat) : Bool := inB (f.getD k nd0).kd 0 8 && fieldsF (f.getD k nd0) && boundF (f.getD k nd0) && varP arI f k
def ndkS (f : List Nd) (k : Nat) : Bool := boundF (f.getD k nd0) && varP arS f k
/-- a formula is valid, as the program reckons it. -/
def frmOk (f : List Nd) : Bool := inB f.length 1 30 && shapeF arI 1 f && allF (ndkI f) 0 f.length
def shapeS : Int → List Nd → Bool
  | m, [] => m == 0
  | m, n :: l => if m = 0 ∨ inB n.kd 0 8 = false then false else if fieldsF n = false then false else shapeS (m + arS n.kd - 1) l
/-- .. and as the reference does. -/
def frmOkS (f : List Nd) : Bool := inB f.length 1 30 && shapeS 1 f && allF (ndkS f) 0 f.length

theorem shapeS_split : ∀ (l : List Nd) (m : Int), shapeS m l = (shapeF arI m l && l.all fun n => inB n.kd 0 8 && fieldsF n)
  | [], m => by simp [shapeS, shapeF]
  | n :: l, m => by
    rw [shapeS, shapeF, List.all_cons]
    by_cases hm : m = 0
    · simp [hm]
    · cases hk : inB n.kd 0 8 with
      | false => simp [hm]
      | true =>
        cases hf : fieldsF n with
        | false => simp [hm]
        | true =>
          simp only [hm, Bool.true_eq_false, or_self, if_false, Bool.true_and]
          rw [ar_same hk, shapeS_split l]
theorem endF_same : ∀ (l : List Nd) (m : Int), (∀ n ∈ l, inB n.kd 0 8 = true) → endF arS m l = endF arI m l
  | [], m, _ => rfl
  | n :: l, m, h => by
    rw [endF, endF, ar_same (h n (by simp)), endF_same l _ (fun q hq => h q (by simp [hq]))]
theorem bindF_same (f : List Nd) (h : ∀ n ∈ f, inB n.kd 0 8 = true) (k : Nat) : ∀ i, bindF arS f k i = bindF arI f k i
  | 0 => rfl
  | i + 1 => by
    rw [bindF, bindF, bindF_same f h k i]
    unfold bndP
    rw [endF_same _ _ (fun n hn => h n (List.mem_of_mem_drop hn))]
theorem allF_congr {P Q : Nat → Bool} : ∀ (m k : Nat), (∀ i, k ≤ i → i < k + m → P i = Q i) → allF P k m = allF Q k m
  | 0, _, _ => rfl
  | m + 1, k, h => by
    rw [allF, allF, h k (Nat.le_refl _) (by omega), allF_congr m (k + 1) (fun i h1 h2 => h i (by omega) (by omega))]
theorem allF_and {P Q : Nat → Bool} : ∀ (m k : Nat), allF (fun i => P i && Q i) k m = (allF P k m && allF Q k m)
  | 0, _ => rfl
  | m + 1, k => by
    rw [allF, allF, allF, allF_and m (k + 1)]
    cases P k <;> cases Q k <;> simp
theorem all_allF (P : Nd → Bool) (f : List Nd) : f.all P = allF (fun i => P (f.getD i nd0)) 0 f.length := by
  suffices h : ∀ (m k : Nat), k + m = f.length → (f.drop k).all P = allF (fun i => P (f.getD i nd0)) k m by
    have := h f.length 0 (by omega)
    simpa using this
  intro m
  induction m with
  | zero => intro k hk; rw [List.drop_of_length_le (by omega)]; rfl
  | succ m ih =>
    intro k hk
    rw [List.drop_eq_getElem_cons (by omega), List.all_cons, allF, ih (k + 1) (by omega)]
    congr 2
    rw [List.getD_eq_getElem?_getD, List.getElem?_eq_getElem (by omega)]; rfl
theorem frmOk_same (f : List Nd) : frmOkS f = frmOk f := by
  unfold frmOkS frmOk
  rw [shapeS_split]
  cases hall : f.all (fun n => inB n.kd 0 8 && fieldsF n) with
  | false =>
    have hI : allF (ndkI f) 0 f.length = false := by
      have e : ndkI f = fun i => (inB (f.getD i nd0).kd 0 8 && fieldsF (f.getD i nd0)) && (boundF (f.getD i nd0) && varP arI f i) := by
        funext i; unfold ndkI; simp only [Bool.and_assoc]
      rw [e, allF_and, ← all_allF (fun n => inB n.kd 0 8 && fieldsF n), hall]; rfl
    rw [hI]; simp
  | true =>
    have hk : ∀ n ∈ f, inB n.kd 0 8 = true := fun n hn => by
      have := List.all_eq_true.1 hall n hn
      simp only [Bool.and_eq_true] at this
      exact this.1
    have e : allF (ndkS f) 0 f.length = allF (ndkI f) 0 f.length := by
      refine allF_congr _ _ (fun i _ hi => ?_)
      have hi2 : i < f.length := by omega
      have hg : f.getD i nd0 = f[i] := by rw [List.getD_eq_getElem?_getD, List.getElem?_eq_getElem hi2]; rfl
      have h9 := List.all_eq_true.1 hall f[i] (List.getElem_mem hi2)
      simp only [Bool.and_eq_true] at h9
      unfold ndkS ndkI varP
      rw [bindF_same f hk, hg, h9.1, h9.2]; simp
    rw [e]; simp

end Go.Proofs.YtghocakjhfflbaaGreatDoor

/-
  The laws' helper functions over lists of nodes.
-/
namespace Go.Proofs.YtghocakjhfflbaaGreatDoor
open Go.RowKit Go.ChangeShapes

abbrev R_F1 : Rp (List Nd) := slF 4 (fun t => [ei t.kd, ei t.vr, es t.lb, .bool t.nt])
theorem R_F1k : Kept R_F1 := slF_kept _ _
def szF_F1 (x : List Nd) : Int := x.length + totS (x.map Nd.lb)
def mkF_F1 (x : List Nd) : Int := 4 * x.length
def ndsOk (x : List Nd) : Prop := ∀ n ∈ x, n.lb.length ≤ 9223372036854775807

theorem Tryz.infoNd : (Tryz.prog.info? 98).map (fun i => (i.zero, i.size, i.bytes)) = some (some (.agg #[.int .i64 0, .int .i64 0, .string ⟨#[]⟩, .bool false]), 4, 40) := by kernel_rfl

set_option maxRecDepth 20000 in
set_option maxHeartbeats 400000 in
theorem szNode (a b : Int) (c : List UInt8) (d : Bool) (left : Int) (w : World) (hl : 0 ≤ left) (hl2 : left ≤ 1048576) (hc : c.length ≤ 9223372036854775807) :
    Calls Tryz.prog 54 #[.agg #[ei a, ei b, es c, .bool d], .int .i64 left] w fun e w' => e = .returned (.int .i64 (if left - (c.length : Int) < 0 then -1 else left - c.length)) ∧ Upd [] w w' := by
  by_cases h : left - (c.length : Int) < 0
  · rw [if_pos h]
    go_enter Tryz.func54, Tryz.ntmps54
    go_wp2_with fail
    go_ret
    exact ⟨rfl, (Upd.refl _ _).alloc _⟩
  · rw [if_neg h]
    go_enter Tryz.func54, Tryz.ntmps54
    go_wp2_with fail
    go_ret
    exact ⟨rfl, (Upd.refl _ _).alloc _⟩

set_option maxRecDepth 20000 in
set_option maxHeartbeats 800000 in
theorem sz_F1 (v : Value) (xs : List Nd) (left : Int) (w : World) (fp : List Nat) (hl : 0 ≤ left) (hl2 : left ≤ 1048576) (hR : R_F1 fp w [v] xs) (hS : ndsOk xs) :
    Calls Tryz.prog 30 #[v, .int .i64 left] w fun e w' => (∃ r : Int, e = .returned (.int .i64 r) ∧ (r = -1 ∨ (0 ≤ r ∧ r + szF_F1 xs = left))) ∧ Upd [] w w' := by
  obtain ⟨a, cap, rfl, h1, h2, hc⟩ := slF4_open hR
  unfold maxLen at h2
  unfold szF_F1
  have HS := Lib.hid hS
  have HC := Lib.hid hc
  clear hR hS hc
  by_cases hlt : left - (xs.length : Int) < 0
  · go_enter Tryz.func30, Tryz.ntmps30
    go_wp2_with fail
    go_ret
    exact ⟨⟨-1, rfl, Or.inl rfl⟩, Upd.refl _ _⟩
  · have hge : 0 ≤ left - (xs.length : Int) := by omega
    clear hlt
    go_enter Tryz.func30, Tryz.ntmps30
    go_wp2_with fail
    go_loopw [1, 5] (fun kk i wr => ∃ (k : Nat) (l : Int), k ≤ xs.length ∧ i = .int .i64 k ∧ kk = .int .i64 l ∧ 0 ≤ l ∧ Hid (l + xs.length + totS ((xs.take k).map Nd.lb) = left) ∧ Upd [] w wr) (fun _ i _ => xs.length - (intOf i).toNat)
    case atStart => exact ⟨0, _, Nat.zero_le _, rfl, rfl, hge, Lib.hid (by simp [totS]), Upd.refl _ _⟩
    case round =>
      obtain ⟨wo, rfl⟩ : ∃ wo : World, wo = wr := ⟨_, rfl⟩
      obtain ⟨k, l, hk, rfl, rfl, hl0, HL, hU⟩ := hrel
      by_cases hlt : k < xs.length
      · obtain ⟨b, off, rfl, -, -, p1, p2, p3, p4⟩ := HC.out k hlt
        have q1 := hU.keep p1
        have q2 := hU.keep p2
        have q3 := hU.keep p3
        have q4 := hU.keep p4
        have ht := totS_nonneg ((xs.take k).map Nd.lb)
        have HT := Lib.hid (show totS ((xs.take (k + 1)).map Nd.lb) = totS ((xs.take k).map Nd.lb) + xs[k].lb.length by
          have := totS_snoc (xs.map Nd.lb) k (by simpa using hlt)
          rw [← List.map_take, ← List.map_take] at this
          simpa using this)
        have hb2 : l ≤ 1048576 := by have := HL.out; omega
        have HU := Lib.hid hU
        have S1 := Lib.hid (szNode xs[k].kd xs[k].vr xs[k].lb xs[k].nt l wo hl0 hb2 (HS.out xs[k] (List.getElem_mem hlt)))
        clear ht p1 p2 p3 p4 hU
        generalize xs[k] = x at *
        obtain ⟨x1, x2, x3, x4⟩ := x
        simp only at *
        by_cases hneg : l - (x3.length : Int) < 0
        · rw [if_pos hneg] at S1
          go_wp2_with fail
          refine S1.out.mono ?_
          rintro e w1 ⟨rfl, hu1⟩
          have HU1 := Lib.hid (HU.out.trans hu1)
          clear S1 hu1
          go_wp2_with fail
          go_ret
          exact ⟨⟨-1, rfl, Or.inl rfl⟩, HU1.out⟩
        · rw [if_neg hneg] at S1
          have HN := Lib.hid hneg
          obtain ⟨l2, hl2e⟩ : ∃ l2, l2 = l - (x3.length : Int) := ⟨_, rfl⟩
          have hl20 : 0 ≤ l2 := by omega
          have hl21 : l2 ≤ 1048576 := by omega
          rw [← hl2e] at S1
          have HL2 := Lib.hid hl2e
          clear hneg hl2e
          go_wp2_with fail
          refine S1.out.mono ?_
          rintro e w1 ⟨rfl, hu1⟩
          have HU1 := Lib.hid (HU.out.trans hu1)
          clear S1 hu1
          go_wp2_with fail
          go_roundw
          case rel => exact ⟨k + 1, l2, by omega, by go_num, rfl, hl20, Lib.hid (by have := HL.out; have := HL2.out; rw [HT.out]; omega), HU1.out⟩
          case measure => simp [intOf]; omega
      · obtain rfl : k = xs.length := by omega
        have HU := Lib.hid hU
        have HZ := Lib.hid (show l + (xs.length + totS (xs.map Nd.lb)) = left by have := HL.out; rw [List.take_length] at this; omega)
        clear hU HL
        go_wp2_with fail
        go_ret
        exact ⟨⟨l, rfl, Or.inr ⟨hl0, HZ.out⟩⟩, HU.out⟩

set_option maxRecDepth 20000 in
set_option maxHeartbeats 400000 in
theorem toNode (a b : Int) (c : List UInt8) (d : Bool) (w : World) : Calls Tryz.prog 62 #[.agg #[ei a, ei b, es c, .bool d]] w fun e w' => e = .returned (.agg #[ei a, ei b, es c, .bool d]) ∧ Upd [] w w' := by
  go_enter Tryz.func62, Tryz.ntmps62
  go_wp2
  refine bodyPost_ret (v := .agg #[ei a, ei b, es c, .bool d]) (by simp [results, Tryz.results62, go_sem]) rfl ⟨rfl, ?_⟩
  exact (((Upd.refl _ _).alloc _).alloc _).alloc _

set_option maxRecDepth 20000 in
set_option maxHeartbeats 800000 in
theorem eqNode (a b : Int) (c : List UInt8) (d : Bool) (w : World) : Calls Tryz.prog 64 #[.agg #[ei a, ei b, es c, .bool d], .agg #[ei a, ei b, es c, .bool d]] w fun e w' => e = .returned (.bool true) ∧ Upd [] w w' := by
  have h1 : (a != a) = false := by simp
  have h2 : (b != b) = false := by simp
  have h3 : (c != c) = false := by simp
  have h3' : (c == c) = true := by simp
  have h4 : (d != d) = false := by simp
  have h4' : (d == d) = true := by simp
  go_enter Tryz.func64, Tryz.ntmps64
  go_wp2
  go_ret
  exact ⟨rfl, ((Upd.refl _ _).alloc _).alloc _⟩

set_option maxRecDepth 20000 in
set_option maxHeartbeats 800000 in
theorem eq_F1 (v1 v2 : Value) (xs : List Nd) (w : World) (f1 f2 : List Nat) (h1 : R_F1 f1 w [v1] xs) (h2 : R_F1 f2 w [v2] xs) :
    Calls Tryz.prog 41 #[v1, v2] w fun e w' => e = .returned (.bool true) ∧ Upd [] w w' := by
  obtain ⟨a1, c1, rfl, hl1, hm1, hc1⟩ := slF4_open h1
  obtain ⟨a2, c2, rfl, hl2, hm2, hc2⟩ := slF4_open h2
  unfold maxLen at hm1 hm2
  have HC1 := Lib.hid hc1
  have HC2 := Lib.hid hc2
  have hbe : ((xs.length : Int) != (xs.length : Int)) = false := by simp
  clear h1 h2 hc1 hc2
  go_enter Tryz.func41, Tryz.ntmps41
  go_wp2
  go_loopw [5] (fun i wr => ∃ k : Nat, k ≤ xs.length ∧ i = .int .i64 k ∧ Upd [] w wr) (fun i _ => xs.length - (intOf i).toNat)
  case atStart => exact ⟨0, Nat.zero_le _, rfl, Upd.refl _ _⟩
  case round =>
    obtain ⟨k, hk, rfl, hU⟩ := hrel
    by_cases hlt : k < xs.length
    · obtain ⟨b1, o1, rfl, -, hb1, p1, p2, p3, p4⟩ := HC1.out k hlt
      obtain ⟨b2, o2, rfl, -, hb2, p5, p6, p7, p8⟩ := HC2.out k hlt
      have q1 := hU.keep p1
      have q2 := hU.keep p2
      have q3 := hU.keep p3
      have q4 := hU.keep p4
      have q5 := hU.keep p5
      have q6 := hU.keep p6
      have q7 := hU.keep p7
      have q8 := hU.keep p8
      have HU := Lib.hid hU
      clear p1 p2 p3 p4 p5 p6 p7 p8 hU
      generalize xs[k] = x at *
      obtain ⟨x1, x2, x3, x4⟩ := x
      simp only at q1 q2 q3 q4 q5 q6 q7 q8
      have S1 := Lib.hid (fun W => eqNode x1 x2 x3 x4 W)
      go_wp2
      go_region_held3 (fun w' => w'.cell? ⟨b1, o1 + k * 4, none⟩ = some (ei x1) ∧ w'.cell? ⟨b1, o1 + k * 4 + 1, none⟩ = some (ei x2) ∧ w'.cell? ⟨b1, o1 + k * 4 + 2, none⟩ = some (es x3) ∧ w'.cell? ⟨b1, o1 + k * 4 + 3, none⟩ = some (.bool x4) ∧ w'.cell? ⟨b2, o2 + k * 4, none⟩ = some (ei x1) ∧ w'.cell? ⟨b2, o2 + k * 4 + 1, none⟩ = some (ei x2) ∧ w'.cell? ⟨b2, o2 + k * 4 + 2, none⟩ = some (es x3) ∧ w'.cell? ⟨b2, o2 + k * 4 + 3, none⟩ = some (.bool x4)) (go_keep) (((with_reducible refine (S1.out _).mono ?_); rintro e w1 ⟨rfl, hu1⟩; have t1 := hu1.keep q1; have t2 := hu1.keep q2; have t3 := hu1.keep q3; have t4 := hu1.keep q4; have t5 := hu1.keep q5; have t6 := hu1.keep q6; have t7 := hu1.keep q7; have t8 := hu1.keep q8))
      have HU1 := Lib.hid (HU.out.drew.trans hu1)
      clear hu1 HU
      go_wp2_with fail
      go_roundw
      case rel => exact ⟨k + 1, by omega, by go_num, HU1.out⟩
      case measure => simp [intOf]; omega
    · have hge : xs.length ≤ k := by omega
      go_wp2
      go_ret
      exact ⟨rfl, hU⟩

theorem fillF_set (xs : List Nd) (k : Nat) (hk : k < xs.length) : (xs.take k ++ List.replicate (xs.length - k) nd0).set k xs[k] = xs.take (k + 1) ++ List.replicate (xs.length - (k + 1)) nd0 := by
  have hl : (xs.take k).length = k := by simp; omega
  rw [List.set_append_right _ _ (by omega), hl, Nat.sub_self, show xs.length - k = (xs.length - (k + 1)) + 1 from by omega, List.replicate_succ, List.set_cons_zero, List.take_succ_eq_append_getElem hk, List.append_assoc, List.singleton_append]

set_option maxRecDepth 20000 in
set_option maxHeartbeats 800000 in
theorem to_F1 (v : Value) (xs : List Nd) (w : World) (fp : List Nat) (hl : szF_F1 xs ≤ 1048576) (hR : R_F1 fp w [v] xs) :
    Calls Tryz.prog 36 #[v] w fun e w' => (∃ v', e = .returned v' ∧ New R_F1 w w' v' xs) ∧ Upd [] w w' := by
  obtain ⟨i0, hi, hz0, hz1, hz2⟩ := info_parts Tryz.infoNd
  obtain ⟨a, cap, rfl, h1, h2, hc⟩ := slF4_open hR
  unfold maxLen at h2
  have htt := totS_nonneg (xs.map Nd.lb)
  unfold szF_F1 at hl
  clear hR
  have hm1 : i0.bytes * xs.length ≤ 281474976710656 := by rw [hz2]; omega
  go_enter Tryz.func36, Tryz.ntmps36
  go_wp2_with (first
    | (at_make; refine wpList_make_full _ rfl _ _ 42 rfl w.heap.size 98 i0 (.agg #[.int .i64 0, .int .i64 0, .string ⟨#[]⟩, .bool false]) 4 Tryz.underlying42 hi hz0 hz1 .i64 .i64 _ _ xs.length rfl rfl rfl rfl hm1 (by unfold maxLen; omega) (Nat.le_refl _) ?_; intro w1 hown hgrow)
    | fail)
  rw [made_four] at hown
  obtain ⟨fo, hT, hO, hb0⟩ := New.ofOwns4 (w := w) (e := 98) (xs := List.replicate xs.length nd0) (e1 := fun t => ei t.kd) (e2 := fun t => ei t.vr) (e3 := fun t => es t.lb) (e4 := fun t => .bool t.nt) (by
    have e : ((List.replicate xs.length ()).flatMap fun _ => [Value.int .i64 0, Value.int .i64 0, Value.string ⟨#[]⟩, Value.bool false]) = (List.replicate xs.length nd0).flatMap fun t => [ei t.kd, ei t.vr, es t.lb, .bool t.nt] := by
      generalize xs.length = n
      induction n with
      | zero => rfl
      | succ n ih => simp only [List.replicate_succ, List.flatMap_cons, ih]; rfl
    rw [← e]; simpa using hown)
  have hU : Upd [] w w1 := (Upd.refl _ _).grown hgrow (by simp)
  have HB := Lib.hid hb0
  clear hgrow hm1 hown hb0
  go_loopw [4] (fun i wr => ∃ k : Nat, k ≤ xs.length ∧ i = .int .i64 k ∧ Upd [] w wr ∧ Own fo wr ∧
      R_F1 fo wr [.slice (some ⟨w.heap.size, 0, none⟩) xs.length xs.length] (xs.take k ++ List.replicate (xs.length - k) nd0))
    (fun i _ => xs.length - (intOf i).toNat)
  case atStart => exact ⟨0, Nat.zero_le _, rfl, hU, hO, by simpa using hT⟩
  case round =>
    clear hT hO hU
    obtain ⟨k, hk, rfl, hU, hO, hT⟩ := hrel
    have hlen : (xs.take k ++ List.replicate (xs.length - k) nd0).length = xs.length := by simp; omega
    by_cases hlt : k < xs.length
    · obtain ⟨b, off, rfl, -, hb, p1, p2, p3, p4⟩ := hc k hlt
      have q1 := hU.keep p1
      have q2 := hU.keep p2
      have q3 := hU.keep p3
      have q4 := hU.keep p4
      have HF2 := Lib.hid (fillF_set xs k hlt)
      have HLEN := Lib.hid hlen
      have HT := Lib.hid (And.intro hT (And.intro hO hU))
      have S1 := Lib.hid (toNode xs[k].kd xs[k].vr xs[k].lb xs[k].nt wr)
      clear p1 p2 p3 p4 hc hlen hT hO hU
      go_wp2_with fail
      refine S1.out.mono ?_
      rintro e w2 ⟨rfl, hu2⟩
      have hT2 := R_F1k.upd HT.out.1 hu2 (by simp)
      have hO2 := HT.out.2.1.upd hu2 (by simp)
      have HU2 := Lib.hid (HT.out.2.2.trans hu2)
      obtain ⟨a', cap', hv, -, -, hcell⟩ := slF4_open hT2
      obtain ⟨b', off', rfl, hfo, hb', r1, r2, r3, r4⟩ := hcell k (by rw [HLEN.out]; exact hlt)
      simp only [Value.slice.injEq, Option.some.injEq, Addr.mk.injEq, and_true] at hv
      obtain ⟨⟨rfl, rfl⟩, -, rfl⟩ := hv
      rw [Nat.zero_add] at r1 r2 r3 r4
      have hfr1 : w2.frozen? ⟨w.heap.size, k * 4, none⟩ = false := hO2.frozen (by rw [hfo]; simp) _
      have hfr2 : w2.frozen? ⟨w.heap.size, k * 4 + 1, none⟩ = false := hO2.frozen (by rw [hfo]; simp) _
      have hfr3 : w2.frozen? ⟨w.heap.size, k * 4 + 2, none⟩ = false := hO2.frozen (by rw [hfo]; simp) _
      have hfr4 : w2.frozen? ⟨w.heap.size, k * 4 + 3, none⟩ = false := hO2.frozen (by rw [hfo]; simp) _
      have hset := slF4_set (b := w.heap.size) (off := 0) (cap := xs.length) (by rw [HLEN.out]; exact hT2) k (by rw [HLEN.out]; exact hlt) xs[k]
      rw [HLEN.out, HF2.out, Nat.zero_add] at hset
      have HS := Lib.hid (And.intro hset ((((hO2.setCell ⟨w.heap.size, k * 4, none⟩ (ei xs[k].kd)).setCell ⟨w.heap.size, k * 4 + 1, none⟩ (ei xs[k].vr)).setCell ⟨w.heap.size, k * 4 + 2, none⟩ (es xs[k].lb)).setCell ⟨w.heap.size, k * 4 + 3, none⟩ (.bool xs[k].nt)))
      generalize (List.take k xs ++ List.replicate (xs.length - k) nd0)[k]'_ = el at r1 r2 r3 r4
      clear hset hT2 hO2 hu2 hcell hfo q1 q2 q3 q4 HF2 HLEN HT S1
      go_wp2_with fail
      go_roundw
      case rel => exact ⟨k + 1, by omega, by go_num, (((HU2.out.setCell (Or.inl (Nat.le_refl _)) _).setCell (Or.inl (Nat.le_refl _)) _).setCell (Or.inl (Nat.le_refl _)) _).setCell (Or.inl (Nat.le_refl _)) _, HS.out.2, HS.out.1⟩
      case measure => simp [intOf]; omega
    · obtain rfl : k = xs.length := by omega
      clear hc
      go_wp2
      go_ret
      exact ⟨⟨_, rfl, fo, by simpa using hT, hO, HB.out⟩, hU⟩

end Go.Proofs.YtghocakjhfflbaaGreatDoor

/-
  Nodes marked and found marked by the laws' helper functions.
-/
namespace Go.Proofs.YtghocakjhfflbaaGreatDoor
open Go.RowKit Go.ChangeShapes

/-- the node that marks the number k. -/
def mkNd (k : Int) : Nd := ⟨k, k + 1, mtx (k + 1 + 1), (k + 1 + 1 + 1) % 3 == 0⟩
def upN (k : Int) : Nat → List Nd
  | 0 => []
  | n + 1 => mkNd k :: upN (k + 4) n
@[simp] theorem upN_length (k : Int) (n : Nat) : (upN k n).length = n := by
  induction n generalizing k with
  | zero => rfl
  | succ n ih => simp [upN, ih]
theorem upN_snoc (k : Int) (n : Nat) : upN k (n + 1) = upN k n ++ [mkNd (k + 4 * n)] := by
  induction n generalizing k with
  | zero => simp [upN]
  | succ n ih =>
    rw [upN, ih (k + 4)]
    simp only [upN, List.cons_append, List.cons.injEq, List.append_cancel_left_eq, true_and, and_true]
    congr 1; omega
end Go.Proofs.YtghocakjhfflbaaGreatDoor

/-
  What a workspace is: claims, systems and names, plainly; what the printers want of their parts.
-/
namespace Go.Proofs.YtghocakjhfflbaaGreatDoor
open Go.RowKit

abbrev Ls := Sys
/-- a claim: what it says, of which systems, and what it comes with. -/
structure Cl where
  kind : Int
  left : Int
  right : Int
  pairs : List (List Int)
  form : List Nd
deriving DecidableEq
/-- a workspace. -/
structure Wk where
  names : List (List UInt8)
  syss : List Ls
  clms : List Cl
deriving DecidableEq

def upSw (k : Int) (r : List (List UInt8)) : List (List UInt8) := mkS k r.length
def up_E1 (k : Int) (x : List Ed) : List Ed := upE k x.length
def up_F1 (k : Int) (x : List Nd) : List Nd := upN k x.length
theorem szF_F1_nonneg (x : List Nd) : 0 ≤ szF_F1 x := by have := totS_nonneg (x.map Nd.lb); unfold szF_F1; omega
end Go.Proofs.YtghocakjhfflbaaGreatDoor

/-
  Transition systems as structs of cells: readings, and what the laws' helper functions return and make.
-/
namespace Go.Proofs.YtghocakjhfflbaaGreatDoor
open Go.RowKit

/-- its 4 cells. -/
def R_Ls : Rp Ls := fun fp w cs x => ∃ (v2 v3 : Value) (f2 f3 : List Nat), cs = [ei x.st, ei x.ini, v2, v3] ∧ R_S1 f2 w [v2] x.labs ∧ R_E1 f3 w [v3] x.eds ∧ fp = f2 ++ (f3)
theorem R_Lsk : Kept R_Ls := by
  constructor
  · rintro fp w cs x ⟨v2, v3, f2, f3, rfl, h2, h3, rfl⟩ b hb
    simp only [List.mem_append] at hb
    rcases hb with hb | hb
    · exact R_S1k.lt h2 b hb
    · exact R_E1k.lt h3 b hb
  · rintro fp w w' cs x ⟨v2, v3, f2, f3, rfl, h2, h3, rfl⟩ hs hb
    exact ⟨v2, v3, f2, f3, rfl, R_S1k.frame h2 hs (fun b h => hb b (by simp [h])), R_E1k.frame h3 hs (fun b h => hb b (by simp [h])), rfl⟩
def szF_Ls (x : Ls) : Int := szF_S1 x.labs + szF_E1 x.eds
def mkF_Ls (x : Ls) : Int := 1 + 1 + mkF_S1 x.labs + mkF_E1 x.eds
theorem szF_Ls_nonneg (x : Ls) : 0 ≤ szF_Ls x := by have := szF_S1_nonneg x.labs; have := szF_E1_nonneg x.eds; unfold szF_Ls; omega
/-- what each text's length is below. -/
def LsOk (x : Ls) : Prop := strsOk x.labs

set_option maxRecDepth 20000 in
set_option maxHeartbeats 1600000 in
theorem sz_Ls (cs : List Value) (x : Ls) (left : Int) (w : World) (fp : List Nat) (hl : 0 ≤ left) (hl2 : left ≤ 1048576) (hR : R_Ls fp w cs x) (hS : LsOk x) :
    Calls Tryz.prog 42 #[.agg cs.toArray, .int .i64 left] w fun e w' => (∃ r : Int, e = .returned (.int .i64 r) ∧ (r = -1 ∨ (0 ≤ r ∧ r + szF_Ls x = left))) ∧ Upd [] w w' := by
  obtain ⟨v2, v3, f2, f3, rfl, h2, h3, rfl⟩ := hR
  obtain ⟨wA, hwA⟩ : ∃ wA, wA = w.alloc (.cells #[ei x.st, ei x.ini, v2, v3] 76) := ⟨_, rfl⟩
  obtain ⟨BA, hBA⟩ : ∃ BA, BA = w.heap.size := ⟨_, rfl⟩
  have uA : Upd [] w wA := by rw [hwA]; exact (Upd.refl _ _).alloc _
  have S2 := Lib.hid (fun (W : World) (hu : Upd [] w W) (l : Int) (q1 : 0 ≤ l) (q2 : l ≤ 1048576) => sz_S1 v2 x.labs l W f2 q1 q2 (R_S1k.upd h2 hu (by simp)) hS)
  have S3 := Lib.hid (fun (W : World) (hu : Upd [] w W) (l : Int) (q1 : 0 ≤ l) (q2 : l ≤ 1048576) => sz_E1 v3 x.eds l W f3 q1 q2 (R_E1k.upd h3 hu (by simp)))
  have HC := Lib.hid (fun W (hu : Upd [] wA W) => show W.cell? ⟨BA, 2, none⟩ = some (v2) ∧ W.cell? ⟨BA, 3, none⟩ = some (v3) from
    ⟨hu.keep (by rw [hwA, hBA]; exact cell_new w _ _ _ rfl 2 _ rfl), hu.keep (by rw [hwA, hBA]; exact cell_new w _ _ _ rfl 3 _ rfl)⟩)
  have HZ := Lib.hid (show szF_Ls x = szF_S1 x.labs + szF_E1 x.eds from rfl)
  have hn2 := szF_S1_nonneg x.labs
  have hn3 := szF_E1_nonneg x.eds
  generalize szF_S1 x.labs = z2 at *
  generalize szF_E1 x.eds = z3 at *
  generalize szF_Ls x = ZZ at *
  obtain ⟨c2, c3⟩ := HC.out wA (Upd.refl _ _)
  have HU := Lib.hid uA
  have HX := Lib.hid (Upd.refl [] wA)
  clear h2 h3 hS uA
  go_enter Tryz.func42, Tryz.ntmps42
  go_upto_region 1 with (fail)
  rw [← hwA, ← hBA]
  clear hwA hBA
  have T2 := Lib.hid (S2.out wA HU.out left hl hl2)
  clear S2
  go_wp2_with fail
  refine T2.out.mono ?_
  rintro e w2 ⟨⟨r, rfl, hr⟩, rfl⟩
  clear T2
  rcases hr with rfl | ⟨hge2, hr⟩
  · go_wp2_with fail
    go_ret
    exact ⟨⟨-1, rfl, Or.inl rfl⟩, HU.out⟩
  · have HR2 := Lib.hid hr
    have hle2 : r ≤ 1048576 := by omega
    clear hr
    generalize r = r2 at *
    have T3 := Lib.hid (S3.out wA HU.out r2 hge2 hle2)
    clear S3
    go_wp2_with fail
    refine T3.out.mono ?_
    rintro e w3 ⟨⟨r, rfl, hr⟩, rfl⟩
    clear T3
    rcases hr with rfl | ⟨hge3, hr⟩
    · go_wp2_with fail
      go_ret
      exact ⟨⟨-1, rfl, Or.inl rfl⟩, HU.out⟩
    · have HR3 := Lib.hid hr
      have hle3 : r ≤ 1048576 := by omega
      clear hr
      generalize r = r3 at *
      go_wp2_with fail
      go_ret
      exact ⟨⟨r3, rfl, Or.inr ⟨hge3, by rw [HZ.out]; have := HR2.out; have := HR3.out; omega⟩⟩, HU.out⟩

theorem Ls_size : (Tryz.prog.info? 79).map (·.size) = some 4 := by kernel_rfl
set_option maxRecDepth 20000 in
set_option maxHeartbeats 4000000 in
theorem to_Ls (cs : List Value) (x : Ls) (w : World) (fp : List Nat) (hl : szF_Ls x ≤ 1048576) (hR : R_Ls fp w cs x) :
    Calls Tryz.prog 43 #[.agg cs.toArray] w fun e w' => (∃ us, e = .returned (.agg us.toArray) ∧ us.length = 4 ∧ us.toArray.all (·.oneCell') = true ∧ NewQ R_Ls w w' us x) ∧ Upd [] w w' := by
  obtain ⟨v2, v3, f2, f3, rfl, h2, h3, rfl⟩ := hR
  have hn2 := szF_S1_nonneg x.labs
  have hn3 := szF_E1_nonneg x.eds
  unfold szF_Ls at hl
  have S2 := Lib.hid (fun (W : World) (hu : Upd [] w W) => to_S1 v2 x.labs W f2 (by omega) (R_S1k.upd h2 hu (by simp)))
  have S3 := Lib.hid (fun (W : World) (hu : Upd [] w W) => to_E1 v3 x.eds W f3 (by omega) (R_E1k.upd h3 hu (by simp)))
  obtain ⟨wA, hwA⟩ : ∃ wA, wA = ((w.alloc (.cells #[ei x.st, ei x.ini, v2, v3] 76)).alloc (.cells #[.int .i64 0, .int .i64 0, .slice none 0 0, .slice none 0 0] 79)).alloc (.cells #[.int .i64 0, .int .i64 0, .slice none 0 0, .slice none 0 0] 79) := ⟨_, rfl⟩
  obtain ⟨B, hB⟩ : ∃ B, B = w.heap.size := ⟨_, rfl⟩
  have H0 := Lib.hid (show Three w wA 76 79 B [ei x.st, ei x.ini, v2, v3] [.int .i64 0, .int .i64 0, .slice none 0 0, .slice none 0 0] [.int .i64 0, .int .i64 0, .slice none 0 0, .slice none 0 0] from by rw [hwA, hB]; exact Three.mk0 w _ _ _ _ _)
  clear h2 h3 hl hn2 hn3
  go_enter Tryz.func43, Tryz.ntmps43
  go_upto_region 2 with (fail)
  rw [← hwA, ← hB]
  clear hwA hB
  have p0 := H0.out.pc 0 _ rfl
  have q0 := H0.out.oc 0 _ rfl
  have z0 := H0.out.fz 0
  go_upto_region 3 with (fail)
  obtain ⟨W0, hW0⟩ : ∃ W0, W0 = wA.setCell ⟨B + 2, 0, none⟩ (ei x.st) := ⟨_, rfl⟩
  rw [← hW0]
  have H1 := Lib.hid (show Three w W0 76 79 B [ei x.st, ei x.ini, v2, v3] [.int .i64 0, .int .i64 0, .slice none 0 0, .slice none 0 0] _ from by rw [hW0]; exact H0.out.store 0 _)
  have D0 := Lib.hid (show Upd [B + 2] wA W0 from by rw [hW0]; exact (Upd.refl _ _).setCell (Or.inr (by simp)) _)
  have ds0 := D0.out.size
  clear p0 q0 z0 hW0
  have p1 := H1.out.pc 1 _ rfl
  have q1 := H1.out.oc 1 _ rfl
  have z1 := H1.out.fz 1
  go_upto_region 4 with (fail)
  obtain ⟨W1, hW1⟩ : ∃ W1, W1 = W0.setCell ⟨B + 2, 1, none⟩ (ei x.ini) := ⟨_, rfl⟩
  rw [← hW1]
  have H2 := Lib.hid (show Three w W1 76 79 B [ei x.st, ei x.ini, v2, v3] [.int .i64 0, .int .i64 0, .slice none 0 0, .slice none 0 0] _ from by rw [hW1]; exact H1.out.store 1 _)
  have D1 := Lib.hid (show Upd [B + 2] W0 W1 from by rw [hW1]; exact (Upd.refl _ _).setCell (Or.inr (by simp)) _)
  have ds1 := D1.out.size
  clear p1 q1 z1 hW1
  have T2 := Lib.hid (S2.out W1 H2.out.upd)
  clear S2
  have p2 := H2.out.pc 2 _ rfl
  go_wp2_with fail
  refine T2.out.mono ?_
  rintro e w2 ⟨⟨u, rfl, hn⟩, hu⟩
  have G2 := Lib.hid (H2.out.call hu)
  have HN2 := Lib.hid hn
  have E2 := Lib.hid hu
  have hlo2 := H2.out.size
  have hhi2 := hu.size
  obtain ⟨m2, n2, rfl⟩ := New.form hn
  clear T2 p2 hn hu
  have q2 := G2.out.oc 2 _ rfl
  have z2 := G2.out.fz 2
  go_upto_region 5 with (fail)
  obtain ⟨W2, hW2⟩ : ∃ W2, W2 = w2.setCell ⟨B + 2, 2, none⟩ (.slice m2 x.labs.length n2) := ⟨_, rfl⟩
  rw [← hW2]
  have H3 := Lib.hid (show Three w W2 76 79 B [ei x.st, ei x.ini, v2, v3] [.int .i64 0, .int .i64 0, .slice none 0 0, .slice none 0 0] _ from by rw [hW2]; exact G2.out.store 2 _)
  have D2 := Lib.hid (show Upd [B + 2] w2 W2 from by rw [hW2]; exact (Upd.refl _ _).setCell (Or.inr (by simp)) _)
  have ds2 := D2.out.size
  clear q2 z2 hW2
  have T3 := Lib.hid (S3.out W2 H3.out.upd)
  clear S3
  have p3 := H3.out.pc 3 _ rfl
  go_wp2_with fail
  refine T3.out.mono ?_
  rintro e w3 ⟨⟨u, rfl, hn⟩, hu⟩
  have G3 := Lib.hid (H3.out.call hu)
  have HN3 := Lib.hid hn
  have E3 := Lib.hid hu
  have hlo3 := H3.out.size
  have hhi3 := hu.size
  obtain ⟨m3, n3, rfl⟩ := New.form hn
  clear T3 p3 hn hu
  have q3 := G3.out.oc 3 _ rfl
  have z3 := G3.out.fz 3
  go_upto_region 6 with (fail)
  obtain ⟨W3, hW3⟩ : ∃ W3, W3 = w3.setCell ⟨B + 2, 3, none⟩ (.slice m3 x.eds.length n3) := ⟨_, rfl⟩
  rw [← hW3]
  have H4 := Lib.hid (show Three w W3 76 79 B [ei x.st, ei x.ini, v2, v3] [.int .i64 0, .int .i64 0, .slice none 0 0, .slice none 0 0] _ from by rw [hW3]; exact G3.out.store 3 _)
  have D3 := Lib.hid (show Upd [B + 2] w3 W3 from by rw [hW3]; exact (Upd.refl _ _).setCell (Or.inr (by simp)) _)
  have ds3 := D3.out.size
  clear q3 z3 hW3
  have HF := Lib.hid (show Three w W3 76 79 B [ei x.st, ei x.ini, v2, v3] [.int .i64 0, .int .i64 0, .slice none 0 0, .slice none 0 0] [ei x.st, ei x.ini, .slice m2 x.labs.length n2, .slice m3 x.eds.length n3] from H4.out)
  have hlast := HF.out.h2
  have hres := HF.out.h1
  clear G2 G3
  go_wp2_with (first
    | (refine wpList_load_row rfl 79 _ rfl (B + 2) rfl 79 #[ei x.st, ei x.ini, .slice m2 x.labs.length n2, .slice m3 x.eds.length n3] (0, 0) _ hlast Tryz.underlying79 rfl Ls_size ?_)
    | (refine wpList_store_row rfl 79 _ _ rfl (B + 1) #[ei x.st, ei x.ini, .slice m2 x.labs.length n2, .slice m3 x.eds.length n3] rfl rfl 79 _ hres Ls_size rfl (by simp [Value.oneCell']) ?_)
    | fail)
  have hC := setRow_heap W3 (B + 1) _ #[ei x.st, ei x.ini, .slice m2 x.labs.length n2, .slice m3 x.eds.length n3] _ _ hres
  refine bodyPost_ret (results_cell_row Tryz.results43 _ _ (B + 1) 79 _ (0, 0) _ rfl hC Tryz.underlying79 rfl Ls_size) rfl ?_
  have hb := HF.out.base
  have UE : Upd [] w (W3.setRow (B + 1) #[ei x.st, ei x.ini, .slice m2 x.labs.length n2, .slice m3 x.eds.length n3]) := HF.out.upd.row (Or.inl (by omega)) _
  refine ⟨⟨[ei x.st, ei x.ini, .slice m2 x.labs.length n2, .slice m3 x.eds.length n3], rfl, rfl, by simp [Value.oneCell'], ?_⟩, UE⟩
  obtain ⟨g2, P2⟩ := Part.of R_S1k HN2.out
  have P2 := P2.upd R_S1k D2.out (by intro b hb; simp at hb; omega)
  have P2 := P2.upd R_S1k (show Upd [] W2 w3 from E3.out) (by simp)
  have P2 := P2.upd R_S1k D3.out (by intro b hb; simp at hb; omega)
  have P2 := P2.upd R_S1k (show Upd [B + 1] W3 (W3.setRow (B + 1) #[ei x.st, ei x.ini, .slice m2 x.labs.length n2, .slice m3 x.eds.length n3]) from (Upd.refl _ _).row (Or.inr (by simp)) _) (by intro b hb; simp at hb; omega)
  obtain ⟨g3, P3⟩ := Part.of R_E1k HN3.out
  have P3 := P3.upd R_E1k D3.out (by intro b hb; simp at hb; omega)
  have P3 := P3.upd R_E1k (show Upd [B + 1] W3 (W3.setRow (B + 1) #[ei x.st, ei x.ini, .slice m2 x.labs.length n2, .slice m3 x.eds.length n3]) from (Upd.refl _ _).row (Or.inr (by simp)) _) (by intro b hb; simp at hb; omega)
  refine ⟨g2 ++ (g3), ⟨_, _, g2, g3, rfl, P2.r, P3.r, rfl⟩, ?_, ?_⟩
  · exact own_join P2.o (P3.o) (fun b hb hc => by have := P2.b b hb; have := P3.b b hc; omega)
  · intro b hb
    simp only [List.mem_append] at hb
    rcases hb with hb | hb
    · have := P2.b b hb; omega
    · have := P3.b b hb; omega

set_option maxRecDepth 20000 in
set_option maxHeartbeats 2000000 in
theorem eq_Ls (cs ds : List Value) (x : Ls) (w : World) (fp fp2 : List Nat) (hA : R_Ls fp w cs x) (hB : R_Ls fp2 w ds x) :
    Calls Tryz.prog 52 #[.agg cs.toArray, .agg ds.toArray] w fun e w' => e = .returned (.bool true) ∧ Upd [] w w' := by
  obtain ⟨v2, v3, f2, f3, rfl, h2, h3, rfl⟩ := hA
  obtain ⟨u2, u3, g2, g3, rfl, k2, k3, rfl⟩ := hB
  obtain ⟨wA, hwA⟩ : ∃ wA, wA = w.alloc (.cells #[ei x.st, ei x.ini, v2, v3] 79) := ⟨_, rfl⟩
  obtain ⟨wB, hwB⟩ : ∃ wB, wB = wA.alloc (.cells #[ei x.st, ei x.ini, u2, u3] 79) := ⟨_, rfl⟩
  obtain ⟨BA, hBA⟩ : ∃ BA, BA = w.heap.size := ⟨_, rfl⟩
  have sA : wA.heap.size = BA + 1 := by rw [hwA, hBA]; simp
  have uA : Upd [] w wA := by rw [hwA]; exact (Upd.refl _ _).alloc _
  have uB : Upd [] wA wB := by rw [hwB]; exact (Upd.refl _ _).alloc _
  have HC := Lib.hid (fun W (hu : Upd [] wB W) => show W.cell? ⟨BA, 0, none⟩ = some (ei x.st) ∧ W.cell? ⟨BA + 1, 0, none⟩ = some (ei x.st) ∧ W.cell? ⟨BA, 1, none⟩ = some (ei x.ini) ∧ W.cell? ⟨BA + 1, 1, none⟩ = some (ei x.ini) ∧ W.cell? ⟨BA, 2, none⟩ = some (v2) ∧ W.cell? ⟨BA + 1, 2, none⟩ = some (u2) ∧ W.cell? ⟨BA, 3, none⟩ = some (v3) ∧ W.cell? ⟨BA + 1, 3, none⟩ = some (u3) from
    ⟨hu.keep (uB.keep (by rw [hwA, hBA]; exact cell_new w _ _ _ rfl 0 _ rfl)), hu.keep (by rw [hwB]; exact cell_new wA _ _ _ sA 0 _ rfl), hu.keep (uB.keep (by rw [hwA, hBA]; exact cell_new w _ _ _ rfl 1 _ rfl)), hu.keep (by rw [hwB]; exact cell_new wA _ _ _ sA 1 _ rfl), hu.keep (uB.keep (by rw [hwA, hBA]; exact cell_new w _ _ _ rfl 2 _ rfl)), hu.keep (by rw [hwB]; exact cell_new wA _ _ _ sA 2 _ rfl), hu.keep (uB.keep (by rw [hwA, hBA]; exact cell_new w _ _ _ rfl 3 _ rfl)), hu.keep (by rw [hwB]; exact cell_new wA _ _ _ sA 3 _ rfl)⟩)
  have S2 := Lib.hid (fun W (hu : Upd [] w W) => show Calls Tryz.prog 26 #[v2, u2] W (fun e w' => e = .returned (.bool true) ∧ Upd [] W w') from by
    have := eq_S1 v2 u2 x.labs x.labs W f2 g2 (R_S1k.upd h2 hu (by simp)) (R_S1k.upd k2 hu (by simp))
    rw [show (x.labs == x.labs) = true by simp] at this
    exact this)
  have S3 := Lib.hid (fun W (hu : Upd [] w W) => show Calls Tryz.prog 76 #[v3, u3] W (fun e w' => e = .returned (.bool true) ∧ Upd [] W w') from by
    have := eq_E1 v3 u3 x.eds x.eds W f3 g3 (R_E1k.upd h3 hu (by simp)) (R_E1k.upd k3 hu (by simp))
    rw [show (x.eds == x.eds) = true by simp] at this
    exact this)
  have HU := Lib.hid (uA.trans uB)
  have HX := Lib.hid (Upd.refl [] wB)
  obtain ⟨c0, d0, c1, d1, c2, d2, c3, d3⟩ := HC.out wB (Upd.refl _ _)
  generalize x.st = t0 at *
  have b0 : (t0 != t0) = false := by simp
  generalize x.ini = t1 at *
  have b1 : (t1 != t1) = false := by simp
  clear h2 k2 h3 k3 uA uB sA
  go_enter Tryz.func52, Tryz.ntmps52
  go_upto_region 1 with (fail)
  rw [← hwA, ← hwB, ← hBA]
  clear hwA hwB hBA
  have T2 := Lib.hid (S2.out wB HU.out)
  clear S2
  go_wp2_with fail
  refine T2.out.mono ?_
  rintro e w2 ⟨rfl, hu⟩
  have HU := Lib.hid (HU.out.trans hu)
  have HX := Lib.hid (HX.out.trans hu)
  obtain ⟨c0, d0, c1, d1, c2, d2, c3, d3⟩ := HC.out w2 HX.out
  clear T2 hu
  have T3 := Lib.hid (S3.out w2 HU.out)
  clear S3
  go_wp2_with fail
  refine T3.out.mono ?_
  rintro e w3 ⟨rfl, hu⟩
  have HU := Lib.hid (HU.out.trans hu)
  have HX := Lib.hid (HX.out.trans hu)
  obtain ⟨c0, d0, c1, d1, c2, d2, c3, d3⟩ := HC.out w3 HX.out
  clear T3 hu
  go_wp2_with fail
  go_ret
  exact ⟨rfl, HU.out⟩

end Go.Proofs.YtghocakjhfflbaaGreatDoor

/-
  Slices of transition systems: readings, and what the laws' helper functions return and make.
-/
namespace Go.Proofs.YtghocakjhfflbaaGreatDoor
open Go.RowKit


abbrev R_Ls1 : Rp (List Ls) := slQ 4 R_Ls
theorem R_Ls1k : Kept R_Ls1 := slQ_kept R_Lsk
def szF_Ls1 (xs : List Ls) : Int := xs.length + (xs.map szF_Ls).sum
def mkF_Ls1 (xs : List Ls) : Int := (xs.map mkF_Ls).sum
def Ls1Ok (xs : List Ls) : Prop := ∀ x ∈ xs, LsOk x
theorem szF_Ls1_sum (xs : List Ls) : 0 ≤ (xs.map szF_Ls).sum := by
  induction xs with
  | nil => simp
  | cons r rs ih => simp only [List.map_cons, List.sum_cons]; have := szF_Ls_nonneg r; omega
theorem szF_Ls1_nonneg (xs : List Ls) : 0 ≤ szF_Ls1 xs := by have := szF_Ls1_sum xs; unfold szF_Ls1; omega
theorem szF_Ls1_snoc (xs : List Ls) (k : Nat) (h : k < xs.length) : ((xs.take (k + 1)).map szF_Ls).sum = ((xs.take k).map szF_Ls).sum + szF_Ls xs[k] := by
  rw [List.take_succ_eq_append_getElem h, List.map_append, List.sum_append]; simp
theorem szF_Ls1_take (xs : List Ls) (k : Nat) : ((xs.take k).map szF_Ls).sum ≤ (xs.map szF_Ls).sum := by
  have h := szF_Ls1_sum (xs.drop k)
  conv => rhs; rw [← List.take_append_drop k xs]
  rw [List.map_append, List.sum_append]; omega
def up_Ls (k : Int) (x : Ls) : Ls := ⟨(k), (k + 1), upSw (k + 1 + 1) x.labs, up_E1 (k + 1 + 1 + mkF_S1 x.labs) x.eds⟩
def mkd_Ls1 : Int → List Ls → List Ls
  | _, [] => []
  | k, r :: rs => up_Ls k r :: mkd_Ls1 (k + mkF_Ls r) rs
@[simp] theorem mkd_Ls1_length (k : Int) (xss : List Ls) : (mkd_Ls1 k xss).length = xss.length := by
  induction xss generalizing k with
  | nil => rfl
  | cons r rs ih => simp [mkd_Ls1, ih]
theorem mkd_Ls1_append (k : Int) (xs ys : List Ls) : mkd_Ls1 k (xs ++ ys) = mkd_Ls1 k xs ++ mkd_Ls1 (k + mkF_Ls1 xs) ys := by
  induction xs generalizing k with
  | nil => simp [mkd_Ls1, mkF_Ls1]
  | cons r rs ih => simp only [List.cons_append, mkd_Ls1, ih, mkF_Ls1, List.map_cons, List.sum_cons, Int.add_assoc]
set_option maxRecDepth 20000 in
set_option maxHeartbeats 1600000 in
theorem sz_Ls1 (v : Value) (xs : List Ls) (left : Int) (w : World) (fp : List Nat) (hl : 0 ≤ left) (hl2 : left ≤ 1048576) (hR : R_Ls1 fp w [v] xs) (hS : Ls1Ok xs) :
    Calls Tryz.prog 16 #[v, .int .i64 left] w fun e w' => (∃ r : Int, e = .returned (.int .i64 r) ∧ (r = -1 ∨ (0 ≤ r ∧ r + szF_Ls1 xs = left))) ∧ Upd [] w w' := by
  obtain ⟨a, cap, rfl, h1, h2, hc⟩ := slQ_open hR
  unfold maxLen at h2
  have HS := Lib.hid hS
  have HC := Lib.hid hc
  clear hR hS hc
  by_cases hlt : left - (xs.length : Int) < 0
  · go_enter Tryz.func16, Tryz.ntmps16
    go_wp2_with fail
    go_ret
    exact ⟨⟨-1, rfl, Or.inl rfl⟩, Upd.refl _ _⟩
  · have hge : 0 ≤ left - (xs.length : Int) := by omega
    clear hlt
    go_enter Tryz.func16, Tryz.ntmps16
    go_wp2_with fail
    go_loopw [1, 5] (fun kk i wr => ∃ (k : Nat) (l : Int), k ≤ xs.length ∧ i = .int .i64 k ∧ kk = .int .i64 l ∧ 0 ≤ l ∧ l ≤ 1048576 ∧ Hid (l + xs.length + ((xs.take k).map szF_Ls).sum = left) ∧ Hid (Upd [] w wr)) (fun _ i _ => xs.length - (intOf i).toNat)
    case atStart => exact ⟨0, _, Nat.zero_le _, rfl, rfl, hge, by omega, Lib.hid (by simp), Lib.hid (Upd.refl _ _)⟩
    case round =>
      obtain ⟨wo, rfl⟩ : ∃ wo : World, wo = wr := ⟨_, rfl⟩
      obtain ⟨k, l, hk, rfl, rfl, hl0, hl9, HL, HU⟩ := hrel
      by_cases hlt : k < xs.length
      · obtain ⟨b, off, u, f, rfl, -, -, -, hcell, -, hr⟩ := HC.out k hlt
        have HR := Lib.hid (R_Lsk.upd hr HU.out (by simp))
        obtain ⟨v2, v3, f2, f3, rfl, -, -, -⟩ := hr
        have p0 := HU.out.keep (hcell 0 _ rfl)
        have p1 := HU.out.keep (hcell 1 _ rfl)
        have p2 := HU.out.keep (hcell 2 _ rfl)
        have p3 := HU.out.keep (hcell 3 _ rfl)
        simp only [Nat.add_zero] at p0
        have HT := Lib.hid (szF_Ls1_snoc xs k hlt)
        have HO := Lib.hid (HS.out xs[k] (List.getElem_mem hlt))
        clear hcell
        generalize hx : xs[k] = x at *
        clear hx
        have S1 := Lib.hid (sz_Ls _ x l wo f hl0 hl9 HR.out HO.out)
        have hzz := szF_Ls_nonneg x
        generalize szF_Ls x = zz at *
        go_wp2_with fail
        refine S1.out.mono ?_
        rintro e w1 ⟨⟨r, rfl, hr2⟩, hu⟩
        have HU1 := Lib.hid (HU.out.trans hu)
        clear S1 hu
        rcases hr2 with rfl | ⟨hr2, hr3⟩
        · go_wp2_with fail
          go_ret
          exact ⟨⟨-1, rfl, Or.inl rfl⟩, HU1.out⟩
        · have H3 := Lib.hid hr3
          have hr4 : r ≤ 1048576 := by omega
          clear hr3
          go_wp2_with fail
          go_roundw
          case rel => exact ⟨k + 1, r, by omega, by go_num, rfl, hr2, hr4, Lib.hid (by have := H3.out; have := HL.out; rw [HT.out]; omega), HU1⟩
          case measure => simp [intOf]; omega
      · obtain rfl : k = xs.length := by omega
        go_wp2_with fail
        go_ret
        exact ⟨⟨l, rfl, Or.inr ⟨hl0, by have := HL.out; rw [List.take_length] at this; unfold szF_Ls1; omega⟩⟩, HU.out⟩

theorem Tryz.infoLs : (Tryz.prog.info? 79).map (fun i => (i.zero, i.size, i.bytes)) = some (some (.agg #[.int .i64 0, .int .i64 0, .slice none 0 0, .slice none 0 0]), 4, 64) := by kernel_rfl
set_option maxRecDepth 20000 in
set_option maxHeartbeats 2000000 in
theorem to_Ls1 (v : Value) (xs : List Ls) (w : World) (fp : List Nat) (hl : szF_Ls1 xs ≤ 1048576) (hR : R_Ls1 fp w [v] xs) :
    Calls Tryz.prog 20 #[v] w fun e w' => (∃ v', e = .returned v' ∧ New R_Ls1 w w' v' xs) ∧ Upd [] w w' := by
  obtain ⟨i0, hi, hz0, hz1, hz2⟩ := info_parts Tryz.infoLs
  obtain ⟨a, cap, rfl, h1, h2, hc⟩ := slQ_open hR
  unfold maxLen at h2
  have htn := szF_Ls1_sum xs
  unfold szF_Ls1 at hl
  have HC := Lib.hid hc
  clear hR hc
  have hm1 : i0.bytes * xs.length ≤ 281474976710656 := by rw [hz2]; omega
  go_enter Tryz.func20, Tryz.ntmps20
  go_wp2_with (first
    | (at_make; refine wpList_make_full _ rfl _ _ 29 rfl w.heap.size 79 i0 (.agg #[.int .i64 0, .int .i64 0, .slice none 0 0, .slice none 0 0]) 4 Tryz.underlying29 hi hz0 hz1 .i64 .i64 _ _ xs.length rfl rfl rfl rfl hm1 (by unfold maxLen; omega) (Nat.le_refl _) ?_; intro w1 hown hgrow)
    | fail)
  have hmd := made_Q ([.int .i64 0, .int .i64 0, .slice none 0 0, .slice none 0 0] : List Value) (n := 4) rfl (by decide) xs.length
  rw [hmd] at hown
  have hsz : w.heap.size < w1.heap.size := hown.lt w.heap.size rfl |>.2
  have hU : Upd [] w w1 := (Upd.refl _ _).grown hgrow (by simp)
  clear hgrow hm1 hmd
  go_loopw [4] (fun i wr => ∃ (k : Nat) (us : List (List Value)), k ≤ xs.length ∧ i = .int .i64 k ∧ Hid (Upd [] w wr) ∧ w.heap.size < wr.heap.size ∧
      Hid (wr.ownsRow w.heap.size 79 4 (.slice (some ⟨w.heap.size, 0, none⟩) xs.length xs.length) xs.length (us.flatten ++ (List.replicate (xs.length - k) ([.int .i64 0, .int .i64 0, .slice none 0 0, .slice none 0 0] : List Value)).flatten)) ∧
      Hid (RowsQ 4 R_Ls w.heap.size [w.heap.size] wr us (xs.take k)))
    (fun i _ => xs.length - (intOf i).toNat)
  case atStart => exact ⟨0, [], Nat.zero_le _, rfl, Lib.hid hU, hsz, Lib.hid (by simpa using hown), Lib.hid (RowsQ.nil _ _ _ _ _)⟩
  case round =>
    clear hown hU hsz
    obtain ⟨wo, rfl⟩ : ∃ wo : World, wo = wr := ⟨_, rfl⟩
    obtain ⟨k, us, hk, rfl, HU, hsz, HO, HW⟩ := hrel
    have hlu : us.length = k := by have := HW.out.length; simp at this; omega
    by_cases hlt : k < xs.length
    · obtain ⟨b, off, u, f, rfl, -, -, -, hcell, -, hr⟩ := HC.out k hlt
      have HR := Lib.hid (R_Lsk.upd hr HU.out (by simp))
      obtain ⟨v2, v3, f2, f3, rfl, -, -, -⟩ := hr
      have p0 := HU.out.keep (hcell 0 _ rfl)
      have p1 := HU.out.keep (hcell 1 _ rfl)
      have p2 := HU.out.keep (hcell 2 _ rfl)
      have p3 := HU.out.keep (hcell 3 _ rfl)
      simp only [Nat.add_zero] at p0
      have hxl : szF_Ls xs[k] ≤ 1048576 := by
        have h1 := szF_Ls1_snoc xs k hlt
        have h2 := szF_Ls1_take xs (k + 1)
        have h3 := szF_Ls1_sum (xs.take k)
        omega
      have HTK := Lib.hid (List.take_succ_eq_append_getElem hlt)
      have HLU := Lib.hid hlu
      clear hcell hlu
      generalize hx : xs[k] = x at *
      clear hx
      have S1 := Lib.hid (to_Ls _ x wo f hxl HR.out)
      clear hxl
      go_wp2_with fail
      refine S1.out.mono ?_
      rintro e w2 ⟨⟨u2, rfl, hlen, hone, hnew⟩, hu2⟩
      have hown2 := ownsRow_upd HO.out hu2
      have hrep : (List.replicate (xs.length - k) ([.int .i64 0, .int .i64 0, .slice none 0 0, .slice none 0 0] : List Value)).flatten.length = (xs.length - k) * 4 := by
        rw [flat_len (n := 4) (by intro y hy; rw [(List.mem_replicate.1 hy).2]; rfl)]; simp
      have hfl : us.flatten.length = k * 4 := by rw [flat_len HW.out.each, HLU.out]
      have hth : w2.there w.heap.size (k * 4) u2.toArray.size := fun j hj => by
        have hj' : j < 4 := by simpa [hlen] using hj
        refine ⟨?_, hown2.frozenAt _⟩
        rw [hown2.cellAt (k * 4 + j) (by omega), List.getElem?_eq_getElem (by rw [List.length_append, hfl, hrep]; omega)]; rfl
      have hszz : (Tryz.prog.info? 79).map (·.size) = some u2.toArray.size := by rw [Ls_size]; simp [hlen]
      have hrun := run_storeCells_cells (P := Tryz.prog) w.heap.size (k * 4) u2 0 w2 (fun j hj => by simpa using (hth j (by simpa using hj)).1) (fun j hj => by simpa using (hth j (by simpa using hj)).2) (fun v hv => (Array.all_eq_true_iff_forall_mem.1 hone) v (by simpa using hv))
      simp only [Nat.add_zero] at hrun
      have hst := ownsRow_setCells u2 (k * 4) hown2 (by rw [hlen]; omega)
      rw [show xs.length - k = (xs.length - (k + 1)) + 1 by omega, ← HLU.out, filled_set us ([.int .i64 0, .int .i64 0, .slice none 0 0, .slice none 0 0] : List Value) _ 4 rfl HW.out.each u2 hlen, HLU.out] at hst
      have hw3 : Upd [w.heap.size] w2 (w2.setCells w.heap.size (k * 4) u2) := upd_setCells _ (Or.inr (by simp)) _ _ (Upd.refl _ _)
      have hrows2 := (HW.out.push R_Lsk hu2 hnew hlen (by omega) (by simpa using hsz)).upd R_Lsk hw3 (by simp)
      rw [← HTK.out] at hrows2
      have hU2 : Upd [] w (w2.setCells w.heap.size (k * 4) u2) := upd_setCells _ (Or.inl (Nat.le_refl _)) _ _ (HU.out.trans hu2)
      have hsz2 : w.heap.size < (w2.setCells w.heap.size (k * 4) u2).heap.size := by have := hu2.size; have := hw3.size; omega
      have HS := Lib.hid (And.intro hst (And.intro hrows2 hU2))
      clear hown2 hrep hfl hst hw3 hrows2 hU2 hnew hu2 S1 HO HW HU
      clear hth hszz hone
      go_wp2_with fail
      go_roundw
      case rel => exact ⟨k + 1, us ++ [u2], by omega, by go_num, Lib.hid HS.out.2.2, hsz2, Lib.hid HS.out.1, Lib.hid HS.out.2.1⟩
      case measure => simp [intOf]; omega
    · obtain rfl : k = xs.length := by omega
      go_wp2_with fail
      go_ret
      have hrows := HW.out
      have hown := HO.out
      rw [List.take_length] at hrows
      refine ⟨⟨_, rfl, hrows.new (e := 79) (by simpa using hown) (by simp [Value.ownBlock]) (Nat.le_refl _)⟩, HU.out⟩

set_option maxRecDepth 20000 in
set_option maxHeartbeats 2000000 in
theorem eq_Ls1 (v1 v2 : Value) (xs : List Ls) (w : World) (fp fp2 : List Nat) (h1 : R_Ls1 fp w [v1] xs) (h2 : R_Ls1 fp2 w [v2] xs) :
    Calls Tryz.prog 27 #[v1, v2] w fun e w' => e = .returned (.bool true) ∧ Upd [] w w' := by
  obtain ⟨a1, c1, rfl, hl1, hm1, hc1⟩ := slQ_open h1
  obtain ⟨a2, c2, rfl, hl2, hm2, hc2⟩ := slQ_open h2
  unfold maxLen at hm1 hm2
  have HC1 := Lib.hid hc1
  have HC2 := Lib.hid hc2
  have hbe : ((xs.length : Int) != (xs.length : Int)) = false := by simp
  clear h1 h2 hc1 hc2
  go_enter Tryz.func27, Tryz.ntmps27
  go_wp2_with fail
  go_loopw [5] (fun i wr => ∃ k : Nat, k ≤ xs.length ∧ i = .int .i64 k ∧ Hid (Upd [] w wr)) (fun i _ => xs.length - (intOf i).toNat)
  case atStart => exact ⟨0, Nat.zero_le _, rfl, Lib.hid (Upd.refl _ _)⟩
  case round =>
    obtain ⟨wo, rfl⟩ : ∃ wo : World, wo = wr := ⟨_, rfl⟩
    obtain ⟨k, hk, rfl, HU⟩ := hrel
    by_cases hlt : k < xs.length
    · obtain ⟨b1, o1, u, f, rfl, -, -, -, hcell, -, hr⟩ := HC1.out k hlt
      obtain ⟨b2, o2, u', f', rfl, -, -, -, hcell2, -, hr2⟩ := HC2.out k hlt
      have HR := Lib.hid (R_Lsk.drewN (R_Lsk.upd hr HU.out (by simp)))
      have HR2 := Lib.hid (R_Lsk.drewN (R_Lsk.upd hr2 HU.out (by simp)))
      obtain ⟨v2, v3, f2, f3, rfl, -, -, -⟩ := hr
      obtain ⟨u2, u3, _, _, rfl, -, -, -⟩ := hr2
      have p0 := HU.out.keep (hcell 0 _ rfl)
      have p1 := HU.out.keep (hcell 1 _ rfl)
      have p2 := HU.out.keep (hcell 2 _ rfl)
      have p3 := HU.out.keep (hcell 3 _ rfl)
      have q0 := HU.out.keep (hcell2 0 _ rfl)
      have q1 := HU.out.keep (hcell2 1 _ rfl)
      have q2 := HU.out.keep (hcell2 2 _ rfl)
      have q3 := HU.out.keep (hcell2 3 _ rfl)
      simp only [Nat.add_zero] at p0 q0
      clear hcell hcell2
      generalize hx : xs[k] = x at *
      clear hx
      have S1 := Lib.hid (fun W (hu : Upd [] wo W) => eq_Ls _ _ x W f f' (R_Lsk.upd (HR.out 0) hu (by simp)) (R_Lsk.upd (HR2.out 0) hu (by simp)))
      clear HR HR2
      obtain ⟨t0, ht0⟩ : ∃ t, t = ei x.st := ⟨_, rfl⟩
      rw [← ht0] at p0 q0 S1
      clear ht0
      obtain ⟨t1, ht1⟩ : ∃ t, t = ei x.ini := ⟨_, rfl⟩
      rw [← ht1] at p1 q1 S1
      clear ht1
      go_wp2_with fail
      go_region_held3 (fun w' => w'.cell? ⟨b1, o1 + k * 4, none⟩ = some (t0) ∧ w'.cell? ⟨b1, o1 + k * 4 + 1, none⟩ = some (t1) ∧ w'.cell? ⟨b1, o1 + k * 4 + 2, none⟩ = some (v2) ∧ w'.cell? ⟨b1, o1 + k * 4 + 3, none⟩ = some (v3) ∧ w'.cell? ⟨b2, o2 + k * 4, none⟩ = some (t0) ∧ w'.cell? ⟨b2, o2 + k * 4 + 1, none⟩ = some (t1) ∧ w'.cell? ⟨b2, o2 + k * 4 + 2, none⟩ = some (u2) ∧ w'.cell? ⟨b2, o2 + k * 4 + 3, none⟩ = some (u3)) (go_keep) (((with_reducible refine (S1.out _ (by repeat (first | exact Upd.refl _ _ | refine Upd.drew ?_ | refine Upd.drewN ?_ _))).mono ?_); rintro e w1 ⟨rfl, hu1⟩; have a0 := hu1.keep p0; have b0 := hu1.keep q0; have a1 := hu1.keep p1; have b1 := hu1.keep q1; have a2 := hu1.keep p2; have b2 := hu1.keep q2; have a3 := hu1.keep p3; have b3 := hu1.keep q3; skip))
      all_goals
        have HU1 := Lib.hid (HU.out.drew.trans hu1)
        clear hu1 HU
        go_wp2_with fail
        go_roundw
        case rel => exact ⟨k + 1, by omega, by go_num, HU1⟩
        case measure => simp [intOf]; omega
    · have hge : xs.length ≤ k := by omega
      go_wp2_with fail
      go_ret
      exact ⟨rfl, HU.out⟩

end Go.Proofs.YtghocakjhfflbaaGreatDoor

/-
  Claims: readings, and what the laws' helper functions return and make.
-/
namespace Go.Proofs.YtghocakjhfflbaaGreatDoor
open Go.RowKit

/-- its 5 cells. -/
def R_Cl : Rp Cl := fun fp w cs x => ∃ (v3 v4 : Value) (f3 f4 : List Nat), cs = [ei x.kind, ei x.left, ei x.right, v3, v4] ∧ R_N2 f3 w [v3] x.pairs ∧ R_F1 f4 w [v4] x.form ∧ fp = f3 ++ (f4)
theorem R_Clk : Kept R_Cl := by
  constructor
  · rintro fp w cs x ⟨v3, v4, f3, f4, rfl, h3, h4, rfl⟩ b hb
    simp only [List.mem_append] at hb
    rcases hb with hb | hb
    · exact R_N2k.lt h3 b hb
    · exact R_F1k.lt h4 b hb
  · rintro fp w w' cs x ⟨v3, v4, f3, f4, rfl, h3, h4, rfl⟩ hs hb
    exact ⟨v3, v4, f3, f4, rfl, R_N2k.frame h3 hs (fun b h => hb b (by simp [h])), R_F1k.frame h4 hs (fun b h => hb b (by simp [h])), rfl⟩
def szF_Cl (x : Cl) : Int := szF_N2 x.pairs + szF_F1 x.form
def mkF_Cl (x : Cl) : Int := 1 + 1 + 1 + mkF_N2 x.pairs + mkF_F1 x.form
theorem szF_Cl_nonneg (x : Cl) : 0 ≤ szF_Cl x := by have := szF_N2_nonneg x.pairs; have := szF_F1_nonneg x.form; unfold szF_Cl; omega
/-- what each text's length is below. -/
def ClOk (x : Cl) : Prop := ndsOk x.form

set_option maxRecDepth 20000 in
set_option maxHeartbeats 1600000 in
theorem sz_Cl (cs : List Value) (x : Cl) (left : Int) (w : World) (fp : List Nat) (hl : 0 ≤ left) (hl2 : left ≤ 1048576) (hR : R_Cl fp w cs x) (hS : ClOk x) :
    Calls Tryz.prog 10 #[.agg cs.toArray, .int .i64 left] w fun e w' => (∃ r : Int, e = .returned (.int .i64 r) ∧ (r = -1 ∨ (0 ≤ r ∧ r + szF_Cl x = left))) ∧ Upd [] w w' := by
  obtain ⟨v3, v4, f3, f4, rfl, h3, h4, rfl⟩ := hR
  obtain ⟨wA, hwA⟩ : ∃ wA, wA = w.alloc (.cells #[ei x.kind, ei x.left, ei x.right, v3, v4] 39) := ⟨_, rfl⟩
  obtain ⟨BA, hBA⟩ : ∃ BA, BA = w.heap.size := ⟨_, rfl⟩
  have uA : Upd [] w wA := by rw [hwA]; exact (Upd.refl _ _).alloc _
  have S3 := Lib.hid (fun (W : World) (hu : Upd [] w W) (l : Int) (q1 : 0 ≤ l) (q2 : l ≤ 1048576) => sz_N2 v3 x.pairs l W f3 q1 q2 (R_N2k.upd h3 hu (by simp)))
  have S4 := Lib.hid (fun (W : World) (hu : Upd [] w W) (l : Int) (q1 : 0 ≤ l) (q2 : l ≤ 1048576) => sz_F1 v4 x.form l W f4 q1 q2 (R_F1k.upd h4 hu (by simp)) hS)
  have HC := Lib.hid (fun W (hu : Upd [] wA W) => show W.cell? ⟨BA, 3, none⟩ = some (v3) ∧ W.cell? ⟨BA, 4, none⟩ = some (v4) from
    ⟨hu.keep (by rw [hwA, hBA]; exact cell_new w _ _ _ rfl 3 _ rfl), hu.keep (by rw [hwA, hBA]; exact cell_new w _ _ _ rfl 4 _ rfl)⟩)
  have HZ := Lib.hid (show szF_Cl x = szF_N2 x.pairs + szF_F1 x.form from rfl)
  have hn3 := szF_N2_nonneg x.pairs
  have hn4 := szF_F1_nonneg x.form
  generalize szF_N2 x.pairs = z3 at *
  generalize szF_F1 x.form = z4 at *
  generalize szF_Cl x = ZZ at *
  obtain ⟨c3, c4⟩ := HC.out wA (Upd.refl _ _)
  have HU := Lib.hid uA
  have HX := Lib.hid (Upd.refl [] wA)
  clear h3 h4 hS uA
  go_enter Tryz.func10, Tryz.ntmps10
  go_upto_region 1 with (fail)
  rw [← hwA, ← hBA]
  clear hwA hBA
  have T3 := Lib.hid (S3.out wA HU.out left hl hl2)
  clear S3
  go_wp2_with fail
  refine T3.out.mono ?_
  rintro e w3 ⟨⟨r, rfl, hr⟩, rfl⟩
  clear T3
  rcases hr with rfl | ⟨hge3, hr⟩
  · go_wp2_with fail
    go_ret
    exact ⟨⟨-1, rfl, Or.inl rfl⟩, HU.out⟩
  · have HR3 := Lib.hid hr
    have hle3 : r ≤ 1048576 := by omega
    clear hr
    generalize r = r3 at *
    have T4 := Lib.hid (S4.out wA HU.out r3 hge3 hle3)
    clear S4
    go_wp2_with fail
    refine T4.out.mono ?_
    rintro e w4 ⟨⟨r, rfl, hr⟩, hu⟩
    clear T4
    have HU := Lib.hid (HU.out.trans hu)
    have HX := Lib.hid (HX.out.trans hu)
    obtain ⟨c3, c4⟩ := HC.out w4 HX.out
    clear hu
    rcases hr with rfl | ⟨hge4, hr⟩
    · go_wp2_with fail
      go_ret
      exact ⟨⟨-1, rfl, Or.inl rfl⟩, HU.out⟩
    · have HR4 := Lib.hid hr
      have hle4 : r ≤ 1048576 := by omega
      clear hr
      generalize r = r4 at *
      go_wp2_with fail
      go_ret
      exact ⟨⟨r4, rfl, Or.inr ⟨hge4, by rw [HZ.out]; have := HR3.out; have := HR4.out; omega⟩⟩, HU.out⟩

theorem Cl_size : (Tryz.prog.info? 44).map (·.size) = some 5 := by kernel_rfl
set_option maxRecDepth 20000 in
set_option maxHeartbeats 4000000 in
theorem to_Cl (cs : List Value) (x : Cl) (w : World) (fp : List Nat) (hl : szF_Cl x ≤ 1048576) (hR : R_Cl fp w cs x) :
    Calls Tryz.prog 12 #[.agg cs.toArray] w fun e w' => (∃ us, e = .returned (.agg us.toArray) ∧ us.length = 5 ∧ us.toArray.all (·.oneCell') = true ∧ NewQ R_Cl w w' us x) ∧ Upd [] w w' := by
  obtain ⟨v3, v4, f3, f4, rfl, h3, h4, rfl⟩ := hR
  have hn3 := szF_N2_nonneg x.pairs
  have hn4 := szF_F1_nonneg x.form
  unfold szF_Cl at hl
  have S3 := Lib.hid (fun (W : World) (hu : Upd [] w W) => to_N2 v3 x.pairs W f3 (by omega) (R_N2k.upd h3 hu (by simp)))
  have S4 := Lib.hid (fun (W : World) (hu : Upd [] w W) => to_F1 v4 x.form W f4 (by omega) (R_F1k.upd h4 hu (by simp)))
  obtain ⟨wA, hwA⟩ : ∃ wA, wA = ((w.alloc (.cells #[ei x.kind, ei x.left, ei x.right, v3, v4] 39)).alloc (.cells #[.int .i64 0, .int .i64 0, .int .i64 0, .slice none 0 0, .slice none 0 0] 44)).alloc (.cells #[.int .i64 0, .int .i64 0, .int .i64 0, .slice none 0 0, .slice none 0 0] 44) := ⟨_, rfl⟩
  obtain ⟨B, hB⟩ : ∃ B, B = w.heap.size := ⟨_, rfl⟩
  have H0 := Lib.hid (show Three w wA 39 44 B [ei x.kind, ei x.left, ei x.right, v3, v4] [.int .i64 0, .int .i64 0, .int .i64 0, .slice none 0 0, .slice none 0 0] [.int .i64 0, .int .i64 0, .int .i64 0, .slice none 0 0, .slice none 0 0] from by rw [hwA, hB]; exact Three.mk0 w _ _ _ _ _)
  clear h3 h4 hl hn3 hn4
  go_enter Tryz.func12, Tryz.ntmps12
  go_upto_region 2 with (fail)
  rw [← hwA, ← hB]
  clear hwA hB
  have p0 := H0.out.pc 0 _ rfl
  have q0 := H0.out.oc 0 _ rfl
  have z0 := H0.out.fz 0
  go_upto_region 3 with (fail)
  obtain ⟨W0, hW0⟩ : ∃ W0, W0 = wA.setCell ⟨B + 2, 0, none⟩ (ei x.kind) := ⟨_, rfl⟩
  rw [← hW0]
  have H1 := Lib.hid (show Three w W0 39 44 B [ei x.kind, ei x.left, ei x.right, v3, v4] [.int .i64 0, .int .i64 0, .int .i64 0, .slice none 0 0, .slice none 0 0] _ from by rw [hW0]; exact H0.out.store 0 _)
  have D0 := Lib.hid (show Upd [B + 2] wA W0 from by rw [hW0]; exact (Upd.refl _ _).setCell (Or.inr (by simp)) _)
  have ds0 := D0.out.size
  clear p0 q0 z0 hW0
  have p1 := H1.out.pc 1 _ rfl
  have q1 := H1.out.oc 1 _ rfl
  have z1 := H1.out.fz 1
  go_upto_region 4 with (fail)
  obtain ⟨W1, hW1⟩ : ∃ W1, W1 = W0.setCell ⟨B + 2, 1, none⟩ (ei x.left) := ⟨_, rfl⟩
  rw [← hW1]
  have H2 := Lib.hid (show Three w W1 39 44 B [ei x.kind, ei x.left, ei x.right, v3, v4] [.int .i64 0, .int .i64 0, .int .i64 0, .slice none 0 0, .slice none 0 0] _ from by rw [hW1]; exact H1.out.store 1 _)
  have D1 := Lib.hid (show Upd [B + 2] W0 W1 from by rw [hW1]; exact (Upd.refl _ _).setCell (Or.inr (by simp)) _)
  have ds1 := D1.out.size
  clear p1 q1 z1 hW1
  have p2 := H2.out.pc 2 _ rfl
  have q2 := H2.out.oc 2 _ rfl
  have z2 := H2.out.fz 2
  go_upto_region 5 with (fail)
  obtain ⟨W2, hW2⟩ : ∃ W2, W2 = W1.setCell ⟨B + 2, 2, none⟩ (ei x.right) := ⟨_, rfl⟩
  rw [← hW2]
  have H3 := Lib.hid (show Three w W2 39 44 B [ei x.kind, ei x.left, ei x.right, v3, v4] [.int .i64 0, .int .i64 0, .int .i64 0, .slice none 0 0, .slice none 0 0] _ from by rw [hW2]; exact H2.out.store 2 _)
  have D2 := Lib.hid (show Upd [B + 2] W1 W2 from by rw [hW2]; exact (Upd.refl _ _).setCell (Or.inr (by simp)) _)
  have ds2 := D2.out.size
  clear p2 q2 z2 hW2
  have T3 := Lib.hid (S3.out W2 H3.out.upd)
  clear S3
  have p3 := H3.out.pc 3 _ rfl
  go_wp2_with fail
  refine T3.out.mono ?_
  rintro e w3 ⟨⟨u, rfl, hn⟩, hu⟩
  have G3 := Lib.hid (H3.out.call hu)
  have HN3 := Lib.hid hn
  have E3 := Lib.hid hu
  have hlo3 := H3.out.size
  have hhi3 := hu.size
  obtain ⟨m3, n3, rfl⟩ := New.formP hn
  clear T3 p3 hn hu
  have q3 := G3.out.oc 3 _ rfl
  have z3 := G3.out.fz 3
  go_upto_region 6 with (fail)
  obtain ⟨W3, hW3⟩ : ∃ W3, W3 = w3.setCell ⟨B + 2, 3, none⟩ (.slice m3 x.pairs.length n3) := ⟨_, rfl⟩
  rw [← hW3]
  have H4 := Lib.hid (show Three w W3 39 44 B [ei x.kind, ei x.left, ei x.right, v3, v4] [.int .i64 0, .int .i64 0, .int .i64 0, .slice none 0 0, .slice none 0 0] _ from by rw [hW3]; exact G3.out.store 3 _)
  have D3 := Lib.hid (show Upd [B + 2] w3 W3 from by rw [hW3]; exact (Upd.refl _ _).setCell (Or.inr (by simp)) _)
  have ds3 := D3.out.size
  clear q3 z3 hW3
  have T4 := Lib.hid (S4.out W3 H4.out.upd)
  clear S4
  have p4 := H4.out.pc 4 _ rfl
  go_wp2_with fail
  refine T4.out.mono ?_
  rintro e w4 ⟨⟨u, rfl, hn⟩, hu⟩
  have G4 := Lib.hid (H4.out.call hu)
  have HN4 := Lib.hid hn
  have E4 := Lib.hid hu
  have hlo4 := H4.out.size
  have hhi4 := hu.size
  obtain ⟨m4, n4, rfl⟩ := New.form hn
  clear T4 p4 hn hu
  have q4 := G4.out.oc 4 _ rfl
  have z4 := G4.out.fz 4
  go_upto_region 7 with (fail)
  obtain ⟨W4, hW4⟩ : ∃ W4, W4 = w4.setCell ⟨B + 2, 4, none⟩ (.slice m4 x.form.length n4) := ⟨_, rfl⟩
  rw [← hW4]
  have H5 := Lib.hid (show Three w W4 39 44 B [ei x.kind, ei x.left, ei x.right, v3, v4] [.int .i64 0, .int .i64 0, .int .i64 0, .slice none 0 0, .slice none 0 0] _ from by rw [hW4]; exact G4.out.store 4 _)
  have D4 := Lib.hid (show Upd [B + 2] w4 W4 from by rw [hW4]; exact (Upd.refl _ _).setCell (Or.inr (by simp)) _)
  have ds4 := D4.out.size
  clear q4 z4 hW4
  have HF := Lib.hid (show Three w W4 39 44 B [ei x.kind, ei x.left, ei x.right, v3, v4] [.int .i64 0, .int .i64 0, .int .i64 0, .slice none 0 0, .slice none 0 0] [ei x.kind, ei x.left, ei x.right, .slice m3 x.pairs.length n3, .slice m4 x.form.length n4] from H5.out)
  have hlast := HF.out.h2
  have hres := HF.out.h1
  clear G3 G4
  go_wp2_with (first
    | (refine wpList_load_row rfl 44 _ rfl (B + 2) rfl 44 #[ei x.kind, ei x.left, ei x.right, .slice m3 x.pairs.length n3, .slice m4 x.form.length n4] (0, 0) _ hlast Tryz.underlying44 rfl Cl_size ?_)
    | (refine wpList_store_row rfl 44 _ _ rfl (B + 1) #[ei x.kind, ei x.left, ei x.right, .slice m3 x.pairs.length n3, .slice m4 x.form.length n4] rfl rfl 44 _ hres Cl_size rfl (by simp [Value.oneCell']) ?_)
    | fail)
  have hC := setRow_heap W4 (B + 1) _ #[ei x.kind, ei x.left, ei x.right, .slice m3 x.pairs.length n3, .slice m4 x.form.length n4] _ _ hres
  refine bodyPost_ret (results_cell_row Tryz.results12 _ _ (B + 1) 44 _ (0, 0) _ rfl hC Tryz.underlying44 rfl Cl_size) rfl ?_
  have hb := HF.out.base
  have UE : Upd [] w (W4.setRow (B + 1) #[ei x.kind, ei x.left, ei x.right, .slice m3 x.pairs.length n3, .slice m4 x.form.length n4]) := HF.out.upd.row (Or.inl (by omega)) _
  refine ⟨⟨[ei x.kind, ei x.left, ei x.right, .slice m3 x.pairs.length n3, .slice m4 x.form.length n4], rfl, rfl, by simp [Value.oneCell'], ?_⟩, UE⟩
  obtain ⟨g3, P3⟩ := Part.of R_N2k HN3.out
  have P3 := P3.upd R_N2k D3.out (by intro b hb; simp at hb; omega)
  have P3 := P3.upd R_N2k (show Upd [] W3 w4 from E4.out) (by simp)
  have P3 := P3.upd R_N2k D4.out (by intro b hb; simp at hb; omega)
  have P3 := P3.upd R_N2k (show Upd [B + 1] W4 (W4.setRow (B + 1) #[ei x.kind, ei x.left, ei x.right, .slice m3 x.pairs.length n3, .slice m4 x.form.length n4]) from (Upd.refl _ _).row (Or.inr (by simp)) _) (by intro b hb; simp at hb; omega)
  obtain ⟨g4, P4⟩ := Part.of R_F1k HN4.out
  have P4 := P4.upd R_F1k D4.out (by intro b hb; simp at hb; omega)
  have P4 := P4.upd R_F1k (show Upd [B + 1] W4 (W4.setRow (B + 1) #[ei x.kind, ei x.left, ei x.right, .slice m3 x.pairs.length n3, .slice m4 x.form.length n4]) from (Upd.refl _ _).row (Or.inr (by simp)) _) (by intro b hb; simp at hb; omega)
  refine ⟨g3 ++ (g4), ⟨_, _, g3, g4, rfl, P3.r, P4.r, rfl⟩, ?_, ?_⟩
  · exact own_join P3.o (P4.o) (fun b hb hc => by have := P3.b b hb; have := P4.b b hc; omega)
  · intro b hb
    simp only [List.mem_append] at hb
    rcases hb with hb | hb
    · have := P3.b b hb; omega
    · have := P4.b b hb; omega

set_option maxRecDepth 20000 in
set_option maxHeartbeats 2000000 in
theorem eq_Cl (cs ds : List Value) (x : Cl) (w : World) (fp fp2 : List Nat) (hA : R_Cl fp w cs x) (hB : R_Cl fp2 w ds x) :
    Calls Tryz.prog 14 #[.agg cs.toArray, .agg ds.toArray] w fun e w' => e = .returned (.bool true) ∧ Upd [] w w' := by
  obtain ⟨v3, v4, f3, f4, rfl, h3, h4, rfl⟩ := hA
  obtain ⟨u3, u4, g3, g4, rfl, k3, k4, rfl⟩ := hB
  obtain ⟨wA, hwA⟩ : ∃ wA, wA = w.alloc (.cells #[ei x.kind, ei x.left, ei x.right, v3, v4] 44) := ⟨_, rfl⟩
  obtain ⟨wB, hwB⟩ : ∃ wB, wB = wA.alloc (.cells #[ei x.kind, ei x.left, ei x.right, u3, u4] 44) := ⟨_, rfl⟩
  obtain ⟨BA, hBA⟩ : ∃ BA, BA = w.heap.size := ⟨_, rfl⟩
  have sA : wA.heap.size = BA + 1 := by rw [hwA, hBA]; simp
  have uA : Upd [] w wA := by rw [hwA]; exact (Upd.refl _ _).alloc _
  have uB : Upd [] wA wB := by rw [hwB]; exact (Upd.refl _ _).alloc _
  have HC := Lib.hid (fun W (hu : Upd [] wB W) => show W.cell? ⟨BA, 0, none⟩ = some (ei x.kind) ∧ W.cell? ⟨BA + 1, 0, none⟩ = some (ei x.kind) ∧ W.cell? ⟨BA, 1, none⟩ = some (ei x.left) ∧ W.cell? ⟨BA + 1, 1, none⟩ = some (ei x.left) ∧ W.cell? ⟨BA, 2, none⟩ = some (ei x.right) ∧ W.cell? ⟨BA + 1, 2, none⟩ = some (ei x.right) ∧ W.cell? ⟨BA, 3, none⟩ = some (v3) ∧ W.cell? ⟨BA + 1, 3, none⟩ = some (u3) ∧ W.cell? ⟨BA, 4, none⟩ = some (v4) ∧ W.cell? ⟨BA + 1, 4, none⟩ = some (u4) from
    ⟨hu.keep (uB.keep (by rw [hwA, hBA]; exact cell_new w _ _ _ rfl 0 _ rfl)), hu.keep (by rw [hwB]; exact cell_new wA _ _ _ sA 0 _ rfl), hu.keep (uB.keep (by rw [hwA, hBA]; exact cell_new w _ _ _ rfl 1 _ rfl)), hu.keep (by rw [hwB]; exact cell_new wA _ _ _ sA 1 _ rfl), hu.keep (uB.keep (by rw [hwA, hBA]; exact cell_new w _ _ _ rfl 2 _ rfl)), hu.keep (by rw [hwB]; exact cell_new wA _ _ _ sA 2 _ rfl), hu.keep (uB.keep (by rw [hwA, hBA]; exact cell_new w _ _ _ rfl 3 _ rfl)), hu.keep (by rw [hwB]; exact cell_new wA _ _ _ sA 3 _ rfl), hu.keep (uB.keep (by rw [hwA, hBA]; exact cell_new w _ _ _ rfl 4 _ rfl)), hu.keep (by rw [hwB]; exact cell_new wA _ _ _ sA 4 _ rfl)⟩)
  have S3 := Lib.hid (fun W (hu : Upd [] w W) => show Calls Tryz.prog 40 #[v3, u3] W (fun e w' => e = .returned (.bool true) ∧ Upd [] W w') from by
    have := eq_N2 v3 u3 x.pairs x.pairs W f3 g3 (R_N2k.upd h3 hu (by simp)) (R_N2k.upd k3 hu (by simp))
    rw [show (x.pairs == x.pairs) = true by simp] at this
    exact this)
  have S4 := Lib.hid (fun W (hu : Upd [] w W) => eq_F1 v4 u4 x.form W f4 g4 (R_F1k.upd h4 hu (by simp)) (R_F1k.upd k4 hu (by simp)))
  have HU := Lib.hid (uA.trans uB)
  have HX := Lib.hid (Upd.refl [] wB)
  obtain ⟨c0, d0, c1, d1, c2, d2, c3, d3, c4, d4⟩ := HC.out wB (Upd.refl _ _)
  generalize x.kind = t0 at *
  have b0 : (t0 != t0) = false := by simp
  generalize x.left = t1 at *
  have b1 : (t1 != t1) = false := by simp
  generalize x.right = t2 at *
  have b2 : (t2 != t2) = false := by simp
  clear h3 k3 h4 k4 uA uB sA
  go_enter Tryz.func14, Tryz.ntmps14
  go_upto_region 1 with (fail)
  rw [← hwA, ← hwB, ← hBA]
  clear hwA hwB hBA
  have T3 := Lib.hid (S3.out wB HU.out)
  clear S3
  go_wp2_with fail
  refine T3.out.mono ?_
  rintro e w3 ⟨rfl, hu⟩
  have HU := Lib.hid (HU.out.trans hu)
  have HX := Lib.hid (HX.out.trans hu)
  obtain ⟨c0, d0, c1, d1, c2, d2, c3, d3, c4, d4⟩ := HC.out w3 HX.out
  clear T3 hu
  have T4 := Lib.hid (S4.out w3 HU.out)
  clear S4
  go_wp2_with fail
  refine T4.out.mono ?_
  rintro e w4 ⟨rfl, hu⟩
  have HU := Lib.hid (HU.out.trans hu)
  have HX := Lib.hid (HX.out.trans hu)
  obtain ⟨c0, d0, c1, d1, c2, d2, c3, d3, c4, d4⟩ := HC.out w4 HX.out
  clear T4 hu
  go_wp2_with fail
  go_ret
  exact ⟨rfl, HU.out⟩

end Go.Proofs.YtghocakjhfflbaaGreatDoor

/-
  Slices of claims: readings, and what the laws' helper functions return and make.
-/
namespace Go.Proofs.YtghocakjhfflbaaGreatDoor
open Go.RowKit


abbrev R_Cl1 : Rp (List Cl) := slQ 5 R_Cl
theorem R_Cl1k : Kept R_Cl1 := slQ_kept R_Clk
def szF_Cl1 (xs : List Cl) : Int := xs.length + (xs.map szF_Cl).sum
def mkF_Cl1 (xs : List Cl) : Int := (xs.map mkF_Cl).sum
def Cl1Ok (xs : List Cl) : Prop := ∀ x ∈ xs, ClOk x
theorem szF_Cl1_sum (xs : List Cl) : 0 ≤ (xs.map szF_Cl).sum := by
  induction xs with
  | nil => simp
  | cons r rs ih => simp only [List.map_cons, List.sum_cons]; have := szF_Cl_nonneg r; omega
theorem szF_Cl1_nonneg (xs : List Cl) : 0 ≤ szF_Cl1 xs := by have := szF_Cl1_sum xs; unfold szF_Cl1; omega
theorem szF_Cl1_snoc (xs : List Cl) (k : Nat) (h : k < xs.length) : ((xs.take (k + 1)).map szF_Cl).sum = ((xs.take k).map szF_Cl).sum + szF_Cl xs[k] := by
  rw [List.take_succ_eq_append_getElem h, List.map_append, List.sum_append]; simp
theorem szF_Cl1_take (xs : List Cl) (k : Nat) : ((xs.take k).map szF_Cl).sum ≤ (xs.map szF_Cl).sum := by
  have h := szF_Cl1_sum (xs.drop k)
  conv => rhs; rw [← List.take_append_drop k xs]
  rw [List.map_append, List.sum_append]; omega
def up_Cl (k : Int) (x : Cl) : Cl := ⟨(k), (k + 1), (k + 1 + 1), mk2 (k + 1 + 1 + 1) x.pairs, up_F1 (k + 1 + 1 + 1 + mkF_N2 x.pairs) x.form⟩
def mkd_Cl1 : Int → List Cl → List Cl
  | _, [] => []
  | k, r :: rs => up_Cl k r :: mkd_Cl1 (k + mkF_Cl r) rs
@[simp] theorem mkd_Cl1_length (k : Int) (xss : List Cl) : (mkd_Cl1 k xss).length = xss.length := by
  induction xss generalizing k with
  | nil => rfl
  | cons r rs ih => simp [mkd_Cl1, ih]
theorem mkd_Cl1_append (k : Int) (xs ys : List Cl) : mkd_Cl1 k (xs ++ ys) = mkd_Cl1 k xs ++ mkd_Cl1 (k + mkF_Cl1 xs) ys := by
  induction xs generalizing k with
  | nil => simp [mkd_Cl1, mkF_Cl1]
  | cons r rs ih => simp only [List.cons_append, mkd_Cl1, ih, mkF_Cl1, List.map_cons, List.sum_cons, Int.add_assoc]
set_option maxRecDepth 20000 in
set_option maxHeartbeats 1600000 in
theorem sz_Cl1 (v : Value) (xs : List Cl) (left : Int) (w : World) (fp : List Nat) (hl : 0 ≤ left) (hl2 : left ≤ 1048576) (hR : R_Cl1 fp w [v] xs) (hS : Cl1Ok xs) :
    Calls Tryz.prog 17 #[v, .int .i64 left] w fun e w' => (∃ r : Int, e = .returned (.int .i64 r) ∧ (r = -1 ∨ (0 ≤ r ∧ r + szF_Cl1 xs = left))) ∧ Upd [] w w' := by
  obtain ⟨a, cap, rfl, h1, h2, hc⟩ := slQ_open hR
  unfold maxLen at h2
  have HS := Lib.hid hS
  have HC := Lib.hid hc
  clear hR hS hc
  by_cases hlt : left - (xs.length : Int) < 0
  · go_enter Tryz.func17, Tryz.ntmps17
    go_wp2_with fail
    go_ret
    exact ⟨⟨-1, rfl, Or.inl rfl⟩, Upd.refl _ _⟩
  · have hge : 0 ≤ left - (xs.length : Int) := by omega
    clear hlt
    go_enter Tryz.func17, Tryz.ntmps17
    go_wp2_with fail
    go_loopw [1, 5] (fun kk i wr => ∃ (k : Nat) (l : Int), k ≤ xs.length ∧ i = .int .i64 k ∧ kk = .int .i64 l ∧ 0 ≤ l ∧ l ≤ 1048576 ∧ Hid (l + xs.length + ((xs.take k).map szF_Cl).sum = left) ∧ Hid (Upd [] w wr)) (fun _ i _ => xs.length - (intOf i).toNat)
    case atStart => exact ⟨0, _, Nat.zero_le _, rfl, rfl, hge, by omega, Lib.hid (by simp), Lib.hid (Upd.refl _ _)⟩
    case round =>
      obtain ⟨wo, rfl⟩ : ∃ wo : World, wo = wr := ⟨_, rfl⟩
      obtain ⟨k, l, hk, rfl, rfl, hl0, hl9, HL, HU⟩ := hrel
      by_cases hlt : k < xs.length
      · obtain ⟨b, off, u, f, rfl, -, -, -, hcell, -, hr⟩ := HC.out k hlt
        have HR := Lib.hid (R_Clk.upd hr HU.out (by simp))
        obtain ⟨v3, v4, f3, f4, rfl, -, -, -⟩ := hr
        have p0 := HU.out.keep (hcell 0 _ rfl)
        have p1 := HU.out.keep (hcell 1 _ rfl)
        have p2 := HU.out.keep (hcell 2 _ rfl)
        have p3 := HU.out.keep (hcell 3 _ rfl)
        have p4 := HU.out.keep (hcell 4 _ rfl)
        simp only [Nat.add_zero] at p0
        have HT := Lib.hid (szF_Cl1_snoc xs k hlt)
        have HO := Lib.hid (HS.out xs[k] (List.getElem_mem hlt))
        clear hcell
        generalize hx : xs[k] = x at *
        clear hx
        have S1 := Lib.hid (sz_Cl _ x l wo f hl0 hl9 HR.out HO.out)
        have hzz := szF_Cl_nonneg x
        generalize szF_Cl x = zz at *
        go_wp2_with fail
        refine S1.out.mono ?_
        rintro e w1 ⟨⟨r, rfl, hr2⟩, hu⟩
        have HU1 := Lib.hid (HU.out.trans hu)
        clear S1 hu
        rcases hr2 with rfl | ⟨hr2, hr3⟩
        · go_wp2_with fail
          go_ret
          exact ⟨⟨-1, rfl, Or.inl rfl⟩, HU1.out⟩
        · have H3 := Lib.hid hr3
          have hr4 : r ≤ 1048576 := by omega
          clear hr3
          go_wp2_with fail
          go_roundw
          case rel => exact ⟨k + 1, r, by omega, by go_num, rfl, hr2, hr4, Lib.hid (by have := H3.out; have := HL.out; rw [HT.out]; omega), HU1⟩
          case measure => simp [intOf]; omega
      · obtain rfl : k = xs.length := by omega
        go_wp2_with fail
        go_ret
        exact ⟨⟨l, rfl, Or.inr ⟨hl0, by have := HL.out; rw [List.take_length] at this; unfold szF_Cl1; omega⟩⟩, HU.out⟩

theorem Tryz.infoCl : (Tryz.prog.info? 44).map (fun i => (i.zero, i.size, i.bytes)) = some (some (.agg #[.int .i64 0, .int .i64 0, .int .i64 0, .slice none 0 0, .slice none 0 0]), 5, 72) := by kernel_rfl
set_option maxRecDepth 20000 in
set_option maxHeartbeats 2000000 in
theorem to_Cl1 (v : Value) (xs : List Cl) (w : World) (fp : List Nat) (hl : szF_Cl1 xs ≤ 1048576) (hR : R_Cl1 fp w [v] xs) :
    Calls Tryz.prog 21 #[v] w fun e w' => (∃ v', e = .returned v' ∧ New R_Cl1 w w' v' xs) ∧ Upd [] w w' := by
  obtain ⟨i0, hi, hz0, hz1, hz2⟩ := info_parts Tryz.infoCl
  obtain ⟨a, cap, rfl, h1, h2, hc⟩ := slQ_open hR
  unfold maxLen at h2
  have htn := szF_Cl1_sum xs
  unfold szF_Cl1 at hl
  have HC := Lib.hid hc
  clear hR hc
  have hm1 : i0.bytes * xs.length ≤ 281474976710656 := by rw [hz2]; omega
  go_enter Tryz.func21, Tryz.ntmps21
  go_wp2_with (first
    | (at_make; refine wpList_make_full _ rfl _ _ 30 rfl w.heap.size 44 i0 (.agg #[.int .i64 0, .int .i64 0, .int .i64 0, .slice none 0 0, .slice none 0 0]) 5 Tryz.underlying30 hi hz0 hz1 .i64 .i64 _ _ xs.length rfl rfl rfl rfl hm1 (by unfold maxLen; omega) (Nat.le_refl _) ?_; intro w1 hown hgrow)
    | fail)
  have hmd := made_Q ([.int .i64 0, .int .i64 0, .int .i64 0, .slice none 0 0, .slice none 0 0] : List Value) (n := 5) rfl (by decide) xs.length
  rw [hmd] at hown
  have hsz : w.heap.size < w1.heap.size := hown.lt w.heap.size rfl |>.2
  have hU : Upd [] w w1 := (Upd.refl _ _).grown hgrow (by simp)
  clear hgrow hm1 hmd
  go_loopw [4] (fun i wr => ∃ (k : Nat) (us : List (List Value)), k ≤ xs.length ∧ i = .int .i64 k ∧ Hid (Upd [] w wr) ∧ w.heap.size < wr.heap.size ∧
      Hid (wr.ownsRow w.heap.size 44 5 (.slice (some ⟨w.heap.size, 0, none⟩) xs.length xs.length) xs.length (us.flatten ++ (List.replicate (xs.length - k) ([.int .i64 0, .int .i64 0, .int .i64 0, .slice none 0 0, .slice none 0 0] : List Value)).flatten)) ∧
      Hid (RowsQ 5 R_Cl w.heap.size [w.heap.size] wr us (xs.take k)))
    (fun i _ => xs.length - (intOf i).toNat)
  case atStart => exact ⟨0, [], Nat.zero_le _, rfl, Lib.hid hU, hsz, Lib.hid (by simpa using hown), Lib.hid (RowsQ.nil _ _ _ _ _)⟩
  case round =>
    clear hown hU hsz
    obtain ⟨wo, rfl⟩ : ∃ wo : World, wo = wr := ⟨_, rfl⟩
    obtain ⟨k, us, hk, rfl, HU, hsz, HO, HW⟩ := hrel
    have hlu : us.length = k := by have := HW.out.length; simp at this; omega
    by_cases hlt : k < xs.length
    · obtain ⟨b, off, u, f, rfl, -, -, -, hcell, -, hr⟩ := HC.out k hlt
      have HR := Lib.hid (R_Clk.upd hr HU.out (by simp))
      obtain ⟨v3, v4, f3, f4, rfl, -, -, -⟩ := hr
      have p0 := HU.out.keep (hcell 0 _ rfl)
      have p1 := HU.out.keep (hcell 1 _ rfl)
      have p2 := HU.out.keep (hcell 2 _ rfl)
      have p3 := HU.out.keep (hcell 3 _ rfl)
      have p4 := HU.out.keep (hcell 4 _ rfl)
      simp only [Nat.add_zero] at p0
      have hxl : szF_Cl xs[k] ≤ 1048576 := by
        have h1 := szF_Cl1_snoc xs k hlt
        have h2 := szF_Cl1_take xs (k + 1)
        have h3 := szF_Cl1_sum (xs.take k)
        omega
      have HTK := Lib.hid (List.take_succ_eq_append_getElem hlt)
      have HLU := Lib.hid hlu
      clear hcell hlu
      generalize hx : xs[k] = x at *
      clear hx
      have S1 := Lib.hid (to_Cl _ x wo f hxl HR.out)
      clear hxl
      go_wp2_with fail
      refine S1.out.mono ?_
      rintro e w2 ⟨⟨u2, rfl, hlen, hone, hnew⟩, hu2⟩
      have hown2 := ownsRow_upd HO.out hu2
      have hrep : (List.replicate (xs.length - k) ([.int .i64 0, .int .i64 0, .int .i64 0, .slice none 0 0, .slice none 0 0] : List Value)).flatten.length = (xs.length - k) * 5 := by
        rw [flat_len (n := 5) (by intro y hy; rw [(List.mem_replicate.1 hy).2]; rfl)]; simp
      have hfl : us.flatten.length = k * 5 := by rw [flat_len HW.out.each, HLU.out]
      have hth : w2.there w.heap.size (k * 5) u2.toArray.size := fun j hj => by
        have hj' : j < 5 := by simpa [hlen] using hj
        refine ⟨?_, hown2.frozenAt _⟩
        rw [hown2.cellAt (k * 5 + j) (by omega), List.getElem?_eq_getElem (by rw [List.length_append, hfl, hrep]; omega)]; rfl
      have hszz : (Tryz.prog.info? 44).map (·.size) = some u2.toArray.size := by rw [Cl_size]; simp [hlen]
      have hrun := run_storeCells_cells (P := Tryz.prog) w.heap.size (k * 5) u2 0 w2 (fun j hj => by simpa using (hth j (by simpa using hj)).1) (fun j hj => by simpa using (hth j (by simpa using hj)).2) (fun v hv => (Array.all_eq_true_iff_forall_mem.1 hone) v (by simpa using hv))
      simp only [Nat.add_zero] at hrun
      have hst := ownsRow_setCells u2 (k * 5) hown2 (by rw [hlen]; omega)
      rw [show xs.length - k = (xs.length - (k + 1)) + 1 by omega, ← HLU.out, filled_set us ([.int .i64 0, .int .i64 0, .int .i64 0, .slice none 0 0, .slice none 0 0] : List Value) _ 5 rfl HW.out.each u2 hlen, HLU.out] at hst
      have hw3 : Upd [w.heap.size] w2 (w2.setCells w.heap.size (k * 5) u2) := upd_setCells _ (Or.inr (by simp)) _ _ (Upd.refl _ _)
      have hrows2 := (HW.out.push R_Clk hu2 hnew hlen (by omega) (by simpa using hsz)).upd R_Clk hw3 (by simp)
      rw [← HTK.out] at hrows2
      have hU2 : Upd [] w (w2.setCells w.heap.size (k * 5) u2) := upd_setCells _ (Or.inl (Nat.le_refl _)) _ _ (HU.out.trans hu2)
      have hsz2 : w.heap.size < (w2.setCells w.heap.size (k * 5) u2).heap.size := by have := hu2.size; have := hw3.size; omega
      have HS := Lib.hid (And.intro hst (And.intro hrows2 hU2))
      clear hown2 hrep hfl hst hw3 hrows2 hU2 hnew hu2 S1 HO HW HU
      clear hth hszz hone
      go_wp2_with fail
      go_roundw
      case rel => exact ⟨k + 1, us ++ [u2], by omega, by go_num, Lib.hid HS.out.2.2, hsz2, Lib.hid HS.out.1, Lib.hid HS.out.2.1⟩
      case measure => simp [intOf]; omega
    · obtain rfl : k = xs.length := by omega
      go_wp2_with fail
      go_ret
      have hrows := HW.out
      have hown := HO.out
      rw [List.take_length] at hrows
      refine ⟨⟨_, rfl, hrows.new (e := 44) (by simpa using hown) (by simp [Value.ownBlock]) (Nat.le_refl _)⟩, HU.out⟩

set_option maxRecDepth 20000 in
set_option maxHeartbeats 2000000 in
theorem eq_Cl1 (v1 v2 : Value) (xs : List Cl) (w : World) (fp fp2 : List Nat) (h1 : R_Cl1 fp w [v1] xs) (h2 : R_Cl1 fp2 w [v2] xs) :
    Calls Tryz.prog 28 #[v1, v2] w fun e w' => e = .returned (.bool true) ∧ Upd [] w w' := by
  obtain ⟨a1, c1, rfl, hl1, hm1, hc1⟩ := slQ_open h1
  obtain ⟨a2, c2, rfl, hl2, hm2, hc2⟩ := slQ_open h2
  unfold maxLen at hm1 hm2
  have HC1 := Lib.hid hc1
  have HC2 := Lib.hid hc2
  have hbe : ((xs.length : Int) != (xs.length : Int)) = false := by simp
  clear h1 h2 hc1 hc2
  go_enter Tryz.func28, Tryz.ntmps28
  go_wp2_with fail
  go_loopw [5] (fun i wr => ∃ k : Nat, k ≤ xs.length ∧ i = .int .i64 k ∧ Hid (Upd [] w wr)) (fun i _ => xs.length - (intOf i).toNat)
  case atStart => exact ⟨0, Nat.zero_le _, rfl, Lib.hid (Upd.refl _ _)⟩
  case round =>
    obtain ⟨wo, rfl⟩ : ∃ wo : World, wo = wr := ⟨_, rfl⟩
    obtain ⟨k, hk, rfl, HU⟩ := hrel
    by_cases hlt : k < xs.length
    · obtain ⟨b1, o1, u, f, rfl, -, -, -, hcell, -, hr⟩ := HC1.out k hlt
      obtain ⟨b2, o2, u', f', rfl, -, -, -, hcell2, -, hr2⟩ := HC2.out k hlt
      have HR := Lib.hid (R_Clk.drewN (R_Clk.upd hr HU.out (by simp)))
      have HR2 := Lib.hid (R_Clk.drewN (R_Clk.upd hr2 HU.out (by simp)))
      obtain ⟨v3, v4, f3, f4, rfl, -, -, -⟩ := hr
      obtain ⟨u3, u4, _, _, rfl, -, -, -⟩ := hr2
      have p0 := HU.out.keep (hcell 0 _ rfl)
      have p1 := HU.out.keep (hcell 1 _ rfl)
      have p2 := HU.out.keep (hcell 2 _ rfl)
      have p3 := HU.out.keep (hcell 3 _ rfl)
      have p4 := HU.out.keep (hcell 4 _ rfl)
      have q0 := HU.out.keep (hcell2 0 _ rfl)
      have q1 := HU.out.keep (hcell2 1 _ rfl)
      have q2 := HU.out.keep (hcell2 2 _ rfl)
      have q3 := HU.out.keep (hcell2 3 _ rfl)
      have q4 := HU.out.keep (hcell2 4 _ rfl)
      simp only [Nat.add_zero] at p0 q0
      clear hcell hcell2
      generalize hx : xs[k] = x at *
      clear hx
      have S1 := Lib.hid (fun W (hu : Upd [] wo W) => eq_Cl _ _ x W f f' (R_Clk.upd (HR.out 0) hu (by simp)) (R_Clk.upd (HR2.out 0) hu (by simp)))
      clear HR HR2
      obtain ⟨t0, ht0⟩ : ∃ t, t = ei x.kind := ⟨_, rfl⟩
      rw [← ht0] at p0 q0 S1
      clear ht0
      obtain ⟨t1, ht1⟩ : ∃ t, t = ei x.left := ⟨_, rfl⟩
      rw [← ht1] at p1 q1 S1
      clear ht1
      obtain ⟨t2, ht2⟩ : ∃ t, t = ei x.right := ⟨_, rfl⟩
      rw [← ht2] at p2 q2 S1
      clear ht2
      go_wp2_with fail
      go_region_held3 (fun w' => w'.cell? ⟨b1, o1 + k * 5, none⟩ = some (t0) ∧ w'.cell? ⟨b1, o1 + k * 5 + 1, none⟩ = some (t1) ∧ w'.cell? ⟨b1, o1 + k * 5 + 2, none⟩ = some (t2) ∧ w'.cell? ⟨b1, o1 + k * 5 + 3, none⟩ = some (v3) ∧ w'.cell? ⟨b1, o1 + k * 5 + 4, none⟩ = some (v4) ∧ w'.cell? ⟨b2, o2 + k * 5, none⟩ = some (t0) ∧ w'.cell? ⟨b2, o2 + k * 5 + 1, none⟩ = some (t1) ∧ w'.cell? ⟨b2, o2 + k * 5 + 2, none⟩ = some (t2) ∧ w'.cell? ⟨b2, o2 + k * 5 + 3, none⟩ = some (u3) ∧ w'.cell? ⟨b2, o2 + k * 5 + 4, none⟩ = some (u4)) (go_keep) (((with_reducible refine (S1.out _ (by repeat (first | exact Upd.refl _ _ | refine Upd.drew ?_ | refine Upd.drewN ?_ _))).mono ?_); rintro e w1 ⟨rfl, hu1⟩; have a0 := hu1.keep p0; have b0 := hu1.keep q0; have a1 := hu1.keep p1; have b1 := hu1.keep q1; have a2 := hu1.keep p2; have b2 := hu1.keep q2; have a3 := hu1.keep p3; have b3 := hu1.keep q3; have a4 := hu1.keep p4; have b4 := hu1.keep q4; skip))
      all_goals
        have HU1 := Lib.hid (HU.out.drew.trans hu1)
        clear hu1 HU
        go_wp2_with fail
        go_roundw
        case rel => exact ⟨k + 1, by omega, by go_num, HU1⟩
        case measure => simp [intOf]; omega
    · have hge : xs.length ≤ k := by omega
      go_wp2_with fail
      go_ret
      exact ⟨rfl, HU.out⟩

end Go.Proofs.YtghocakjhfflbaaGreatDoor

/-
  Workspaces: readings, and what the laws' helper functions return and make.
-/
namespace Go.Proofs.YtghocakjhfflbaaGreatDoor
open Go.RowKit

/-- its 3 cells. -/
def R_Wk : Rp Wk := fun fp w cs x => ∃ (v0 v1 v2 : Value) (f0 f1 f2 : List Nat), cs = [v0, v1, v2] ∧ R_S1 f0 w [v0] x.names ∧ R_Ls1 f1 w [v1] x.syss ∧ R_Cl1 f2 w [v2] x.clms ∧ fp = f0 ++ (f1 ++ (f2))
theorem R_Wkk : Kept R_Wk := by
  constructor
  · rintro fp w cs x ⟨v0, v1, v2, f0, f1, f2, rfl, h0, h1, h2, rfl⟩ b hb
    simp only [List.mem_append] at hb
    rcases hb with hb | hb | hb
    · exact R_S1k.lt h0 b hb
    · exact R_Ls1k.lt h1 b hb
    · exact R_Cl1k.lt h2 b hb
  · rintro fp w w' cs x ⟨v0, v1, v2, f0, f1, f2, rfl, h0, h1, h2, rfl⟩ hs hb
    exact ⟨v0, v1, v2, f0, f1, f2, rfl, R_S1k.frame h0 hs (fun b h => hb b (by simp [h])), R_Ls1k.frame h1 hs (fun b h => hb b (by simp [h])), R_Cl1k.frame h2 hs (fun b h => hb b (by simp [h])), rfl⟩
def szF_Wk (x : Wk) : Int := szF_S1 x.names + szF_Ls1 x.syss + szF_Cl1 x.clms
theorem szF_Wk_nonneg (x : Wk) : 0 ≤ szF_Wk x := by have := szF_S1_nonneg x.names; have := szF_Ls1_nonneg x.syss; have := szF_Cl1_nonneg x.clms; unfold szF_Wk; omega
/-- what each text's length is below. -/
def WkOk (x : Wk) : Prop := strsOk x.names ∧ Ls1Ok x.syss ∧ Cl1Ok x.clms

set_option maxRecDepth 20000 in
set_option maxHeartbeats 1600000 in
theorem sz_Wk (cs : List Value) (x : Wk) (left : Int) (w : World) (fp : List Nat) (hl : 0 ≤ left) (hl2 : left ≤ 1048576) (hR : R_Wk fp w cs x) (hS : WkOk x) :
    Calls Tryz.prog 5 #[.agg cs.toArray, .int .i64 left] w fun e w' => (∃ r : Int, e = .returned (.int .i64 r) ∧ (r = -1 ∨ (0 ≤ r ∧ r + szF_Wk x = left))) ∧ Upd [] w w' := by
  obtain ⟨v0, v1, v2, f0, f1, f2, rfl, h0, h1, h2, rfl⟩ := hR
  obtain ⟨wA, hwA⟩ : ∃ wA, wA = w.alloc (.cells #[v0, v1, v2] 26) := ⟨_, rfl⟩
  obtain ⟨BA, hBA⟩ : ∃ BA, BA = w.heap.size := ⟨_, rfl⟩
  have uA : Upd [] w wA := by rw [hwA]; exact (Upd.refl _ _).alloc _
  have S0 := Lib.hid (fun (W : World) (hu : Upd [] w W) (l : Int) (q1 : 0 ≤ l) (q2 : l ≤ 1048576) => sz_S1 v0 x.names l W f0 q1 q2 (R_S1k.upd h0 hu (by simp)) hS.1)
  have S1 := Lib.hid (fun (W : World) (hu : Upd [] w W) (l : Int) (q1 : 0 ≤ l) (q2 : l ≤ 1048576) => sz_Ls1 v1 x.syss l W f1 q1 q2 (R_Ls1k.upd h1 hu (by simp)) hS.2.1)
  have S2 := Lib.hid (fun (W : World) (hu : Upd [] w W) (l : Int) (q1 : 0 ≤ l) (q2 : l ≤ 1048576) => sz_Cl1 v2 x.clms l W f2 q1 q2 (R_Cl1k.upd h2 hu (by simp)) hS.2.2)
  have HC := Lib.hid (fun W (hu : Upd [] wA W) => show W.cell? ⟨BA, 0, none⟩ = some (v0) ∧ W.cell? ⟨BA, 1, none⟩ = some (v1) ∧ W.cell? ⟨BA, 2, none⟩ = some (v2) from
    ⟨hu.keep (by rw [hwA, hBA]; exact cell_new w _ _ _ rfl 0 _ rfl), hu.keep (by rw [hwA, hBA]; exact cell_new w _ _ _ rfl 1 _ rfl), hu.keep (by rw [hwA, hBA]; exact cell_new w _ _ _ rfl 2 _ rfl)⟩)
  have HZ := Lib.hid (show szF_Wk x = szF_S1 x.names + szF_Ls1 x.syss + szF_Cl1 x.clms from rfl)
  have hn0 := szF_S1_nonneg x.names
  have hn1 := szF_Ls1_nonneg x.syss
  have hn2 := szF_Cl1_nonneg x.clms
  generalize szF_S1 x.names = z0 at *
  generalize szF_Ls1 x.syss = z1 at *
  generalize szF_Cl1 x.clms = z2 at *
  generalize szF_Wk x = ZZ at *
  obtain ⟨c0, c1, c2⟩ := HC.out wA (Upd.refl _ _)
  have HU := Lib.hid uA
  have HX := Lib.hid (Upd.refl [] wA)
  clear h0 h1 h2 hS uA
  go_enter Tryz.func5, Tryz.ntmps5
  go_upto_region 1 with (fail)
  rw [← hwA, ← hBA]
  clear hwA hBA
  have T0 := Lib.hid (S0.out wA HU.out left hl hl2)
  clear S0
  go_wp2_with fail
  refine T0.out.mono ?_
  rintro e w0 ⟨⟨r, rfl, hr⟩, rfl⟩
  clear T0
  rcases hr with rfl | ⟨hge0, hr⟩
  · go_wp2_with fail
    go_ret
    exact ⟨⟨-1, rfl, Or.inl rfl⟩, HU.out⟩
  · have HR0 := Lib.hid hr
    have hle0 : r ≤ 1048576 := by omega
    clear hr
    generalize r = r0 at *
    have T1 := Lib.hid (S1.out wA HU.out r0 hge0 hle0)
    clear S1
    go_wp2_with fail
    refine T1.out.mono ?_
    rintro e w1 ⟨⟨r, rfl, hr⟩, hu⟩
    clear T1
    have HU := Lib.hid (HU.out.trans hu)
    have HX := Lib.hid (HX.out.trans hu)
    obtain ⟨c0, c1, c2⟩ := HC.out w1 HX.out
    clear hu
    rcases hr with rfl | ⟨hge1, hr⟩
    · go_wp2_with fail
      go_ret
      exact ⟨⟨-1, rfl, Or.inl rfl⟩, HU.out⟩
    · have HR1 := Lib.hid hr
      have hle1 : r ≤ 1048576 := by omega
      clear hr
      generalize r = r1 at *
      have T2 := Lib.hid (S2.out w1 HU.out r1 hge1 hle1)
      clear S2
      go_wp2_with fail
      refine T2.out.mono ?_
      rintro e w2 ⟨⟨r, rfl, hr⟩, hu⟩
      clear T2
      have HU := Lib.hid (HU.out.trans hu)
      have HX := Lib.hid (HX.out.trans hu)
      obtain ⟨c0, c1, c2⟩ := HC.out w2 HX.out
      clear hu
      rcases hr with rfl | ⟨hge2, hr⟩
      · go_wp2_with fail
        go_ret
        exact ⟨⟨-1, rfl, Or.inl rfl⟩, HU.out⟩
      · have HR2 := Lib.hid hr
        have hle2 : r ≤ 1048576 := by omega
        clear hr
        generalize r = r2 at *
        go_wp2_with fail
        go_ret
        exact ⟨⟨r2, rfl, Or.inr ⟨hge2, by rw [HZ.out]; have := HR0.out; have := HR1.out; have := HR2.out; omega⟩⟩, HU.out⟩

theorem Wk_size : (Tryz.prog.info? 32).map (·.size) = some 3 := by kernel_rfl
set_option maxRecDepth 20000 in
set_option maxHeartbeats 4000000 in
theorem to_Wk (cs : List Value) (x : Wk) (w : World) (fp : List Nat) (hl : szF_Wk x ≤ 1048576) (hR : R_Wk fp w cs x) :
    Calls Tryz.prog 7 #[.agg cs.toArray] w fun e w' => (∃ us, e = .returned (.agg us.toArray) ∧ us.length = 3 ∧ us.toArray.all (·.oneCell') = true ∧ NewQ R_Wk w w' us x) ∧ Upd [] w w' := by
  obtain ⟨v0, v1, v2, f0, f1, f2, rfl, h0, h1, h2, rfl⟩ := hR
  have hn0 := szF_S1_nonneg x.names
  have hn1 := szF_Ls1_nonneg x.syss
  have hn2 := szF_Cl1_nonneg x.clms
  unfold szF_Wk at hl
  have S0 := Lib.hid (fun (W : World) (hu : Upd [] w W) => to_S1 v0 x.names W f0 (by omega) (R_S1k.upd h0 hu (by simp)))
  have S1 := Lib.hid (fun (W : World) (hu : Upd [] w W) => to_Ls1 v1 x.syss W f1 (by omega) (R_Ls1k.upd h1 hu (by simp)))
  have S2 := Lib.hid (fun (W : World) (hu : Upd [] w W) => to_Cl1 v2 x.clms W f2 (by omega) (R_Cl1k.upd h2 hu (by simp)))
  obtain ⟨wA, hwA⟩ : ∃ wA, wA = ((w.alloc (.cells #[v0, v1, v2] 26)).alloc (.cells #[.slice none 0 0, .slice none 0 0, .slice none 0 0] 32)).alloc (.cells #[.slice none 0 0, .slice none 0 0, .slice none 0 0] 32) := ⟨_, rfl⟩
  obtain ⟨B, hB⟩ : ∃ B, B = w.heap.size := ⟨_, rfl⟩
  have H0 := Lib.hid (show Three w wA 26 32 B [v0, v1, v2] [.slice none 0 0, .slice none 0 0, .slice none 0 0] [.slice none 0 0, .slice none 0 0, .slice none 0 0] from by rw [hwA, hB]; exact Three.mk0 w _ _ _ _ _)
  clear h0 h1 h2 hl hn0 hn1 hn2
  go_enter Tryz.func7, Tryz.ntmps7
  go_upto_region 2 with (fail)
  rw [← hwA, ← hB]
  clear hwA hB
  have T0 := Lib.hid (S0.out wA H0.out.upd)
  clear S0
  have p0 := H0.out.pc 0 _ rfl
  go_wp2_with fail
  refine T0.out.mono ?_
  rintro e w0 ⟨⟨u, rfl, hn⟩, hu⟩
  have G0 := Lib.hid (H0.out.call hu)
  have HN0 := Lib.hid hn
  have E0 := Lib.hid hu
  have hlo0 := H0.out.size
  have hhi0 := hu.size
  obtain ⟨m0, n0, rfl⟩ := New.form hn
  clear T0 p0 hn hu
  have q0 := G0.out.oc 0 _ rfl
  have z0 := G0.out.fz 0
  go_upto_region 3 with (fail)
  obtain ⟨W0, hW0⟩ : ∃ W0, W0 = w0.setCell ⟨B + 2, 0, none⟩ (.slice m0 x.names.length n0) := ⟨_, rfl⟩
  rw [← hW0]
  have H1 := Lib.hid (show Three w W0 26 32 B [v0, v1, v2] [.slice none 0 0, .slice none 0 0, .slice none 0 0] _ from by rw [hW0]; exact G0.out.store 0 _)
  have D0 := Lib.hid (show Upd [B + 2] w0 W0 from by rw [hW0]; exact (Upd.refl _ _).setCell (Or.inr (by simp)) _)
  have ds0 := D0.out.size
  clear q0 z0 hW0
  have T1 := Lib.hid (S1.out W0 H1.out.upd)
  clear S1
  have p1 := H1.out.pc 1 _ rfl
  go_wp2_with fail
  refine T1.out.mono ?_
  rintro e w1 ⟨⟨u, rfl, hn⟩, hu⟩
  have G1 := Lib.hid (H1.out.call hu)
  have HN1 := Lib.hid hn
  have E1 := Lib.hid hu
  have hlo1 := H1.out.size
  have hhi1 := hu.size
  obtain ⟨m1, n1, rfl⟩ := New.formQ hn
  clear T1 p1 hn hu
  have q1 := G1.out.oc 1 _ rfl
  have z1 := G1.out.fz 1
  go_upto_region 4 with (fail)
  obtain ⟨W1, hW1⟩ : ∃ W1, W1 = w1.setCell ⟨B + 2, 1, none⟩ (.slice m1 x.syss.length n1) := ⟨_, rfl⟩
  rw [← hW1]
  have H2 := Lib.hid (show Three w W1 26 32 B [v0, v1, v2] [.slice none 0 0, .slice none 0 0, .slice none 0 0] _ from by rw [hW1]; exact G1.out.store 1 _)
  have D1 := Lib.hid (show Upd [B + 2] w1 W1 from by rw [hW1]; exact (Upd.refl _ _).setCell (Or.inr (by simp)) _)
  have ds1 := D1.out.size
  clear q1 z1 hW1
  have T2 := Lib.hid (S2.out W1 H2.out.upd)
  clear S2
  have p2 := H2.out.pc 2 _ rfl
  go_wp2_with fail
  refine T2.out.mono ?_
  rintro e w2 ⟨⟨u, rfl, hn⟩, hu⟩
  have G2 := Lib.hid (H2.out.call hu)
  have HN2 := Lib.hid hn
  have E2 := Lib.hid hu
  have hlo2 := H2.out.size
  have hhi2 := hu.size
  obtain ⟨m2, n2, rfl⟩ := New.formQ hn
  clear T2 p2 hn hu
  have q2 := G2.out.oc 2 _ rfl
  have z2 := G2.out.fz 2
  go_upto_region 5 with (fail)
  obtain ⟨W2, hW2⟩ : ∃ W2, W2 = w2.setCell ⟨B + 2, 2, none⟩ (.slice m2 x.clms.length n2) := ⟨_, rfl⟩
  rw [← hW2]
  have H3 := Lib.hid (show Three w W2 26 32 B [v0, v1, v2] [.slice none 0 0, .slice none 0 0, .slice none 0 0] _ from by rw [hW2]; exact G2.out.store 2 _)
  have D2 := Lib.hid (show Upd [B + 2] w2 W2 from by rw [hW2]; exact (Upd.refl _ _).setCell (Or.inr (by simp)) _)
  have ds2 := D2.out.size
  clear q2 z2 hW2
  have HF := Lib.hid (show Three w W2 26 32 B [v0, v1, v2] [.slice none 0 0, .slice none 0 0, .slice none 0 0] [.slice m0 x.names.length n0, .slice m1 x.syss.length n1, .slice m2 x.clms.length n2] from H3.out)
  have hlast := HF.out.h2
  have hres := HF.out.h1
  clear G0 G1 G2
  go_wp2_with (first
    | (refine wpList_load_row rfl 32 _ rfl (B + 2) rfl 32 #[.slice m0 x.names.length n0, .slice m1 x.syss.length n1, .slice m2 x.clms.length n2] (0, 0) _ hlast Tryz.underlying32 rfl Wk_size ?_)
    | (refine wpList_store_row rfl 32 _ _ rfl (B + 1) #[.slice m0 x.names.length n0, .slice m1 x.syss.length n1, .slice m2 x.clms.length n2] rfl rfl 32 _ hres Wk_size rfl (by simp [Value.oneCell']) ?_)
    | fail)
  have hC := setRow_heap W2 (B + 1) _ #[.slice m0 x.names.length n0, .slice m1 x.syss.length n1, .slice m2 x.clms.length n2] _ _ hres
  refine bodyPost_ret (results_cell_row Tryz.results7 _ _ (B + 1) 32 _ (0, 0) _ rfl hC Tryz.underlying32 rfl Wk_size) rfl ?_
  have hb := HF.out.base
  have UE : Upd [] w (W2.setRow (B + 1) #[.slice m0 x.names.length n0, .slice m1 x.syss.length n1, .slice m2 x.clms.length n2]) := HF.out.upd.row (Or.inl (by omega)) _
  refine ⟨⟨[.slice m0 x.names.length n0, .slice m1 x.syss.length n1, .slice m2 x.clms.length n2], rfl, rfl, by simp [Value.oneCell'], ?_⟩, UE⟩
  obtain ⟨g0, P0⟩ := Part.of R_S1k HN0.out
  have P0 := P0.upd R_S1k D0.out (by intro b hb; simp at hb; omega)
  have P0 := P0.upd R_S1k (show Upd [] W0 w1 from E1.out) (by simp)
  have P0 := P0.upd R_S1k D1.out (by intro b hb; simp at hb; omega)
  have P0 := P0.upd R_S1k (show Upd [] W1 w2 from E2.out) (by simp)
  have P0 := P0.upd R_S1k D2.out (by intro b hb; simp at hb; omega)
  have P0 := P0.upd R_S1k (show Upd [B + 1] W2 (W2.setRow (B + 1) #[.slice m0 x.names.length n0, .slice m1 x.syss.length n1, .slice m2 x.clms.length n2]) from (Upd.refl _ _).row (Or.inr (by simp)) _) (by intro b hb; simp at hb; omega)
  obtain ⟨g1, P1⟩ := Part.of R_Ls1k HN1.out
  have P1 := P1.upd R_Ls1k D1.out (by intro b hb; simp at hb; omega)
  have P1 := P1.upd R_Ls1k (show Upd [] W1 w2 from E2.out) (by simp)
  have P1 := P1.upd R_Ls1k D2.out (by intro b hb; simp at hb; omega)
  have P1 := P1.upd R_Ls1k (show Upd [B + 1] W2 (W2.setRow (B + 1) #[.slice m0 x.names.length n0, .slice m1 x.syss.length n1, .slice m2 x.clms.length n2]) from (Upd.refl _ _).row (Or.inr (by simp)) _) (by intro b hb; simp at hb; omega)
  obtain ⟨g2, P2⟩ := Part.of R_Cl1k HN2.out
  have P2 := P2.upd R_Cl1k D2.out (by intro b hb; simp at hb; omega)
  have P2 := P2.upd R_Cl1k (show Upd [B + 1] W2 (W2.setRow (B + 1) #[.slice m0 x.names.length n0, .slice m1 x.syss.length n1, .slice m2 x.clms.length n2]) from (Upd.refl _ _).row (Or.inr (by simp)) _) (by intro b hb; simp at hb; omega)
  refine ⟨g0 ++ (g1 ++ (g2)), ⟨_, _, _, g0, g1, g2, rfl, P0.r, P1.r, P2.r, rfl⟩, ?_, ?_⟩
  · exact own_join P0.o (own_join P1.o (P2.o) (fun b hb hc => by have := P1.b b hb; have := P2.b b hc; omega)) (fun b hb hc => by
        have := P0.b b hb
        simp only [List.mem_append] at hc
        rcases hc with hc | hc
        · have := P1.b b hc; omega
        · have := P2.b b hc; omega
        )
  · intro b hb
    simp only [List.mem_append] at hb
    rcases hb with hb | hb | hb
    · have := P0.b b hb; omega
    · have := P1.b b hb; omega
    · have := P2.b b hb; omega

set_option maxRecDepth 20000 in
set_option maxHeartbeats 2000000 in
theorem eq_Wk (cs ds : List Value) (x : Wk) (w : World) (fp fp2 : List Nat) (hA : R_Wk fp w cs x) (hB : R_Wk fp2 w ds x) :
    Calls Tryz.prog 9 #[.agg cs.toArray, .agg ds.toArray] w fun e w' => e = .returned (.bool true) ∧ Upd [] w w' := by
  obtain ⟨v0, v1, v2, f0, f1, f2, rfl, h0, h1, h2, rfl⟩ := hA
  obtain ⟨u0, u1, u2, g0, g1, g2, rfl, k0, k1, k2, rfl⟩ := hB
  obtain ⟨wA, hwA⟩ : ∃ wA, wA = w.alloc (.cells #[v0, v1, v2] 32) := ⟨_, rfl⟩
  obtain ⟨wB, hwB⟩ : ∃ wB, wB = wA.alloc (.cells #[u0, u1, u2] 32) := ⟨_, rfl⟩
  obtain ⟨BA, hBA⟩ : ∃ BA, BA = w.heap.size := ⟨_, rfl⟩
  have sA : wA.heap.size = BA + 1 := by rw [hwA, hBA]; simp
  have uA : Upd [] w wA := by rw [hwA]; exact (Upd.refl _ _).alloc _
  have uB : Upd [] wA wB := by rw [hwB]; exact (Upd.refl _ _).alloc _
  have HC := Lib.hid (fun W (hu : Upd [] wB W) => show W.cell? ⟨BA, 0, none⟩ = some (v0) ∧ W.cell? ⟨BA + 1, 0, none⟩ = some (u0) ∧ W.cell? ⟨BA, 1, none⟩ = some (v1) ∧ W.cell? ⟨BA + 1, 1, none⟩ = some (u1) ∧ W.cell? ⟨BA, 2, none⟩ = some (v2) ∧ W.cell? ⟨BA + 1, 2, none⟩ = some (u2) from
    ⟨hu.keep (uB.keep (by rw [hwA, hBA]; exact cell_new w _ _ _ rfl 0 _ rfl)), hu.keep (by rw [hwB]; exact cell_new wA _ _ _ sA 0 _ rfl), hu.keep (uB.keep (by rw [hwA, hBA]; exact cell_new w _ _ _ rfl 1 _ rfl)), hu.keep (by rw [hwB]; exact cell_new wA _ _ _ sA 1 _ rfl), hu.keep (uB.keep (by rw [hwA, hBA]; exact cell_new w _ _ _ rfl 2 _ rfl)), hu.keep (by rw [hwB]; exact cell_new wA _ _ _ sA 2 _ rfl)⟩)
  have S0 := Lib.hid (fun W (hu : Upd [] w W) => show Calls Tryz.prog 26 #[v0, u0] W (fun e w' => e = .returned (.bool true) ∧ Upd [] W w') from by
    have := eq_S1 v0 u0 x.names x.names W f0 g0 (R_S1k.upd h0 hu (by simp)) (R_S1k.upd k0 hu (by simp))
    rw [show (x.names == x.names) = true by simp] at this
    exact this)
  have S1 := Lib.hid (fun W (hu : Upd [] w W) => eq_Ls1 v1 u1 x.syss W f1 g1 (R_Ls1k.upd h1 hu (by simp)) (R_Ls1k.upd k1 hu (by simp)))
  have S2 := Lib.hid (fun W (hu : Upd [] w W) => eq_Cl1 v2 u2 x.clms W f2 g2 (R_Cl1k.upd h2 hu (by simp)) (R_Cl1k.upd k2 hu (by simp)))
  have HU := Lib.hid (uA.trans uB)
  have HX := Lib.hid (Upd.refl [] wB)
  obtain ⟨c0, d0, c1, d1, c2, d2⟩ := HC.out wB (Upd.refl _ _)
  clear h0 k0 h1 k1 h2 k2 uA uB sA
  go_enter Tryz.func9, Tryz.ntmps9
  go_upto_region 1 with (fail)
  rw [← hwA, ← hwB, ← hBA]
  clear hwA hwB hBA
  have T0 := Lib.hid (S0.out wB HU.out)
  clear S0
  go_wp2_with fail
  refine T0.out.mono ?_
  rintro e w0 ⟨rfl, hu⟩
  have HU := Lib.hid (HU.out.trans hu)
  have HX := Lib.hid (HX.out.trans hu)
  obtain ⟨c0, d0, c1, d1, c2, d2⟩ := HC.out w0 HX.out
  clear T0 hu
  have T1 := Lib.hid (S1.out w0 HU.out)
  clear S1
  go_wp2_with fail
  refine T1.out.mono ?_
  rintro e w1 ⟨rfl, hu⟩
  have HU := Lib.hid (HU.out.trans hu)
  have HX := Lib.hid (HX.out.trans hu)
  obtain ⟨c0, d0, c1, d1, c2, d2⟩ := HC.out w1 HX.out
  clear T1 hu
  have T2 := Lib.hid (S2.out w1 HU.out)
  clear S2
  go_wp2_with fail
  refine T2.out.mono ?_
  rintro e w2 ⟨rfl, hu⟩
  have HU := Lib.hid (HU.out.trans hu)
  have HX := Lib.hid (HX.out.trans hu)
  obtain ⟨c0, d0, c1, d1, c2, d2⟩ := HC.out w2 HX.out
  clear T2 hu
  go_wp2_with fail
  go_ret
  exact ⟨rfl, HU.out⟩

end Go.Proofs.YtghocakjhfflbaaGreatDoor

/-
  What a valid workspace and a valid claim are, plainly.
-/
namespace Go.Proofs.YtghocakjhfflbaaGreatDoor
open Go.RowKit

/-- what is asked of the k-th name and system of a workspace. -/
def wkAt (W : Wk) (k : Nat) : Bool := nameF (W.names.getD k []) && !((W.names.take k).contains (W.names.getD k [])) && sysOk (W.syss.getD k ⟨0, 0, [], []⟩)
def syssOk (W : Wk) : Bool := inB (W.names.length : Int) 1 6 && decide (W.syss.length = W.names.length) && allF (wkAt W) 0 W.names.length
/-- what is asked of a claim, for n systems. -/
def clOk (n : Nat) (c : Cl) : Bool := inB c.kind 0 7 && inB c.left 0 ((n : Int) - 1) && inB c.right 0 ((n : Int) - 1) && (decide (c.kind ≤ 3) || c.right == 0) && (if inB c.kind 3 5 then frmOk c.form else decide (c.form.length = 0))
theorem wkAt_eq {W : Wk} {k : Nat} (hk : k < W.names.length) (hs : k < W.syss.length) : wkAt W k = (nameF W.names[k] && !((W.names.take k).contains W.names[k]) && sysOk W.syss[k]) := by
  unfold wkAt
  rw [List.getD_eq_getElem?_getD, List.getD_eq_getElem?_getD, List.getElem?_eq_getElem hk, List.getElem?_eq_getElem hs]; rfl
/-- what bounds a claim's formula. -/
def ClFit (c : Cl) : Prop := c.form.length ≤ 2000000 ∧ ∀ n ∈ c.form, n.lb.length ≤ 2000000
/-- what bounds a workspace. -/
structure WkFit (W : Wk) : Prop where
  nl : W.names.length ≤ 2000000
  nt : ∀ s ∈ W.names, s.length ≤ 2000000
  sl : W.syss.length ≤ 2000000
  st : ∀ x ∈ W.syss, ∀ p ∈ x.labs, p.length ≤ 2000000
  cl : W.clms.length ≤ 2000000
  cf : ∀ c ∈ W.clms, ClFit c
theorem totS_fit {x : List (List UInt8)} (h : totS x ≤ 1048576) : ∀ s ∈ x, s.length ≤ 2000000 := fun s hs => by have := totS_mem x s hs; omega
theorem ClFit.of {c : Cl} (h : szF_N2 c.pairs + szF_F1 c.form ≤ 1048576) : ClFit c := by
  have h1 := szF_N2_nonneg c.pairs
  have h2 := totS_nonneg (c.form.map Nd.lb)
  unfold szF_F1 at h
  exact ⟨by omega, fun n hn => totS_fit (by omega) _ (List.mem_map_of_mem hn)⟩

/-- the names of the kinds of claims. -/
def clNames : List (List UInt8) := [[115, 116, 114, 111, 110, 103], [98, 114, 97, 110, 99, 104, 105, 110, 103], [115, 105, 109, 117, 108, 97, 116, 101, 115], [97, 112, 97, 114, 116], [104, 111, 108, 100, 115], [102, 97, 105, 108, 115], [100, 101, 97, 100, 108, 111, 99, 107], [108, 105, 118, 101]]
/-- the text of a claim. -/
def clText (W : Wk) (c : Cl) : List UInt8 :=
  if syssOk W && clOk W.syss.length c then
    (clNames.getD c.kind.toNat [] ++ [32] ++ W.names.getD c.left.toNat []) ++ (if c.kind ≤ 3 then [32] ++ W.names.getD c.right.toNat [] else [])
  else []

end Go.Proofs.YtghocakjhfflbaaGreatDoor

/-
  The check value: what both sides' calls return.
-/
namespace Go.Proofs.YtghocakjhfflbaaGreatDoor
open Go.RowKit

end Go.Proofs.YtghocakjhfflbaaGreatDoor

/-
  The writer of images: what its calls leave.
-/
namespace Go.Proofs.YtghocakjhfflbaaGreatDoor
open Go.RowKit

/-- nothing older than base is written. -/
def Fresh (base : Nat) (w w' : World) : Prop := ∀ w0 : World, w0.heap.size ≤ base → Upd [] w0 w → Upd [] w0 w'
theorem Fresh.refl (base : Nat) (w : World) : Fresh base w w := fun _ _ h => h
theorem Fresh.trans {base : Nat} {w w1 w2 : World} (h : Fresh base w w1) (k : Fresh base w1 w2) : Fresh base w w2 := fun w0 h0 hu => k w0 h0 (h w0 h0 hu)
theorem Fresh.of {base : Nat} {w w1 : World} (h : Upd [] w w1) : Fresh base w w1 := fun _ _ hu => hu.trans h

end Go.Proofs.YtghocakjhfflbaaGreatDoor

/-
  Texts and whole images written, by the program and by the reference.
-/
namespace Go.Proofs.YtghocakjhfflbaaGreatDoor
open Go.RowKit

end Go.Proofs.YtghocakjhfflbaaGreatDoor

/-
  Lists compared; lists drawn.
-/
namespace Go.Proofs.YtghocakjhfflbaaGreatDoor
open Go.RowKit

def cmp1 (x y : Int) : Int := if x < y then -1 else if y < x then 1 else 0
theorem cmp1_self (x : Int) : cmp1 x x = 0 := by simp [cmp1]
theorem isNaNI (x : Int) (w : World) : Calls Tryz.prog 103 #[.int .i64 x] w fun e w' => e = .returned (.bool false) ∧ w = w' := by
  go_enter Tryz.func103, Tryz.ntmps103
  go_wp2_with fail
  go_ret
  exact ⟨by simp, rfl⟩

set_option maxRecDepth 20000 in
theorem cmpOne (x y : Int) (w : World) : Calls Tryz.prog 87 #[.int .i64 x, .int .i64 y] w fun e w' => e = .returned (.int .i64 (cmp1 x y)) ∧ w = w' := by
  have S1 := Lib.hid (isNaNI x w)
  have S2 := Lib.hid (isNaNI y w)
  rcases Int.lt_trichotomy x y with h | h | h
  · have HR := Lib.hid (show cmp1 x y = -1 by simp [cmp1, h])
    go_enter Tryz.func87, Tryz.ntmps87
    go_wp2_with fail
    refine S1.out.mono ?_
    rintro e w1 ⟨rfl, rfl⟩
    go_wp2_with fail
    refine S2.out.mono ?_
    rintro e w1 ⟨rfl, rfl⟩
    go_wp2_with fail
    go_ret
    exact ⟨by rw [HR.out]; rfl, rfl⟩
  · have HR := Lib.hid (show cmp1 x y = 0 by rw [h]; exact cmp1_self y)
    have g1 : ¬ x < y := by omega
    have g2 : ¬ y < x := by omega
    clear h
    go_enter Tryz.func87, Tryz.ntmps87
    go_wp2_with fail
    refine S1.out.mono ?_
    rintro e w1 ⟨rfl, rfl⟩
    go_wp2_with fail
    refine S2.out.mono ?_
    rintro e w1 ⟨rfl, rfl⟩
    go_wp2_with fail
    go_ret
    exact ⟨by rw [HR.out]; rfl, rfl⟩
  · have HR := Lib.hid (show cmp1 x y = 1 by simp [cmp1, h]; omega)
    have g1 : ¬ x < y := by omega
    go_enter Tryz.func87, Tryz.ntmps87
    go_wp2_with fail
    refine S1.out.mono ?_
    rintro e w1 ⟨rfl, rfl⟩
    go_wp2_with fail
    refine S2.out.mono ?_
    rintro e w1 ⟨rfl, rfl⟩
    go_wp2_with fail
    go_ret
    exact ⟨by rw [HR.out]; rfl, rfl⟩

end Go.Proofs.YtghocakjhfflbaaGreatDoor

/-
  Validity of systems: the parts of both sides' walks.
-/
namespace Go.Proofs.YtghocakjhfflbaaGreatDoor
open Go.RowKit

def firstNZ : List Int → Int
  | [] => 0
  | x :: r => if x ≠ 0 then x else firstNZ r

set_option maxRecDepth 20000 in
theorem cmpOr (v : Value) (xs : List Int) (w : World) (fp : List Nat) (hR : R1 fp w [v] xs) : Calls Tryz.prog 86 #[v] w fun e w' => e = .returned (.int .i64 (firstNZ xs)) ∧ w = w' := by
  obtain ⟨a, cap, rfl, h1, h2, hc⟩ := slF1_open hR
  unfold maxLen at h2
  clear hR
  go_enter Tryz.func86, Tryz.ntmps86
  go_wp2_with fail
  go_loop [8] (fun iv => ∃ k : Nat, k ≤ xs.length ∧ iv = .int .i64 k ∧ Hid (firstNZ (xs.drop k) = firstNZ xs)) (fun iv => xs.length - (intOf iv).toNat)
  case atStart => exact ⟨0, Nat.zero_le _, rfl, Lib.hid rfl⟩
  case round =>
    obtain ⟨k, hk, rfl, HF⟩ := hrel
    by_cases hlt : k < xs.length
    · obtain ⟨b, o, rfl, -, -, p1⟩ := hc k hlt
      have HG := Lib.hid (show firstNZ xs = if xs[k] ≠ 0 then xs[k] else firstNZ (xs.drop (k + 1)) by rw [← HF.out, List.drop_eq_getElem_cons hlt, firstNZ])
      generalize xs[k] = x at *
      clear hc HF
      by_cases hx : x = 0
      · have HQ := Lib.hid (HG.out.trans (if_neg (by simpa using hx)))
        subst hx
        clear HG
        go_wp2_with fail
        go_round
        case rel => exact ⟨k + 1, by omega, by go_num, Lib.hid HQ.out.symm⟩
        case measure => simp [intOf]; omega
      · have HQ := Lib.hid (HG.out.trans (if_pos hx))
        have hx1 : (x == 0) = false := by simpa using hx
        have hx2 : (x != 0) = true := by simpa using hx
        clear HG
        go_wp2_with fail
        go_ret
        exact ⟨by rw [HQ.out]; rfl, rfl⟩
    · have HQ := Lib.hid (show firstNZ xs = 0 by rw [← HF.out, List.drop_of_length_le (by omega)]; rfl)
      clear HF hc
      go_wp2_with fail
      go_ret
      exact ⟨by rw [HQ.out]; rfl, rfl⟩

theorem edLt_cmp (a b : Ed) : decide (0 ≤ firstNZ [cmp1 a.fr b.fr, cmp1 a.lb b.lb, cmp1 a.to b.to]) = !edLt a b := by
  unfold edLt firstNZ firstNZ firstNZ firstNZ cmp1
  rcases Int.lt_trichotomy a.fr b.fr with h1 | h1 | h1
  · have h2 : a.fr ≠ b.fr := by omega
    simp [h1, h2]
  · rcases Int.lt_trichotomy a.lb b.lb with h3 | h3 | h3
    · have h4 : a.lb ≠ b.lb := by omega
      simp [h1, h3, h4]
    · rcases Int.lt_trichotomy a.to b.to with h5 | h5 | h5
      · simp [h1, h3, h5]
      · simp [h1, h3, h5]
      · have h6 : ¬ a.to < b.to := by omega
        simp [h1, h3, h5, h6]
    · have h4 : a.lb ≠ b.lb := by omega
      have h5 : ¬ a.lb < b.lb := by omega
      simp [h1, h3, h4, h5]
  · have h2 : a.fr ≠ b.fr := by omega
    have h3 : ¬ a.fr < b.fr := by omega
    simp [h1, h2, h3]

def CmpEd (a b : Ed) (w : World) (e : Ending) (w' : World) : Prop := (∃ c : Int, e = .returned (.int .i64 c) ∧ decide (0 ≤ c) = !edLt a b) ∧ Upd [] w w'

set_option maxRecDepth 20000 in
set_option maxHeartbeats 2000000 in
theorem cmpEdges (a b : Ed) (w : World) : Calls Tryz.prog 71 #[.agg #[ei a.fr, ei a.lb, ei a.to], .agg #[ei b.fr, ei b.lb, ei b.to]] w (CmpEd a b w) := by
  have HE := Lib.hid (edLt_cmp a b)
  have HOR := Lib.hid (fun (W : World) (H : Nat) (hH : W.heap.size = H) (x y z : Int) => show Calls Tryz.prog 86 #[.slice (some ⟨H, 0, none⟩) 3 3] (W.alloc (.cells #[.int .i64 x, .int .i64 y, .int .i64 z] 3)).drew (fun e w' => e = .returned (.int .i64 (firstNZ [x, y, z])) ∧ (W.alloc (.cells #[.int .i64 x, .int .i64 y, .int .i64 z] 3)).drew = w') by
    subst hH
    obtain ⟨fp, h1, -, -⟩ := new_lit (enc := ei) W 3 [x, y, z] (by simp [maxLen])
    exact cmpOr _ [x, y, z] _ fp (R1k.drew h1))
  obtain ⟨a1, a2, a3⟩ := a
  obtain ⟨b1, b2, b3⟩ := b
  simp only at HE ⊢
  go_enter Tryz.func71, Tryz.ntmps71
  go_upto_region 1 with (fail)
  have hs : (w.alloc (.cells #[ei a1, ei a2, ei a3] 107)).heap.size = w.heap.size + 1 := by simp
  go_region_held3 (fun w' => w'.cell? ⟨w.heap.size, 0, none⟩ = some (ei a1) ∧ w'.cell? ⟨w.heap.size, 1, none⟩ = some (ei a2) ∧ w'.cell? ⟨w.heap.size, 2, none⟩ = some (ei a3) ∧ w'.cell? ⟨w.heap.size + 1, 0, none⟩ = some (ei b1) ∧ w'.cell? ⟨w.heap.size + 1, 1, none⟩ = some (ei b2) ∧ w'.cell? ⟨w.heap.size + 1, 2, none⟩ = some (ei b3)) (go_keep)
    (first
      | (go_at_call 87; (with_reducible refine (cmpOne _ _ _).mono ?_); rintro e w1 ⟨rfl, rfl⟩)
      | (go_at_call 86; (with_reducible refine (HOR.out _ _ (by simp) _ _ _).mono ?_); rintro e w1 ⟨rfl, rfl⟩))
  go_wp2_with fail
  go_ret
  exact ⟨⟨_, rfl, HE.out⟩, (((Upd.refl _ _).alloc _).alloc _).alloc _ |>.drew⟩

theorem isStateI (st ini : Int) (v1 v2 : Value) (n : Int) (w : World) (h0 : 1 ≤ st) (h1 : st ≤ 40) :
    Calls Tryz.prog 69 #[.agg #[ei st, ei ini, v1, v2], .int .i64 n] w fun e w' => e = .returned (.bool (inB n 0 (st - 1))) ∧ Upd [] w w' := by
  have S1 := Lib.hid (fun W : World => within n 0 (st - 1) W)
  generalize inB n 0 (st - 1) = b at *
  go_enter Tryz.func69, Tryz.ntmps69
  go_wp2_with fail
  refine (S1.out _).mono ?_
  rintro e w1 ⟨rfl, rfl⟩
  clear S1
  go_wp2_with fail
  go_ret
  exact ⟨rfl, (Upd.refl _ _).alloc _⟩

set_option maxRecDepth 20000 in
set_option maxHeartbeats 2000000 in
theorem lessS (a b : Ed) (p o q o2 : Nat) (w : World) (c1 : w.cell? ⟨p, o, none⟩ = some (ei a.fr)) (c2 : w.cell? ⟨p, o + 1, none⟩ = some (ei a.lb)) (c3 : w.cell? ⟨p, o + 2, none⟩ = some (ei a.to))
    (d1 : w.cell? ⟨q, o2, none⟩ = some (ei b.fr)) (d2 : w.cell? ⟨q, o2 + 1, none⟩ = some (ei b.lb)) (d3 : w.cell? ⟨q, o2 + 2, none⟩ = some (ei b.to)) :
    Calls Tryz.prog 80 #[.pointer (some ⟨p, o, none⟩), .pointer (some ⟨q, o2, none⟩)] w fun e w' => e = .returned (.bool (edLt a b)) ∧ Upd [] w w' := by
  obtain ⟨a1, a2, a3⟩ := a
  obtain ⟨b1, b2, b3⟩ := b
  simp only at c1 c2 c3 d1 d2 d3
  have HE := Lib.hid (show edLt ⟨a1, a2, a3⟩ ⟨b1, b2, b3⟩ = if a1 ≠ b1 then decide (a1 < b1) else if a2 ≠ b2 then decide (a2 < b2) else decide (a3 < b3) from rfl)
  by_cases h1 : a1 = b1
  · have g1 : (a1 != b1) = false := by simp [h1]
    have HE2 := Lib.hid (HE.out.trans (if_neg (by simpa using h1)))
    clear HE h1
    by_cases h2 : a2 = b2
    · have g2 : (a2 != b2) = false := by simp [h2]
      have HE3 := Lib.hid (HE2.out.trans (if_neg (by simpa using h2)))
      clear HE2 h2
      go_enter Tryz.func80, Tryz.ntmps80
      go_wp2_with fail
      go_quiet (fail)
      go_wp2_with fail
      go_quiet (fail)
      go_wp2_with fail
      go_quiet (fail)
      go_wp2_with fail
      go_ret
      exact ⟨by rw [HE3.out]; rfl, by simp only [drewN_add]; exact (Upd.refl _ _).drewN _⟩
    · have g2 : (a2 != b2) = true := by simp [h2]
      have HE3 := Lib.hid (HE2.out.trans (if_pos (by simpa using h2)))
      clear HE2 h2
      go_enter Tryz.func80, Tryz.ntmps80
      go_wp2_with fail
      go_quiet (fail)
      go_wp2_with fail
      go_quiet (fail)
      go_wp2_with fail
      go_quiet (fail)
      go_wp2_with fail
      go_ret
      exact ⟨by rw [HE3.out]; rfl, by simp only [drewN_add]; exact (Upd.refl _ _).drewN _⟩
  · have g1 : (a1 != b1) = true := by simp [h1]
    have HE2 := Lib.hid (HE.out.trans (if_pos (by simpa using h1)))
    clear HE h1
    go_enter Tryz.func80, Tryz.ntmps80
    go_wp2_with fail
    go_quiet (fail)
    go_wp2_with fail
    go_quiet (fail)
    go_wp2_with fail
    go_ret
    exact ⟨by rw [HE2.out]; rfl, by simp only [drewN_add]; exact (Upd.refl _ _).drewN _⟩

end Go.Proofs.YtghocakjhfflbaaGreatDoor
