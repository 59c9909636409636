/-
  Texts joined in one file: LabE, LabJ, LabN, LabL, LabM, TrT, EncP, ForP, HarnF, HarnG, DecU, EncC, DecK, DecK2, ForQ, FxP, ForI, FxW, SimP, NdEq, SimI, SimB, ForB, SimC.
-/
import Derived.Test.YtddciieaolaleaaGreatDoorZQ1
import Derived.Test.YtddciieaolaleaaGreatDoorShelf
import Derived.Deep.RegionHeld3
import Derived.Deep.DeepCutAuto
import Derived.IntWalk
import Derived.Laws.Bits64b
import Derived.Laws.StructEq
import Derived.Deep.QuietTactic
import Derived.BigQuiet
import Derived.Deep.RegionLaw
/-
  Numbers in decimal: what the program's calls return.
-/
namespace Go.Proofs.YtddciieaolaleaaGreatDoor
open Go.RowKit

/-- what the calls of the library read of the package's variables. -/
structure Env (w : World) : Prop where
  m : ∃ m : Int, w.cell? ⟨1, 0, none⟩ = some (.int .i64 m)
  tab : Lib.TabIs Tryz.prog w "internal/strconv.uint64pow10" .u64 Lib.pow10Tab
  syn : ∃ tp p, w.var? Tryz.prog "strconv.ErrSyntax" = some #[.iface tp p]
  rng : ∃ tp p, w.var? Tryz.prog "strconv.ErrRange" = some #[.iface tp p]

theorem Upd.var {P : Program} {w w1 : World} {n : String} {cs : Array Value} (hu : Upd [] w w1) (h : w.var? P n = some cs) : w1.var? P n = some cs := by
  unfold World.var? at h ⊢
  cases hg : P.globalNamed n with
  | none => rw [hg] at h; cases h
  | some g =>
    rw [hg] at h
    simp only [Option.bind_some] at h ⊢
    have hlt : g < w.heap.size := by
      rcases Nat.lt_or_ge g w.heap.size with h1 | h1
      · exact h1
      · rw [Array.getElem?_eq_none h1] at h; cases h
    rw [hu.block g hlt (by simp)]
    exact h

theorem Env.upd {w w1 : World} (h : Env w) (hu : Upd [] w w1) : Env w1 :=
  ⟨h.m.imp fun _ hm => hu.keep hm, hu.var h.tab, h.syn.imp fun _ hs => hs.imp fun _ hs => hu.var hs, h.rng.imp fun _ hs => hs.imp fun _ hs => hu.var hs⟩

theorem Upd.grow (w : World) (k : Nat) (os : Array Obj) : Upd [] w (Sort.grow (w.drewN k) os) := by
  refine ⟨rfl, rfl, rfl, ?_, fun i hi _ => ?_⟩
  · show w.heap.size ≤ (w.heap ++ os).size
    rw [Array.size_append]; omega
  · show (w.heap ++ os)[i]? = w.heap[i]?
    rw [Array.getElem?_append_left hi]

theorem decimal (n : Int) (w : World) (h0 : -9223372036854775808 ≤ n) (h1 : n ≤ 9223372036854775807) (he : Env w) :
    Calls Tryz.prog 76 #[.int .i64 n] w fun e w' => e = .returned (es (Lib.itoa n)) ∧ Upd [] w w' := by
  have S1 := Lib.hid (Tryz.strconv_FormatInt_10 n h0 h1 w he.tab)
  clear he h0 h1
  go_enter Tryz.func76, Tryz.ntmps76
  go_wp2_with fail
  refine S1.out.mono ?_
  rintro e w1 ⟨rfl, k, os, rfl⟩
  have HU := Lib.hid (Upd.grow w k os)
  generalize Sort.grow (w.drewN k) os = w1 at *
  clear S1
  go_wp2_with fail
  go_ret
  exact ⟨rfl, HU.out⟩

theorem isActionI (l : List UInt8) (w : World) (hl : l.length ≤ 2000000) :
    Calls Tryz.prog 87 #[es l] w fun e w' => e = .returned (.bool (actF l)) ∧ w = w' := by
  have S1 := Lib.hid (isNameI l w hl)
  cases hn : nameF l with
  | false =>
    have HR := Lib.hid (show actF l = false by simp [actF, hn])
    rw [hn] at S1
    clear hn
    go_enter Tryz.func87, Tryz.ntmps87
    go_wp2_with fail
    refine S1.out.mono ?_
    rintro e w1 ⟨rfl, rfl⟩
    clear S1
    go_wp2_with fail
    go_ret
    exact ⟨by rw [HR.out]; rfl, rfl⟩
  | true =>
    have HR := Lib.hid (show actF l = (l != tauL) by simp [actF, hn])
    rw [hn] at S1
    clear hn
    go_enter Tryz.func87, Tryz.ntmps87
    go_wp2_with fail
    refine S1.out.mono ?_
    rintro e w1 ⟨rfl, rfl⟩
    clear S1
    go_wp2_with fail
    go_ret
    refine ⟨?_, rfl⟩
    rw [HR.out]
    simp [tauL, bne]

theorem parse_range {l : List UInt8} {v : Int} (h : Lib.parseIntB 64 l = .ok v) : -9223372036854775808 ≤ v ∧ v ≤ 9223372036854775807 := by
  unfold Lib.parseIntB at h
  cases l with
  | nil => cases h
  | cons c r =>
    simp only at h
    split at h
    · cases h
    · cases h
    · split at h
      · cases h
      · split at h
        · cases h
        · rename_i h1 h2
          simp only [Lib.NumEnd.ok.injEq] at h
          subst h
          by_cases hc : c.toNat = 45
          · simp only [hc, not_true_eq_false, true_and, false_and, not_false_eq_true] at h1 h2
            simp only [hc, if_true]; omega
          · simp only [hc, not_false_eq_true, true_and, false_and] at h1 h2
            simp only [hc, if_false]; omega

theorem digL_trim (s : List UInt8) : Lib.trimPrefix s [45] = digL s := by
  cases s with
  | nil => rfl
  | cons b r =>
    by_cases hb : b = 45
    · subst hb; simp [Lib.trimPrefix, Lib.hasPrefix, digL, negL, List.isPrefixOf]
    · have h1 : (b == 45) = false := by simpa using hb
      have h2 : ((45 : UInt8) == b) = false := by simpa using fun e => hb e.symm
      simp [Lib.trimPrefix, Lib.hasPrefix, digL, negL, List.isPrefixOf, h1, h2]

def NumV (s : List UInt8) (w : World) (e : Ending) (w' : World) : Prop := e = .returned (.tuple #[.int .i64 ((numF s).getD 0), .bool (numF s).isSome]) ∧ Upd [] w w'

set_option maxRecDepth 20000 in
set_option maxHeartbeats 2000000 in
theorem readDecimalI (s : List UInt8) (w : World) (hl : s.length ≤ 2000000) (he : Env w) : Calls Tryz.prog 120 #[es s] w (NumV s w) := by
  have S1 := Lib.hid (Tryz.strings_TrimPrefix ⟨s.toArray⟩ ⟨#[45]⟩ w)
  have e1 : Lib.trimPrefix (⟨s.toArray⟩ : ByteArray).data.toList (⟨#[45]⟩ : ByteArray).data.toList = digL s := digL_trim s
  rw [e1] at S1
  clear e1
  have hdl : (digL s).length ≤ s.length := by
    unfold digL; split <;> simp
  by_cases hlen : 18 < (digL s).length
  · have HR := Lib.hid (show numF s = none by unfold numF; rw [if_pos (Or.inr (Or.inl hlen))])
    generalize digL s = d at *
    have g1 : (18 : Int) < (d.length : Int) := by omega
    clear hlen he
    go_enter Tryz.func120, Tryz.ntmps120
    go_wp2_with fail
    refine S1.out.mono ?_
    rintro e w1 ⟨rfl, rfl⟩
    clear S1
    go_wp2_with fail
    go_ret2
    exact ⟨by rw [HR.out]; rfl, Upd.refl _ _⟩
  · have hsz : (⟨s.toArray⟩ : ByteArray).size = s.length := rfl
    rcases hp : Lib.parseIntB 64 s with v | _ | _
    rotate_left
    · skip
      have HR := Lib.hid (show numF s = none by
        cases hn : numF s with
        | none => rfl
        | some n =>
          obtain ⟨a, -, b⟩ := numF_some hn
          rw [a, parse_itoa n b] at hp; cases hp)
      obtain ⟨tp, p, hsyn⟩ := he.syn
      have S2 := Lib.hid (Tryz.strconv_ParseInt_10_at64_syntax_var ⟨s.toArray⟩ (by rw [hsz]; omega) hp tp p w hsyn)
      clear hsyn hp hsz he
      generalize digL s = d at *
      have g1 : ¬ (18 : Int) < (d.length : Int) := by omega
      clear hlen
      go_enter Tryz.func120, Tryz.ntmps120
      go_wp2_with fail
      refine S1.out.mono ?_
      rintro e w1 ⟨rfl, rfl⟩
      clear S1
      go_wp2_with fail
      refine S2.out.mono ?_
      rintro e w1 ⟨N, rfl, -, -, hb⟩
      have HU := Lib.hid (Upd.ofBelow hb)
      clear S2 hb
      go_wp2_with fail
      go_ret2
      exact ⟨by rw [HR.out]; rfl, HU.out⟩
    · skip
      have HR := Lib.hid (show numF s = none by
        cases hn : numF s with
        | none => rfl
        | some n =>
          obtain ⟨a, -, b⟩ := numF_some hn
          rw [a, parse_itoa n b] at hp; cases hp)
      obtain ⟨tp, p, hsyn⟩ := he.rng
      have S2 := Lib.hid (Tryz.strconv_ParseInt_10_at64_range_var ⟨s.toArray⟩ (by rw [hsz]; omega) hp tp p w hsyn)
      clear hsyn hp hsz he
      generalize digL s = d at *
      have g1 : ¬ (18 : Int) < (d.length : Int) := by omega
      clear hlen
      go_enter Tryz.func120, Tryz.ntmps120
      go_wp2_with fail
      refine S1.out.mono ?_
      rintro e w1 ⟨rfl, rfl⟩
      clear S1
      go_wp2_with fail
      refine S2.out.mono ?_
      rintro e w1 ⟨N, rfl, -, -, hb⟩
      have HU := Lib.hid (Upd.ofBelow hb)
      clear S2 hb
      go_wp2_with fail
      go_ret2
      exact ⟨by rw [HR.out]; rfl, HU.out⟩
    · skip
      obtain ⟨v0, v1⟩ := parse_range hp
      have S2 := Lib.hid (Tryz.strconv_ParseInt_10_at64_ok ⟨s.toArray⟩ (by rw [hsz]; omega) v hp w)
      have HR := Lib.hid (show numF s = if Lib.itoa v = s then some v else none by
        split
        · rename_i h
          rw [← h]; exact numF_itoa v (by rw [h]; omega)
        · rename_i h
          cases hn : numF s with
          | none => rfl
          | some n =>
            exfalso
            obtain ⟨a, -, b⟩ := numF_some hn
            rw [a, parse_itoa n b] at hp
            cases hp
            exact h a.symm)
      have S3 := Lib.hid (fun w1 (hu : Upd [] w w1) => decimal v w1 v0 v1 (he.upd hu))
      clear hp hsz he
      generalize digL s = d at *
      have g1 : ¬ (18 : Int) < (d.length : Int) := by omega
      clear hlen
      go_enter Tryz.func120, Tryz.ntmps120
      go_wp2_with fail
      refine S1.out.mono ?_
      rintro e wa ⟨rfl, rfl⟩
      clear S1
      go_wp2_with fail
      refine S2.out.mono ?_
      rintro e w1 ⟨rfl, hw⟩
      have hu : Upd [] wa w1 := by
        rcases hw with rfl | ⟨t, rfl⟩
        · exact Upd.refl _ _
        · exact Upd.ofBelow (Lib.bytesWorld_below _ _ _)
      have S4 := Lib.hid (S3.out w1 hu)
      have HU := Lib.hid hu
      clear S2 S3 hw hu
      go_wp2_with fail
      refine S4.out.mono ?_
      rintro e w2 ⟨rfl, hu2⟩
      have HU2 := Lib.hid (HU.out.trans hu2)
      clear S4 HU hu2
      by_cases heq : Lib.itoa v = s
      · have HR2 := Lib.hid (HR.out.trans (if_pos heq))
        rw [heq]
        clear HR heq
        go_wp2_with fail
        go_ret2
        exact ⟨by rw [HR2.out]; rfl, HU2.out⟩
      · have HR2 := Lib.hid (HR.out.trans (if_neg heq))
        clear HR
        generalize Lib.itoa v = A at *
        have hne : (A == s) = false := by simpa using heq
        go_wp2_with fail
        go_ret2
        exact ⟨by rw [HR2.out]; rfl, HU2.out⟩

end Go.Proofs.YtddciieaolaleaaGreatDoor

/-
  Labels made: what the program's calls return.
-/
namespace Go.Proofs.YtddciieaolaleaaGreatDoor
open Go.RowKit

set_option maxRecDepth 20000 in
set_option maxHeartbeats 4000000 in
theorem joinedI (v : Value) (xs : List Int) (w : World) (fp : List Nat) (hR : R1 fp w [v] xs) (h0 : 0 < xs.length) (hl : xs.length ≤ 1000000)
    (hv : ∀ x ∈ xs, (-9223372036854775808 ≤ x ∧ x ≤ 9223372036854775807) ∧ (Lib.itoa x).length ≤ 30) (he : Env w) :
    Calls Tryz.prog 124 #[v, es [44]] w fun e w' => e = .returned (es (txtV xs)) ∧ Upd [] w w' := by
  obtain ⟨i0, hi, hz0, hz1, hz2⟩ := info_parts Tryz.info9
  obtain ⟨a, cap, rfl, h1, h2, -⟩ := slF1_open hR
  unfold maxLen at h2
  have HR := Lib.hid hR
  have HV := Lib.hid hv
  have HE := Lib.hid he
  have hm2 : i0.bytes * xs.length ≤ 281474976710656 := by rw [hz2]; omega
  clear hR hv he
  go_enter Tryz.func124, Tryz.ntmps124
  go_wp2_with (first
    | (at_make; refine wpList_make_full _ rfl _ _ 68 rfl w.heap.size 9 i0 (es []) 1 Tryz.underlying68 hi hz0 hz1 .i64 .i64 _ _ xs.length rfl rfl rfl rfl hm2 (by unfold maxLen; omega) (Nat.le_refl _) ?_; intro w2 hrow hgrow)
    | fail)
  rw [made_one _ rfl] at hrow
  have hU : Upd [] w w2 := (Upd.refl _ _).grown hgrow (by simp)
  obtain ⟨fo, ho1, ho2, ho3⟩ := New.ofOwns (w := w) (e := 9) (enc := es) (xs := List.replicate xs.length ([] : List UInt8)) (by simpa using hrow)
  have HST := Lib.hid (And.intro (show RS fo w2 [.slice (some ⟨w.heap.size, 0, none⟩) xs.length xs.length] ((xs.take 0).map Lib.itoa ++ List.replicate (xs.length - 0) []) from by simpa using ho1) ho2)
  clear hrow hgrow ho1 ho2 ho3 hm2
  go_wp2_with fail
  go_loopw [13] (fun i wr => ∃ k : Nat, k ≤ xs.length ∧ i = .int .i64 k ∧ Upd [] w wr ∧ RS fo wr [.slice (some ⟨w.heap.size, 0, none⟩) xs.length xs.length] ((xs.take k).map Lib.itoa ++ List.replicate (xs.length - k) []) ∧ Own fo wr) (fun i _ => xs.length - (intOf i).toNat)
  case atStart => exact ⟨0, Nat.zero_le _, rfl, hU, HST.out.1, HST.out.2⟩
  case round =>
    clear HST hU
    obtain ⟨k, hk, rfl, hU, ho1, ho2⟩ := hrel
    by_cases hlt : k < xs.length
    · obtain ⟨a', cap', hv, -, -, hc⟩ := slF1_open (R1k.upd HR.out hU (by simp))
      cases hv
      obtain ⟨b1, o1, rfl, -, -, p1⟩ := hc k hlt
      have hset := set_fill Lib.itoa [] xs k hlt
      obtain ⟨⟨x0, x1⟩, -⟩ := HV.out xs[k] (List.getElem_mem hlt)
      have hlen : ((xs.take k).map Lib.itoa ++ List.replicate (xs.length - k) ([] : List UInt8)).length = xs.length := by simp; omega
      have HL := Lib.hid hlen
      have HS := Lib.hid hset
      have HU := Lib.hid hU
      have HO := Lib.hid (And.intro ho1 ho2)
      generalize xs[k] = x at *
      have S1 := Lib.hid (decimal x wr x0 x1 (HE.out.upd hU))
      clear hc hset hlen hU ho1 ho2
      go_wp2_with fail
      refine S1.out.mono ?_
      rintro e w3 ⟨rfl, hu3⟩
      obtain ⟨hbl, hcl0, hfz, hos⟩ := rowCellS (RSk.upd HO.out.1 hu3 (by simp)) (HO.out.2.upd hu3 (by simp)) HL.out k hlt
      have hos := hos (Lib.itoa x)
      rw [HS.out] at hos
      obtain ⟨z0, hz0'⟩ : ∃ z0 : List UInt8, w3.cell? ⟨w.heap.size, k, none⟩ = some (es z0) := ⟨_, hcl0⟩
      clear hcl0
      have HP := Lib.hid (And.intro hos (HU.out.trans hu3))
      clear S1 hos HO HU hu3 HS HL
      generalize Lib.itoa x = A at *
      go_wp2_with fail
      go_roundw
      case rel => exact ⟨k + 1, by omega, by go_num, HP.out.2.setCell (Or.inl (Nat.le_refl _)) _, HP.out.1.1, HP.out.1.2⟩
      case measure => simp [intOf]; omega
    · obtain rfl : k = xs.length := by omega
      obtain ⟨ps, hps⟩ : ∃ ps, ps = xs.map Lib.itoa := ⟨_, rfl⟩
      have hpl : ps.length = xs.length := by rw [hps]; simp
      have ho3 : RS fo wr [.slice (some ⟨w.heap.size, 0, none⟩) xs.length xs.length] ps := by rw [hps]; simpa using ho1
      obtain ⟨a', cap', hv, -, hc2, hc⟩ := slF1_open ho3
      simp only [Value.slice.injEq] at hv
      obtain ⟨rfl, -, rfl⟩ := hv
      have hle : (joinC 44 ps).length ≤ ps.length * (30 + 1) := joinC_le 44 30 ps (fun p hp => by
        rw [hps] at hp
        obtain ⟨x, hx, rfl⟩ := List.mem_map.1 hp
        exact (HV.out x hx).2)
      have hbk : w.heap.size < wr.heap.size := by
        obtain ⟨b, off, hb, -, hbl, -⟩ := hc 0 (by omega)
        cases hb; exact hbl
      have hmm : (ps.map (fun p => (⟨p.toArray⟩ : ByteArray))).map (fun b => b.data.toList) = ps := by
        rw [List.map_map]; exact (List.map_congr_left (fun p _ => rfl)).trans (List.map_id _)
      have hj : Lib.join ((ps.map (fun p => (⟨p.toArray⟩ : ByteArray))).map (fun b => b.data.toList)) (⟨#[44]⟩ : ByteArray).data.toList = joinC 44 ps := by
        rw [hmm]; exact join_lib 44 ps
      have S0 := Tryz.strings_Join w.heap.size 0 xs.length (ps.map (fun p => (⟨p.toArray⟩ : ByteArray))) ⟨#[44]⟩ wr (fun j x hx => by
        obtain ⟨hj1, rfl⟩ := List.getElem?_eq_some_iff.1 hx
        have hj2 : j < ps.length := by simpa using hj1
        obtain ⟨b, off, hb, -, -, hcl⟩ := hc j hj2
        cases hb
        rw [hcl]
        simp [es]) hbk (by simp; omega) (by simp; omega) (by rw [hj]; omega)
      rw [hj] at S0
      simp only [List.length_map, hpl] at S0
      have S1 := Lib.hid S0
      have HX := Lib.hid (show joinC 44 ps = txtV xs by rw [hps, txtV])
      have HU := Lib.hid hU
      clear hj hmm hle hc hc2 ho3 ho1 ho2 hps hU S0 HV HE HR
      generalize joinC 44 ps = J at *
      go_wp2_with fail
      refine S1.out.mono ?_
      rintro e w3 ⟨rfl, hb3⟩
      have HP := Lib.hid (HU.out.trans (Upd.ofBelow hb3))
      clear S1 hb3 HU
      go_wp2_with fail
      go_ret
      exact ⟨by rw [← HX.out]; rfl, HP.out⟩

end Go.Proofs.YtddciieaolaleaaGreatDoor

/-
  Words read as numbers.
-/
namespace Go.Proofs.YtddciieaolaleaaGreatDoor
open Go.RowKit

def NumsV (ps : List (List UInt8)) (w : World) (e : Ending) (w' : World) : Prop :=
  (∃ v', e = .returned (.tuple #[v', .bool (numsF ps).isSome]) ∧ New R1 w w' v' ((numsF ps).getD [])) ∧ Upd [] w w'

set_option maxRecDepth 20000 in
set_option maxHeartbeats 4000000 in
theorem readNumbersI (v : Value) (ps : List (List UInt8)) (w : World) (fp : List Nat) (hR : slF 1 (fun s => [es s]) fp w [v] ps) (hl : ps.length ≤ 2000001) (hp : ∀ p ∈ ps, p.length ≤ 2000000) (he : Env w) :
    Calls Tryz.prog 110 #[v] w (NumsV ps w) := by
  obtain ⟨i1, ki, kz0, kz1, kz2⟩ := info_parts Tryz.info2
  obtain ⟨a, cap, rfl, h1, h2, -⟩ := slF1_open hR
  unfold maxLen at h2
  have hlit := World.ownsRow_nil w w.heap.size 2 1
  have HLIT := Lib.hid hlit
  have HR := Lib.hid hR
  have HP := Lib.hid hp
  have HE := Lib.hid he
  clear hR hp he hlit
  go_enter Tryz.func110, Tryz.ntmps110
  go_wp2_with fail
  go_loopw [4, 11] (fun ov i wr => ∃ (k : Nat) (ns : List Int), k ≤ ps.length ∧ i = .int .i64 k ∧ ns.length = k ∧ Hid (numsF ps = (numsF (ps.drop k)).map (ns ++ ·)) ∧ Hid (wr.ownsRow w.heap.size 2 1 ov k (ns.map ei)) ∧ Upd [] w wr) (fun _ i _ => ps.length - (intOf i).toNat)
  case atStart => exact ⟨0, [], by omega, rfl, rfl, Lib.hid (by simp), HLIT, Upd.refl _ _⟩
  case round =>
    clear HLIT
    obtain ⟨k, ns, hk, rfl, hnl, hF, hown, hU⟩ := hrel
    have HNL := Lib.hid hnl
    clear hnl
    by_cases hlt : k < ps.length
    · obtain ⟨a', cap', hv, -, -, hc⟩ := slF1_open ((slF_kept _ _).upd HR.out hU (by simp))
      cases hv
      obtain ⟨b1, o1, rfl, -, -, p1⟩ := hc k hlt
      have hF1 := hF.out
      rw [List.drop_eq_getElem_cons hlt, numsF_cons] at hF1
      have hpk := HP.out ps[k] (List.getElem_mem hlt)
      have HF := Lib.hid hF1
      have HU := Lib.hid hU
      clear hF1 hF hc
      generalize ps[k] = s at *
      have S1 := Lib.hid (readDecimalI s wr hpk (HE.out.upd hU))
      clear hU
      go_wp2_with fail
      refine S1.out.mono ?_
      rintro e w3 ⟨rfl, hu3⟩
      have HU3 := Lib.hid (HU.out.trans hu3)
      have hown3 := ownsRow_upd hown.out hu3
      have hsz3 := HU3.out.size
      clear S1 HU hu3 hown
      cases hn : numF s with
      | none =>
        rw [hn] at HF
        have HN := Lib.hid (show numsF ps = none from HF.out)
        clear HF hown3
        go_wp2_with fail
        go_ret2
        exact ⟨⟨_, by rw [HN.out]; rfl, by rw [HN.out]; exact new_nil _ _⟩, HU3.out⟩
      | some x =>
        rw [hn] at HF
        have HN := Lib.hid (show numsF ps = (numsF (ps.drop (k + 1))).map ((ns ++ [x]) ++ ·) by
          rw [HF.out]
          simp [Function.comp_def])
        clear HF
        simp only [Option.getD_some, Option.isSome_some]
        go_wp2_with (first
          | (at_builtin; refine wpList_append_tight _ rfl _ _ 69 rfl w.heap.size 2 i1 (.int .i64 0) 1 8 Tryz.underlying69 ki kz0 kz1 kz2 rfl (by decide) _ _ _ rfl (hown3.alloc _) ⟨w3.heap.size, 0, none⟩ 1 1 [ei x] rfl rfl (fun j u hj => by rw [addr_add]; exact cell_new w3 #[ei x] _ _ rfl _ _ (by simpa using hj)) (by simp [Value.oneCell']) (by unfold maxLen; omega) (by omega) (by simp; omega) ?_)
          | fail)
        intro v4 w4 hown4 hg4 ht4
        have hu4 : Upd [] w w4 := (HU3.out.alloc _).grown hg4 (fun b hb => Or.inl (by have := (hown3.lt b hb).1; omega))
        have HQ := Lib.hid (And.intro hown4 hu4)
        clear hown4 hg4 ht4 hu4 hown3
        go_wp2_with fail
        go_roundw
        case rel => exact ⟨k + 1, ns ++ [x], by omega, by go_num, by simp [HNL.out], HN, Lib.hid (by simpa using HQ.out.1), HQ.out.2⟩
        case measure => simp [intOf]; omega
    · obtain rfl : k = ps.length := by omega
      have hF1 := hF.out
      rw [List.drop_of_length_le (Nat.le_refl _)] at hF1
      have HN := Lib.hid (show numsF ps = some ns by rw [hF1]; simp [numsF])
      have HQ := Lib.hid (And.intro (New.ofOwns (w := w) (e := 2) (enc := ei) (xs := ns) (by rw [HNL.out]; exact hown.out)) hU)
      clear hown hU hF hF1
      go_wp2_with fail
      go_ret2
      exact ⟨⟨_, by rw [HN.out]; rfl, by rw [HN.out]; exact HQ.out.1⟩, HQ.out.2⟩

end Go.Proofs.YtddciieaolaleaaGreatDoor

/-
  Labels made and read: what the program's calls return.
-/
namespace Go.Proofs.YtddciieaolaleaaGreatDoor
open Go.RowKit

def LabV (name : List UInt8) (xs : List Int) (w : World) (e : Ending) (w' : World) : Prop :=
  (∃ t : List UInt8, e = .returned (.tuple #[es t, .bool (labT name xs).isSome]) ∧ Hid (∀ s, labT name xs = some s → t = s)) ∧ Upd [] w w'

theorem isV_itoa {x : Int} (h : isV x = true) : (-9223372036854775808 ≤ x ∧ x ≤ 9223372036854775807) ∧ (Lib.itoa x).length ≤ 30 := by
  have hb := inB_true h
  have h1 := itoa_len64 h
  have h2 : (Lib.itoa x).length ≤ (digL (Lib.itoa x)).length + 1 := by unfold digL; split <;> simp <;> omega
  omega

theorem labT_no {name : List UInt8} {xs : List Int} (ht : name ≠ tauL) (h : (actF name && decide (xs.length ≤ 2) && xs.all isV) = false) : labT name xs = none := by
  unfold labT; rw [if_neg ht, h]; rfl
theorem labT_yes {name : List UInt8} {xs : List Int} (ht : name ≠ tauL) (h : (actF name && decide (xs.length ≤ 2) && xs.all isV) = true) : labT name xs = some (if xs = [] then name else ((name ++ [40]) ++ txtV xs) ++ [41]) := by
  unfold labT; rw [if_neg ht, if_pos h]

set_option maxRecDepth 20000 in
set_option maxHeartbeats 4000000 in
theorem labelOfI (name : List UInt8) (v : Value) (xs : List Int) (w : World) (fp : List Nat) (hn : name.length ≤ 2000000) (hR : R1 fp w [v] xs) (he : Env w) :
    Calls Tryz.prog 113 #[es name, v] w (LabV name xs w) := by
  obtain ⟨a, cap, rfl, h1, h2, -⟩ := slF1_open hR
  unfold maxLen at h2
  by_cases htau : name = tauL
  · have HT := Lib.hid (show labT name xs = if xs = [] then some tauL else none by unfold labT; rw [if_pos htau])
    have e1 : es name = .string ⟨#[116, 97, 117]⟩ := by rw [htau]; rfl
    rw [e1]
    clear hR he e1 htau
    cases xs with
    | nil =>
      go_enter Tryz.func113, Tryz.ntmps113
      go_wp2_with fail
      go_ret2
      exact ⟨⟨tauL, by rw [HT.out]; rfl, Lib.hid (fun s hs => by rw [HT.out] at hs; simpa using hs)⟩, Upd.refl _ _⟩
    | cons x xs =>
      have g0 : ¬ (((x :: xs).length : Int) = 0) := by simp; omega
      have HT2 := Lib.hid (show labT name (x :: xs) = none by rw [HT.out]; rfl)
      clear HT
      generalize x :: xs = ys at *
      have g1 : ((ys.length : Int) == 0) = false := by simpa using g0
      go_enter Tryz.func113, Tryz.ntmps113
      go_wp2_with fail
      go_ret2
      exact ⟨⟨tauL, by rw [HT2.out]; first | rfl | (simp [tauL, g1, es]), Lib.hid (fun s hs => by rw [HT2.out] at hs; cases hs)⟩, Upd.refl _ _⟩
  · have g0 : (name == [116, 97, 117]) = false := by simpa [tauL] using htau
    have HTAU := Lib.hid htau
    have S1 := Lib.hid (isActionI name w hn)
    cases ha : actF name with
    | false =>
      have HT := Lib.hid (labT_no (xs := xs) htau (by rw [ha]; rfl))
      rw [ha] at S1
      clear hR he htau ha
      go_enter Tryz.func113, Tryz.ntmps113
      go_wp2_with fail
      refine S1.out.mono ?_
      rintro e w1 ⟨rfl, rfl⟩
      clear S1
      go_wp2_with fail
      go_ret2
      exact ⟨⟨[], by rw [HT.out]; rfl, Lib.hid (fun s hs => by rw [HT.out] at hs; cases hs)⟩, Upd.refl _ _⟩
    | true =>
      rw [ha] at S1
      by_cases hlen : xs.length ≤ 2
      · have g3 : ¬ ((2 : Int) < (xs.length : Int)) := by omega
        have S2 := Lib.hid (areValues _ xs w fp hR)
        cases hv : xs.all isV with
        | false =>
          have HT := Lib.hid (labT_no (xs := xs) htau (by rw [hv]; simp))
          rw [hv] at S2
          clear hR he htau ha hv hlen
          go_enter Tryz.func113, Tryz.ntmps113
          go_wp2_with fail
          refine S1.out.mono ?_
          rintro e w1 ⟨rfl, rfl⟩
          clear S1
          go_wp2_with fail
          refine S2.out.mono ?_
          rintro e w1 ⟨rfl, rfl⟩
          clear S2
          go_wp2_with fail
          go_ret2
          exact ⟨⟨[], by rw [HT.out]; rfl, Lib.hid (fun s hs => by rw [HT.out] at hs; cases hs)⟩, Upd.refl _ _⟩
        | true =>
          have HT := Lib.hid (labT_yes (xs := xs) htau (by rw [ha, hv, decide_eq_true hlen]; rfl))
          rw [hv] at S2
          by_cases h0 : xs = []
          · have HT2 := Lib.hid (HT.out.trans (by rw [if_pos h0]))
            have g4 : ((xs.length : Int) == 0) = true := by rw [h0]; rfl
            clear hR he htau ha hv hlen h0 HT
            go_enter Tryz.func113, Tryz.ntmps113
            go_wp2_with fail
            refine S1.out.mono ?_
            rintro e w1 ⟨rfl, rfl⟩
            clear S1
            go_wp2_with fail
            refine S2.out.mono ?_
            rintro e w1 ⟨rfl, rfl⟩
            clear S2
            go_wp2_with fail
            go_ret2
            exact ⟨⟨name, by rw [HT2.out]; rfl, Lib.hid (fun s hs => by rw [HT2.out] at hs; simpa using hs)⟩, Upd.refl _ _⟩
          · have HT2 := Lib.hid (HT.out.trans (by rw [if_neg h0]))
            have hpos : 0 < xs.length := List.length_pos_iff.2 h0
            have g4 : ((xs.length : Int) == 0) = false := by simp; omega
            have S3 := Lib.hid (joinedI _ xs w fp hR hpos (by omega) (fun x hx => isV_itoa (List.all_eq_true.1 hv x hx)) he)
            have hjl : (txtV xs).length ≤ 2 * 31 := by
              refine Nat.le_trans (joinC_le 44 30 (xs.map Lib.itoa) (fun p hp => ?_)) ?_
              · obtain ⟨x, hx, rfl⟩ := List.mem_map.1 hp
                exact (isV_itoa (List.all_eq_true.1 hv x hx)).2
              · rw [List.length_map]; omega
            clear hR he htau ha hv hlen h0 HT
            generalize txtV xs = J at *
            go_enter Tryz.func113, Tryz.ntmps113
            go_wp2_with fail
            refine S1.out.mono ?_
            rintro e w1 ⟨rfl, rfl⟩
            clear S1
            go_wp2_with fail
            refine S2.out.mono ?_
            rintro e w1 ⟨rfl, rfl⟩
            clear S2
            go_wp2_with fail
            refine S3.out.mono ?_
            rintro e w3 ⟨rfl, hu3⟩
            have HU := Lib.hid hu3
            clear S3 hu3
            go_wp2_with fail
            go_ret2
            exact ⟨⟨_, by rw [HT2.out]; rfl, Lib.hid (fun s hs => by rw [HT2.out] at hs; simpa using hs)⟩, HU.out⟩
      · have g3 : (2 : Int) < (xs.length : Int) := by omega
        have HT := Lib.hid (labT_no (xs := xs) htau (by rw [decide_eq_false hlen]; simp))
        clear hR he htau ha hlen
        go_enter Tryz.func113, Tryz.ntmps113
        go_wp2_with fail
        refine S1.out.mono ?_
        rintro e w1 ⟨rfl, rfl⟩
        clear S1
        go_wp2_with fail
        go_ret2
        exact ⟨⟨[], by rw [HT.out]; rfl, Lib.hid (fun s hs => by rw [HT.out] at hs; cases hs)⟩, Upd.refl _ _⟩

end Go.Proofs.YtddciieaolaleaaGreatDoor

/-
  Labels read: what the program's calls return.
-/
namespace Go.Proofs.YtddciieaolaleaaGreatDoor
open Go.RowKit

theorem es_bytes (b : ByteArray) : es b.data.toList = .string b := by simp [es]

theorem splitC_len (c : UInt8) : ∀ l : List UInt8, (splitC c l).length ≤ l.length + 1 ∧ ∀ p ∈ splitC c l, p.length ≤ l.length
  | [] => by simp [splitC]
  | b :: l => by
    obtain ⟨h1, h2⟩ := splitC_len c l
    by_cases hb : b = c
    · subst hb
      have e : splitC b (b :: l) = [] :: splitC b l := by rw [splitC, if_pos rfl]
      rw [e]
      refine ⟨by simp; omega, fun p hp => ?_⟩
      rcases List.mem_cons.1 hp with rfl | hp
      · simp
      · have := h2 p hp; simp; omega
    · obtain ⟨p, ps, e1, e2⟩ := splitC_cons c b l hb
      rw [e2]
      rw [e1] at h1 h2
      refine ⟨by simp at h1 ⊢; omega, fun q hq => ?_⟩
      rcases List.mem_cons.1 hq with rfl | hq
      · have := h2 p (by simp); simp; omega
      · have := h2 q (by simp [hq]); simp; omega

theorem cut_len (s sep : List UInt8) : (Lib.cut s sep).1.length ≤ s.length ∧ (Lib.cut s sep).2.1.length ≤ s.length := by
  unfold Lib.cut
  split <;> simp <;> omega
theorem trim_len (s p : List UInt8) : (Lib.trimSuffix s p).length ≤ s.length := by
  unfold Lib.trimSuffix
  split <;> simp <;> omega
theorem cut_false {s : List UInt8} (h : (Lib.cut s [40]).2.2 = false) : Lib.cut s [40] = (s, [], false) := by
  unfold Lib.cut at h ⊢
  split at h
  · cases h
  · rename_i h1; rw [if_neg h1]

theorem cutI (l : List UInt8) (w : World) (hl : l.length ≤ 2000000) (he : Env w) :
    Calls Tryz.prog 109 #[es l, .string ⟨#[40]⟩] w fun e w' => e = .returned (.tuple #[es (Lib.cut l [40]).1, es (Lib.cut l [40]).2.1, .bool (Lib.cut l [40]).2.2]) ∧ Upd [] w w' := by
  obtain ⟨m, hm⟩ := he.m
  have hsz : (⟨l.toArray⟩ : ByteArray).size = l.length := rfl
  refine (Tryz.strings_Cut ⟨l.toArray⟩ ⟨#[40]⟩ m w (by rw [hsz]; omega) hm).mono ?_
  rintro e w1 ⟨rfl, n, rfl⟩
  exact ⟨rfl, (Upd.refl _ _).drewN n⟩

theorem trimI (l : List UInt8) (w : World) (hl : l.length ≤ 2000000) :
    Calls Tryz.prog 112 #[es l, .string ⟨#[41]⟩] w fun e w' => e = .returned (es (Lib.trimSuffix l [41])) ∧ w' = w := by
  have hsz : (⟨l.toArray⟩ : ByteArray).size = l.length := rfl
  exact (Tryz.strings_TrimSuffix ⟨l.toArray⟩ ⟨#[41]⟩ w (by rw [hsz]; omega)).mono (fun e w1 h => h)

theorem splitI (l : List UInt8) (w : World) (hl : l.length ≤ 2000000) (he : Env w) :
    Calls Tryz.prog 111 #[es l, .string ⟨#[44]⟩] w fun e w' => (∃ v', e = .returned v' ∧ New RS w w' v' (splitC 44 l)) ∧ Upd [] w w' := by
  obtain ⟨m, hm⟩ := he.m
  have hsz : (⟨l.toArray⟩ : ByteArray).size = l.length := rfl
  have hlen := Lib.splitB_all ⟨#[44]⟩ (by decide) 0 (Lib.countB ⟨l.toArray⟩ ⟨#[44]⟩) ⟨l.toArray⟩ rfl
  have hdat : (Lib.splitB ⟨#[44]⟩ 0 (Lib.countB ⟨l.toArray⟩ ⟨#[44]⟩) ⟨l.toArray⟩).map (·.data.toList) = splitC 44 l := by
    rw [Lib.splitB_data]; exact split_lib 44 l
  refine (Tryz.strings_Split ⟨l.toArray⟩ ⟨#[44]⟩ m w (by rw [hsz]; omega) hm (by decide)).mono ?_
  rintro e w1 ⟨rfl, rfl⟩
  generalize Lib.splitB ⟨#[44]⟩ 0 (Lib.countB ⟨l.toArray⟩ ⟨#[44]⟩) ⟨l.toArray⟩ = bs at *
  generalize Lib.countB ⟨l.toArray⟩ ⟨#[44]⟩ = n at *
  have hsp := (splitC_len 44 l).1
  have hmap : bs.map Value.string = (splitC 44 l).map es := by
    rw [← hdat, List.map_map]
    exact List.map_congr_left (fun b _ => (es_bytes b).symm)
  have hn : n + 1 = (splitC 44 l).length := by rw [← hdat, List.length_map, hlen]
  rw [hmap, hn]
  exact ⟨⟨_, rfl, new_lit (enc := es) w 9 (splitC 44 l) (by unfold maxLen; omega)⟩, (Upd.refl _ _).alloc _⟩

def ReadV (s : List UInt8) (w : World) (e : Ending) (w' : World) : Prop :=
  (∃ (n : List UInt8) (v' : Value) (vs : List Int), e = .returned (.tuple #[es n, v', .bool (readF s).isSome]) ∧ New R1 w w' v' vs ∧ (readF s).getD ([], []) = (n, vs)) ∧ Upd [] w w'

set_option maxRecDepth 20000 in
set_option maxHeartbeats 4000000 in
theorem readLabelI (s : List UInt8) (w : World) (hl : s.length ≤ 2000000) (he : Env w) : Calls Tryz.prog 99 #[es s] w (ReadV s w) := by
  have S1 := Lib.hid (cutI s w hl he)
  obtain ⟨hc1, hc2⟩ := cut_len s [40]
  have HE := Lib.hid he
  clear he
  cases hm : (Lib.cut s [40]).2.2 with
  | false =>
    have hcf := cut_false hm
    have HF := Lib.hid (show readF s = if labT s [] = some s then some (s, []) else none by unfold readF; rw [hm]; rfl)
    rw [hcf] at S1
    clear hm hcf hc1 hc2
    go_enter Tryz.func99, Tryz.ntmps99
    go_wp2_with fail
    refine S1.out.mono ?_
    rintro e w1 ⟨rfl, hu1⟩
    obtain ⟨f0, hR0, hO0, hG0⟩ := new_nil w w1
    have S4 := Lib.hid (labelOfI s (.slice none 0 0) [] w1 f0 hl hR0 (HE.out.upd hu1))
    have HU1 := Lib.hid hu1
    have HN := Lib.hid (show New R1 w w1 (.slice none 0 0) [] from ⟨f0, hR0, hO0, hG0⟩)
    clear S1 hu1 hR0 hO0 hG0
    go_wp2_with fail
    refine S4.out.mono ?_
    rintro e w4 ⟨⟨t, rfl, ht⟩, hu4⟩
    have HU := Lib.hid (HU1.out.trans hu4)
    have HN4 := Lib.hid (R1k.new HN.out hu4 (by simp))
    clear S4 HU1 HN hu4
    cases hL : labT s [] with
    | none =>
      have HR := Lib.hid (show readF s = none by rw [HF.out, hL]; rfl)
      clear HF ht hL
      go_wp2_with fail
      go_ret3
      exact ⟨⟨[], _, [], by rw [HR.out]; rfl, new_nil _ _, by rw [HR.out]; rfl⟩, HU.out⟩
    | some s' =>
      obtain rfl := ht.out s' hL
      by_cases heq : t = s
      · have HR := Lib.hid (show readF s = some (s, []) by rw [HF.out, hL, if_pos (by rw [heq])])
        clear HF hL
        subst heq
        clear ht
        go_wp2_with fail
        go_ret3
        exact ⟨⟨t, _, [], by rw [HR.out]; rfl, HN4.out, by rw [HR.out]; rfl⟩, HU.out⟩
      · have HR := Lib.hid (show readF s = none by rw [HF.out, hL, if_neg (by simpa using heq)])
        have hne : (t == s) = false := by simpa using heq
        clear HF ht hL
        go_wp2_with fail
        go_ret3
        exact ⟨⟨[], _, [], by rw [HR.out]; rfl, new_nil _ _, by rw [HR.out]; rfl⟩, HU.out⟩
  | true =>
    have HF := Lib.hid (show readF s = match numsF (splitC 44 (Lib.trimSuffix (Lib.cut s [40]).2.1 [41])) with
      | none => none
      | some vs => if labT (Lib.cut s [40]).1 vs = some s then some ((Lib.cut s [40]).1, vs) else none by unfold readF; rw [hm]; rfl)
    rw [hm] at S1
    clear hm
    generalize (Lib.cut s [40]).1 = nm at *
    generalize (Lib.cut s [40]).2.1 = rest at *
    have htl := trim_len rest [41]
    have hnm : nm.length ≤ 2000000 := by omega
    have S2 := Lib.hid (fun w1 : World => trimI rest w1 (by omega))
    generalize Lib.trimSuffix rest [41] = r2 at *
    obtain ⟨hp1, hp2⟩ := splitC_len 44 r2
    have S3 := Lib.hid (fun (w1 : World) (hu : Upd [] w w1) => splitI r2 w1 (by omega) (HE.out.upd hu))
    generalize splitC 44 r2 = ps at *
    have HPL := Lib.hid (show ∀ p ∈ ps, p.length ≤ 2000000 from fun p hp => by have := hp2 p hp; omega)
    have hpl : ps.length ≤ 2000001 := by omega
    clear hp1 hp2 htl hc1 hc2
    go_enter Tryz.func99, Tryz.ntmps99
    go_wp2_with fail
    refine S1.out.mono ?_
    rintro e w1 ⟨rfl, hu1⟩
    have S2 := Lib.hid (S2.out w1)
    have S3 := Lib.hid (S3.out w1 hu1)
    have HU1 := Lib.hid hu1
    clear S1 hu1
    go_wp2_with fail
    refine S2.out.mono ?_
    rintro e w2 ⟨rfl, rfl⟩
    clear S2
    go_wp2_with fail
    refine S3.out.mono ?_
    rintro e w3 ⟨⟨v3, rfl, fq, hq1, hq2, hq3⟩, hu3⟩
    have HU3 := Lib.hid (HU1.out.trans hu3)
    have S4 := Lib.hid (readNumbersI v3 ps w3 fq hq1 (by omega) HPL.out (HE.out.upd HU3.out))
    have hsz3 := HU3.out.size
    clear S3 HU1 hu3 hq1 hq2 hq3
    go_wp2_with fail
    refine S4.out.mono ?_
    rintro e w4 ⟨⟨v4, rfl, hn4⟩, hu4⟩
    have HU4 := Lib.hid (HU3.out.trans hu4)
    clear S4 HU3 hu4
    cases hN : numsF ps with
    | none =>
      have HR := Lib.hid (show readF s = none by rw [HF.out, hN])
      clear HF hN hn4
      go_wp2_with fail
      go_ret3
      exact ⟨⟨[], _, [], by rw [HR.out]; rfl, new_nil _ _, by rw [HR.out]; rfl⟩, HU4.out⟩
    | some vs =>
      rw [hN] at hn4 HF
      have HF2 := Lib.hid (show readF s = if labT nm vs = some s then some (nm, vs) else none from HF.out)
      obtain ⟨f4, hr4, -, -⟩ := id hn4
      have S5 := Lib.hid (labelOfI nm v4 vs w4 f4 hnm hr4 (HE.out.upd HU4.out))
      have HN := Lib.hid (show New R1 w w4 v4 vs from hn4.mono hsz3)
      clear HF hN hn4 hr4
      go_wp2_with fail
      refine S5.out.mono ?_
      rintro e w5 ⟨⟨t, rfl, ht⟩, hu5⟩
      have HU := Lib.hid (HU4.out.trans hu5)
      have HN5 := Lib.hid (R1k.new HN.out hu5 (by simp))
      clear S5 HU4 HN hu5
      cases hL : labT nm vs with
      | none =>
        have HR := Lib.hid (show readF s = none by rw [HF2.out, hL]; rfl)
        clear HF2 ht hL
        go_wp2_with fail
        go_ret3
        exact ⟨⟨[], _, [], by rw [HR.out]; rfl, new_nil _ _, by rw [HR.out]; rfl⟩, HU.out⟩
      | some s' =>
        obtain rfl := ht.out s' hL
        by_cases heq : t = s
        · have HR := Lib.hid (show readF s = some (nm, vs) by rw [HF2.out, hL, if_pos (by rw [heq])])
          clear HF2 hL
          subst heq
          clear ht
          go_wp2_with fail
          go_ret3
          exact ⟨⟨nm, _, vs, by rw [HR.out]; rfl, HN5.out, by rw [HR.out]; rfl⟩, HU.out⟩
        · have HR := Lib.hid (show readF s = none by rw [HF2.out, hL, if_neg (by simpa using heq)])
          have hne : (t == s) = false := by simpa using heq
          clear HF2 ht hL
          go_wp2_with fail
          go_ret3
          exact ⟨⟨[], _, [], by rw [HR.out]; rfl, new_nil _ _, by rw [HR.out]; rfl⟩, HU.out⟩

set_option maxRecDepth 20000 in
theorem isLabelI (s : List UInt8) (w : World) (hl : s.length ≤ 2000000) (he : Env w) : Calls Tryz.prog 86 #[es s] w fun e w' => e = .returned (.bool (readF s).isSome) ∧ Upd [] w w' := by
  have S1 := Lib.hid (readLabelI s w hl he)
  clear he
  go_enter Tryz.func86, Tryz.ntmps86
  go_wp2_with fail
  refine S1.out.mono ?_
  rintro e w1 ⟨⟨n, v, vs, rfl, hn, hr⟩, hu⟩
  have HU := Lib.hid hu
  clear S1 hn hr hu
  go_wp2_with fail
  go_ret
  exact ⟨rfl, HU.out⟩

end Go.Proofs.YtddciieaolaleaaGreatDoor

/-
  Lists of labels: what the program's and the reference's calls return.
-/
namespace Go.Proofs.YtddciieaolaleaaGreatDoor
open Go.RowKit

/-- whether a text is a label. -/
def isLab (s : List UInt8) : Bool := (readF s).isSome

set_option maxRecDepth 20000 in
theorem labelS (s : List UInt8) (w : World) (hl : s.length ≤ 2000000) : Calls Tryz.prog 83 #[es s] w fun e w' => e = .returned (.bool (isLab s)) ∧ Upd [] w w' := by
  have S1 := Lib.hid (valuesS s w hl)
  go_enter Tryz.func83, Tryz.ntmps83
  go_wp2_with fail
  refine S1.out.mono ?_
  rintro e w1 ⟨⟨v, vs, rfl, hn, -⟩, hu⟩
  have HU := Lib.hid hu
  clear S1 hn hu
  go_wp2_with fail
  go_ret
  exact ⟨rfl, HU.out⟩

end Go.Proofs.YtddciieaolaleaaGreatDoor

/-
  Binary images, plainly: numbers, texts, the check value, the seal.
-/
namespace Go.Proofs.YtddciieaolaleaaGreatDoor
open Go.RowKit

/-- all of m from k on. -/
def allF (P : Nat → Bool) : Nat → Nat → Bool
  | _, 0 => true
  | k, m + 1 => P k && allF P (k + 1) m
theorem allF_step (P : Nat → Bool) (k n : Nat) (h : k < n) : allF P k (n - k) = (P k && allF P (k + 1) (n - (k + 1))) := by
  obtain ⟨m, hm⟩ : ∃ m, n - k = m + 1 := ⟨n - k - 1, by omega⟩
  rw [hm, allF, show n - (k + 1) = m by omega]
theorem allF_end (P : Nat → Bool) (n : Nat) : allF P n (n - n) = true := by rw [Nat.sub_self]; rfl

end Go.Proofs.YtddciieaolaleaaGreatDoor

/-
  Formulas, plainly: their shape, their fields, what binds a variable; validity as the program and as the reference reckon it.
-/
namespace Go.Proofs.YtddciieaolaleaaGreatDoor
open Go.RowKit

/-- a node: kind, variable, label, and whether the label is negated. -/
structure Nd where
  kd : Int
  vr : Int
  lb : List UInt8
  nt : Bool
deriving DecidableEq

/-- how many formulas a node of a kind wants behind it, for the program and for the reference. -/
def arI (k : Int) : Int := if k = 2 ∨ k = 3 then 2 else if k = 4 ∨ k = 5 ∨ k = 7 ∨ k = 8 then 1 else 0
def arS (k : Int) : Int := if k = 0 ∨ k = 1 ∨ k = 6 then 0 else if k = 2 ∨ k = 3 then 2 else 1
theorem ar_same {k : Int} (h : inB k 0 8 = true) : arS k = arI k := by
  have := inB_true h
  unfold arS arI
  split <;> split <;> (try split) <;> omega
theorem arI_in (k : Int) : 0 ≤ arI k ∧ arI k ≤ 2 := by unfold arI; split <;> (try split) <;> omega
theorem arS_in (k : Int) : 0 ≤ arS k ∧ arS k ≤ 2 := by unfold arS; split <;> (try split) <;> omega

/-- m formulas are still to come, and the nodes are exactly those. -/
def shapeF (ar : Int → Int) : Int → List Nd → Bool
  | m, [] => m == 0
  | m, n :: l => if m = 0 then false else shapeF ar (m + ar n.kd - 1) l
/-- how many nodes m formulas have. -/
def endF (ar : Int → Int) : Int → List Nd → Nat
  | _, [] => 0
  | m, n :: l => if m ≤ 0 then 0 else endF ar (m + ar n.kd - 1) l + 1
theorem shape_step {ar : Int → Int} {m : Int} {n : Nd} {l : List Nd} (h : shapeF ar m (n :: l) = true) : m ≠ 0 ∧ shapeF ar (m + ar n.kd - 1) l = true := by
  rw [shapeF] at h
  split at h
  · cases h
  · next hm => exact ⟨hm, h⟩
theorem shape_drop {ar : Int → Int} (ha : ∀ k, 0 ≤ ar k ∧ ar k ≤ 2) : ∀ (l : List Nd) (m : Int), 0 ≤ m → shapeF ar m l = true → ∀ k, k < l.length → ∃ q : Int, 1 ≤ q ∧ q ≤ m + l.length ∧ shapeF ar q (l.drop k) = true
  | [], _, _, _, k, hk => by simp at hk
  | n :: l, m, hm, h, k, hk => by
    obtain ⟨h1, h2⟩ := shape_step h
    cases k with
    | zero => exact ⟨m, by omega, by omega, h⟩
    | succ k =>
      have := ha n.kd
      obtain ⟨q, q1, q2, q3⟩ := shape_drop ha l _ (by omega) h2 k (by simpa using hk)
      exact ⟨q, q1, by simp; omega, q3⟩

def fixF (k : Int) : Bool := k == 7 || k == 8
def modF (k : Int) : Bool := k == 4 || k == 5
/-- a pattern: nothing, a label, or a name before a star. -/
def patF (s : List UInt8) : Bool := s == [] || isLab s || (s.getLast? == some 42 && actF s.dropLast)
def fieldsF (n : Nd) : Bool := if modF n.kd then patF n.lb else n.lb == [] && !n.nt
def boundF (n : Nd) : Bool := if fixF n.kd || n.kd == 6 then inB n.vr 0 2 else n.vr == 0
def nd0 : Nd := ⟨0, 0, [], false⟩
/-- node i binds the variable at node k. -/
def bndP (ar : Int → Int) (f : List Nd) (k i : Nat) : Bool := fixF (f.getD i nd0).kd && ((f.getD i nd0).vr == (f.getD k nd0).vr) && decide (k < i + endF ar 1 (f.drop i))
/-- the last of the nodes before i that binds the variable at node k, or -1. -/
def bindF (ar : Int → Int) (f : List Nd) (k : Nat) : Nat → Int
  | 0 => -1
  | i + 1 => if bndP ar f k i then (i : Int) else bindF ar f k i
theorem bindF_ge (ar : Int → Int) (f : List Nd) (k : Nat) : ∀ i, -1 ≤ bindF ar f k i ∧ bindF ar f k i < i
  | 0 => by simp [bindF]
  | i + 1 => by
    rw [bindF]
    split
    · omega
    · have := bindF_ge ar f k i; omega
def varP (ar : Int → Int) (f : List Nd) (k : Nat) : Bool := !((f.getD k nd0).kd == 6 && decide (bindF ar f k k < 0))
def ndkI (f : List Nd) (k : Nat) : Bool := inB (f.getD k nd0).kd 0 8 && fieldsF (f.getD k nd0) && boundF (f.getD k nd0) && varP arI f k
def ndkS (f : List Nd) (k : Nat) : Bool := boundF (f.getD k nd0) && varP arS f k
/-- a formula is valid, as the program reckons it. -/
def frmOk (f : List Nd) : Bool := inB f.length 1 30 && shapeF arI 1 f && allF (ndkI f) 0 f.length
def shapeS : Int → List Nd → Bool
  | m, [] => m == 0
  | m, n :: l => if m = 0 ∨ inB n.kd 0 8 = false then false else if fieldsF n = false then false else shapeS (m + arS n.kd - 1) l
/-- .. and as the reference does. -/
def frmOkS (f : List Nd) : Bool := inB f.length 1 30 && shapeS 1 f && allF (ndkS f) 0 f.length

theorem shapeS_split : ∀ (l : List Nd) (m : Int), shapeS m l = (shapeF arI m l && l.all fun n => inB n.kd 0 8 && fieldsF n)
  | [], m => by simp [shapeS, shapeF]
  | n :: l, m => by
    rw [shapeS, shapeF, List.all_cons]
    by_cases hm : m = 0
    · simp [hm]
    · cases hk : inB n.kd 0 8 with
      | false => simp [hm]
      | true =>
        cases hf : fieldsF n with
        | false => simp [hm]
        | true =>
          simp only [hm, Bool.true_eq_false, or_self, if_false, Bool.true_and]
          rw [ar_same hk, shapeS_split l]
theorem endF_same : ∀ (l : List Nd) (m : Int), (∀ n ∈ l, inB n.kd 0 8 = true) → endF arS m l = endF arI m l
  | [], m, _ => rfl
  | n :: l, m, h => by
    rw [endF, endF, ar_same (h n (by simp)), endF_same l _ (fun q hq => h q (by simp [hq]))]
theorem bindF_same (f : List Nd) (h : ∀ n ∈ f, inB n.kd 0 8 = true) (k : Nat) : ∀ i, bindF arS f k i = bindF arI f k i
  | 0 => rfl
  | i + 1 => by
    rw [bindF, bindF, bindF_same f h k i]
    unfold bndP
    rw [endF_same _ _ (fun n hn => h n (List.mem_of_mem_drop hn))]
theorem allF_congr {P Q : Nat → Bool} : ∀ (m k : Nat), (∀ i, k ≤ i → i < k + m → P i = Q i) → allF P k m = allF Q k m
  | 0, _, _ => rfl
  | m + 1, k, h => by
    rw [allF, allF, h k (Nat.le_refl _) (by omega), allF_congr m (k + 1) (fun i h1 h2 => h i (by omega) (by omega))]
theorem allF_and {P Q : Nat → Bool} : ∀ (m k : Nat), allF (fun i => P i && Q i) k m = (allF P k m && allF Q k m)
  | 0, _ => rfl
  | m + 1, k => by
    rw [allF, allF, allF, allF_and m (k + 1)]
    cases P k <;> cases Q k <;> simp
theorem all_allF (P : Nd → Bool) (f : List Nd) : f.all P = allF (fun i => P (f.getD i nd0)) 0 f.length := by
  suffices h : ∀ (m k : Nat), k + m = f.length → (f.drop k).all P = allF (fun i => P (f.getD i nd0)) k m by
    have := h f.length 0 (by omega)
    simpa using this
  intro m
  induction m with
  | zero => intro k hk; rw [List.drop_of_length_le (by omega)]; rfl
  | succ m ih =>
    intro k hk
    rw [List.drop_eq_getElem_cons (by omega), List.all_cons, allF, ih (k + 1) (by omega)]
    congr 2
    rw [List.getD_eq_getElem?_getD, List.getElem?_eq_getElem (by omega)]; rfl
theorem frmOk_same (f : List Nd) : frmOkS f = frmOk f := by
  unfold frmOkS frmOk
  rw [shapeS_split]
  cases hall : f.all (fun n => inB n.kd 0 8 && fieldsF n) with
  | false =>
    have hI : allF (ndkI f) 0 f.length = false := by
      have e : ndkI f = fun i => (inB (f.getD i nd0).kd 0 8 && fieldsF (f.getD i nd0)) && (boundF (f.getD i nd0) && varP arI f i) := by
        funext i; unfold ndkI; simp only [Bool.and_assoc]
      rw [e, allF_and, ← all_allF (fun n => inB n.kd 0 8 && fieldsF n), hall]; rfl
    rw [hI]; simp
  | true =>
    have hk : ∀ n ∈ f, inB n.kd 0 8 = true := fun n hn => by
      have := List.all_eq_true.1 hall n hn
      simp only [Bool.and_eq_true] at this
      exact this.1
    have e : allF (ndkS f) 0 f.length = allF (ndkI f) 0 f.length := by
      refine allF_congr _ _ (fun i _ hi => ?_)
      have hi2 : i < f.length := by omega
      have hg : f.getD i nd0 = f[i] := by rw [List.getD_eq_getElem?_getD, List.getElem?_eq_getElem hi2]; rfl
      have h9 := List.all_eq_true.1 hall f[i] (List.getElem_mem hi2)
      simp only [Bool.and_eq_true] at h9
      unfold ndkS ndkI varP
      rw [bindF_same f hk, hg, h9.1, h9.2]; simp
    rw [e]; simp

end Go.Proofs.YtddciieaolaleaaGreatDoor

/-
  The laws' helper functions over lists of nodes.
-/
namespace Go.Proofs.YtddciieaolaleaaGreatDoor
open Go.RowKit Go.ChangeShapes

abbrev R_F1 : Rp (List Nd) := slF 4 (fun t => [ei t.kd, ei t.vr, es t.lb, .bool t.nt])
theorem R_F1k : Kept R_F1 := slF_kept _ _
def szF_F1 (x : List Nd) : Int := x.length + totS (x.map Nd.lb)
def mkF_F1 (x : List Nd) : Int := 4 * x.length
theorem mkF_F1_nonneg (x : List Nd) : 0 ≤ mkF_F1 x := by unfold mkF_F1; omega
def ndsOk (x : List Nd) : Prop := ∀ n ∈ x, n.lb.length ≤ 9223372036854775807

theorem Tryz.infoNd : (Tryz.prog.info? 54).map (fun i => (i.zero, i.size, i.bytes)) = some (some (.agg #[.int .i64 0, .int .i64 0, .string ⟨#[]⟩, .bool false]), 4, 40) := by kernel_rfl

set_option maxRecDepth 20000 in
set_option maxHeartbeats 400000 in
theorem szNode (a b : Int) (c : List UInt8) (d : Bool) (left : Int) (w : World) (hl : 0 ≤ left) (hl2 : left ≤ 1048576) (hc : c.length ≤ 9223372036854775807) :
    Calls Tryz.prog 31 #[.agg #[ei a, ei b, es c, .bool d], .int .i64 left] w fun e w' => e = .returned (.int .i64 (if left - (c.length : Int) < 0 then -1 else left - c.length)) ∧ Upd [] w w' := by
  by_cases h : left - (c.length : Int) < 0
  · rw [if_pos h]
    go_enter Tryz.func31, Tryz.ntmps31
    go_wp2_with fail
    go_ret
    exact ⟨rfl, (Upd.refl _ _).alloc _⟩
  · rw [if_neg h]
    go_enter Tryz.func31, Tryz.ntmps31
    go_wp2_with fail
    go_ret
    exact ⟨rfl, (Upd.refl _ _).alloc _⟩

set_option maxRecDepth 20000 in
set_option maxHeartbeats 800000 in
theorem sz_F1 (v : Value) (xs : List Nd) (left : Int) (w : World) (fp : List Nat) (hl : 0 ≤ left) (hl2 : left ≤ 1048576) (hR : R_F1 fp w [v] xs) (hS : ndsOk xs) :
    Calls Tryz.prog 12 #[v, .int .i64 left] w fun e w' => (∃ r : Int, e = .returned (.int .i64 r) ∧ (r = -1 ∨ (0 ≤ r ∧ r + szF_F1 xs = left))) ∧ Upd [] w w' := by
  obtain ⟨a, cap, rfl, h1, h2, hc⟩ := slF4_open hR
  unfold maxLen at h2
  unfold szF_F1
  have HS := Lib.hid hS
  have HC := Lib.hid hc
  clear hR hS hc
  by_cases hlt : left - (xs.length : Int) < 0
  · go_enter Tryz.func12, Tryz.ntmps12
    go_wp2_with fail
    go_ret
    exact ⟨⟨-1, rfl, Or.inl rfl⟩, Upd.refl _ _⟩
  · have hge : 0 ≤ left - (xs.length : Int) := by omega
    clear hlt
    go_enter Tryz.func12, Tryz.ntmps12
    go_wp2_with fail
    go_loopw [1, 5] (fun kk i wr => ∃ (k : Nat) (l : Int), k ≤ xs.length ∧ i = .int .i64 k ∧ kk = .int .i64 l ∧ 0 ≤ l ∧ Hid (l + xs.length + totS ((xs.take k).map Nd.lb) = left) ∧ Upd [] w wr) (fun _ i _ => xs.length - (intOf i).toNat)
    case atStart => exact ⟨0, _, Nat.zero_le _, rfl, rfl, hge, Lib.hid (by simp [totS]), Upd.refl _ _⟩
    case round =>
      obtain ⟨wo, rfl⟩ : ∃ wo : World, wo = wr := ⟨_, rfl⟩
      obtain ⟨k, l, hk, rfl, rfl, hl0, HL, hU⟩ := hrel
      by_cases hlt : k < xs.length
      · obtain ⟨b, off, rfl, -, -, p1, p2, p3, p4⟩ := HC.out k hlt
        have q1 := hU.keep p1
        have q2 := hU.keep p2
        have q3 := hU.keep p3
        have q4 := hU.keep p4
        have ht := totS_nonneg ((xs.take k).map Nd.lb)
        have HT := Lib.hid (show totS ((xs.take (k + 1)).map Nd.lb) = totS ((xs.take k).map Nd.lb) + xs[k].lb.length by
          have := totS_snoc (xs.map Nd.lb) k (by simpa using hlt)
          rw [← List.map_take, ← List.map_take] at this
          simpa using this)
        have hb2 : l ≤ 1048576 := by have := HL.out; omega
        have HU := Lib.hid hU
        have S1 := Lib.hid (szNode xs[k].kd xs[k].vr xs[k].lb xs[k].nt l wo hl0 hb2 (HS.out xs[k] (List.getElem_mem hlt)))
        clear ht p1 p2 p3 p4 hU
        generalize xs[k] = x at *
        obtain ⟨x1, x2, x3, x4⟩ := x
        simp only at *
        by_cases hneg : l - (x3.length : Int) < 0
        · rw [if_pos hneg] at S1
          go_wp2_with fail
          refine S1.out.mono ?_
          rintro e w1 ⟨rfl, hu1⟩
          have HU1 := Lib.hid (HU.out.trans hu1)
          clear S1 hu1
          go_wp2_with fail
          go_ret
          exact ⟨⟨-1, rfl, Or.inl rfl⟩, HU1.out⟩
        · rw [if_neg hneg] at S1
          have HN := Lib.hid hneg
          obtain ⟨l2, hl2e⟩ : ∃ l2, l2 = l - (x3.length : Int) := ⟨_, rfl⟩
          have hl20 : 0 ≤ l2 := by omega
          have hl21 : l2 ≤ 1048576 := by omega
          rw [← hl2e] at S1
          have HL2 := Lib.hid hl2e
          clear hneg hl2e
          go_wp2_with fail
          refine S1.out.mono ?_
          rintro e w1 ⟨rfl, hu1⟩
          have HU1 := Lib.hid (HU.out.trans hu1)
          clear S1 hu1
          go_wp2_with fail
          go_roundw
          case rel => exact ⟨k + 1, l2, by omega, by go_num, rfl, hl20, Lib.hid (by have := HL.out; have := HL2.out; rw [HT.out]; omega), HU1.out⟩
          case measure => simp [intOf]; omega
      · obtain rfl : k = xs.length := by omega
        have HU := Lib.hid hU
        have HZ := Lib.hid (show l + (xs.length + totS (xs.map Nd.lb)) = left by have := HL.out; rw [List.take_length] at this; omega)
        clear hU HL
        go_wp2_with fail
        go_ret
        exact ⟨⟨l, rfl, Or.inr ⟨hl0, HZ.out⟩⟩, HU.out⟩

set_option maxRecDepth 20000 in
set_option maxHeartbeats 400000 in
theorem toNode (a b : Int) (c : List UInt8) (d : Bool) (w : World) : Calls Tryz.prog 36 #[.agg #[ei a, ei b, es c, .bool d]] w fun e w' => e = .returned (.agg #[ei a, ei b, es c, .bool d]) ∧ Upd [] w w' := by
  go_enter Tryz.func36, Tryz.ntmps36
  go_wp2
  refine bodyPost_ret (v := .agg #[ei a, ei b, es c, .bool d]) (by simp [results, Tryz.results36, go_sem]) rfl ⟨rfl, ?_⟩
  exact (((Upd.refl _ _).alloc _).alloc _).alloc _

set_option maxRecDepth 20000 in
set_option maxHeartbeats 800000 in
theorem eqNode (a b : Int) (c : List UInt8) (d : Bool) (w : World) : Calls Tryz.prog 41 #[.agg #[ei a, ei b, es c, .bool d], .agg #[ei a, ei b, es c, .bool d]] w fun e w' => e = .returned (.bool true) ∧ Upd [] w w' := by
  have h1 : (a != a) = false := by simp
  have h2 : (b != b) = false := by simp
  have h3 : (c != c) = false := by simp
  have h3' : (c == c) = true := by simp
  have h4 : (d != d) = false := by simp
  have h4' : (d == d) = true := by simp
  go_enter Tryz.func41, Tryz.ntmps41
  go_wp2
  go_ret
  exact ⟨rfl, ((Upd.refl _ _).alloc _).alloc _⟩

set_option maxRecDepth 20000 in
set_option maxHeartbeats 800000 in
theorem eq_F1 (v1 v2 : Value) (xs : List Nd) (w : World) (f1 f2 : List Nat) (h1 : R_F1 f1 w [v1] xs) (h2 : R_F1 f2 w [v2] xs) :
    Calls Tryz.prog 16 #[v1, v2] w fun e w' => e = .returned (.bool true) ∧ Upd [] w w' := by
  obtain ⟨a1, c1, rfl, hl1, hm1, hc1⟩ := slF4_open h1
  obtain ⟨a2, c2, rfl, hl2, hm2, hc2⟩ := slF4_open h2
  unfold maxLen at hm1 hm2
  have HC1 := Lib.hid hc1
  have HC2 := Lib.hid hc2
  have hbe : ((xs.length : Int) != (xs.length : Int)) = false := by simp
  clear h1 h2 hc1 hc2
  go_enter Tryz.func16, Tryz.ntmps16
  go_wp2
  go_loopw [5] (fun i wr => ∃ k : Nat, k ≤ xs.length ∧ i = .int .i64 k ∧ Upd [] w wr) (fun i _ => xs.length - (intOf i).toNat)
  case atStart => exact ⟨0, Nat.zero_le _, rfl, Upd.refl _ _⟩
  case round =>
    obtain ⟨k, hk, rfl, hU⟩ := hrel
    by_cases hlt : k < xs.length
    · obtain ⟨b1, o1, rfl, -, hb1, p1, p2, p3, p4⟩ := HC1.out k hlt
      obtain ⟨b2, o2, rfl, -, hb2, p5, p6, p7, p8⟩ := HC2.out k hlt
      have q1 := hU.keep p1
      have q2 := hU.keep p2
      have q3 := hU.keep p3
      have q4 := hU.keep p4
      have q5 := hU.keep p5
      have q6 := hU.keep p6
      have q7 := hU.keep p7
      have q8 := hU.keep p8
      have HU := Lib.hid hU
      clear p1 p2 p3 p4 p5 p6 p7 p8 hU
      generalize xs[k] = x at *
      obtain ⟨x1, x2, x3, x4⟩ := x
      simp only at q1 q2 q3 q4 q5 q6 q7 q8
      have S1 := Lib.hid (fun W => eqNode x1 x2 x3 x4 W)
      go_wp2
      go_region_held3 (fun w' => w'.cell? ⟨b1, o1 + k * 4, none⟩ = some (ei x1) ∧ w'.cell? ⟨b1, o1 + k * 4 + 1, none⟩ = some (ei x2) ∧ w'.cell? ⟨b1, o1 + k * 4 + 2, none⟩ = some (es x3) ∧ w'.cell? ⟨b1, o1 + k * 4 + 3, none⟩ = some (.bool x4) ∧ w'.cell? ⟨b2, o2 + k * 4, none⟩ = some (ei x1) ∧ w'.cell? ⟨b2, o2 + k * 4 + 1, none⟩ = some (ei x2) ∧ w'.cell? ⟨b2, o2 + k * 4 + 2, none⟩ = some (es x3) ∧ w'.cell? ⟨b2, o2 + k * 4 + 3, none⟩ = some (.bool x4)) (go_keep) (((with_reducible refine (S1.out _).mono ?_); rintro e w1 ⟨rfl, hu1⟩; have t1 := hu1.keep q1; have t2 := hu1.keep q2; have t3 := hu1.keep q3; have t4 := hu1.keep q4; have t5 := hu1.keep q5; have t6 := hu1.keep q6; have t7 := hu1.keep q7; have t8 := hu1.keep q8))
      have HU1 := Lib.hid (HU.out.drew.trans hu1)
      clear hu1 HU
      go_wp2_with fail
      go_roundw
      case rel => exact ⟨k + 1, by omega, by go_num, HU1.out⟩
      case measure => simp [intOf]; omega
    · have hge : xs.length ≤ k := by omega
      go_wp2
      go_ret
      exact ⟨rfl, hU⟩

theorem fillF_set (xs : List Nd) (k : Nat) (hk : k < xs.length) : (xs.take k ++ List.replicate (xs.length - k) nd0).set k xs[k] = xs.take (k + 1) ++ List.replicate (xs.length - (k + 1)) nd0 := by
  have hl : (xs.take k).length = k := by simp; omega
  rw [List.set_append_right _ _ (by omega), hl, Nat.sub_self, show xs.length - k = (xs.length - (k + 1)) + 1 from by omega, List.replicate_succ, List.set_cons_zero, List.take_succ_eq_append_getElem hk, List.append_assoc, List.singleton_append]

set_option maxRecDepth 20000 in
set_option maxHeartbeats 800000 in
theorem to_F1 (v : Value) (xs : List Nd) (w : World) (fp : List Nat) (hl : szF_F1 xs ≤ 1048576) (hR : R_F1 fp w [v] xs) :
    Calls Tryz.prog 14 #[v] w fun e w' => (∃ v', e = .returned v' ∧ New R_F1 w w' v' xs) ∧ Upd [] w w' := by
  obtain ⟨i0, hi, hz0, hz1, hz2⟩ := info_parts Tryz.infoNd
  obtain ⟨a, cap, rfl, h1, h2, hc⟩ := slF4_open hR
  unfold maxLen at h2
  have htt := totS_nonneg (xs.map Nd.lb)
  unfold szF_F1 at hl
  clear hR
  have hm1 : i0.bytes * xs.length ≤ 281474976710656 := by rw [hz2]; omega
  go_enter Tryz.func14, Tryz.ntmps14
  go_wp2_with (first
    | (at_make; refine wpList_make_full _ rfl _ _ 31 rfl w.heap.size 54 i0 (.agg #[.int .i64 0, .int .i64 0, .string ⟨#[]⟩, .bool false]) 4 Tryz.underlying31 hi hz0 hz1 .i64 .i64 _ _ xs.length rfl rfl rfl rfl hm1 (by unfold maxLen; omega) (Nat.le_refl _) ?_; intro w1 hown hgrow)
    | fail)
  rw [made_four] at hown
  obtain ⟨fo, hT, hO, hb0⟩ := New.ofOwns4 (w := w) (e := 54) (xs := List.replicate xs.length nd0) (e1 := fun t => ei t.kd) (e2 := fun t => ei t.vr) (e3 := fun t => es t.lb) (e4 := fun t => .bool t.nt) (by
    have e : ((List.replicate xs.length ()).flatMap fun _ => [Value.int .i64 0, Value.int .i64 0, Value.string ⟨#[]⟩, Value.bool false]) = (List.replicate xs.length nd0).flatMap fun t => [ei t.kd, ei t.vr, es t.lb, .bool t.nt] := by
      generalize xs.length = n
      induction n with
      | zero => rfl
      | succ n ih => simp only [List.replicate_succ, List.flatMap_cons, ih]; rfl
    rw [← e]; simpa using hown)
  have hU : Upd [] w w1 := (Upd.refl _ _).grown hgrow (by simp)
  have HB := Lib.hid hb0
  clear hgrow hm1 hown hb0
  go_loopw [4] (fun i wr => ∃ k : Nat, k ≤ xs.length ∧ i = .int .i64 k ∧ Upd [] w wr ∧ Own fo wr ∧
      R_F1 fo wr [.slice (some ⟨w.heap.size, 0, none⟩) xs.length xs.length] (xs.take k ++ List.replicate (xs.length - k) nd0))
    (fun i _ => xs.length - (intOf i).toNat)
  case atStart => exact ⟨0, Nat.zero_le _, rfl, hU, hO, by simpa using hT⟩
  case round =>
    clear hT hO hU
    obtain ⟨k, hk, rfl, hU, hO, hT⟩ := hrel
    have hlen : (xs.take k ++ List.replicate (xs.length - k) nd0).length = xs.length := by simp; omega
    by_cases hlt : k < xs.length
    · obtain ⟨b, off, rfl, -, hb, p1, p2, p3, p4⟩ := hc k hlt
      have q1 := hU.keep p1
      have q2 := hU.keep p2
      have q3 := hU.keep p3
      have q4 := hU.keep p4
      have HF2 := Lib.hid (fillF_set xs k hlt)
      have HLEN := Lib.hid hlen
      have HT := Lib.hid (And.intro hT (And.intro hO hU))
      have S1 := Lib.hid (toNode xs[k].kd xs[k].vr xs[k].lb xs[k].nt wr)
      clear p1 p2 p3 p4 hc hlen hT hO hU
      go_wp2_with fail
      refine S1.out.mono ?_
      rintro e w2 ⟨rfl, hu2⟩
      have hT2 := R_F1k.upd HT.out.1 hu2 (by simp)
      have hO2 := HT.out.2.1.upd hu2 (by simp)
      have HU2 := Lib.hid (HT.out.2.2.trans hu2)
      obtain ⟨a', cap', hv, -, -, hcell⟩ := slF4_open hT2
      obtain ⟨b', off', rfl, hfo, hb', r1, r2, r3, r4⟩ := hcell k (by rw [HLEN.out]; exact hlt)
      simp only [Value.slice.injEq, Option.some.injEq, Addr.mk.injEq, and_true] at hv
      obtain ⟨⟨rfl, rfl⟩, -, rfl⟩ := hv
      rw [Nat.zero_add] at r1 r2 r3 r4
      have hfr1 : w2.frozen? ⟨w.heap.size, k * 4, none⟩ = false := hO2.frozen (by rw [hfo]; simp) _
      have hfr2 : w2.frozen? ⟨w.heap.size, k * 4 + 1, none⟩ = false := hO2.frozen (by rw [hfo]; simp) _
      have hfr3 : w2.frozen? ⟨w.heap.size, k * 4 + 2, none⟩ = false := hO2.frozen (by rw [hfo]; simp) _
      have hfr4 : w2.frozen? ⟨w.heap.size, k * 4 + 3, none⟩ = false := hO2.frozen (by rw [hfo]; simp) _
      have hset := slF4_set (b := w.heap.size) (off := 0) (cap := xs.length) (by rw [HLEN.out]; exact hT2) k (by rw [HLEN.out]; exact hlt) xs[k]
      rw [HLEN.out, HF2.out, Nat.zero_add] at hset
      have HS := Lib.hid (And.intro hset ((((hO2.setCell ⟨w.heap.size, k * 4, none⟩ (ei xs[k].kd)).setCell ⟨w.heap.size, k * 4 + 1, none⟩ (ei xs[k].vr)).setCell ⟨w.heap.size, k * 4 + 2, none⟩ (es xs[k].lb)).setCell ⟨w.heap.size, k * 4 + 3, none⟩ (.bool xs[k].nt)))
      generalize (List.take k xs ++ List.replicate (xs.length - k) nd0)[k]'_ = el at r1 r2 r3 r4
      clear hset hT2 hO2 hu2 hcell hfo q1 q2 q3 q4 HF2 HLEN HT S1
      go_wp2_with fail
      go_roundw
      case rel => exact ⟨k + 1, by omega, by go_num, (((HU2.out.setCell (Or.inl (Nat.le_refl _)) _).setCell (Or.inl (Nat.le_refl _)) _).setCell (Or.inl (Nat.le_refl _)) _).setCell (Or.inl (Nat.le_refl _)) _, HS.out.2, HS.out.1⟩
      case measure => simp [intOf]; omega
    · obtain rfl : k = xs.length := by omega
      clear hc
      go_wp2
      go_ret
      exact ⟨⟨_, rfl, fo, by simpa using hT, hO, HB.out⟩, hU⟩

end Go.Proofs.YtddciieaolaleaaGreatDoor

/-
  Nodes marked and found marked by the laws' helper functions.
-/
namespace Go.Proofs.YtddciieaolaleaaGreatDoor
open Go.RowKit Go.ChangeShapes

/-- the node that marks the number k. -/
def mkNd (k : Int) : Nd := ⟨k, k + 1, mtx (k + 1 + 1), (k + 1 + 1 + 1) % 3 == 0⟩
def upN (k : Int) : Nat → List Nd
  | 0 => []
  | n + 1 => mkNd k :: upN (k + 4) n
@[simp] theorem upN_length (k : Int) (n : Nat) : (upN k n).length = n := by
  induction n generalizing k with
  | zero => rfl
  | succ n ih => simp [upN, ih]
theorem upN_snoc (k : Int) (n : Nat) : upN k (n + 1) = upN k n ++ [mkNd (k + 4 * n)] := by
  induction n generalizing k with
  | zero => simp [upN]
  | succ n ih =>
    rw [upN, ih (k + 4)]
    simp only [upN, List.cons_append, List.cons.injEq, List.append_cancel_left_eq, true_and, and_true]
    congr 1; omega
theorem upN_get (k : Int) (n i : Nat) (h : i < n) : (upN k n)[i]'(by simpa using h) = mkNd (k + 4 * i) := by
  induction n generalizing k i with
  | zero => omega
  | succ n ih =>
    cases i with
    | zero => simp [upN]
    | succ i => simp only [upN, List.getElem_cons_succ]; rw [ih _ _ (by omega)]; congr 1; omega
theorem upN_set (xs : List Nd) (k0 : Int) (k : Nat) (hk : k < xs.length) :
    (upN k0 k ++ xs.drop k).set k (mkNd (k0 + 4 * k)) = upN k0 (k + 1) ++ xs.drop (k + 1) := by
  rw [List.set_append_right _ _ (by simp), upN_length, Nat.sub_self, List.drop_eq_getElem_cons hk, List.set_cons_zero, upN_snoc]
  simp

set_option maxRecDepth 20000 in
set_option maxHeartbeats 2000000 in
theorem mark_F1 (v : Value) (xs : List Nd) (k0 : Int) (w : World) (fp : List Nat) (hk0 : 0 ≤ k0) (hk1 : k0 + mkF_F1 xs ≤ 4611686018427387904) (hR : R_F1 fp w [v] xs) (hO : Own fp w) :
    Calls Tryz.prog 17 #[v, .int .i64 k0] w fun e w' => e = .returned (.int .i64 (k0 + mkF_F1 xs)) ∧ R_F1 fp w' [v] (upN k0 xs.length) ∧ Own fp w' ∧ Upd fp w w' := by
  obtain ⟨a, cap, rfl, h1, h2, -⟩ := slF4_open hR
  unfold maxLen at h2
  unfold mkF_F1 at hk1 ⊢
  go_enter Tryz.func17, Tryz.ntmps17
  go_wp2
  go_loopw [1, 5] (fun kk i wr => ∃ k : Nat, k ≤ xs.length ∧ i = .int .i64 k ∧ kk = .int .i64 (k0 + 4 * k) ∧ Upd fp w wr ∧ Own fp wr ∧
      R_F1 fp wr [.slice a xs.length cap] (upN k0 k ++ xs.drop k))
    (fun _ i _ => xs.length - (intOf i).toNat)
  case atStart => exact ⟨0, Nat.zero_le _, rfl, by simp, Upd.refl _ _, hO, by simpa [upN] using hR⟩
  case round =>
    clear hR hO
    obtain ⟨wo, rfl⟩ : ∃ wo : World, wo = wr := ⟨_, rfl⟩
    obtain ⟨k, hk, rfl, rfl, hU, hO, hT⟩ := hrel
    have hlen : (upN k0 k ++ xs.drop k).length = xs.length := by simp; omega
    by_cases hlt : k < xs.length
    · obtain ⟨a', cap', hv, -, -, hcell⟩ := slF4_open hT
      obtain ⟨b, off, rfl, hfo, hb', r1, r2, r3, r4⟩ := hcell k (by omega)
      simp only [Value.slice.injEq] at hv
      obtain ⟨rfl, -, rfl⟩ := hv
      have hin : b ∈ fp := by rw [hfo]; simp
      have hfr1 : wo.frozen? ⟨b, off + k * 4, none⟩ = false := hO.frozen hin _
      have hfr2 : wo.frozen? ⟨b, off + k * 4 + 1, none⟩ = false := hO.frozen hin _
      obtain ⟨v', hv', hF⟩ := hT
      cases hv'
      rw [hlen] at hF
      have g1 := hF.set (j := k * 4) (by omega) (ei (k0 + 4 * k))
      have g2 := g1.set (j := k * 4 + 1) (by omega) (ei (k0 + 4 * k + 1))
      have HSET := Lib.hid (upN_set xs k0 k hlt)
      obtain ⟨wa, hwa⟩ : ∃ wa, wa = (wo.setCell ⟨b, off + k * 4, none⟩ (ei (k0 + 4 * k))).setCell ⟨b, off + k * 4 + 1, none⟩ (ei (k0 + 4 * k + 1)) := ⟨_, rfl⟩
      have S1 := Lib.hid (markText (k0 + 4 * k + 1 + 1) wa (by omega) (by omega))
      have HUa := Lib.hid (show Upd fp w wa by rw [hwa]; exact (hU.setCell (Or.inr hin) _).setCell (Or.inr hin) _)
      have HOa := Lib.hid (show Own fp wa by rw [hwa]; exact (hO.setCell _ _).setCell _ _)
      rw [← Nat.add_assoc, ← hwa] at g2
      have HF2 := Lib.hid g2
      have k3 : wa.cell? ⟨b, off + k * 4 + 2, none⟩ = some (es ((upN k0 k ++ xs.drop k)[k]'(by omega)).lb) := by
        rw [hwa, World.cell?_setCell_other _ _ _ _ (by simp), World.cell?_setCell_other _ _ _ _ (by simp)]; exact r3
      have k4 : wa.cell? ⟨b, off + k * 4 + 3, none⟩ = some (.bool ((upN k0 k ++ xs.drop k)[k]'(by omega)).nt) := by
        rw [hwa, World.cell?_setCell_other _ _ _ _ (by simp), World.cell?_setCell_other _ _ _ _ (by simp)]; exact r4
      have HLEN := Lib.hid hlen
      generalize ((upN k0 k ++ xs.drop k)[k]'_) = el at r1 r2 r3 r4 k3 k4
      clear hF g1 g2 hcell hO hU hlen
      go_wp2_with fail
      have hwb : (wo.setCell ⟨b, off + k * 4, none⟩ (.int .i64 (k0 + 4 * k))).setCell ⟨b, off + k * 4 + 1, none⟩ (.int .i64 (k0 + 4 * k + 1)) = wa := hwa.symm
      rw [hwb]
      clear hwa hwb r1 r2 r3 r4 hfr1 hfr2
      refine S1.out.mono ?_
      rintro e w1 ⟨rfl, hu1⟩
      have m3 := hu1.keep k3
      have m4 := hu1.keep k4
      have hO1 := HOa.out.upd hu1 (by simp)
      have hfr3 : w1.frozen? ⟨b, off + k * 4 + 2, none⟩ = false := hO1.frozen hin _
      have hfr4 : w1.frozen? ⟨b, off + k * 4 + 3, none⟩ = false := hO1.frozen hin _
      have g2 := Flat.upd HF2.out hu1 (by simp)
      have g3 := g2.set (j := k * 4 + 2) (by omega) (es (mtx (k0 + 4 * k + 1 + 1)))
      have g4 := g3.set (j := k * 4 + 3) (by omega) (.bool ((k0 + 4 * (k : Int) + 1 + 1 + 1) % 3 == 0))
      have hfs := flatMap_four_set (fun t : Nd => ei t.kd) (fun t => ei t.vr) (fun t => es t.lb) (fun t => Value.bool t.nt) (upN k0 k ++ xs.drop k) k (by rw [HLEN.out]; exact hlt) (mkNd (k0 + 4 * k))
      have hfin : (((((upN k0 k ++ xs.drop k).flatMap fun t => [ei t.kd, ei t.vr, es t.lb, .bool t.nt]).set (k * 4) (ei (k0 + 4 * k))).set (k * 4 + 1) (ei (k0 + 4 * k + 1))).set (k * 4 + 2) (es (mtx (k0 + 4 * k + 1 + 1)))).set (k * 4 + 3) (.bool ((k0 + 4 * (k : Int) + 1 + 1 + 1) % 3 == 0)) = (upN k0 (k + 1) ++ xs.drop (k + 1)).flatMap fun t => [ei t.kd, ei t.vr, es t.lb, .bool t.nt] := by
        rw [← HSET.out]; exact hfs
      rw [hfin] at g4
      have HT2 := Lib.hid (show R_F1 fp ((w1.setCell ⟨b, off + k * 4 + 2, none⟩ (es (mtx (k0 + 4 * k + 1 + 1)))).setCell ⟨b, off + k * 4 + 3, none⟩ (.bool ((k0 + 4 * (k : Int) + 1 + 1 + 1) % 3 == 0))) [.slice (some ⟨b, off, none⟩) xs.length cap] (upN k0 (k + 1) ++ xs.drop (k + 1)) from by
        refine ⟨_, rfl, ?_⟩
        have e : (upN k0 (k + 1) ++ xs.drop (k + 1)).length = xs.length := by simp; omega
        rw [e]
        simpa only [Nat.add_assoc] using g4)
      have HO2 := Lib.hid ((hO1.setCell ⟨b, off + k * 4 + 2, none⟩ (es (mtx (k0 + 4 * k + 1 + 1)))).setCell ⟨b, off + k * 4 + 3, none⟩ (.bool ((k0 + 4 * (k : Int) + 1 + 1 + 1) % 3 == 0)))
      have HU2 := Lib.hid (((HUa.out.trans (hu1.mono (by simp))).setCell (p := ⟨b, off + k * 4 + 2, none⟩) (Or.inr hin) (es (mtx (k0 + 4 * k + 1 + 1)))).setCell (p := ⟨b, off + k * 4 + 3, none⟩) (Or.inr hin) (.bool ((k0 + 4 * (k : Int) + 1 + 1 + 1) % 3 == 0)))
      generalize mtx (k0 + 4 * k + 1 + 1) = T at *
      clear S1 HUa HOa HF2 k3 k4 hu1 hO1 g2 g3 g4 hfs hfin HSET
      go_wp2_with fail
      go_roundw
      case rel => exact ⟨k + 1, by omega, by go_num, by go_num, HU2.out, HO2.out, HT2.out⟩
      case measure => simp [intOf]; omega
    · obtain rfl : k = xs.length := by omega
      go_wp2_with fail
      go_ret
      refine ⟨rfl, by simpa using hT, hO, hU⟩

set_option maxRecDepth 20000 in
set_option maxHeartbeats 2000000 in
theorem held_F1 (v : Value) (xs : List Nd) (k0 : Int) (w : World) (fp : List Nat) (hk0 : 0 ≤ k0) (hk1 : k0 + mkF_F1 xs ≤ 4611686018427387904) (hR : R_F1 fp w [v] (upN k0 xs.length)) :
    Calls Tryz.prog 18 #[v, .int .i64 k0] w fun e w' => e = .returned (.int .i64 (k0 + mkF_F1 xs)) ∧ Upd [] w w' := by
  obtain ⟨a, cap, rfl, h1, h2, hc⟩ := slF4_open hR
  simp only [upN_length] at *
  unfold maxLen at h2
  unfold mkF_F1 at hk1 ⊢
  have HC := Lib.hid hc
  clear hR hc
  generalize xs.length = n at *
  go_enter Tryz.func18, Tryz.ntmps18
  go_wp2
  go_loopw [1, 5] (fun kk i wr => ∃ k : Nat, k ≤ n ∧ i = .int .i64 k ∧ kk = .int .i64 (k0 + 4 * k) ∧ Hid (Upd [] w wr)) (fun _ i _ => n - (intOf i).toNat)
  case atStart => exact ⟨0, Nat.zero_le _, rfl, by simp, Lib.hid (Upd.refl _ _)⟩
  case round =>
    obtain ⟨wo, rfl⟩ : ∃ wo : World, wo = wr := ⟨_, rfl⟩
    obtain ⟨k, hk, rfl, rfl, HU⟩ := hrel
    by_cases hlt : k < n
    · obtain ⟨b, off, rfl, -, hb, p1, p2, p3, p4⟩ := HC.out k hlt
      rw [upN_get k0 n k hlt] at p1 p2 p3 p4
      unfold mkNd at p1 p2 p3 p4
      simp only at p1 p2 p3 p4
      have q1 := HU.out.keep p1
      have q2 := HU.out.keep p2
      have q3 := HU.out.keep p3
      have q4 := HU.out.keep p4
      have S1 := Lib.hid (fun W : World => markText (k0 + 4 * k + 1 + 1) W (by omega) (by omega))
      have hne : ((k0 + 4 * (k : Int)) != (k0 + 4 * (k : Int))) = false := by simp
      have hne2 : ((k0 + 4 * (k : Int) + 1) != (k0 + 4 * (k : Int) + 1)) = false := by simp
      generalize mtx (k0 + 4 * k + 1 + 1) = T at *
      have hne3 : (T != T) = false := by simp
      have hne3' : (T == T) = true := by simp
      obtain ⟨z, hz⟩ : ∃ z, k0 + 4 * (k : Int) + 1 + 1 + 1 = z := ⟨_, rfl⟩
      have hne4 : ((z % 3 == 0) != (z % 3 == 0)) = false := by simp
      rw [hz] at q4
      have HZ := Lib.hid hz
      clear p1 p2 p3 p4
      go_upto_region 10 with (fail)
      go_region_held3 (fun w' => w'.cell? ⟨b, off + k * 4 + 2, none⟩ = some (es T)) (go_keep) (((with_reducible refine (S1.out _).mono ?_); rintro e w1 ⟨rfl, hu1⟩; have t3 := hu1.keep q3))
      have HU1 := Lib.hid (HU.out.drew.trans hu1)
      have t4 := (HU.out.drew.trans hu1)
      have u4 := hu1.keep (show wo.drew.cell? ⟨b, off + k * 4 + 3, none⟩ = some (.bool (z % 3 == 0)) from q4)
      clear hu1 HU S1 q1 q2 q3 q4 t3 t4
      go_wp2_with fail
      go_roundw
      case rel => exact ⟨k + 1, by omega, by go_num, by go_num, HU1⟩
      case measure => simp [intOf]; omega
    · obtain rfl : k = n := by omega
      go_wp2_with fail
      go_ret
      exact ⟨rfl, HU.out⟩

end Go.Proofs.YtddciieaolaleaaGreatDoor

/-
  The kind of an image and its contents, plainly.
-/
namespace Go.Proofs.YtddciieaolaleaaGreatDoor
open Go.RowKit

end Go.Proofs.YtddciieaolaleaaGreatDoor

/-
  The check value: what both sides' calls return.
-/
namespace Go.Proofs.YtddciieaolaleaaGreatDoor
open Go.RowKit

end Go.Proofs.YtddciieaolaleaaGreatDoor

/-
  The kind of an image, and the reader of its contents: what both sides' calls return.
-/
namespace Go.Proofs.YtddciieaolaleaaGreatDoor
open Go.RowKit

end Go.Proofs.YtddciieaolaleaaGreatDoor

/-
  The reader of the contents of a formula's image: what both sides' calls return.
-/
namespace Go.Proofs.YtddciieaolaleaaGreatDoor
open Go.RowKit

end Go.Proofs.YtddciieaolaleaaGreatDoor

/-
  Images of formulas read back, plainly.
-/
namespace Go.Proofs.YtddciieaolaleaaGreatDoor
open Go.RowKit

theorem isLab_len {s : List UInt8} (h : isLab s = true) : s.length ≤ 100 := by
  obtain ⟨nm, vs, hl⟩ : ∃ nm vs, labT nm vs = some s := by
    unfold isLab readF at h
    split at h
    · split at h
      · simp at h
      · split at h
        · next hq => exact ⟨_, _, hq⟩
        · simp at h
    · split at h
      · next hq => exact ⟨_, _, hq⟩
      · simp at h
  unfold labT at hl
  split at hl
  · split at hl
    · cases hl; simp [tauL]
    · simp at hl
  · split at hl
    · next hc =>
      simp only [Bool.and_eq_true, decide_eq_true_eq] at hc
      obtain ⟨⟨ha, h2⟩, hv⟩ := hc
      have hn : nm.length ≤ 10 := by unfold actF nameF at ha; simp only [Bool.and_eq_true, decide_eq_true_eq] at ha; omega
      split at hl
      · cases hl; omega
      · cases hl
        have := joinC_le 44 30 (vs.map Lib.itoa) (by
          intro p hp
          obtain ⟨x, hx, rfl⟩ := List.mem_map.1 hp
          exact (isV_itoa (List.all_eq_true.1 hv x hx)).2)
        have h3 : (vs.map Lib.itoa).length * (30 + 1) ≤ 2 * 31 := Nat.mul_le_mul (by simpa using h2) (by omega)
        simp only [List.length_append, List.length_cons, List.length_nil, txtV]
        omega
    · simp at hl
theorem patF_len {s : List UInt8} (h : patF s = true) : s.length ≤ 100 := by
  unfold patF at h
  simp only [Bool.or_eq_true, Bool.and_eq_true, beq_iff_eq] at h
  rcases h with (h | h) | ⟨-, h⟩
  · rw [h]; simp
  · exact isLab_len h
  · unfold actF nameF at h; simp only [Bool.and_eq_true, decide_eq_true_eq, List.length_dropLast] at h; omega
theorem allF_at {P : Nat → Bool} : ∀ {k m : Nat}, allF P k m = true → ∀ i, k ≤ i → i < k + m → P i = true
  | _, 0, _, i, h1, h2 => by omega
  | k, m + 1, h, i, h1, h2 => by
    rw [allF, Bool.and_eq_true] at h
    by_cases hk : i = k
    · rw [hk]; exact h.1
    · exact allF_at h.2 i (by omega) (by omega)
/-- what a valid formula's nodes are. -/
def ndFit (n : Nd) : Prop := (0 ≤ n.kd ∧ n.kd ≤ 8) ∧ (0 ≤ n.vr ∧ n.vr ≤ 2) ∧ n.lb.length ≤ 100
theorem frm_parts {f : List Nd} (h : frmOk f = true) : (1 ≤ f.length ∧ f.length ≤ 30) ∧ ∀ n ∈ f, ndFit n := by
  unfold frmOk at h
  simp only [Bool.and_eq_true] at h
  obtain ⟨⟨h1, -⟩, h3⟩ := h
  have g1 := inB_true h1
  refine ⟨by omega, fun n hn => ?_⟩
  obtain ⟨i, hi, rfl⟩ := List.getElem_of_mem hn
  have := allF_at h3 i (by omega) (by omega)
  have hg : f.getD i nd0 = f[i] := by rw [List.getD_eq_getElem?_getD, List.getElem?_eq_getElem hi]; rfl
  unfold ndkI at this
  rw [hg] at this
  simp only [Bool.and_eq_true] at this
  obtain ⟨⟨⟨k1, k2⟩, k3⟩, -⟩ := this
  have r1 := inB_true k1
  refine ⟨r1, ?_, ?_⟩
  · unfold boundF at k3
    split at k3
    · exact inB_true k3
    · simp at k3; omega
  · unfold fieldsF at k2
    split at k2
    · exact patF_len k2
    · simp only [Bool.and_eq_true, beq_iff_eq] at k2; rw [k2.1]; simp

end Go.Proofs.YtddciieaolaleaaGreatDoor

/-
  The text of a formula, plainly.
-/
namespace Go.Proofs.YtddciieaolaleaaGreatDoor
open Go.RowKit

def kdT : Tr Nd → Int | .mk n _ => n.kd
theorem shape_of {f : List Nd} (h : frmOk f = true) : shapeF arI 1 f = true ∧ f.length ≤ 30 ∧ 1 ≤ f.length := by
  unfold frmOk at h
  simp only [Bool.and_eq_true] at h
  have := inB_true h.1.1
  exact ⟨h.1.2, by omega, by omega⟩

end Go.Proofs.YtddciieaolaleaaGreatDoor

/-
  The program's checks of a node and of a formula's shape: what the calls return.
-/
namespace Go.Proofs.YtddciieaolaleaaGreatDoor
open Go.RowKit

set_option maxRecDepth 20000 in
set_option maxHeartbeats 800000 in
theorem operandsI (a b : Int) (c : List UInt8) (d : Bool) (w : World) : Calls Tryz.prog 89 #[.agg #[ei a, ei b, es c, .bool d]] w fun e w' => e = .returned (.int .i64 (arI a)) ∧ Upd [] w w' := by
  by_cases h2 : a = 2
  · have HI := Lib.hid (show arI a = 2 by subst h2; rfl)
    have b2 : (a == 2) = true := by simpa using h2
    clear h2
    go_enter Tryz.func89, Tryz.ntmps89
    go_wp2_with fail
    go_ret
    exact ⟨by rw [HI.out]; rfl, (Upd.refl _ _).alloc _⟩
  · have b2 : (a == 2) = false := by simpa using h2
    by_cases h3 : a = 3
    · have HI := Lib.hid (show arI a = 2 by subst h3; rfl)
      have b3 : (a == 3) = true := by simpa using h3
      clear h3 h2
      go_enter Tryz.func89, Tryz.ntmps89
      go_wp2_with fail
      go_ret
      exact ⟨by rw [HI.out]; rfl, (Upd.refl _ _).alloc _⟩
    · have b3 : (a == 3) = false := by simpa using h3
      by_cases h4 : a = 4
      · have HI := Lib.hid (show arI a = 1 by subst h4; rfl)
        have b4 : (a == 4) = true := by simpa using h4
        clear h4 h2 h3
        go_enter Tryz.func89, Tryz.ntmps89
        go_wp2_with fail
        go_ret
        exact ⟨by rw [HI.out]; rfl, (Upd.refl _ _).alloc _⟩
      · have b4 : (a == 4) = false := by simpa using h4
        by_cases h5 : a = 5
        · have HI := Lib.hid (show arI a = 1 by subst h5; rfl)
          have b5 : (a == 5) = true := by simpa using h5
          clear h5 h2 h3 h4
          go_enter Tryz.func89, Tryz.ntmps89
          go_wp2_with fail
          go_ret
          exact ⟨by rw [HI.out]; rfl, (Upd.refl _ _).alloc _⟩
        · have b5 : (a == 5) = false := by simpa using h5
          by_cases h7 : a = 7
          · have HI := Lib.hid (show arI a = 1 by subst h7; rfl)
            have b7 : (a == 7) = true := by simpa using h7
            clear h7 h2 h3 h4 h5
            go_enter Tryz.func89, Tryz.ntmps89
            go_wp2_with fail
            go_ret
            exact ⟨by rw [HI.out]; rfl, (Upd.refl _ _).alloc _⟩
          · have b7 : (a == 7) = false := by simpa using h7
            by_cases h8 : a = 8
            · have HI := Lib.hid (show arI a = 1 by subst h8; rfl)
              have b8 : (a == 8) = true := by simpa using h8
              clear h8 h2 h3 h4 h5 h7
              go_enter Tryz.func89, Tryz.ntmps89
              go_wp2_with fail
              go_ret
              exact ⟨by rw [HI.out]; rfl, (Upd.refl _ _).alloc _⟩
            · have b8 : (a == 8) = false := by simpa using h8
              have HI := Lib.hid (show arI a = 0 by unfold arI; rw [if_neg (by omega), if_neg (by omega)])
              clear h2 h3 h4 h5 h7 h8
              go_enter Tryz.func89, Tryz.ntmps89
              go_wp2_with fail
              go_ret
              exact ⟨by rw [HI.out]; rfl, (Upd.refl _ _).alloc _⟩

set_option maxRecDepth 20000 in
set_option maxHeartbeats 800000 in
theorem isModI (a b : Int) (c : List UInt8) (d : Bool) (w : World) : Calls Tryz.prog 91 #[.agg #[ei a, ei b, es c, .bool d]] w fun e w' => e = .returned (.bool (modF a)) ∧ Upd [] w w' := by
  by_cases h4 : a = 4
  · have HI := Lib.hid (show modF a = true by subst h4; rfl)
    have b4 : (a == 4) = true := by simpa using h4
    clear h4
    go_enter Tryz.func91, Tryz.ntmps91
    go_wp2_with fail
    go_ret
    exact ⟨by rw [HI.out]; rfl, (Upd.refl _ _).alloc _⟩
  · have b4 : (a == 4) = false := by simpa using h4
    by_cases h5 : a = 5
    · have HI := Lib.hid (show modF a = true by subst h5; rfl)
      have b5 : (a == 5) = true := by simpa using h5
      clear h5 h4
      go_enter Tryz.func91, Tryz.ntmps91
      go_wp2_with fail
      go_ret
      exact ⟨by rw [HI.out]; rfl, (Upd.refl _ _).alloc _⟩
    · have b5 : (a == 5) = false := by simpa using h5
      have HI := Lib.hid (show modF a = false by unfold modF; simp [h4, h5])
      clear h4 h5
      go_enter Tryz.func91, Tryz.ntmps91
      go_wp2_with fail
      go_ret
      exact ⟨by rw [HI.out]; rfl, (Upd.refl _ _).alloc _⟩

set_option maxRecDepth 20000 in
set_option maxHeartbeats 800000 in
theorem isFixI (a b : Int) (c : List UInt8) (d : Bool) (w : World) : Calls Tryz.prog 80 #[.agg #[ei a, ei b, es c, .bool d]] w fun e w' => e = .returned (.bool (fixF a)) ∧ Upd [] w w' := by
  by_cases h7 : a = 7
  · have HI := Lib.hid (show fixF a = true by subst h7; rfl)
    have b7 : (a == 7) = true := by simpa using h7
    clear h7
    go_enter Tryz.func80, Tryz.ntmps80
    go_wp2_with fail
    go_ret
    exact ⟨by rw [HI.out]; rfl, (Upd.refl _ _).alloc _⟩
  · have b7 : (a == 7) = false := by simpa using h7
    by_cases h8 : a = 8
    · have HI := Lib.hid (show fixF a = true by subst h8; rfl)
      have b8 : (a == 8) = true := by simpa using h8
      clear h8 h7
      go_enter Tryz.func80, Tryz.ntmps80
      go_wp2_with fail
      go_ret
      exact ⟨by rw [HI.out]; rfl, (Upd.refl _ _).alloc _⟩
    · have b8 : (a == 8) = false := by simpa using h8
      have HI := Lib.hid (show fixF a = false by unfold fixF; simp [h7, h8])
      clear h7 h8
      go_enter Tryz.func80, Tryz.ntmps80
      go_wp2_with fail
      go_ret
      exact ⟨by rw [HI.out]; rfl, (Upd.refl _ _).alloc _⟩
theorem suf_last (s : List UInt8) : Lib.hasSuffix s [42] = (s.getLast? == some 42) := by
  rcases List.eq_nil_or_concat s with rfl | ⟨l, x, rfl⟩
  · rfl
  · have h1 : Lib.hasSuffix (l.concat x) [42] = (42 == x) := by
      simp only [Lib.hasSuffix, List.isSuffixOf, List.concat_eq_append, List.reverse_append, List.reverse_cons, List.reverse_nil, List.nil_append, List.singleton_append]
      exact Bool.and_true _
    have h2 : (l.concat x).getLast? = some x := by simp
    rw [h1, h2, Bool.eq_iff_iff, beq_iff_eq, beq_iff_eq, Option.some.injEq]
    exact ⟨Eq.symm, Eq.symm⟩
theorem trim_last (s : List UInt8) (h : Lib.hasSuffix s [42] = true) : Lib.trimSuffix s [42] = s.dropLast := by
  unfold Lib.trimSuffix
  rw [if_pos h, List.dropLast_eq_take]; rfl

set_option maxRecDepth 20000 in
set_option maxHeartbeats 2000000 in
theorem isPatI (s : List UInt8) (w : World) (hl : s.length ≤ 2000000) (he : Env w) : Calls Tryz.prog 55 #[es s] w fun e w' => e = .returned (.bool (patF s)) ∧ Upd [] w w' := by
  have S0 := Tryz.strings_CutSuffix ⟨s.toArray⟩ ⟨#[42]⟩ w (by have : (⟨s.toArray⟩ : ByteArray).size = s.length := rfl; omega)
  have e0 : (⟨#[42]⟩ : ByteArray).data.toList = [42] := rfl
  have e1 : (⟨s.toArray⟩ : ByteArray).data.toList = s := by simp
  rw [e0, e1] at S0
  have S1 := Lib.hid (isLabelI s w hl he)
  have HP := Lib.hid (show patF s = (s == [] || isLab s || (s.getLast? == some 42 && actF s.dropLast)) from rfl)
  have HL := Lib.hid (show isLab s = (readF s).isSome from rfl)
  rw [← suf_last] at HP
  by_cases h0 : s = []
  · subst h0
    have HS := Lib.hid S0
    clear S0 S1 HP HL
    go_enter Tryz.func55, Tryz.ntmps55
    go_wp2_with fail
    refine HS.out.mono ?_
    rintro e w1 ⟨rfl, rfl⟩
    go_wp2_with fail
    go_ret
    exact ⟨rfl, Upd.refl _ _⟩
  · have b0 : (s == ([] : List UInt8)) = false := by simpa using h0
    cases hlab : (readF s).isSome with
    | true =>
      have HR := Lib.hid (show patF s = true by rw [HP.out, HL.out, hlab]; simp)
      rw [hlab] at S1
      have HS := Lib.hid S0
      clear S0 HP HL hlab h0
      generalize Lib.trimSuffix s [42] = tr at *
      generalize Lib.hasSuffix s [42] = hs at *
      go_enter Tryz.func55, Tryz.ntmps55
      go_wp2_with fail
      refine HS.out.mono ?_
      rintro e w1 ⟨rfl, rfl⟩
      clear HS
      go_wp2_with fail
      refine S1.out.mono ?_
      rintro e w1 ⟨rfl, hu⟩
      have HU := Lib.hid hu
      clear S1 hu
      go_wp2_with fail
      go_ret
      exact ⟨by rw [HR.out]; rfl, HU.out⟩
    | false =>
      rw [hlab] at S1
      cases hhs : Lib.hasSuffix s [42] with
      | false =>
        have HR := Lib.hid (show patF s = false by rw [HP.out, HL.out, hlab, hhs, b0]; rfl)
        rw [hhs] at S0
        have HS := Lib.hid S0
        clear S0 HP HL hlab h0 hhs
        generalize Lib.trimSuffix s [42] = tr at *
        go_enter Tryz.func55, Tryz.ntmps55
        go_wp2_with fail
        refine HS.out.mono ?_
        rintro e w1 ⟨rfl, rfl⟩
        clear HS
        go_wp2_with fail
        refine S1.out.mono ?_
        rintro e w1 ⟨rfl, hu⟩
        have HU := Lib.hid hu
        clear S1 hu
        go_wp2_with fail
        go_ret
        exact ⟨by rw [HR.out]; rfl, HU.out⟩
      | true =>
        have HR := Lib.hid (show patF s = actF s.dropLast by rw [HP.out, HL.out, hlab, hhs, b0]; rfl)
        have S2 := Lib.hid (fun W => isActionI s.dropLast W (by simp; omega))
        rw [trim_last s hhs, hhs] at S0
        have HS := Lib.hid S0
        clear S0 HP HL hlab h0 hhs
        generalize s.dropLast = tr at *
        generalize actF tr = q at *
        go_enter Tryz.func55, Tryz.ntmps55
        go_wp2_with fail
        refine HS.out.mono ?_
        rintro e w1 ⟨rfl, rfl⟩
        clear HS
        go_wp2_with fail
        refine S1.out.mono ?_
        rintro e w1 ⟨rfl, hu⟩
        have HU := Lib.hid hu
        clear S1 hu
        go_wp2_with fail
        refine (S2.out _).mono ?_
        rintro e w2 ⟨rfl, rfl⟩
        clear S2
        go_wp2_with fail
        go_ret
        exact ⟨by rw [HR.out]; rfl, HU.out⟩

set_option maxRecDepth 20000 in
set_option maxHeartbeats 2000000 in
theorem fieldsI (a b : Int) (c : List UInt8) (d : Bool) (w : World) (hl : c.length ≤ 2000000) (he : Env w) :
    Calls Tryz.prog 66 #[.agg #[ei a, ei b, es c, .bool d]] w fun e w' => e = .returned (.bool (fieldsF ⟨a, b, c, d⟩)) ∧ Upd [] w w' := by
  have S1 := Lib.hid (fun W : World => isModI a b c d W)
  have HF := Lib.hid (show fieldsF ⟨a, b, c, d⟩ = if modF a then patF c else c == [] && !d from rfl)
  have S2 := Lib.hid (fun (W : World) (hu : Upd [] w W) => isPatI c W hl (he.upd hu))
  clear he
  obtain ⟨wA, hwA⟩ : ∃ wA, wA = w.alloc (.cells #[ei a, ei b, es c, .bool d] 54) := ⟨_, rfl⟩
  have uA : Upd [] w wA := by rw [hwA]; exact (Upd.refl _ _).alloc _
  have HC := Lib.hid (fun W (hu : Upd [] wA W) => show W.cell? ⟨w.heap.size, 0, none⟩ = some (ei a) ∧ W.cell? ⟨w.heap.size, 1, none⟩ = some (ei b) ∧ W.cell? ⟨w.heap.size, 2, none⟩ = some (es c) ∧ W.cell? ⟨w.heap.size, 3, none⟩ = some (.bool d) from by
    rw [hwA] at hu
    exact ⟨hu.keep (cell_new w _ _ _ rfl 0 _ rfl), hu.keep (cell_new w _ _ _ rfl 1 _ rfl), hu.keep (cell_new w _ _ _ rfl 2 _ rfl), hu.keep (cell_new w _ _ _ rfl 3 _ rfl)⟩)
  have UA := Lib.hid uA
  clear uA
  generalize fieldsF ⟨a, b, c, d⟩ = R at *
  cases hm : modF a with
  | true =>
    rw [hm] at S1 HF
    have HR := Lib.hid (show R = patF c from HF.out)
    clear HF hm
    generalize patF c = q at *
    go_enter Tryz.func66, Tryz.ntmps66
    go_wp2_with fail
    rw [← hwA]
    clear hwA
    refine (S1.out _).mono ?_
    rintro e w1 ⟨rfl, hu1⟩
    obtain ⟨x0, x1, x2, x3⟩ := HC.out w1 hu1
    have HU := Lib.hid (UA.out.trans hu1)
    have T2 := Lib.hid (S2.out w1 HU.out)
    clear S1 hu1 S2
    go_wp2_with fail
    refine T2.out.mono ?_
    rintro e w2 ⟨rfl, hu2⟩
    have HU2 := Lib.hid (HU.out.trans hu2)
    clear T2 hu2 HU x0 x1 x2 x3
    go_wp2_with fail
    go_ret
    exact ⟨by rw [HR.out]; rfl, HU2.out⟩
  | false =>
    rw [hm] at S1 HF
    have HR := Lib.hid (show R = (c == [] && !d) from HF.out)
    clear HF hm
    by_cases h0 : c = []
    · subst h0
      have HR2 := Lib.hid (show R = !d by rw [HR.out]; simp)
      clear HR
      go_enter Tryz.func66, Tryz.ntmps66
      go_wp2_with fail
      rw [← hwA]
      clear hwA
      refine (S1.out _).mono ?_
      rintro e w1 ⟨rfl, hu1⟩
      obtain ⟨x0, x1, x2, x3⟩ := HC.out w1 hu1
      have HU := Lib.hid (UA.out.trans hu1)
      clear S1 hu1 S2
      go_wp2_with fail
      go_ret
      exact ⟨by rw [HR2.out]; rfl, HU.out⟩
    · have b0 : (c == ([] : List UInt8)) = false := by simpa using h0
      have HR2 := Lib.hid (show R = false by rw [HR.out, b0]; rfl)
      clear HR h0
      go_enter Tryz.func66, Tryz.ntmps66
      go_wp2_with fail
      rw [← hwA]
      clear hwA
      refine (S1.out _).mono ?_
      rintro e w1 ⟨rfl, hu1⟩
      obtain ⟨x0, x1, x2, x3⟩ := HC.out w1 hu1
      have HU := Lib.hid (UA.out.trans hu1)
      clear S1 hu1 S2
      go_wp2_with fail
      go_ret
      exact ⟨by rw [HR2.out]; rfl, HU.out⟩

set_option maxRecDepth 20000 in
set_option maxHeartbeats 2000000 in
theorem boundI (a b : Int) (c : List UInt8) (d : Bool) (w : World) :
    Calls Tryz.prog 73 #[.agg #[ei a, ei b, es c, .bool d]] w fun e w' => e = .returned (.bool (boundF ⟨a, b, c, d⟩)) ∧ Upd [] w w' := by
  have S1 := Lib.hid (fun W : World => isFixI a b c d W)
  have HF := Lib.hid (show boundF ⟨a, b, c, d⟩ = if fixF a || a == 6 then inB b 0 2 else b == 0 from rfl)
  have S2 := Lib.hid (fun W : World => within b 0 2 W)
  obtain ⟨wA, hwA⟩ : ∃ wA, wA = w.alloc (.cells #[ei a, ei b, es c, .bool d] 54) := ⟨_, rfl⟩
  have uA : Upd [] w wA := by rw [hwA]; exact (Upd.refl _ _).alloc _
  have HC := Lib.hid (fun W (hu : Upd [] wA W) => show W.cell? ⟨w.heap.size, 0, none⟩ = some (ei a) ∧ W.cell? ⟨w.heap.size, 1, none⟩ = some (ei b) from by
    rw [hwA] at hu
    exact ⟨hu.keep (cell_new w _ _ _ rfl 0 _ rfl), hu.keep (cell_new w _ _ _ rfl 1 _ rfl)⟩)
  have UA := Lib.hid uA
  clear uA
  generalize boundF ⟨a, b, c, d⟩ = R at *
  generalize inB b 0 2 = q at *
  cases hm : fixF a with
  | true =>
    rw [hm] at S1 HF
    have HR := Lib.hid (show R = q from HF.out)
    clear HF hm
    go_enter Tryz.func73, Tryz.ntmps73
    go_wp2_with fail
    rw [← hwA]
    clear hwA
    refine (S1.out _).mono ?_
    rintro e w1 ⟨rfl, hu1⟩
    obtain ⟨x0, x1⟩ := HC.out w1 hu1
    have HU := Lib.hid (UA.out.trans hu1)
    clear S1 hu1
    go_wp2_with fail
    refine (S2.out _).mono ?_
    rintro e w2 ⟨rfl, rfl⟩
    clear S2 x0 x1
    go_wp2_with fail
    go_ret
    exact ⟨by rw [HR.out]; rfl, HU.out⟩
  | false =>
    rw [hm] at S1 HF
    by_cases h6 : a = 6
    · have HR := Lib.hid (show R = q by rw [HF.out, h6]; rfl)
      have b6 : (a == 6) = true := by simpa using h6
      clear HF hm h6
      go_enter Tryz.func73, Tryz.ntmps73
      go_wp2_with fail
      rw [← hwA]
      clear hwA
      refine (S1.out _).mono ?_
      rintro e w1 ⟨rfl, hu1⟩
      obtain ⟨x0, x1⟩ := HC.out w1 hu1
      have HU := Lib.hid (UA.out.trans hu1)
      clear S1 hu1
      go_wp2_with fail
      refine (S2.out _).mono ?_
      rintro e w2 ⟨rfl, rfl⟩
      clear S2 x0 x1
      go_wp2_with fail
      go_ret
      exact ⟨by rw [HR.out]; rfl, HU.out⟩
    · have b6 : (a == 6) = false := by simpa using h6
      have HR := Lib.hid (show R = (b == 0) by rw [HF.out, b6]; rfl)
      clear HF hm h6
      generalize hq : (b == 0) = q2 at *
      go_enter Tryz.func73, Tryz.ntmps73
      go_wp2_with fail
      rw [← hwA]
      clear hwA
      refine (S1.out _).mono ?_
      rintro e w1 ⟨rfl, hu1⟩
      obtain ⟨x0, x1⟩ := HC.out w1 hu1
      have HU := Lib.hid (UA.out.trans hu1)
      clear S1 hu1
      go_wp2_with fail
      go_ret
      exact ⟨by rw [HR.out]; rfl, HU.out⟩

set_option maxRecDepth 20000 in
set_option maxHeartbeats 2000000 in
theorem shapeI (v : Value) (f : List Nd) (w : World) (fp : List Nat) (hR : R_F1 fp w [v] f) (hlen : f.length ≤ 2000000) :
    Calls Tryz.prog 63 #[v] w fun e w' => e = .returned (.bool (shapeF arI 1 f)) ∧ Upd [] w w' := by
  obtain ⟨a, cap, rfl, h1, h2, hc⟩ := slF4_open hR
  unfold maxLen at h2
  have HC := Lib.hid hc
  clear hR hc
  go_enter Tryz.func63, Tryz.ntmps63
  go_wp2_with fail
  go_loopw [3, 8] (fun mv iv wr => ∃ (k : Nat) (m : Int), k ≤ f.length ∧ iv = .int .i64 k ∧ mv = .int .i64 m ∧ 0 ≤ m ∧ m ≤ 1 + 2 * k ∧ Hid (shapeF arI m (f.drop k) = shapeF arI 1 f) ∧ Hid (Upd [] w wr)) (fun _ iv _ => f.length - (intOf iv).toNat)
  case atStart => exact ⟨0, 1, Nat.zero_le _, rfl, rfl, by omega, by omega, Lib.hid rfl, Lib.hid (Upd.refl _ _)⟩
  case round =>
    obtain ⟨wo, rfl⟩ : ∃ wo : World, wo = wr := ⟨_, rfl⟩
    obtain ⟨k, m, hk, rfl, rfl, hm0, hm1, HS, HU⟩ := hrel
    by_cases hlt : k < f.length
    · obtain ⟨b1, o1, rfl, -, -, p1, p2, p3, p4⟩ := HC.out k hlt
      have q1 := HU.out.keep p1
      have q2 := HU.out.keep p2
      have q3 := HU.out.keep p3
      have q4 := HU.out.keep p4
      have hS := HS.out
      rw [List.drop_eq_getElem_cons hlt, shapeF] at hS
      have S1 := Lib.hid (fun W : World => operandsI f[k].kd f[k].vr f[k].lb f[k].nt W)
      have har := arI_in f[k].kd
      clear p1 p2 p3 p4 HS
      by_cases hz : m = 0
      · rw [if_pos hz] at hS
        have HR := Lib.hid hS
        have bz : (m == 0) = true := by simpa using hz
        clear hS hz S1 har
        generalize f[k] = x at *
        obtain ⟨x1, x2, x3, x4⟩ := x
        simp only at q1 q2 q3 q4
        go_wp2_with fail
        go_ret
        exact ⟨by rw [← HR.out]; rfl, HU.out.alloc _⟩
      · rw [if_neg hz] at hS
        have HR := Lib.hid hS
        have bz : (m == 0) = false := by simpa using hz
        clear hS hz
        generalize arI f[k].kd = ar at *
        generalize f[k] = x at *
        obtain ⟨x1, x2, x3, x4⟩ := x
        simp only at q1 q2 q3 q4 S1
        go_wp2_with fail
        refine (S1.out _).mono ?_
        rintro e w1 ⟨rfl, hu1⟩
        have HU1 := Lib.hid ((HU.out.alloc _).trans hu1)
        clear S1 hu1 HU q1 q2 q3 q4
        obtain ⟨m2, hm2⟩ : ∃ m2 : Int, m2 = m + ar - 1 := ⟨_, rfl⟩
        have hm3 : m + (ar - 1) = m2 := by omega
        have HM := Lib.hid hm2
        rw [← hm2] at HR
        have hm4 : 0 ≤ m2 := by
          have hmz : m ≠ 0 := by simpa using bz
          omega
        have hm5 : m2 ≤ 1 + 2 * (k + 1) := by omega
        clear hm2
        go_wp2_with fail
        go_roundw
        case rel => exact ⟨k + 1, m2, by omega, by go_num, rfl, hm4, by omega, HR, HU1⟩
        case measure => simp [intOf]; omega
    · obtain rfl : k = f.length := by omega
      have HR := Lib.hid (show (m == 0) = shapeF arI 1 f by rw [← HS.out, List.drop_length]; rfl)
      clear HS
      generalize hq : (m == 0) = q at *
      go_wp2_with fail
      go_ret
      exact ⟨by rw [← HR.out]; rfl, HU.out⟩

set_option maxRecDepth 20000 in
set_option maxHeartbeats 2000000 in
theorem endI (v : Value) (f : List Nd) (i : Nat) (w : World) (fp : List Nat) (hR : R_F1 fp w [v] f) (hlen : f.length ≤ 2000000) (hi : i < f.length) (hs : ∃ q : Int, 1 ≤ q ∧ shapeF arI q (f.drop i) = true) :
    Calls Tryz.prog 93 #[v, .int .i64 i] w fun e w' => e = .returned (.int .i64 ((i + endF arI 1 (f.drop i) : Nat) : Int)) ∧ Upd [] w w' := by
  obtain ⟨a, cap, rfl, h1, h2, hc⟩ := slF4_open hR
  unfold maxLen at h2
  have HC := Lib.hid hc
  have HQ := Lib.hid hs
  clear hR hc hs
  go_enter Tryz.func93, Tryz.ntmps93
  go_wp2_with fail
  go_loopw [1, 5] (fun kv mv wr => ∃ (k : Nat) (m : Int), k ≤ f.length ∧ kv = .int .i64 k ∧ mv = .int .i64 m ∧ 0 ≤ m ∧ m ≤ 1 + 2 * k ∧ Hid (∃ q : Int, m ≤ q ∧ shapeF arI q (f.drop k) = true) ∧ Hid (k + endF arI m (f.drop k) = i + endF arI 1 (f.drop i)) ∧ Hid (Upd [] w wr)) (fun kv _ _ => f.length - (intOf kv).toNat)
  case atStart => exact ⟨i, 1, by omega, rfl, rfl, by omega, by omega, Lib.hid (by obtain ⟨q, h, h'⟩ := HQ.out; exact ⟨q, h, h'⟩), Lib.hid rfl, Lib.hid (Upd.refl _ _)⟩
  case round =>
    clear HQ
    obtain ⟨wo, rfl⟩ : ∃ wo : World, wo = wr := ⟨_, rfl⟩
    obtain ⟨k, m, hk, rfl, rfl, hm0, hm1, HS, HE, HU⟩ := hrel
    by_cases hz : m = 0
    · subst hz
      have HR := Lib.hid (show k = i + endF arI 1 (f.drop i) by
        rw [← HE.out]
        cases f.drop k with
        | nil => rfl
        | cons n l => simp [endF])
      clear HS HE
      go_wp2_with fail
      go_ret
      exact ⟨by rw [← HR.out]; rfl, HU.out⟩
    · have hlt : k < f.length := by
        rcases Nat.lt_or_ge k f.length with h | h
        · exact h
        · exfalso
          obtain ⟨q, g1, g2⟩ := HS.out
          rw [List.drop_of_length_le h, shapeF] at g2
          simp at g2; omega
      obtain ⟨b1, o1, rfl, -, -, p1, p2, p3, p4⟩ := HC.out k hlt
      have q1 := HU.out.keep p1
      have q2 := HU.out.keep p2
      have q3 := HU.out.keep p3
      have q4 := HU.out.keep p4
      have S1 := Lib.hid (operandsI f[k].kd f[k].vr f[k].lb f[k].nt wo)
      have har := arI_in f[k].kd
      have HS2 := Lib.hid (show ∃ q : Int, m + arI f[k].kd - 1 ≤ q ∧ shapeF arI q (f.drop (k + 1)) = true from by
        obtain ⟨q, g1, g2⟩ := HS.out
        rw [List.drop_eq_getElem_cons hlt] at g2
        exact ⟨q + arI f[k].kd - 1, by omega, (shape_step g2).2⟩)
      have HE2 := Lib.hid (show k + 1 + endF arI (m + arI f[k].kd - 1) (f.drop (k + 1)) = i + endF arI 1 (f.drop i) by
        rw [← HE.out, List.drop_eq_getElem_cons hlt, endF, if_neg (by omega)]; omega)
      have hmp : 0 < m := by omega
      clear p1 p2 p3 p4 HS HE hz
      generalize arI f[k].kd = ar at *
      generalize f[k] = x at *
      obtain ⟨x1, x2, x3, x4⟩ := x
      simp only at q1 q2 q3 q4 S1
      go_wp2_with fail
      refine S1.out.mono ?_
      rintro e w1 ⟨rfl, hu1⟩
      have HU1 := Lib.hid (HU.out.trans hu1)
      clear S1 hu1 HU q1 q2 q3 q4
      obtain ⟨m2, hm2⟩ : ∃ m2 : Int, m2 = m + ar - 1 := ⟨_, rfl⟩
      have hm3 : m + (ar - 1) = m2 := by omega
      rw [← hm2] at HS2 HE2
      have hm4 : 0 ≤ m2 := by omega
      have hm5 : m2 ≤ 1 + 2 * (k + 1) := by omega
      clear hm2
      go_wp2_with fail
      go_roundw
      case rel => exact ⟨k + 1, m2, by omega, by go_num, rfl, hm4, by omega, HS2, HE2, HU1⟩
      case measure => simp [intOf]; omega

end Go.Proofs.YtddciieaolaleaaGreatDoor

/-
  Formulas as trees: the nodes of a tree in order; a tree out of nodes: what each call returns and makes.
-/
namespace Go.Proofs.YtddciieaolaleaaGreatDoor
open Go.RowKit

abbrev encN (t : Nd) : List Value := [ei t.kd, ei t.vr, es t.lb, .bool t.nt]
abbrev arN (t : Nd) : Int := arI t.kd
abbrev R_X : Rp (Tr Nd) := R_T encN
theorem R_Xk : Kept R_X := R_Tk _
theorem arN_nonneg (t : Nd) : 0 ≤ arN t := (arI_in t.kd).1
theorem shapeG_F : ∀ (l : List Nd) (m : Int), shapeG arN m l = shapeF arI m l
  | [], m => rfl
  | n :: l, m => by rw [shapeG, shapeF, shapeG_F l]

theorem Tryz.infoX : (Tryz.prog.info? 59).map (fun i => (i.zero, i.size, i.bytes)) = some (some (.pointer none), 1, 8) := by kernel_rfl

theorem R_X_open {fp : List Nat} {w : World} {v : Value} {t : Nd} {args : List (Tr Nd)} (h : R_X fp w [v] (.mk t args)) :
    ∃ b s fa, v = .pointer (some ⟨b, 0, none⟩) ∧ fp = b :: fa ∧ w.cell? ⟨b, 0, none⟩ = some (ei t.kd) ∧ w.cell? ⟨b, 1, none⟩ = some (ei t.vr) ∧ w.cell? ⟨b, 2, none⟩ = some (es t.lb) ∧ w.cell? ⟨b, 3, none⟩ = some (.bool t.nt) ∧ w.cell? ⟨b, 4, none⟩ = some s ∧ slP R_X fa w [s] args := by
  obtain ⟨b, s, fa, rfl, rfl, -, h1, h2⟩ := R_T_open h
  exact ⟨b, s, fa, rfl, rfl, h1 0 _ rfl, h1 1 _ rfl, h1 2 _ rfl, h1 3 _ rfl, h1 4 _ rfl, h2⟩
theorem R_X_mk {w : World} {t : Nd} {args : List (Tr Nd)} {b : Nat} {s : Value} {fa : List Nat} (c0 : w.cell? ⟨b, 0, none⟩ = some (ei t.kd)) (c1 : w.cell? ⟨b, 1, none⟩ = some (ei t.vr)) (c2 : w.cell? ⟨b, 2, none⟩ = some (es t.lb)) (c3 : w.cell? ⟨b, 3, none⟩ = some (.bool t.nt)) (c4 : w.cell? ⟨b, 4, none⟩ = some s)
    (h : slP R_X fa w [s] args) : R_X (b :: fa) w [.pointer (some ⟨b, 0, none⟩)] (.mk t args) := by
  refine R_T_mk (World.block_lt_of_cell? w _ c0) (fun j u hj => ?_) h
  match j, hj with
  | 0, hj => cases hj; exact c0
  | 1, hj => cases hj; exact c1
  | 2, hj => cases hj; exact c2
  | 3, hj => cases hj; exact c3
  | 4, hj => cases hj; exact c4
theorem Below.keepX {α : Type} {R : Rp α} (K : Kept R) {B : Nat} {w w' : World} {fp cs x} (h : R fp w cs x) (hb : Below B w w') (hf : ∀ b ∈ fp, b < B) : R fp w' cs x :=
  K.frame h hb.size fun b hm => hb.block b (hf b hm)

set_option maxRecDepth 20000 in
set_option maxHeartbeats 1000000 in
theorem nodesX (n : Nat) : ∀ (x : Tr Nd) (w : World) (v vo : Value) (fp : List Nat) (B : Nat) (out : List Nd), (flatT x).length ≤ n → out.length + (flatT x).length ≤ 1000000 →
    R_X fp w [v] x → (∀ b ∈ fp, b < B) → B ≤ w.heap.size → w.ownsRow B 54 4 vo out.length (out.flatMap encN) →
    Calls Tryz.prog 69 #[v, vo] w fun e w' => (∃ v', e = .returned v' ∧ w'.ownsRow B 54 4 v' (out ++ flatT x).length ((out ++ flatT x).flatMap encN)) ∧ Below B w w' := by
  induction n with
  | zero => intro x w v vo fp B out hn; have := flatT_pos x; omega
  | succ n ih =>
    intro x w v vo fp B out hn hlen hR hfp hB hown
    obtain ⟨i0, hi, hz0, hz1, hz2⟩ := info_parts Tryz.infoNd
    obtain ⟨t, args⟩ := x
    obtain ⟨b0, s, fa, rfl, rfl, c0, c1, c2, c3, c4, hargs⟩ := R_X_open hR
    obtain ⟨a, cap, rfl, h1, h2, hc⟩ := slP_open hargs
    unfold maxLen at h2
    simp only [flatT, List.length_cons] at hn hlen
    have hfx : ∀ k, (flatTs (args.take k)).length ≤ (flatTs args).length := flatTs_take_le args
    have HFX := Lib.hid hfx
    have HFP := Lib.hid hfp
    have HIH := Lib.hid ih
    have hb0 : b0 < B := hfp b0 (by simp)
    obtain ⟨t1, t2, t3, t4⟩ := t
    simp only at c0 c1 c2 c3
    clear hfx hfp ih hR
    go_enter Tryz.func69, Tryz.ntmps69
    go_wp2_with (first
      | (at_builtin; refine wpList_append_tight _ rfl _ _ 31 rfl B 54 i0 (.agg #[.int .i64 0, .int .i64 0, .string ⟨#[]⟩, .bool false]) 4 40 Tryz.underlying31 hi hz0 hz1 hz2 rfl (by decide) _ _ _ rfl (hown.alloc _) ⟨w.heap.size, 0, none⟩ 1 1 [ei t1, ei t2, es t3, .bool t4] rfl rfl (fun j u hj => by rw [addr_add]; exact cell_new w #[ei t1, ei t2, es t3, .bool t4] _ _ rfl _ _ (by simpa using hj)) (by intro u hu; simp at hu; rcases hu with rfl | rfl | rfl | rfl <;> rfl) (by unfold maxLen; omega) (by omega) (by simp; omega) ?_)
      | fail)
    intro v2 w2 hown2 hg2 ht2
    have hB2 : Below B w w2 := ((Below.refl B w).alloc hB _).grown hg2 (by simp; omega) (fun k hk => (hown.lt k hk).1)
    have hown3 : w2.ownsRow B 54 4 v2 (out ++ [(⟨t1, t2, t3, t4⟩ : Nd)]).length ((out ++ [(⟨t1, t2, t3, t4⟩ : Nd)]).flatMap encN) := by simpa using hown2
    have c4' : w2.cell? ⟨b0, 4, none⟩ = some (.slice a args.length cap) := (hB2.cell (p := ⟨b0, 4, none⟩) hb0).trans c4
    have hsz := hB2.size
    clear hown hown2 hg2 ht2 c0 c1 c2 c3 c4
    go_wp2_with fail
    go_loopw [1, 19] (fun vv i wr => ∃ k : Nat, k ≤ args.length ∧ i = .int .i64 k ∧ Below B w wr ∧ wr.ownsRow B 54 4 vv (out ++ (⟨t1, t2, t3, t4⟩ : Nd) :: flatTs (args.take k)).length ((out ++ (⟨t1, t2, t3, t4⟩ : Nd) :: flatTs (args.take k)).flatMap encN)) (fun _ i _ => args.length - (intOf i).toNat)
    case atStart => exact ⟨0, Nat.zero_le _, rfl, hB2, by simpa [flatTs] using hown3⟩
    case round =>
      clear hB2 hown3 c4' hsz
      obtain ⟨k, hk, rfl, hB2, hown⟩ := hrel
      by_cases hlt : k < args.length
      · obtain ⟨b, off, u, f, rfl, hbm, hbl, hcell, hsub, hr⟩ := hc k hlt
        have hbB : b < B := HFP.out b (by simp [hbm])
        have hcell' : wr.cell? ⟨b, off + k, none⟩ = some u := (hB2.cell (p := ⟨b, off + k, none⟩) hbB).trans hcell
        have hr' : R_X f wr [u] args[k] := Below.keepX R_Xk hr hB2 (fun b hb => HFP.out b (by simp [hsub b hb]))
        have hsz := hB2.size
        have hft := flatTs_take args k hlt
        have q1 := HFX.out (k + 1)
        rw [hft, List.length_append] at q1
        have S2 := Lib.hid (HIH.out args[k] wr u _ f B _ (by omega) (by simp only [List.length_append, List.length_cons]; omega) hr' (fun b hb => HFP.out b (by simp [hsub b hb])) (by omega) hown)
        have HFT := Lib.hid hft
        clear hft hc hown hr hr' hcell
        go_wp2_with fail
        refine S2.out.mono ?_
        rintro e w3 ⟨⟨v3, rfl, hown3⟩, hb3⟩
        have hB3 := hB2.trans hb3
        rw [List.append_assoc, List.cons_append, ← HFT.out] at hown3
        clear S2 hB2 hb3
        go_wp2_with fail
        go_roundw
        case rel => exact ⟨k + 1, by omega, by go_num, hB3, hown3⟩
        case measure => simp [intOf]; omega
      · obtain rfl : args.length = k := by omega
        rw [List.take_length] at hown
        clear hc
        go_wp2_with fail
        go_ret
        exact ⟨⟨_, rfl, hown⟩, hB2⟩

set_option maxHeartbeats 400000 in
theorem listX (x : Tr Nd) (w : World) (v : Value) (fp : List Nat) (hl : (flatT x).length ≤ 1000000) (hR : R_X fp w [v] x) :
    Calls Tryz.prog 40 #[v] w fun e w' => (∃ v', e = .returned v' ∧ New R_F1 w w' v' (flatT x)) ∧ Upd [] w w' := by
  have S2 := nodesX _ x w v (.slice none 0 0) fp w.heap.size [] (Nat.le_refl _) (by simpa using hl) hR (R_Xk.lt hR) (Nat.le_refl _) (World.ownsRow_nil _ _ _ _)
  go_enter Tryz.func40, Tryz.ntmps40
  go_wp2_with fail
  refine S2.mono ?_
  rintro e w1 ⟨⟨v1, rfl, hown⟩, hb⟩
  go_wp2_with fail
  go_ret
  obtain ⟨fp', g1, g2, g3, -⟩ := Flat.ofOwns hown
  exact ⟨⟨_, rfl, fp', ⟨_, rfl, by simpa using g1⟩, g2, g3⟩, Upd.ofBelow hb⟩

/-- a slice without its first element, whatever address its value bears. -/
theorem slF_tailX {α : Type} {n : Nat} {enc : α → List Value} (he : ∀ x, (enc x).length = n) {fp : List Nat} {w : World} {b off len cap : Nat} {x : α} {xs : List α}
    (h : slF n enc fp w [.slice (some ⟨b, off, none⟩) len cap] (x :: xs)) (o' : Nat) (ho : xs ≠ [] → o' = off + n) :
    ∃ fp', slF n enc fp' w [.slice (some ⟨b, o', none⟩) (len - 1) (cap - 1)] xs ∧ (∀ c ∈ fp', c ∈ fp) := by
  obtain ⟨v, hv, a, cap', hv2, h1, h2, h3, h4⟩ := h
  cases hv
  simp only [Value.slice.injEq] at hv2
  obtain ⟨rfl, rfl, rfl⟩ := hv2
  simp only [List.length_cons] at *
  have hl : (xs.flatMap enc).length = xs.length * n := by
    clear h3 h4 ho
    induction xs with
    | nil => simp
    | cons y ys ih => rw [List.flatMap_cons, List.length_append, he, ih (by simp at h1; omega), List.length_cons, Nat.add_mul]; omega
  rcases h4 with ⟨h0, -⟩ | ⟨b', off', hb', rfl, hbl, hc⟩
  · omega
  · simp only [Option.some.injEq, Addr.mk.injEq, and_true] at hb'
    obtain ⟨rfl, rfl⟩ := hb'
    by_cases hx : xs = []
    · subst hx
      exact ⟨[], ⟨_, rfl, some ⟨b, o', none⟩, cap - 1, by simp, by simp, by omega, by simp, Or.inl ⟨rfl, rfl⟩⟩, by simp⟩
    · refine ⟨[b], ⟨_, rfl, _, cap - 1, by simp, by omega, by omega, hl, Or.inr ⟨b, o', rfl, rfl, hbl, fun j u hu => ?_⟩⟩, by simp⟩
      have := hc (n + j) u (by rw [List.flatMap_cons, List.getElem?_append_right (by rw [he]; omega), he, Nat.add_sub_cancel_left]; exact hu)
      rw [ho hx, Nat.add_assoc]; exact this

set_option maxRecDepth 20000 in
set_option maxHeartbeats 2000000 in
theorem formFrom (n : Nat) : ∀ (x : Tr Nd) (rest : List Nd) (w : World) (v : Value) (fp : List Nat), (flatT x).length ≤ n → okT arN x = true → (flatT x).length ≤ 1000 → R_F1 fp w [v] (flatT x ++ rest) →
    Calls Tryz.prog 67 #[v] w fun e w' => (∃ v' vr fr, e = .returned (.tuple #[v', vr]) ∧ New R_X w w' v' x ∧ R_F1 fr w' [vr] rest ∧ ∀ b ∈ fr, b ∈ fp) ∧ Upd [] w w' := by
  induction n with
  | zero => intro x rest w v fp hn; have := flatT_pos x; omega
  | succ n ih =>
    intro x rest w v fp hn hok h100 hR
    obtain ⟨i0, hi, hz0, hz1, hz2⟩ := info_parts Tryz.infoX
    obtain ⟨⟨t1, t2, t3, t4⟩, args⟩ := x
    simp only [okT, Bool.and_eq_true, decide_eq_true_eq] at hok
    have hok : (args.length : Int) = arI t1 ∧ okTs arN args = true := hok
    simp only [flatT, List.cons_append] at hR hn h100
    have hR0 := hR
    obtain ⟨a, cap, rfl, h1, h2, hc⟩ := slF4_open hR
    obtain ⟨b, off, rfl, hfp, hbl, q1, q2, q3, q4⟩ := hc 0 (by simp)
    simp only [List.length_cons, List.getElem_cons_zero] at *
    unfold maxLen at h2
    have HIH := Lib.hid ih
    have HOK := Lib.hid hok
    have HR := Lib.hid hR0
    rw [Nat.zero_mul, Nat.add_zero] at q1 q2 q3 q4
    clear hc hR hR0
    generalize hL : (flatTs args ++ rest).length = L at *
    have HL := Lib.hid hL
    clear ih hok hL
    by_cases hcap : cap = 1
    · have hL0 : L = 0 := by omega
      have hnil : flatTs args ++ rest = [] := List.eq_nil_of_length_eq_zero (by rw [HL.out]; exact hL0)
      obtain ⟨hna, hnr⟩ := List.append_eq_nil_iff.1 hnil
      have hargs : args = [] := by
        match args, hna with
        | [], _ => rfl
        | y :: ys, h => exfalso; have := flatT_pos y; simp only [flatTs, List.append_eq_nil_iff] at h; rw [h.1] at this; simp at this
      subst hargs hnr hL0
      have hz : arI t1 = 0 := by have := HOK.out.1; simpa using this.symm
      subst hcap
      have HRS := Lib.hid (show ∀ w' : World, R_F1 [] w' [.slice (some ⟨b, off, none⟩) 0 0] ([] : List Nd) from fun w' => ⟨_, rfl, some ⟨b, off, none⟩, 0, rfl, Nat.le_refl _, by simp [maxLen], by simp, Or.inl ⟨rfl, rfl⟩⟩)
      have HZ := Lib.hid hz
      clear HR hz hnil hna
      go_enter Tryz.func67, Tryz.ntmps67
      go_wp2_with fail
      refine (operandsI t1 t2 t3 t4 _).mono ?_
      rintro e w1 ⟨rfl, hu1⟩
      rw [HZ.out]
      have hU1 : Upd [] w w1 := ((Upd.refl [] w).alloc _).trans hu1
      have c0 : w1.cell? ⟨w.heap.size, 0, none⟩ = some (ei t1) := hu1.keep (by simp)
      have c1 : w1.cell? ⟨w.heap.size, 1, none⟩ = some (ei t2) := hu1.keep (by simp)
      have c2 : w1.cell? ⟨w.heap.size, 2, none⟩ = some (es t3) := hu1.keep (by simp)
      have c3 : w1.cell? ⟨w.heap.size, 3, none⟩ = some (.bool t4) := hu1.keep (by simp)
      have c4 : w1.cell? ⟨w.heap.size, 4, none⟩ = some (.slice none 0 0) := hu1.keep (by simp)
      have hown0 : Own [w.heap.size] w1 := (own_new w #[ei t1, ei t2, es t3, .bool t4, .slice none 0 0] 87).upd hu1 (by simp)
      have HN := Lib.hid (show New R_X w w1 (.pointer (some ⟨w.heap.size, 0, none⟩)) (.mk ⟨t1, t2, t3, t4⟩ []) from
        ⟨[w.heap.size], R_X_mk c0 c1 c2 c3 c4 (slP_nilv _ _), hown0, by simp⟩)
      clear hu1 c0 c1 c2 c3 c4 hown0 q1 q2 q3 q4
      go_wp2_with fail
      go_loopw [5, 18] (fun rv i wr => rv = .slice (some ⟨b, off, none⟩) 0 0 ∧ i = .int .i64 0 ∧ wr = w1) (fun _ _ _ => 0)
      case atStart => exact ⟨rfl, rfl, rfl⟩
      case round =>
        obtain ⟨rfl, rfl, rfl⟩ := hrel
        go_wp2_with fail
        go_ret2
        exact ⟨⟨_, _, [], rfl, HN.out, HRS.out _, by simp⟩, hU1⟩
    · obtain ⟨fp1, htl, hfs⟩ := slF_tailX (n := 4) (by intro x; rfl) HR.out (off + 4) (fun _ => rfl)
      simp only [Nat.add_sub_cancel] at htl
      have HTL := Lib.hid htl
      have HFS := Lib.hid hfs
      clear htl hfs
      go_enter Tryz.func67, Tryz.ntmps67
      go_wp2_with fail
      refine (operandsI t1 t2 t3 t4 _).mono ?_
      rintro e w1 ⟨rfl, hu1⟩
      have hU1 : Upd [] w w1 := ((Upd.refl [] w).alloc _).trans hu1
      obtain ⟨m, hm⟩ : ∃ m : Nat, arI t1 = m := ⟨args.length, HOK.out.1.symm⟩
      have HM := Lib.hid (show m = args.length by have := HOK.out.1; omega)
      have hm2 : args.length ≤ 2 := by have := HOK.out.1; have := arI_in t1; omega
      rw [hm]
      have c0 : w1.cell? ⟨w.heap.size, 0, none⟩ = some (ei t1) := hu1.keep (by simp)
      have c1 : w1.cell? ⟨w.heap.size, 1, none⟩ = some (ei t2) := hu1.keep (by simp)
      have c2 : w1.cell? ⟨w.heap.size, 2, none⟩ = some (es t3) := hu1.keep (by simp)
      have c3 : w1.cell? ⟨w.heap.size, 3, none⟩ = some (.bool t4) := hu1.keep (by simp)
      have c4 : w1.cell? ⟨w.heap.size, 4, none⟩ = some (.slice none 0 0) := hu1.keep (by simp)
      have hown0 : Own [w.heap.size] w1 := (own_new w #[ei t1, ei t2, es t3, .bool t4, .slice none 0 0] 87).upd hu1 (by simp)
      have hT1 : ∀ b ∈ fp1, b < w.heap.size := fun b hb => by
        have := HFS.out b hb
        rw [hfp] at this
        simp at this; omega
      have hrest1 := R_F1k.upd HTL.out hU1 (by simp)
      have HT1 := Lib.hid hT1
      clear hm hu1 HTL HR hT1 q1 q2 q3 q4
      go_wp2_with fail
      go_loopw [5, 18] (fun rv i wr => ∃ (k : Nat) (vo : Value) (fr : List Nat), k ≤ args.length ∧ i = .int .i64 k ∧ Upd [] w wr ∧ wr.cell? ⟨w.heap.size, 0, none⟩ = some (ei t1) ∧ wr.cell? ⟨w.heap.size, 1, none⟩ = some (ei t2) ∧ wr.cell? ⟨w.heap.size, 2, none⟩ = some (es t3) ∧ wr.cell? ⟨w.heap.size, 3, none⟩ = some (.bool t4) ∧
          wr.cell? ⟨w.heap.size, 4, none⟩ = some vo ∧ Own [w.heap.size] wr ∧ Acc R_X (w.alloc (.cells #[ei t1, ei t2, es t3, .bool t4, .slice none 0 0] 87)) 59 wr vo (args.take k) ∧ R_F1 fr wr [rv] (flatTs (args.drop k) ++ rest) ∧ ∀ b ∈ fr, b ∈ fp1)
        (fun _ i _ => args.length - (intOf i).toNat)
      case atStart => exact ⟨0, _, fp1, Nat.zero_le _, rfl, hU1, c0, c1, c2, c3, c4, hown0, Acc.nil _ _ _ _, hrest1, fun b hb => hb⟩
      case round =>
        clear hU1 c0 c1 c2 c3 c4 hown0 hrest1
        obtain ⟨k, vo, fr, hk, rfl, hU, c0, c1, c2, c3, c4, hown0, hacc, hrest, hfr⟩ := hrel
        have HFR := Lib.hid hfr
        clear hfr
        by_cases hlt : k < args.length
        · have hmk : k < m := by rw [HM.out]; exact hlt
          have hfd : flatTs (args.drop k) = flatT args[k] ++ flatTs (args.drop (k + 1)) := by rw [List.drop_eq_getElem_cons hlt]; rfl
          have hlen1 : (flatT args[k]).length + (flatTs (args.drop (k + 1))).length ≤ (flatTs args).length := by
            have e1 : flatTs args = flatTs (args.take k) ++ flatTs (args.drop k) := by rw [← flatTs_append, List.take_append_drop]
            rw [e1, hfd, List.length_append, List.length_append]; omega
          have hoky : okT arN args[k] = true := by
            have h2 := HOK.out.2
            rw [okTs_all, List.all_eq_true] at h2
            exact h2 _ (List.getElem_mem hlt)
          rw [hfd, List.append_assoc] at hrest
          have S2 := Lib.hid (HIH.out args[k] (flatTs (args.drop (k + 1)) ++ rest) wr _ fr (by omega) hoky (by omega) hrest)
          have hts := List.take_succ_eq_append_getElem hlt
          have HTS := Lib.hid hts
          clear hfd hlen1 hoky hrest hts
          go_wp2_with fail
          refine S2.out.mono ?_
          rintro e w2 ⟨⟨v', vr, fr2, rfl, hnew, hrest2, hfr2⟩, hu2⟩
          have hU2 := hU.trans hu2
          have c0' := hu2.keep c0
          have c1' := hu2.keep c1
          have c2' := hu2.keep c2
          have c3' := hu2.keep c3
          have c4' := hu2.keep c4
          have hown0' := hown0.upd hu2 (by simp)
          obtain ⟨us, hou, hrows⟩ := hacc
          have hou2 := hou.kept (row := none) ⟨hu2.os, hu2.tape, hu2.output, hu2.size, fun k hk _ => hu2.block k hk (by simp)⟩ (by cases vo.ownBlock <;> simp)
          have hsz := hU.size
          have hsz0 : w.heap.size < wr.heap.size := World.block_lt_of_cell? wr _ c0
          have hsz2 := hu2.size
          have hform : ∃ b, v' = .pointer (some ⟨b, 0, none⟩) := by obtain ⟨f9, h9, -⟩ := hnew; exact R_T_form h9
          obtain ⟨pb, rfl⟩ := hform
          have hlk : (args.take k).length ≤ 100 := by
            have : (args.take k).length ≤ m := by rw [HM.out, List.length_take]; omega
            have h9 := arI_in t1
            have h10 := HOK.out.1
            rw [List.length_take]; omega
          have HFR2 := Lib.hid (fun b hb => HFR.out b (hfr2 b hb) : ∀ b ∈ fr2, b ∈ fp1)
          have hfz : w2.frozen? ⟨w.heap.size, 4, none⟩ = false := hown0'.frozen (by simp) _
          clear S2 hU c0 c1 c2 c3 c4 hown0 hfr2 HFR
          go_wp2_with (first
            | (at_builtin; refine wpList_append_tight _ rfl _ _ 85 rfl (w.alloc (.cells #[ei t1, ei t2, es t3, .bool t4, .slice none 0 0] 87)).heap.size 59 i0 (.pointer none) 1 8 Tryz.underlying85 hi hz0 hz1 hz2 rfl (by decide) _ _ _ rfl (hou2.alloc _) ⟨w2.heap.size, 0, none⟩ 1 1 [.pointer (some ⟨pb, 0, none⟩)] rfl rfl ?c1 ?c2 ?c3 ?c4 ?c5 ?_)
            | fail)
          case c1 => intro j u hj; match j, hj with | 0, hj => simp at hj; subst hj; simp [Addr.add]
          case c2 => intro u hu; simp at hu; subst hu; rfl
          case c3 => unfold maxLen; omega
          case c4 => omega
          case c5 => simp; omega
          intro v2 w3 hown3 hg3 ht3
          obtain ⟨a2, cc2, rfl⟩ := ownsRow_form hown3
          have hlus : us.length = k := by have := hrows.length; rw [this, List.length_take]; omega
          have hacc2 := Acc.push R_Xk hou hrows (by simp; omega) hu2 hnew _ (by simpa [Nat.min_eq_left hk] using hown3) hg3 (by simpa using ht3)
          have hu3 : Upd vo.ownBlock.toList (w2.alloc (.cells #[.pointer (some ⟨pb, 0, none⟩)] 59)) w3 := (Upd.refl _ _).grown hg3 (fun k hk => Or.inr (by simp [hk]))
          have hvo : ∀ b ∈ vo.ownBlock.toList, w.heap.size + 1 ≤ b := fun b hb => by have := (hou.lt b (by simpa using hb)).1; simpa using this
          have hne : ∀ b ∈ [w.heap.size], b ∉ vo.ownBlock.toList := fun b hb hm => by have := hvo b hm; simp at hb; omega
          have hU3 : Upd [] w w3 := (hU2.alloc _).fresh hu3 (fun b hb => Or.inl (by have := hvo b hb; omega))
          have hblk : w3.heap[w.heap.size]? = (w2.alloc (.cells #[.pointer (some ⟨pb, 0, none⟩)] 59)).heap[w.heap.size]? := hu3.block _ (by simp; omega) (hne _ (by simp))
          have hblk2 : w3.heap[w.heap.size]? = w2.heap[w.heap.size]? := by rw [hblk, Below.heap_alloc _ _ _ (by omega)]
          have d0 : w3.cell? ⟨w.heap.size, 0, none⟩ = some (ei t1) := (World.cell?_of_block (w := w2) hblk2).trans c0'
          have d1 : w3.cell? ⟨w.heap.size, 1, none⟩ = some (ei t2) := (World.cell?_of_block (w := w2) hblk2).trans c1'
          have d2 : w3.cell? ⟨w.heap.size, 2, none⟩ = some (es t3) := (World.cell?_of_block (w := w2) hblk2).trans c2'
          have d3 : w3.cell? ⟨w.heap.size, 3, none⟩ = some (.bool t4) := (World.cell?_of_block (w := w2) hblk2).trans c3'
          have d4 : w3.cell? ⟨w.heap.size, 4, none⟩ = some vo := (World.cell?_of_block (w := w2) hblk2).trans c4'
          have hown4 : Own [w.heap.size] w3 := hown0'.frame (by intro b hb; obtain rfl : b = w.heap.size := (by simpa using hb); exact hblk2)
          have hfz3 : w3.frozen? ⟨w.heap.size, 4, none⟩ = false := hown4.frozen (by simp) _
          have hrest3 : R_F1 fr2 (w3.setCell ⟨w.heap.size, 4, none⟩ (.slice a2 (k + 1) cc2)) [vr] (flatTs (args.drop (k + 1)) ++ rest) := by
            refine R_F1k.frame hrest2 (by have := hU3.size; have := hu3.size; simp [World.setCell] at *; omega) (fun b hb => ?_)
            have hb1 := HT1.out b (HFR2.out b hb)
            rw [Below.heap_setCell _ _ _ _ (by simp; omega), hu3.block b (by simp; omega) (fun hm => by have := hvo b hm; omega), Below.heap_alloc _ _ _ (by omega)]
          have hus4 : Upd [w.heap.size] w3 (w3.setCell ⟨w.heap.size, 4, none⟩ (.slice a2 (k + 1) cc2)) := (Upd.refl _ _).setCell (by simp) _
          have hacc4 := hacc2.other R_Xk hus4 (by simp)
          rw [← HTS.out] at hacc4
          have HP := Lib.hid (And.intro hrest3 (And.intro hacc4 (And.intro (hU3.setCell (p := ⟨w.heap.size, 4, none⟩) (Or.inl (Nat.le_refl _)) (.slice a2 (k + 1) cc2)) (hown4.setCell ⟨w.heap.size, 4, none⟩ (.slice a2 (k + 1) cc2)))))
          clear hrest3 hus4 hacc4 hown4 hblk hblk2 hne hvo hu3 hU3 hg3 ht3 hown3 hacc2 hou hou2 hrows hnew hrest2 c0' c1' c2' c3' c4' hown0' hu2 hU2 hfz HTS
          go_wp2
          go_roundw
          case rel =>
            refine ⟨k + 1, .slice a2 (k + 1) cc2, fr2, by omega, by go_num, HP.out.2.2.1, ?_, ?_, ?_, ?_, ?_, HP.out.2.2.2, HP.out.2.1, HP.out.1, HFR2.out⟩
            · exact (World.cell?_setCell_other _ _ _ _ (by simp)).trans d0
            · exact (World.cell?_setCell_other _ _ _ _ (by simp)).trans d1
            · exact (World.cell?_setCell_other _ _ _ _ (by simp)).trans d2
            · exact (World.cell?_setCell_other _ _ _ _ (by simp)).trans d3
            · exact World.cell?_setCell_same _ _ _ d4
          case measure => simp [intOf]; omega
        · have hkm : k = args.length := by omega
          subst hkm
          have hmk : ¬ args.length < m := by rw [HM.out]; omega
          rw [List.drop_length] at hrest
          rw [List.take_length] at hacc
          have hsz0 : w.heap.size < wr.heap.size := World.block_lt_of_cell? wr _ c0
          obtain ⟨fa, g1, g2, g3⟩ := hacc.new
          obtain ⟨vo', us', fb', fps', hv', h1', h2', h3', h4'⟩ := g1
          have HN := Lib.hid (show New R_X w wr (.pointer (some ⟨w.heap.size, 0, none⟩)) (.mk ⟨t1, t2, t3, t4⟩ args) from
            ⟨w.heap.size :: fa, R_X_mk c0 c1 c2 c3 c4 ⟨vo', us', fb', fps', hv', h1', h2', h3', h4'⟩, ⟨by rw [List.nodup_cons]; exact ⟨fun hm => by have := g3 _ hm; simp at this; omega, g2.1⟩, by
              intro b hb
              rcases List.mem_cons.1 hb with rfl | hb
              · exact hown0.2 _ (by simp)
              · exact g2.2 b hb⟩, by
              intro b hb
              rcases List.mem_cons.1 hb with rfl | hb
              · exact Nat.le_refl _
              · have := g3 b hb; simp at this; omega⟩)
          have HFE := Lib.hid (fun b hb => HFS.out b (HFR.out b hb) : ∀ b ∈ fr, b ∈ fp)
          clear hacc g2 g3 h1' h4' c0 c1 c2 c3 c4 hown0 HFR
          go_wp2_with fail
          go_ret2
          exact ⟨⟨_, _, fr, rfl, HN.out, by simpa [flatTs] using hrest, HFE.out⟩, hU⟩

/-- the tree of a formula. -/
theorem formOf (x : Tr Nd) (w : World) (v : Value) (fp : List Nat) (hok : okT arN x = true) (h100 : (flatT x).length ≤ 1000) (hR : R_F1 fp w [v] (flatT x)) :
    Calls Tryz.prog 38 #[v] w fun e w' => (∃ v', e = .returned v' ∧ New R_X w w' v' x) ∧ Upd [] w w' := by
  have S2 := Lib.hid (formFrom _ x [] w v fp (Nat.le_refl _) hok h100 (by simpa using hR))
  clear hok h100 hR
  go_enter Tryz.func38, Tryz.ntmps38
  go_wp2_with fail
  refine S2.out.mono ?_
  rintro e w1 ⟨⟨v', vr, fr, rfl, hn, -, -⟩, hu⟩
  have H1 := Lib.hid (And.intro hn hu)
  obtain ⟨fp9, h9, -⟩ := hn
  obtain ⟨pb, rfl⟩ := R_T_form h9
  clear S2 hu h9
  go_wp2_with fail
  go_ret
  exact ⟨⟨_, rfl, H1.out.1⟩, H1.out.2⟩

end Go.Proofs.YtddciieaolaleaaGreatDoor

/-
  Formulas simplified, plainly.
-/
namespace Go.Proofs.YtddciieaolaleaaGreatDoor
open Go.RowKit

def trX : Tr Nd := .mk nd0 []
/-- a node of two items: one kind decides, and the other one changes nothing. -/
def pairX (dc nn : Int) (t : Nd) (a b : Tr Nd) : Tr Nd :=
  if kdT a == dc then a else if kdT b == dc then b else if kdT a == nn then b else if kdT b == nn || flatT a == flatT b then a else .mk t [a, b]
/-- a node whose items are simple. -/
def nodeX (t : Nd) (args : List (Tr Nd)) : Tr Nd :=
  if t.kd = 2 then pairX 1 0 t (args.getD 0 trX) (args.getD 1 trX)
  else if t.kd = 3 then pairX 0 1 t (args.getD 0 trX) (args.getD 1 trX)
  else if t.kd = 4 ∧ kdT (args.getD 0 trX) = 1 then args.getD 0 trX
  else if t.kd = 5 ∧ kdT (args.getD 0 trX) = 0 then args.getD 0 trX
  else .mk t args
theorem arN_two {t : Nd} (h : t.kd = 2 ∨ t.kd = 3) : arN t = 2 := by unfold arN arI; rw [if_pos h]
theorem arN_one {t : Nd} (h : t.kd = 4 ∨ t.kd = 5 ∨ t.kd = 7 ∨ t.kd = 8) : arN t = 1 := by unfold arN arI; rw [if_neg (by omega), if_pos h]
theorem pairX_good {Q : Nd → Prop} {dc nn : Int} {t : Nd} {a b : Tr Nd} (ht : arN t = 2) (hq : Q t) (ha : okT arN a = true ∧ ∀ n ∈ flatT a, Q n) (hb : okT arN b = true ∧ ∀ n ∈ flatT b, Q n) :
    okT arN (pairX dc nn t a b) = true ∧ (∀ n ∈ flatT (pairX dc nn t a b), Q n) ∧ (flatT (pairX dc nn t a b)).length ≤ 1 + (flatT a).length + (flatT b).length := by
  unfold pairX
  repeat' split
  · exact ⟨ha.1, ha.2, by omega⟩
  · exact ⟨hb.1, hb.2, by omega⟩
  · exact ⟨hb.1, hb.2, by omega⟩
  · exact ⟨ha.1, ha.2, by omega⟩
  · refine ⟨?_, ?_, ?_⟩
    · simp only [okT, okTs, ha.1, hb.1, Bool.and_true, decide_eq_true_eq, ht]; rfl
    · intro n hn
      simp only [flatT, flatTs, List.append_nil, List.mem_cons, List.mem_append] at hn
      rcases hn with rfl | h | h
      · exact hq
      · exact ha.2 n h
      · exact hb.2 n h
    · simp [flatT, flatTs]; omega
theorem goodTs_get {Q : Nd → Prop} {args : List (Tr Nd)} (h : okTs arN args = true) (hq : ∀ n ∈ flatTs args, Q n) (i : Nat) (hi : i < args.length) :
    okT arN (args.getD i trX) = true ∧ (∀ n ∈ flatT (args.getD i trX), Q n) ∧ (flatT (args.getD i trX)).length ≤ (flatTs args).length := by
  rw [List.getD_eq_getElem?_getD, List.getElem?_eq_getElem hi]
  rw [okTs_all, List.all_eq_true] at h
  exact ⟨h _ (List.getElem_mem hi), fun n hn => hq n (flatTs_mem (List.getElem_mem hi) n hn), flatT_arg_le args i hi⟩
theorem nodeX_good {Q : Nd → Prop} {t : Nd} {args : List (Tr Nd)} (hl : (args.length : Int) = arN t) (ho : okTs arN args = true) (hq : ∀ n ∈ flatT (.mk t args), Q n) :
    okT arN (nodeX t args) = true ∧ (∀ n ∈ flatT (nodeX t args), Q n) ∧ (flatT (nodeX t args)).length ≤ (flatT (.mk t args)).length := by
  have hqa : ∀ n ∈ flatTs args, Q n := fun n hn => hq n (by rw [flatT]; exact List.mem_cons_of_mem _ hn)
  have hqt : Q t := hq t (by simp [flatT])
  have two : arN t = 2 → ∀ dc nn, okT arN (pairX dc nn t (args.getD 0 trX) (args.getD 1 trX)) = true ∧ (∀ n ∈ flatT (pairX dc nn t (args.getD 0 trX) (args.getD 1 trX)), Q n) ∧ (flatT (pairX dc nn t (args.getD 0 trX) (args.getD 1 trX))).length ≤ (flatT (.mk t args)).length := by
    intro h2 dc nn
    match args, hl, ho, hqa with
    | [x, y], _, ho, hqa =>
      have g0 := goodTs_get ho hqa 0 (by simp)
      have g1 := goodTs_get ho hqa 1 (by simp)
      obtain ⟨p1, p2, p3⟩ := pairX_good (dc := dc) (nn := nn) h2 hqt ⟨g0.1, g0.2.1⟩ ⟨g1.1, g1.2.1⟩
      refine ⟨p1, p2, ?_⟩
      simp only [flatT, flatTs, List.length_cons, List.length_append, List.length_nil]
      simp only [List.getD_cons_zero, List.getD_cons_succ] at p3
      have e0 : ([x, y].getD 0 trX) = x := rfl
      have e1 : ([x, y].getD 1 trX) = y := rfl
      rw [e0, e1] at *
      omega
    | [], hl, _, _ => simp at hl; omega
    | [_], hl, _, _ => simp at hl; omega
    | _ :: _ :: _ :: _, hl, _, _ => simp at hl; omega
  have one : arN t = 1 → okT arN (args.getD 0 trX) = true ∧ (∀ n ∈ flatT (args.getD 0 trX), Q n) ∧ (flatT (args.getD 0 trX)).length ≤ (flatT (.mk t args)).length := by
    intro h1
    have g0 := goodTs_get ho hqa 0 (by omega)
    exact ⟨g0.1, g0.2.1, by rw [flatT, List.length_cons]; omega⟩
  unfold nodeX
  split
  · next h => exact two (arN_two (Or.inl h)) _ _
  · split
    · next h => exact two (arN_two (Or.inr h)) _ _
    · split
      · next h => exact one (arN_one (Or.inl h.1))
      · split
        · next h => exact one (arN_one (Or.inr (Or.inl h.1)))
        · exact ⟨by simp only [okT, ho, Bool.and_true, decide_eq_true_eq]; exact hl, hq, Nat.le_refl _⟩
end Go.Proofs.YtddciieaolaleaaGreatDoor

/-
  Nodes compared as whole values.
-/
namespace Go.Proofs.YtddciieaolaleaaGreatDoor
open Go.RowKit

theorem ndFields : (Tryz.prog.fieldsOf 54).toList.map (fun f => (f.name, f.type, f.offset)) = [("Kind", 2, 0), ("Variable", 2, 1), ("Label", 9, 2), ("Not", 4, 3)] := by kernel_rfl
theorem ndStood : Tryz.prog.stoodInHeld 54 = false := by kernel_rfl
theorem ndGuard : Tryz.prog.eqGuardType Tryz.prog.depth 54 = false := by kernel_rfl
theorem ndUnder : Tryz.prog.underlying 54 = some (.struct (Tryz.prog.fieldsOf 54)) := by kernel_rfl

theorem eqFields_cons {P : Program} (w : World) (d : Nat) (xs ys : Array Value) (n : String) (T : TypeId) (o : Nat) (f : Field) (fs : List Field) (hf : (f.name, f.type, f.offset) = (n, T, o)) (hn : n ≠ "_") (a b : Value) (r : Bool)
    (h1 : (part T xs o).run P w = .ok a w) (h2 : (part T ys o).run P w = .ok b w) (h3 : (Op.equalIn d T a b).run P w = .ok r w) :
    (Op.eqFields d xs ys (f :: fs)).run P w = if r then (Op.eqFields d xs ys fs).run P w else .ok false w := by
  simp only [Prod.mk.injEq] at hf
  obtain ⟨rfl, rfl, rfl⟩ := hf
  simp only [Op.eqFields, Sem.run_bind, hn, ne_eq, not_false_eq_true, if_true, h1, h2, h3, Result.andThen_ok]
  cases r <;> simp

theorem neqN (x1 x2 y1 y2 : Int) (x3 y3 : List UInt8) (x4 y4 : Bool) (w : World) :
    (binOp .neq 54 (.agg #[ei x1, ei x2, es x3, .bool x4]) (.agg #[ei y1, ei y2, es y3, .bool y4])).run Tryz.prog w = .ok (.bool (!((⟨x1, x2, x3, x4⟩ : Nd) == ⟨y1, y2, y3, y4⟩))) w := by
  rw [run_neq_struct, run_equalIn_agg w 9999 _ _ _ ndUnder ndStood]
  obtain ⟨f1, f2, f3, f4, hf⟩ : ∃ f1 f2 f3 f4, (Tryz.prog.fieldsOf 54).toList = [f1, f2, f3, f4] := by
    have := congrArg List.length ndFields
    match h : (Tryz.prog.fieldsOf 54).toList with
    | [f1, f2, f3, f4] => exact ⟨f1, f2, f3, f4, rfl⟩
    | [] => rw [h] at this; simp at this
    | [_] => rw [h] at this; simp at this
    | [_, _] => rw [h] at this; simp at this
    | [_, _, _] => rw [h] at this; simp at this
    | _ :: _ :: _ :: _ :: _ :: _ => rw [h] at this; simp at this
  have hff := ndFields
  rw [hf] at hff ⊢
  simp only [List.map_cons, List.map_nil, List.cons.injEq, and_true] at hff
  obtain ⟨g1, g2, g3, g4⟩ := hff
  have e3 : ((⟨x3.toArray⟩ : ByteArray).toList == (⟨y3.toArray⟩ : ByteArray).toList) = (x3 == y3) := by simp [ByteArray.toList_eq]
  rw [eqFields_cons w 9999 _ _ _ _ _ f1 _ g1 (by decide) (ei x1) (ei y1) (x1 == y1) (by go_simp) (by go_simp) (run_equalIn_int w 9998 _ _ .i64 _ _ Tryz.underlying2),
    eqFields_cons w 9999 _ _ _ _ _ f2 _ g2 (by decide) (ei x2) (ei y2) (x2 == y2) (by go_simp) (by go_simp) (run_equalIn_int w 9998 _ _ .i64 _ _ Tryz.underlying2),
    eqFields_cons w 9999 _ _ _ _ _ f3 _ g3 (by decide) (es x3) (es y3) (x3 == y3) (by go_simp) (by go_simp) (by rw [← e3]; exact run_equalIn_string w 9998 _ _ _ Tryz.underlying9),
    eqFields_cons w 9999 _ _ _ _ _ f4 _ g4 (by decide) (.bool x4) (.bool y4) (x4 == y4) (by go_simp) (by go_simp) (run_equalIn_bool' w 9998 _ _ _ Tryz.underlying4)]
  have key : ((⟨x1, x2, x3, x4⟩ : Nd) == ⟨y1, y2, y3, y4⟩) = (x1 == y1 && (x2 == y2 && (x3 == y3 && x4 == y4))) := by
    rw [Bool.eq_iff_iff]
    simp only [beq_iff_eq, Bool.and_eq_true, Nd.mk.injEq]
  rw [key]
  cases h1 : (x1 == y1)
  · simp [Result.andThen]
  cases h2 : (x2 == y2)
  · simp [Result.andThen]
  cases h3 : (x3 == y3)
  · simp [Result.andThen]
  cases h4 : (x4 == y4)
  · simp [Result.andThen]
  simp [Result.andThen, Op.eqFields]

end Go.Proofs.YtddciieaolaleaaGreatDoor

/-
  Formulas simplified: what the program's calls return (comparing lists of nodes; one node).
-/
namespace Go.Proofs.YtddciieaolaleaaGreatDoor
open Go.RowKit

theorem drop_eqN (xs ys : List Nd) (k : Nat) (h1 : k < xs.length) (h2 : k < ys.length) : (xs.drop k == ys.drop k) = (xs[k] == ys[k] && (xs.drop (k + 1) == ys.drop (k + 1))) := by
  rw [List.drop_eq_getElem_cons h1, List.drop_eq_getElem_cons h2]; rfl

set_option maxRecDepth 20000 in
set_option maxHeartbeats 1000000 in
theorem equalN (v1 v2 : Value) (xs ys : List Nd) (w : World) (f1 f2 : List Nat) (h1 : R_F1 f1 w [v1] xs) (h2 : R_F1 f2 w [v2] ys) :
    Calls Tryz.prog 101 #[v1, v2] w fun e w' => e = .returned (.bool (xs == ys)) ∧ ∃ n, w' = w.drewN n := by
  obtain ⟨a1, c1, rfl, hl1, hm1, hc1⟩ := slF4_open h1
  obtain ⟨a2, c2, rfl, hl2, hm2, hc2⟩ := slF4_open h2
  unfold maxLen at hm1 hm2
  clear h1 h2
  by_cases hlen : xs.length = ys.length
  · have hbe : ((xs.length : Int) != (ys.length : Int)) = false := by simp [hlen]
    have HL := Lib.hid hlen
    have HC1 := Lib.hid hc1
    have HC2 := Lib.hid hc2
    clear hlen hc1 hc2
    go_enter Tryz.func101, Tryz.ntmps101
    go_wp2_with fail
    go_loopw [13] (fun i wr => ∃ k : Nat, k ≤ xs.length ∧ i = .int .i64 k ∧ Hid ((xs.drop k == ys.drop k) = (xs == ys)) ∧ ∃ n, wr = w.drewN n) (fun i _ => xs.length - (intOf i).toNat)
    case atStart => exact ⟨0, Nat.zero_le _, rfl, Lib.hid rfl, 0, rfl⟩
    case round =>
      obtain ⟨k, hk, rfl, HF, n, rfl⟩ := hrel
      by_cases hlt : k < xs.length
      · have hlt2 : k < ys.length := by have := HL.out; omega
        obtain ⟨b1, o1, rfl, -, hb1, p1, p2, p3, p4⟩ := HC1.out k hlt
        obtain ⟨b2, o2, rfl, -, hb2, p5, p6, p7, p8⟩ := HC2.out k hlt2
        have HF2 := Lib.hid ((drop_eqN xs ys k hlt hlt2).symm.trans HF.out)
        clear HF
        generalize xs[k] = x at *
        generalize ys[k] = y at *
        obtain ⟨x1, x2, x3, x4⟩ := x
        obtain ⟨y1, y2, y3, y4⟩ := y
        simp only at p1 p2 p3 p4 p5 p6 p7 p8
        have hne := fun W => neqN x1 x2 y1 y2 x3 y3 x4 y4 W
        have hgd := ndGuard
        cases hq : ((⟨x1, x2, x3, x4⟩ : Nd) == ⟨y1, y2, y3, y4⟩) with
        | false =>
          rw [hq] at hne HF2
          clear hq
          go_wp2_with fail
          go_quiet (fail)
          clear hne hgd
          go_wp2_with fail
          go_ret
          exact ⟨by rw [← HF2.out]; rfl, _, by rw [drewN_add]⟩
        | true =>
          rw [hq] at hne HF2
          clear hq
          go_wp2_with fail
          go_quiet (fail)
          clear hne hgd
          go_wp2_with fail
          go_roundw
          case rel => exact ⟨k + 1, by omega, by go_num, Lib.hid (by rw [← HF2.out]; rfl), _, rfl⟩
          case measure => simp [intOf]; omega
      · have hd : (xs == ys) = true := by
          rw [← HF.out, List.drop_of_length_le (by omega), List.drop_of_length_le (by have := HL.out; omega)]; rfl
        have HD := Lib.hid hd
        clear HF hd
        go_wp2_with fail
        go_ret
        exact ⟨by rw [HD.out]; rfl, n, rfl⟩
  · have hbe : ((xs.length : Int) != (ys.length : Int)) = true := by simpa using fun h => hlen (by omega)
    have HD := Lib.hid (show (xs == ys) = false by
      rw [beq_eq_false_iff_ne]; intro h; exact hlen (by rw [h]))
    clear hlen hc1 hc2
    go_enter Tryz.func101, Tryz.ntmps101
    go_wp2_with fail
    go_ret
    exact ⟨by rw [HD.out]; rfl, 0, rfl⟩

theorem isX (x : Tr Nd) (k : Int) (w : World) (v : Value) (fp : List Nat) (hR : R_X fp w [v] x) : Calls Tryz.prog 81 #[v, .int .i64 k] w fun e w' => e = .returned (.bool (kdT x == k)) ∧ w = w' := by
  obtain ⟨n, args⟩ := x
  obtain ⟨b0, s, fa, rfl, rfl, c0, -⟩ := R_X_open hR
  rw [show kdT (.mk n args) = n.kd from rfl]
  generalize n.kd = kd at *
  clear hR
  cases hb : (kd == k)
  all_goals
    go_enter Tryz.func81, Tryz.ntmps81
    go_wp2_with fail
    go_ret
    exact ⟨rfl, rfl⟩

def FoX (w : World) (fp : List Nat) (x : Tr Nd) (e : Ending) (w' : World) : Prop := (∃ v' fp', e = .returned v' ∧ R_X fp' w' [v'] x ∧ ∀ b ∈ fp', b ∈ fp ∨ w.heap.size ≤ b) ∧ Upd [] w w'

set_option maxRecDepth 20000 in
set_option maxHeartbeats 2000000 in
theorem simpPairI (dc nn : Int) (t : Nd) (a b : Tr Nd) (w : World) (v : Value) (fp : List Nat) (hla : (flatT a).length ≤ 1000) (hlb : (flatT b).length ≤ 1000) (hR : R_X fp w [v] (.mk t [a, b])) :
    Calls Tryz.prog 92 #[v, .int .i64 dc, .int .i64 nn] w (FoX w fp (pairX dc nn t a b)) := by
  have HR := Lib.hid (fun W (hu : Upd [] w W) => R_Xk.upd hR hu (by simp))
  obtain ⟨b0, s, fa, rfl, rfl, c0, c1, c2, c3, c4, hargs⟩ := R_X_open hR
  obtain ⟨ar, cap, rfl, g1, g2, hc⟩ := slP_open hargs
  obtain ⟨ba, oa, u0, f0, rfl, -, -, p0, s0, r0⟩ := hc 0 (by simp)
  obtain ⟨ba', oa', u1, f1, hb', -, -, p1, s1, r1⟩ := hc 1 (by simp)
  simp only [Option.some.injEq, Addr.mk.injEq, and_true] at hb'
  obtain ⟨rfl, rfl⟩ := hb'
  have p0 : w.cell? ⟨ba, oa, none⟩ = some u0 := p0
  unfold maxLen at g2
  have hr0 : R_X f0 w [u0] a := r0
  have hr1 : R_X f1 w [u1] b := r1
  have I0 := Lib.hid (fun k q => isX a k (w.drewN q) u0 f0 (R_Xk.drewN hr0 q))
  have I1 := Lib.hid (fun k q => isX b k (w.drewN q) u1 f1 (R_Xk.drewN hr1 q))
  have L0 := Lib.hid (fun q => listX a (w.drewN q) u0 f0 (by omega) (R_Xk.drewN hr0 q))
  have L1 := Lib.hid (fun W (hu : Upd [] w W) => listX b W u1 f1 (by omega) (R_Xk.upd hr1 hu (by simp)))
  have HA := Lib.hid (fun W (hu : Upd [] w W) => And.intro (R_Xk.upd hr0 hu (by simp)) (fun b hb => Or.inl (List.mem_cons_of_mem _ (s0 b hb)) : ∀ b ∈ f0, b ∈ b0 :: fa ∨ w.heap.size ≤ b))
  have HB := Lib.hid (fun W (hu : Upd [] w W) => And.intro (R_Xk.upd hr1 hu (by simp)) (fun b hb => Or.inl (List.mem_cons_of_mem _ (s1 b hb)) : ∀ b ∈ f1, b ∈ b0 :: fa ∨ w.heap.size ≤ b))
  obtain ⟨bx, rfl⟩ := R_T_form hr0
  obtain ⟨by', rfl⟩ := R_T_form hr1
  have HP := Lib.hid (show pairX dc nn t a b = if kdT a == dc then a else if kdT b == dc then b else if kdT a == nn then b else if kdT b == nn || flatT a == flatT b then a else .mk t [a, b] from rfl)
  generalize pairX dc nn t a b = Z at *
  clear hc r0 r1 hr0 hr1 hargs hR s0 s1 hla hlb
  obtain ⟨q1, h1⟩ : ∃ q, q = (kdT a == dc) := ⟨_, rfl⟩
  obtain ⟨q2, h2⟩ : ∃ q, q = (kdT b == dc) := ⟨_, rfl⟩
  obtain ⟨q3, h3⟩ : ∃ q, q = (kdT a == nn) := ⟨_, rfl⟩
  obtain ⟨q4, h4⟩ : ∃ q, q = (kdT b == nn) := ⟨_, rfl⟩
  have J1 := Lib.hid (fun q => I0.out dc q)
  have J2 := Lib.hid (fun q => I1.out dc q)
  have J3 := Lib.hid (fun q => I0.out nn q)
  have J4 := Lib.hid (fun q => I1.out nn q)
  rw [← h1] at J1
  rw [← h2] at J2
  rw [← h3] at J3
  rw [← h4] at J4
  rw [← h1, ← h2, ← h3, ← h4] at HP
  clear I0 I1 h1 h2 h3 h4
  go_enter Tryz.func92, Tryz.ntmps92
  go_wp2_with fail
  go_quiet (fail)
  go_wp2_with fail
  refine (J1.out _).mono ?_
  rintro e w1 ⟨rfl, rfl⟩
  clear J1
  cases q1 with
  | true =>
    have HE := Lib.hid (show Z = a by rw [HP.out]; rfl)
    clear HP
    go_wp2_with fail
    go_ret
    exact ⟨⟨_, f0, rfl, by rw [HE.out]; exact (HA.out _ ((Upd.refl _ _).drewN _)).1, (HA.out _ (Upd.refl _ _)).2⟩, (Upd.refl _ _).drewN _⟩
  | false =>
    go_wp2_with fail
    refine (J2.out _).mono ?_
    rintro e w1 ⟨rfl, rfl⟩
    clear J2
    cases q2 with
    | true =>
      have HE := Lib.hid (show Z = b by rw [HP.out]; rfl)
      clear HP
      go_wp2_with fail
      go_ret
      exact ⟨⟨_, f1, rfl, by rw [HE.out]; exact (HB.out _ ((Upd.refl _ _).drewN _)).1, (HB.out _ (Upd.refl _ _)).2⟩, (Upd.refl _ _).drewN _⟩
    | false =>
      go_wp2_with fail
      refine (J3.out _).mono ?_
      rintro e w1 ⟨rfl, rfl⟩
      clear J3
      cases q3 with
      | true =>
        have HE := Lib.hid (show Z = b by rw [HP.out]; rfl)
        clear HP
        go_wp2_with fail
        go_ret
        exact ⟨⟨_, f1, rfl, by rw [HE.out]; exact (HB.out _ ((Upd.refl _ _).drewN _)).1, (HB.out _ (Upd.refl _ _)).2⟩, (Upd.refl _ _).drewN _⟩
      | false =>
        go_wp2_with fail
        refine (J4.out _).mono ?_
        rintro e w1 ⟨rfl, rfl⟩
        clear J4
        cases q4 with
        | true =>
          have HE := Lib.hid (show Z = a by rw [HP.out]; rfl)
          clear HP
          go_wp2_with fail
          go_ret
          exact ⟨⟨_, f0, rfl, by rw [HE.out]; exact (HA.out _ ((Upd.refl _ _).drewN _)).1, (HA.out _ (Upd.refl _ _)).2⟩, (Upd.refl _ _).drewN _⟩
        | false =>
          go_wp2_with fail
          refine (L0.out _).mono ?_
          rintro e w2 ⟨⟨v2, rfl, g2', r2, -, -⟩, hu2⟩
          have HU2 := Lib.hid (((Upd.refl [] w).drewN _).trans hu2)
          have M1 := Lib.hid (L1.out w2 HU2.out)
          have HR2 := Lib.hid (fun W (hu : Upd [] w2 W) => R_F1k.upd r2 hu (by simp))
          obtain ⟨a2, c2', rfl, -, -, -⟩ := slF4_open r2
          clear L0 L1 r2 hu2
          go_wp2_with fail
          refine M1.out.mono ?_
          rintro e w3 ⟨⟨v3, rfl, g3', r3, -, -⟩, hu3⟩
          have HU3 := Lib.hid (HU2.out.trans hu3)
          have E1 := Lib.hid (equalN _ _ _ _ w3 _ _ (HR2.out w3 hu3) r3)
          obtain ⟨a3, c3', rfl, -, -, -⟩ := slF4_open r3
          obtain ⟨q5, h5⟩ : ∃ q, q = (flatT a == flatT b) := ⟨_, rfl⟩
          rw [← h5] at E1 HP
          clear M1 HR2 r3 hu3 h5
          go_wp2_with fail
          refine E1.out.mono ?_
          rintro e w4 ⟨rfl, n4, rfl⟩
          clear E1
          have HU4 := Lib.hid (HU3.out.drewN n4)
          cases q5 with
          | true =>
            have HE := Lib.hid (show Z = a by rw [HP.out]; rfl)
            clear HP
            go_wp2_with fail
            go_ret
            exact ⟨⟨_, f0, rfl, by rw [HE.out]; exact (HA.out _ HU4.out).1, (HA.out _ (Upd.refl _ _)).2⟩, HU4.out⟩
          | false =>
            have HE := Lib.hid (show Z = .mk t [a, b] by rw [HP.out]; rfl)
            clear HP
            go_wp2_with fail
            go_ret
            exact ⟨⟨_, b0 :: fa, rfl, by rw [HE.out]; exact HR.out _ HU4.out, fun b hb => Or.inl hb⟩, HU4.out⟩

set_option maxRecDepth 20000 in
set_option maxHeartbeats 2000000 in
theorem simpNodeI (t : Nd) (args : List (Tr Nd)) (w : World) (v : Value) (fp : List Nat) (hlen : (args.length : Int) = arN t) (hl : (flatT (.mk t args)).length ≤ 1000) (hR : R_X fp w [v] (.mk t args)) :
    Calls Tryz.prog 68 #[v] w (FoX w fp (nodeX t args)) := by
  have HR := Lib.hid (fun W (hu : Upd [] w W) => R_Xk.upd hR hu (by simp))
  obtain ⟨t1, t2, t3, t4⟩ := t
  have hR0 := hR
  obtain ⟨b0, s, fa, rfl, rfl, c0, c1, c2, c3, c4, hargs⟩ := R_X_open hR
  have hlen : (args.length : Int) = arI t1 := hlen
  simp only at c0
  rw [flatT, List.length_cons] at hl
  have two : ∀ x y, args = [x, y] → (flatT x).length ≤ 1000 ∧ (flatT y).length ≤ 1000 := by
    intro x y h
    subst h
    simp only [flatTs, List.length_append, List.length_nil] at hl
    omega
  by_cases h2 : t1 = 2
  · subst h2
    match args, hlen with
    | [x, y], _ =>
      obtain ⟨lx, ly⟩ := two x y rfl
      have S1 := Lib.hid (simpPairI 1 0 ⟨2, t2, t3, t4⟩ x y w _ _ lx ly hR0)
      have HE := Lib.hid (show nodeX ⟨2, t2, t3, t4⟩ [x, y] = pairX 1 0 ⟨2, t2, t3, t4⟩ x y by simp [nodeX])
      clear hR hR0 hargs two
      go_enter Tryz.func68, Tryz.ntmps68
      go_wp2_with fail
      refine S1.out.mono ?_
      rintro e w1 ⟨⟨v', fp', rfl, hr, hs⟩, hu⟩
      have H1 := Lib.hid (And.intro hr (And.intro hs hu))
      obtain ⟨pb, rfl⟩ := R_T_form hr
      clear S1 hr hs hu
      go_wp2_with fail
      go_ret
      exact ⟨⟨_, fp', rfl, by rw [HE.out]; exact H1.out.1, H1.out.2.1⟩, H1.out.2.2⟩
  by_cases h3 : t1 = 3
  · subst h3
    match args, hlen with
    | [x, y], _ =>
      obtain ⟨lx, ly⟩ := two x y rfl
      have S1 := Lib.hid (simpPairI 0 1 ⟨3, t2, t3, t4⟩ x y w _ _ lx ly hR0)
      have HE := Lib.hid (show nodeX ⟨3, t2, t3, t4⟩ [x, y] = pairX 0 1 ⟨3, t2, t3, t4⟩ x y by simp [nodeX])
      clear hR hR0 hargs two h2
      go_enter Tryz.func68, Tryz.ntmps68
      go_wp2_with fail
      refine S1.out.mono ?_
      rintro e w1 ⟨⟨v', fp', rfl, hr, hs⟩, hu⟩
      have H1 := Lib.hid (And.intro hr (And.intro hs hu))
      obtain ⟨pb, rfl⟩ := R_T_form hr
      clear S1 hr hs hu
      go_wp2_with fail
      go_ret
      exact ⟨⟨_, fp', rfl, by rw [HE.out]; exact H1.out.1, H1.out.2.1⟩, H1.out.2.2⟩
  have hb2 : (t1 == 2) = false := by simpa using h2
  have hb3 : (t1 == 3) = false := by simpa using h3
  by_cases h45 : t1 = 4 ∨ t1 = 5
  · have ha1 : arI t1 = 1 := by unfold arI; rw [if_neg (by omega), if_pos (by omega)]
    match args, hlen.trans ha1 with
    | [x], _ =>
      obtain ⟨ar, cap, rfl, g1, g2, hc⟩ := slP_open hargs
      obtain ⟨ba, oa, u0, f0, rfl, -, -, p0, s0, r0⟩ := hc 0 (by simp)
      have p0 : w.cell? ⟨ba, oa, none⟩ = some u0 := p0
      unfold maxLen at g2
      have hr0 : R_X f0 w [u0] x := r0
      have I0 := Lib.hid (fun k => isX x k w u0 f0 hr0)
      have HA := Lib.hid (And.intro hr0 (fun b hb => Or.inl (List.mem_cons_of_mem _ (s0 b hb)) : ∀ b ∈ f0, b ∈ b0 :: fa ∨ w.heap.size ≤ b))
      obtain ⟨bx, rfl⟩ := R_T_form hr0
      rcases h45 with rfl | rfl
      · have J := Lib.hid (I0.out 1)
        cases hq : (kdT x == 1) with
        | true =>
          rw [hq] at J
          have HE := Lib.hid (show nodeX ⟨4, t2, t3, t4⟩ [x] = x by simp [nodeX, show kdT x = 1 by simpa using hq])
          clear hc r0 hr0 hR hR0 hargs two h2 h3 hb2 hb3 hq I0 s0
          go_enter Tryz.func68, Tryz.ntmps68
          go_wp2_with fail
          refine J.out.mono ?_
          rintro e w1 ⟨rfl, rfl⟩
          go_wp2_with fail
          go_ret
          exact ⟨⟨_, f0, rfl, by rw [HE.out]; exact HA.out.1, HA.out.2⟩, Upd.refl _ _⟩
        | false =>
          rw [hq] at J
          have HE := Lib.hid (show nodeX ⟨4, t2, t3, t4⟩ [x] = .mk ⟨4, t2, t3, t4⟩ [x] by simp [nodeX, show kdT x ≠ 1 by simpa using hq])
          clear hc r0 hr0 hR hR0 hargs two h2 h3 hb2 hb3 hq I0 s0
          go_enter Tryz.func68, Tryz.ntmps68
          go_wp2_with fail
          refine J.out.mono ?_
          rintro e w1 ⟨rfl, rfl⟩
          go_wp2_with fail
          go_ret
          exact ⟨⟨_, b0 :: fa, rfl, by rw [HE.out]; exact HR.out _ (Upd.refl _ _), fun b hb => Or.inl hb⟩, Upd.refl _ _⟩
      · have J := Lib.hid (I0.out 0)
        cases hq : (kdT x == 0) with
        | true =>
          rw [hq] at J
          have HE := Lib.hid (show nodeX ⟨5, t2, t3, t4⟩ [x] = x by simp [nodeX, show kdT x = 0 by simpa using hq])
          clear hc r0 hr0 hR hR0 hargs two h2 h3 hb2 hb3 hq I0 s0
          go_enter Tryz.func68, Tryz.ntmps68
          go_wp2_with fail
          refine J.out.mono ?_
          rintro e w1 ⟨rfl, rfl⟩
          go_wp2_with fail
          go_ret
          exact ⟨⟨_, f0, rfl, by rw [HE.out]; exact HA.out.1, HA.out.2⟩, Upd.refl _ _⟩
        | false =>
          rw [hq] at J
          have HE := Lib.hid (show nodeX ⟨5, t2, t3, t4⟩ [x] = .mk ⟨5, t2, t3, t4⟩ [x] by simp [nodeX, show kdT x ≠ 0 by simpa using hq])
          clear hc r0 hr0 hR hR0 hargs two h2 h3 hb2 hb3 hq I0 s0
          go_enter Tryz.func68, Tryz.ntmps68
          go_wp2_with fail
          refine J.out.mono ?_
          rintro e w1 ⟨rfl, rfl⟩
          go_wp2_with fail
          go_ret
          exact ⟨⟨_, b0 :: fa, rfl, by rw [HE.out]; exact HR.out _ (Upd.refl _ _), fun b hb => Or.inl hb⟩, Upd.refl _ _⟩
  · have hb4 : (t1 == 4) = false := by simp; omega
    have hb5 : (t1 == 5) = false := by simp; omega
    have HE := Lib.hid (show nodeX ⟨t1, t2, t3, t4⟩ args = .mk ⟨t1, t2, t3, t4⟩ args by
      simp only [nodeX, h2, h3, if_false, show ¬ t1 = 4 by omega, show ¬ t1 = 5 by omega, false_and])
    clear hR hR0 hargs two h2 h3 h45 hlen
    go_enter Tryz.func68, Tryz.ntmps68
    go_wp2_with fail
    go_ret
    exact ⟨⟨_, b0 :: fa, rfl, by rw [HE.out]; exact HR.out _ (Upd.refl _ _), fun b hb => Or.inl hb⟩, Upd.refl _ _⟩

end Go.Proofs.YtddciieaolaleaaGreatDoor

/-
  Formulas with fixed points simplified, plainly.
-/
namespace Go.Proofs.YtddciieaolaleaaGreatDoor
open Go.RowKit

def vrT : Tr Nd → Int | .mk n _ => n.vr
def leafX (k : Int) : Tr Nd := .mk ⟨k, 0, [], false⟩ []
/-- the body of the first node has a variable that it binds. -/
def usesF (f : List Nd) : Bool := allF (fun i => !((f.getD i nd0).kd == 6 && bindF arI f i i == 0)) 1 (f.length - 1) == false
/-- a node with simple parts. -/
def finA (t : Nd) (bs : List (Tr Nd)) : Tr Nd :=
  if fixF t.kd = false then nodeX t bs
  else if kdT (bs.getD 0 trX) = 6 ∧ vrT (bs.getD 0 trX) = t.vr then leafX (if t.kd = 7 then 1 else 0)
  else if usesF (flatT (.mk t bs)) then .mk t bs else bs.getD 0 trX
mutual
def simpA : Tr Nd → Tr Nd
  | .mk t args => finA t (simpAs args)
def simpAs : List (Tr Nd) → List (Tr Nd)
  | [] => []
  | x :: xs => simpA x :: simpAs xs
end
theorem simpAs_map (xs : List (Tr Nd)) : simpAs xs = xs.map simpA := by
  induction xs with
  | nil => rfl
  | cons x xs ih => simp [simpAs, ih]
/-- what holds of a formula's nodes. -/
def fxN (n : Nd) : Prop := (0 ≤ n.kd ∧ n.kd ≤ 8) ∧ (n.kd = 0 ∨ n.kd = 1 → n.vr = 0 ∧ n.lb = [] ∧ n.nt = false)
theorem fxN_leaf {k : Int} (h : k = 0 ∨ k = 1) : fxN ⟨k, 0, [], false⟩ := ⟨by simp only; omega, fun _ => ⟨rfl, rfl, rfl⟩⟩
theorem fix_two {k : Int} (h : fixF k = true) : k = 7 ∨ k = 8 := by unfold fixF at h; simpa using h
theorem finA_good {t : Nd} {args : List (Tr Nd)} (hl : (args.length : Int) = arN t) (ho : okTs arN args = true) (hq : ∀ n ∈ flatT (.mk t args), fxN n) :
    okT arN (finA t args) = true ∧ (∀ n ∈ flatT (finA t args), fxN n) ∧ (flatT (finA t args)).length ≤ (flatT (.mk t args)).length := by
  unfold finA
  cases hf : fixF t.kd with
  | false => rw [if_pos rfl]; exact nodeX_good hl ho hq
  | true =>
    rw [if_neg (by simp)]
    have h78 := fix_two hf
    have h1 : arN t = 1 := arN_one (Or.inr (Or.inr h78))
    have g0 := goodTs_get ho (fun n hn => hq n (by rw [flatT]; exact List.mem_cons_of_mem _ hn)) 0 (by omega)
    split
    · have hk : (if t.kd = 7 then (1 : Int) else 0) = 0 ∨ (if t.kd = 7 then (1 : Int) else 0) = 1 := by split <;> simp
      generalize (if t.kd = 7 then (1 : Int) else 0) = k at *
      refine ⟨?_, ?_, ?_⟩
      · have : arN ⟨k, 0, [], false⟩ = 0 := by unfold arN arI; rw [if_neg (by simp only; omega), if_neg (by simp only; omega)]
        simp [leafX, okT, okTs, this]
      · intro n hn
        have : n = ⟨k, 0, [], false⟩ := by simpa [leafX, flatT, flatTs] using hn
        rw [this]; exact fxN_leaf hk
      · simp [leafX, flatT, flatTs]
    · split
      · exact ⟨by simp only [okT, ho, Bool.and_true, decide_eq_true_eq]; exact hl, hq, Nat.le_refl _⟩
      · exact ⟨g0.1, g0.2.1, by rw [flatT, List.length_cons]; omega⟩
mutual
theorem simpA_good : ∀ x : Tr Nd, okT arN x = true → (∀ n ∈ flatT x, fxN n) → okT arN (simpA x) = true ∧ (∀ n ∈ flatT (simpA x), fxN n) ∧ (flatT (simpA x)).length ≤ (flatT x).length
  | .mk t args, h, hq => by
    simp only [okT, Bool.and_eq_true, decide_eq_true_eq] at h
    obtain ⟨g1, g2, g3⟩ := simpAs_good args h.2 (fun n hn => hq n (by rw [flatT]; exact List.mem_cons_of_mem _ hn))
    have hl : ((simpAs args).length : Int) = arN t := by rw [simpAs_map, List.length_map]; exact h.1
    obtain ⟨p1, p2, p3⟩ := finA_good hl g1 (fun n hn => by
      rw [flatT] at hn
      rcases List.mem_cons.1 hn with rfl | hn
      · exact hq _ (by simp [flatT])
      · exact g2 n hn)
    refine ⟨p1, p2, ?_⟩
    rw [flatT, List.length_cons]
    rw [simpA]
    have : (flatT (Tr.mk t (simpAs args))).length = (flatTs (simpAs args)).length + 1 := by rw [flatT, List.length_cons]
    omega
theorem simpAs_good : ∀ xs : List (Tr Nd), okTs arN xs = true → (∀ n ∈ flatTs xs, fxN n) → okTs arN (simpAs xs) = true ∧ (∀ n ∈ flatTs (simpAs xs), fxN n) ∧ (flatTs (simpAs xs)).length ≤ (flatTs xs).length
  | [], _, _ => ⟨rfl, by simp [simpAs, flatTs], by simp [simpAs]⟩
  | x :: xs, h, hq => by
    simp only [okTs, Bool.and_eq_true] at h
    obtain ⟨a1, a2, a3⟩ := simpA_good x h.1 (fun n hn => hq n (by rw [flatTs]; exact List.mem_append_left _ hn))
    obtain ⟨b1, b2, b3⟩ := simpAs_good xs h.2 (fun n hn => hq n (by rw [flatTs]; exact List.mem_append_right _ hn))
    refine ⟨by simp only [simpAs, okTs, a1, b1, Bool.and_true], ?_, ?_⟩
    · intro n hn
      rw [simpAs, flatTs] at hn
      rcases List.mem_append.1 hn with h | h
      · exact a2 n h
      · exact b2 n h
    · rw [simpAs, flatTs, flatTs, List.length_append, List.length_append]; omega
end
theorem leaf_fx {a : Tr Nd} (h : okT arN a = true) (hq : ∀ n ∈ flatT a, fxN n) {k : Int} (hk : k = 0 ∨ k = 1) (ha : kdT a = k) : flatT a = [⟨k, 0, [], false⟩] := by
  obtain ⟨t, args⟩ := a
  simp only [okT, Bool.and_eq_true, decide_eq_true_eq] at h
  have hkd : t.kd = k := ha
  have ha : arN t = 0 := by unfold arN arI; rw [hkd, if_neg (by omega), if_neg (by omega)]
  have : args = [] := List.eq_nil_of_length_eq_zero (by omega)
  subst this
  have h4 := (hq t (by simp [flatT])).2 (by omega)
  obtain ⟨t1, t2, t3, t4⟩ := t
  simp only at hkd h4
  simp [flatT, flatTs, hkd, h4.1, h4.2.1, h4.2.2]
/-- the reference's list of a node with two parts. -/
theorem pair_two {t : Nd} {a b : Tr Nd} {z o : Int} (hz : z = 0 ∨ z = 1) (ha : okT arN a = true) (hb : okT arN b = true) (hqa : ∀ n ∈ flatT a, fxN n) (hqb : ∀ n ∈ flatT b, fxN n) :
    flatT (pairX z o t a b) = if kdT a == z || kdT b == z then [⟨z, 0, [], false⟩] else if kdT a == o then flatT b else if kdT b == o || flatT a == flatT b then flatT a else t :: (flatT a ++ flatT b) := by
  unfold pairX
  cases h1 : (kdT a == z) with
  | true => simp only [if_true, Bool.true_or]; exact leaf_fx ha hqa hz (by simpa using h1)
  | false =>
    cases h2 : (kdT b == z) with
    | true => simp only [if_true, Bool.or_true, Bool.false_eq_true, if_false]; exact leaf_fx hb hqb hz (by simpa using h2)
    | false =>
      simp only [Bool.false_eq_true, if_false, Bool.or_self]
      cases h3 : (kdT a == o) with
      | true => simp
      | false =>
        simp only [Bool.false_eq_true, if_false]
        cases h4 : (kdT b == o || flatT a == flatT b) with
        | true => simp
        | false => simp [flatT, flatTs]
end Go.Proofs.YtddciieaolaleaaGreatDoor

/-
  The program's search for what binds a variable, and its check of a formula: what the calls return. (The drawn region's ways are printed by tools/genforb.py.)
-/
namespace Go.Proofs.YtddciieaolaleaaGreatDoor
open Go.RowKit

set_option maxRecDepth 20000 in
set_option maxHeartbeats 4000000 in
theorem bindI (v : Value) (f : List Nd) (k : Nat) (w : World) (fp : List Nat) (hR : R_F1 fp w [v] f) (hlen : f.length ≤ 2000000) (hk : k < f.length) (hs : shapeF arI 1 f = true) :
    Calls Tryz.prog 74 #[v, .int .i64 k] w fun e w' => e = .returned (.int .i64 (bindF arI f k k)) ∧ Upd [] w w' := by
  have HR := Lib.hid hR
  have HSH := Lib.hid (shape_drop arI_in f 1 (by omega) hs)
  obtain ⟨a, cap, rfl, h1, h2, hc⟩ := slF4_open hR
  unfold maxLen at h2
  obtain ⟨b1, o1, rfl, -, -, hcs⟩ := hc 0 (by omega)
  have HC := Lib.hid (fun i (hi : i < f.length) => show w.cell? ⟨b1, o1 + i * 4, none⟩ = some (ei f[i].kd) ∧ w.cell? ⟨b1, o1 + i * 4 + 1, none⟩ = some (ei f[i].vr) ∧ w.cell? ⟨b1, o1 + i * 4 + 2, none⟩ = some (es f[i].lb) ∧ w.cell? ⟨b1, o1 + i * 4 + 3, none⟩ = some (.bool f[i].nt) from by
    obtain ⟨b, o, hbo, -, -, q⟩ := hc i hi
    cases hbo
    exact q)
  clear hR hc hcs hs
  go_enter Tryz.func74, Tryz.ntmps74
  go_wp2_with fail
  go_loopw [5] (fun zv wr => ∃ z : Int, zv = .int .i64 z ∧ -1 ≤ z ∧ z < k ∧ Hid (bindF arI f k (z + 1).toNat = bindF arI f k k) ∧ Hid (Upd [] w wr)) (fun zv _ => (intOf zv + 1).toNat)
  case atStart => exact ⟨(k : Int) - 1, rfl, by omega, by omega, Lib.hid (by congr 1; omega), Lib.hid (Upd.refl _ _)⟩
  case round =>
    obtain ⟨wo, rfl⟩ : ∃ wo : World, wo = wr := ⟨_, rfl⟩
    obtain ⟨z, rfl, hz1, hzk, HB, HU⟩ := hrel
    by_cases hz : z < 0
    · obtain rfl : z = -1 := by omega
      have HE := Lib.hid (show bindF arI f k k = -1 by rw [← HB.out]; rfl)
      clear HB hz
      go_wp2_with fail
      go_ret
      exact ⟨by rw [HE.out]; rfl, HU.out⟩
    · obtain ⟨j, rfl⟩ : ∃ j : Nat, z = j := ⟨z.toNat, by omega⟩
      have hjf : j < f.length := by omega
      obtain ⟨q1, q2, q3, q4⟩ := HC.out j hjf
      obtain ⟨-, q5, -, -⟩ := HC.out k hk
      have q1 := HU.out.keep q1
      have q2 := HU.out.keep q2
      have q3 := HU.out.keep q3
      have q4 := HU.out.keep q4
      have q5 := HU.out.keep q5
      have gj : f.getD j nd0 = f[j] := by rw [List.getD_eq_getElem?_getD, List.getElem?_eq_getElem hjf]; rfl
      have gk : f.getD k nd0 = f[k] := by rw [List.getD_eq_getElem?_getD, List.getElem?_eq_getElem hk]; rfl
      have HB2 := Lib.hid (show bindF arI f k k = if fixF f[j].kd && (f[j].vr == f[k].vr) && decide (k < j + endF arI 1 (f.drop j)) then (j : Int) else bindF arI f k j by
        rw [← HB.out, show ((j : Int) + 1).toNat = j + 1 by omega, bindF]
        unfold bndP
        rw [gj, gk])
      have SE := Lib.hid (fun W (hu : Upd [] wo W) => endI _ f j W fp (R_F1k.upd HR.out (HU.out.trans hu) (by simp)) hlen hjf (by obtain ⟨q, g1, -, g3⟩ := HSH.out j hjf; exact ⟨q, g1, g3⟩))
      have SF := Lib.hid (fun W : World => isFixI f[j].kd f[j].vr f[j].lb f[j].nt W)
      have HJ := Lib.hid (show ((j : Int) - 1 + 1).toNat = j by omega)
      have jl : (j : Int) < f.length := by omega
      have kl : (k : Int) < f.length := by omega
      have j0 : 0 ≤ (j : Int) := by omega
      clear gj gk HB hz
      generalize endF arI 1 (f.drop j) = en at *
      generalize f[k].vr = y2 at *
      generalize f[j] = x at *
      obtain ⟨x1, x2, x3, x4⟩ := x
      simp only at q1 q2 q3 q4 HB2 SF
      cases hfx : fixF x1 with
      | false =>
        rw [hfx] at SF
        go_upto_region 4 with (fail)
        refine wp_region_held_drew (S := fun w' => w'.cell? ⟨b1, o1 + j * 4, none⟩ = some (ei x1) ∧ w'.cell? ⟨b1, o1 + j * 4 + 1, none⟩ = some (ei x2) ∧ w'.cell? ⟨b1, o1 + j * 4 + 2, none⟩ = some (es x3) ∧ w'.cell? ⟨b1, o1 + j * 4 + 3, none⟩ = some (.bool x4) ∧ w'.cell? ⟨b1, o1 + k * 4 + 1, none⟩ = some (ei y2)) (by kernel_rfl) ?_ (fun hHeld => ?_)
        · exact ⟨q1, q2, q3, q4, q5⟩
        refine wpAnyH_take (i := 0) (v := ?_) rfl (by kernel_rfl) (by kernel_rfl) (by kernel_rfl) (fun _ _ _ h => h) (Or.inl ⟨by rfl, ?_⟩) (by assumption) ?_
        rotate_left
        · (intro w hSw; (try dsimp only at hSw); go_simp)
          first | done | with_reducible rfl
        simp only [Act.put, List.getElem_toArray, List.getElem_cons_zero, List.getElem_cons_succ, List.setIfInBounds_toArray, List.set_cons_zero, List.set_cons_succ]
        refine wpAnyH_take (i := 1) (v := ?_) rfl (by kernel_rfl) (by kernel_rfl) (by kernel_rfl) (fun _ _ _ h => h) (Or.inl ⟨by rfl, ?_⟩) (by assumption) ?_
        rotate_left
        · (intro w hSw; (try dsimp only at hSw); go_simp)
          first | done | with_reducible rfl
        simp only [Act.put, List.getElem_toArray, List.getElem_cons_zero, List.getElem_cons_succ, List.setIfInBounds_toArray, List.set_cons_zero, List.set_cons_succ]
        refine wpAnyH_take (i := 2) (v := ?_) rfl (by kernel_rfl) (by kernel_rfl) (by kernel_rfl) (fun _ _ _ h => h) (Or.inl ⟨by rfl, ?_⟩) (by assumption) ?_
        rotate_left
        · (intro w hSw; (try dsimp only at hSw); go_simp)
          first | done | with_reducible rfl
        simp only [Act.put, List.getElem_toArray, List.getElem_cons_zero, List.getElem_cons_succ, List.setIfInBounds_toArray, List.set_cons_zero, List.set_cons_succ]
        refine wpAnyH_take (i := 3) (v := ?_) rfl (by kernel_rfl) (by kernel_rfl) (by kernel_rfl) (fun _ _ _ h => h) (Or.inl ⟨by rfl, ?_⟩) (by assumption) ?_
        rotate_left
        · (intro w hSw; (try dsimp only at hSw); go_simp)
          first | done | with_reducible rfl
        simp only [Act.put, List.getElem_toArray, List.getElem_cons_zero, List.getElem_cons_succ, List.setIfInBounds_toArray, List.set_cons_zero, List.set_cons_succ]
        refine wpAnyH_ready (rs := [4]) (by kernel_rfl) (by simp) ?_
        refine AllReadyH.cons rfl (fun K hK => ?_) AllReadyH.nil
        go_simp
        refine (SF.out _).mono ?_
        rintro e w4 ⟨rfl, hu1⟩
        have hv1 : Upd [] wo w4 := (Upd.refl [] wo).drew.trans hu1
        refine hK.out _ _ ?_ (fun hHeld => ?_)
        · exact ⟨hu1.keep hHeld.1, hu1.keep hHeld.2.1, hu1.keep hHeld.2.2.1, hu1.keep hHeld.2.2.2.1, hu1.keep hHeld.2.2.2.2⟩
        clear hK K
        try simp only [Act.put, List.getElem_toArray, List.getElem_cons_zero, List.getElem_cons_succ, List.setIfInBounds_toArray, List.set_cons_zero, List.set_cons_succ]
        refine wpAnyH_take (i := 5) (v := ?_) rfl (by kernel_rfl) (by kernel_rfl) (by kernel_rfl) (fun _ _ _ h => h) (Or.inl ⟨by rfl, ?_⟩) (by assumption) ?_
        rotate_left
        · (intro w hSw; (try dsimp only at hSw); go_simp)
          first | done | with_reducible rfl
        simp only [Act.put, List.getElem_toArray, List.getElem_cons_zero, List.getElem_cons_succ, List.setIfInBounds_toArray, List.set_cons_zero, List.set_cons_succ]
        refine wpAnyH_take (i := 6) rfl (by kernel_rfl) (by kernel_rfl) (by kernel_rfl) (fun _ _ _ h => h) (Or.inr ⟨by rfl, rfl⟩) (by assumption) ?_
        simp only [Act.put, List.getElem_toArray, List.getElem_cons_zero, List.getElem_cons_succ, List.setIfInBounds_toArray, List.set_cons_zero, List.set_cons_succ]
        refine wpAnyH_take (i := 7) rfl (by kernel_rfl) (by kernel_rfl) (by kernel_rfl) (fun _ _ _ h => h) (Or.inr ⟨by rfl, rfl⟩) (by assumption) ?_
        simp only [Act.put, List.getElem_toArray, List.getElem_cons_zero, List.getElem_cons_succ, List.setIfInBounds_toArray, List.set_cons_zero, List.set_cons_succ]
        refine wpAnyH_take (i := 8) rfl (by kernel_rfl) (by kernel_rfl) (by kernel_rfl) (fun _ _ _ h => h) (Or.inr ⟨by rfl, rfl⟩) (by assumption) ?_
        simp only [Act.put, List.getElem_toArray, List.getElem_cons_zero, List.getElem_cons_succ, List.setIfInBounds_toArray, List.set_cons_zero, List.set_cons_succ]
        refine wpAnyH_take (i := 9) rfl (by kernel_rfl) (by kernel_rfl) (by kernel_rfl) (fun _ _ _ h => h) (Or.inr ⟨by rfl, rfl⟩) (by assumption) ?_
        simp only [Act.put, List.getElem_toArray, List.getElem_cons_zero, List.getElem_cons_succ, List.setIfInBounds_toArray, List.set_cons_zero, List.set_cons_succ]
        refine wpAnyH_take (i := 10) rfl (by kernel_rfl) (by kernel_rfl) (by kernel_rfl) (fun _ _ _ h => h) (Or.inr ⟨by rfl, rfl⟩) (by assumption) ?_
        simp only [Act.put, List.getElem_toArray, List.getElem_cons_zero, List.getElem_cons_succ, List.setIfInBounds_toArray, List.set_cons_zero, List.set_cons_succ]
        refine wpAnyH_take (i := 11) rfl (by kernel_rfl) (by kernel_rfl) (by kernel_rfl) (fun _ _ _ h => h) (Or.inr ⟨by rfl, rfl⟩) (by assumption) ?_
        simp only [Act.put, List.getElem_toArray, List.getElem_cons_zero, List.getElem_cons_succ, List.setIfInBounds_toArray, List.set_cons_zero, List.set_cons_succ]
        refine wpAnyH_take (i := 12) rfl (by kernel_rfl) (by kernel_rfl) (by kernel_rfl) (fun _ _ _ h => h) (Or.inr ⟨by rfl, rfl⟩) (by assumption) ?_
        simp only [Act.put, List.getElem_toArray, List.getElem_cons_zero, List.getElem_cons_succ, List.setIfInBounds_toArray, List.set_cons_zero, List.set_cons_succ]
        refine wpAnyH_take (i := 13) rfl (by kernel_rfl) (by kernel_rfl) (by kernel_rfl) (fun _ _ _ h => h) (Or.inr ⟨by rfl, rfl⟩) (by assumption) ?_
        simp only [Act.put, List.getElem_toArray, List.getElem_cons_zero, List.getElem_cons_succ, List.setIfInBounds_toArray, List.set_cons_zero, List.set_cons_succ]
        refine wpAnyH_take (i := 14) rfl (by kernel_rfl) (by kernel_rfl) (by kernel_rfl) (fun _ _ _ h => h) (Or.inr ⟨by rfl, rfl⟩) (by assumption) ?_
        simp only [Act.put, List.getElem_toArray, List.getElem_cons_zero, List.getElem_cons_succ, List.setIfInBounds_toArray, List.set_cons_zero, List.set_cons_succ]
        refine wpAnyH_take (i := 15) rfl (by kernel_rfl) (by kernel_rfl) (by kernel_rfl) (fun _ _ _ h => h) (Or.inr ⟨by rfl, rfl⟩) (by assumption) ?_
        simp only [Act.put, List.getElem_toArray, List.getElem_cons_zero, List.getElem_cons_succ, List.setIfInBounds_toArray, List.set_cons_zero, List.set_cons_succ]
        refine wpAnyH_take (i := 16) rfl (by kernel_rfl) (by kernel_rfl) (by kernel_rfl) (fun _ _ _ h => h) (Or.inr ⟨by rfl, rfl⟩) (by assumption) ?_
        simp only [Act.put, List.getElem_toArray, List.getElem_cons_zero, List.getElem_cons_succ, List.setIfInBounds_toArray, List.set_cons_zero, List.set_cons_succ]
        refine wpAnyH_take (i := 17) (v := ?_) rfl (by kernel_rfl) (by kernel_rfl) (by kernel_rfl) (fun _ _ _ h => h) (Or.inl ⟨by rfl, ?_⟩) (by assumption) ?_
        rotate_left
        · (intro w hSw; (try dsimp only at hSw); go_simp)
          first | done | with_reducible rfl
        simp only [Act.put, List.getElem_toArray, List.getElem_cons_zero, List.getElem_cons_succ, List.setIfInBounds_toArray, List.set_cons_zero, List.set_cons_succ]
        refine wpAnyH_take (i := 18) (v := ?_) rfl (by kernel_rfl) (by kernel_rfl) (by kernel_rfl) (fun _ _ _ h => h) (Or.inl ⟨by rfl, ?_⟩) (by assumption) ?_
        rotate_left
        · (intro w hSw; (try dsimp only at hSw); go_simp)
          first | done | with_reducible rfl
        simp only [Act.put, List.getElem_toArray, List.getElem_cons_zero, List.getElem_cons_succ, List.setIfInBounds_toArray, List.set_cons_zero, List.set_cons_succ]
        refine wpAnyH_take (i := 19) rfl (by kernel_rfl) (by kernel_rfl) (by kernel_rfl) (fun _ _ _ h => h) (Or.inr ⟨by rfl, rfl⟩) (by assumption) ?_
        simp only [Act.put, List.getElem_toArray, List.getElem_cons_zero, List.getElem_cons_succ, List.setIfInBounds_toArray, List.set_cons_zero, List.set_cons_succ]
        refine wpAnyH_take (i := 20) rfl (by kernel_rfl) (by kernel_rfl) (by kernel_rfl) (fun _ _ _ h => h) (Or.inr ⟨by rfl, rfl⟩) (by assumption) ?_
        simp only [Act.put, List.getElem_toArray, List.getElem_cons_zero, List.getElem_cons_succ, List.setIfInBounds_toArray, List.set_cons_zero, List.set_cons_succ]
        refine wpAnyH_take (i := 21) rfl (by kernel_rfl) (by kernel_rfl) (by kernel_rfl) (fun _ _ _ h => h) (Or.inr ⟨by rfl, rfl⟩) (by assumption) ?_
        simp only [Act.put, List.getElem_toArray, List.getElem_cons_zero, List.getElem_cons_succ, List.setIfInBounds_toArray, List.set_cons_zero, List.set_cons_succ]
        refine wpAnyH_take (i := 22) rfl (by kernel_rfl) (by kernel_rfl) (by kernel_rfl) (fun _ _ _ h => h) (Or.inr ⟨by rfl, rfl⟩) (by assumption) ?_
        simp only [Act.put, List.getElem_toArray, List.getElem_cons_zero, List.getElem_cons_succ, List.setIfInBounds_toArray, List.set_cons_zero, List.set_cons_succ]
        refine wpAnyH_take (i := 23) rfl (by kernel_rfl) (by kernel_rfl) (by kernel_rfl) (fun _ _ _ h => h) (Or.inr ⟨by rfl, rfl⟩) (by assumption) ?_
        simp only [Act.put, List.getElem_toArray, List.getElem_cons_zero, List.getElem_cons_succ, List.setIfInBounds_toArray, List.set_cons_zero, List.set_cons_succ]
        refine wpAnyH_take (i := 24) (v := ?_) rfl (by kernel_rfl) (by kernel_rfl) (by kernel_rfl) (fun _ _ _ h => h) (Or.inl ⟨by rfl, ?_⟩) (by assumption) ?_
        rotate_left
        · (intro w hSw; (try dsimp only at hSw); go_simp)
          first | done | with_reducible rfl
        simp only [Act.put, List.getElem_toArray, List.getElem_cons_zero, List.getElem_cons_succ, List.setIfInBounds_toArray, List.set_cons_zero, List.set_cons_succ]
        refine wpAnyH_done (by kernel_rfl) ?_ _
        have HE := Lib.hid (show bindF arI f k j = bindF arI f k k by rw [HB2.out, hfx]; simp)
        have HU9 := Lib.hid (HU.out.trans (hv1))
        clear HB2 HU hHeld q1 q2 q3 q4 q5 SE SF
        go_wp2_with fail
        go_roundw
        case rel => exact ⟨(j : Int) - 1, rfl, by omega, by omega, Lib.hid (by rw [HJ.out]; exact HE.out), HU9⟩
        case measure => simp [intOf]
      | true =>
        rw [hfx] at SF
        cases heq : (x2 == y2) with
        | false =>
          go_upto_region 4 with (fail)
          refine wp_region_held_drew (S := fun w' => w'.cell? ⟨b1, o1 + j * 4, none⟩ = some (ei x1) ∧ w'.cell? ⟨b1, o1 + j * 4 + 1, none⟩ = some (ei x2) ∧ w'.cell? ⟨b1, o1 + j * 4 + 2, none⟩ = some (es x3) ∧ w'.cell? ⟨b1, o1 + j * 4 + 3, none⟩ = some (.bool x4) ∧ w'.cell? ⟨b1, o1 + k * 4 + 1, none⟩ = some (ei y2)) (by kernel_rfl) ?_ (fun hHeld => ?_)
          · exact ⟨q1, q2, q3, q4, q5⟩
          refine wpAnyH_take (i := 0) (v := ?_) rfl (by kernel_rfl) (by kernel_rfl) (by kernel_rfl) (fun _ _ _ h => h) (Or.inl ⟨by rfl, ?_⟩) (by assumption) ?_
          rotate_left
          · (intro w hSw; (try dsimp only at hSw); go_simp)
            first | done | with_reducible rfl
          simp only [Act.put, List.getElem_toArray, List.getElem_cons_zero, List.getElem_cons_succ, List.setIfInBounds_toArray, List.set_cons_zero, List.set_cons_succ]
          refine wpAnyH_take (i := 1) (v := ?_) rfl (by kernel_rfl) (by kernel_rfl) (by kernel_rfl) (fun _ _ _ h => h) (Or.inl ⟨by rfl, ?_⟩) (by assumption) ?_
          rotate_left
          · (intro w hSw; (try dsimp only at hSw); go_simp)
            first | done | with_reducible rfl
          simp only [Act.put, List.getElem_toArray, List.getElem_cons_zero, List.getElem_cons_succ, List.setIfInBounds_toArray, List.set_cons_zero, List.set_cons_succ]
          refine wpAnyH_take (i := 2) (v := ?_) rfl (by kernel_rfl) (by kernel_rfl) (by kernel_rfl) (fun _ _ _ h => h) (Or.inl ⟨by rfl, ?_⟩) (by assumption) ?_
          rotate_left
          · (intro w hSw; (try dsimp only at hSw); go_simp)
            first | done | with_reducible rfl
          simp only [Act.put, List.getElem_toArray, List.getElem_cons_zero, List.getElem_cons_succ, List.setIfInBounds_toArray, List.set_cons_zero, List.set_cons_succ]
          refine wpAnyH_take (i := 3) (v := ?_) rfl (by kernel_rfl) (by kernel_rfl) (by kernel_rfl) (fun _ _ _ h => h) (Or.inl ⟨by rfl, ?_⟩) (by assumption) ?_
          rotate_left
          · (intro w hSw; (try dsimp only at hSw); go_simp)
            first | done | with_reducible rfl
          simp only [Act.put, List.getElem_toArray, List.getElem_cons_zero, List.getElem_cons_succ, List.setIfInBounds_toArray, List.set_cons_zero, List.set_cons_succ]
          refine wpAnyH_ready (rs := [4]) (by kernel_rfl) (by simp) ?_
          refine AllReadyH.cons rfl (fun K hK => ?_) AllReadyH.nil
          go_simp
          refine (SF.out _).mono ?_
          rintro e w4 ⟨rfl, hu1⟩
          have hv1 : Upd [] wo w4 := (Upd.refl [] wo).drew.trans hu1
          refine hK.out _ _ ?_ (fun hHeld => ?_)
          · exact ⟨hu1.keep hHeld.1, hu1.keep hHeld.2.1, hu1.keep hHeld.2.2.1, hu1.keep hHeld.2.2.2.1, hu1.keep hHeld.2.2.2.2⟩
          clear hK K
          try simp only [Act.put, List.getElem_toArray, List.getElem_cons_zero, List.getElem_cons_succ, List.setIfInBounds_toArray, List.set_cons_zero, List.set_cons_succ]
          refine wpAnyH_take (i := 5) (v := ?_) rfl (by kernel_rfl) (by kernel_rfl) (by kernel_rfl) (fun _ _ _ h => h) (Or.inl ⟨by rfl, ?_⟩) (by assumption) ?_
          rotate_left
          · (intro w hSw; (try dsimp only at hSw); go_simp)
            first | done | with_reducible rfl
          simp only [Act.put, List.getElem_toArray, List.getElem_cons_zero, List.getElem_cons_succ, List.setIfInBounds_toArray, List.set_cons_zero, List.set_cons_succ]
          refine wpAnyH_take (i := 6) (v := ?_) rfl (by kernel_rfl) (by kernel_rfl) (by kernel_rfl) (fun _ _ _ h => h) (Or.inl ⟨by rfl, ?_⟩) (by assumption) ?_
          rotate_left
          · (intro w hSw; (try dsimp only at hSw); go_simp)
            first | done | with_reducible rfl
          simp only [Act.put, List.getElem_toArray, List.getElem_cons_zero, List.getElem_cons_succ, List.setIfInBounds_toArray, List.set_cons_zero, List.set_cons_succ]
          refine wpAnyH_take (i := 7) (v := ?_) rfl (by kernel_rfl) (by kernel_rfl) (by kernel_rfl) (fun _ _ _ h => h) (Or.inl ⟨by rfl, ?_⟩) (by assumption) ?_
          rotate_left
          · (intro w hSw; (try dsimp only at hSw); go_simp)
            first | done | with_reducible rfl
          simp only [Act.put, List.getElem_toArray, List.getElem_cons_zero, List.getElem_cons_succ, List.setIfInBounds_toArray, List.set_cons_zero, List.set_cons_succ]
          refine wpAnyH_take (i := 8) (v := ?_) rfl (by kernel_rfl) (by kernel_rfl) (by kernel_rfl) (fun _ _ _ h => h) (Or.inl ⟨by rfl, ?_⟩) (by assumption) ?_
          rotate_left
          · (intro w hSw; (try dsimp only at hSw); go_simp)
            first | done | with_reducible rfl
          simp only [Act.put, List.getElem_toArray, List.getElem_cons_zero, List.getElem_cons_succ, List.setIfInBounds_toArray, List.set_cons_zero, List.set_cons_succ]
          refine wpAnyH_take (i := 9) (v := ?_) rfl (by kernel_rfl) (by kernel_rfl) (by kernel_rfl) (fun _ _ _ h => h) (Or.inl ⟨by rfl, ?_⟩) (by assumption) ?_
          rotate_left
          · (intro w hSw; (try dsimp only at hSw); go_simp)
            first | done | with_reducible rfl
          simp only [Act.put, List.getElem_toArray, List.getElem_cons_zero, List.getElem_cons_succ, List.setIfInBounds_toArray, List.set_cons_zero, List.set_cons_succ]
          refine wpAnyH_take (i := 10) (v := ?_) rfl (by kernel_rfl) (by kernel_rfl) (by kernel_rfl) (fun _ _ _ h => h) (Or.inl ⟨by rfl, ?_⟩) (by assumption) ?_
          rotate_left
          · (intro w hSw; (try dsimp only at hSw); go_simp)
            first | done | with_reducible rfl
          simp only [Act.put, List.getElem_toArray, List.getElem_cons_zero, List.getElem_cons_succ, List.setIfInBounds_toArray, List.set_cons_zero, List.set_cons_succ]
          refine wpAnyH_take (i := 11) (v := ?_) rfl (by kernel_rfl) (by kernel_rfl) (by kernel_rfl) (fun _ _ _ h => h) (Or.inl ⟨by rfl, ?_⟩) (by assumption) ?_
          rotate_left
          · (intro w hSw; (try dsimp only at hSw); go_simp)
            first | done | with_reducible rfl
          simp only [Act.put, List.getElem_toArray, List.getElem_cons_zero, List.getElem_cons_succ, List.setIfInBounds_toArray, List.set_cons_zero, List.set_cons_succ]
          refine wpAnyH_take (i := 12) (v := ?_) rfl (by kernel_rfl) (by kernel_rfl) (by kernel_rfl) (fun _ _ _ h => h) (Or.inl ⟨by rfl, ?_⟩) (by assumption) ?_
          rotate_left
          · (intro w hSw; (try dsimp only at hSw); go_simp)
            first | done | with_reducible rfl
          simp only [Act.put, List.getElem_toArray, List.getElem_cons_zero, List.getElem_cons_succ, List.setIfInBounds_toArray, List.set_cons_zero, List.set_cons_succ]
          refine wpAnyH_take (i := 13) (v := ?_) rfl (by kernel_rfl) (by kernel_rfl) (by kernel_rfl) (fun _ _ _ h => h) (Or.inl ⟨by rfl, ?_⟩) (by assumption) ?_
          rotate_left
          · (intro w hSw; (try dsimp only at hSw); go_simp)
            first | done | with_reducible rfl
          simp only [Act.put, List.getElem_toArray, List.getElem_cons_zero, List.getElem_cons_succ, List.setIfInBounds_toArray, List.set_cons_zero, List.set_cons_succ]
          refine wpAnyH_take (i := 14) (v := ?_) rfl (by kernel_rfl) (by kernel_rfl) (by kernel_rfl) (fun _ _ _ h => h) (Or.inl ⟨by rfl, ?_⟩) (by assumption) ?_
          rotate_left
          · (intro w hSw; (try dsimp only at hSw); go_simp)
            first | done | with_reducible rfl
          simp only [Act.put, List.getElem_toArray, List.getElem_cons_zero, List.getElem_cons_succ, List.setIfInBounds_toArray, List.set_cons_zero, List.set_cons_succ]
          refine wpAnyH_take (i := 15) (v := ?_) rfl (by kernel_rfl) (by kernel_rfl) (by kernel_rfl) (fun _ _ _ h => h) (Or.inl ⟨by rfl, ?_⟩) (by assumption) ?_
          rotate_left
          · (intro w hSw; (try dsimp only at hSw); go_simp)
            first | done | with_reducible rfl
          simp only [Act.put, List.getElem_toArray, List.getElem_cons_zero, List.getElem_cons_succ, List.setIfInBounds_toArray, List.set_cons_zero, List.set_cons_succ]
          refine wpAnyH_take (i := 16) (v := ?_) rfl (by kernel_rfl) (by kernel_rfl) (by kernel_rfl) (fun _ _ _ h => h) (Or.inl ⟨by rfl, ?_⟩) (by assumption) ?_
          rotate_left
          · (intro w hSw; (try dsimp only at hSw); go_simp)
            first | done | with_reducible rfl
          simp only [Act.put, List.getElem_toArray, List.getElem_cons_zero, List.getElem_cons_succ, List.setIfInBounds_toArray, List.set_cons_zero, List.set_cons_succ]
          try simp only [heq]
          refine wpAnyH_take (i := 17) (v := ?_) rfl (by kernel_rfl) (by kernel_rfl) (by kernel_rfl) (fun _ _ _ h => h) (Or.inl ⟨by rfl, ?_⟩) (by assumption) ?_
          rotate_left
          · (intro w hSw; (try dsimp only at hSw); go_simp)
            first | done | with_reducible rfl
          simp only [Act.put, List.getElem_toArray, List.getElem_cons_zero, List.getElem_cons_succ, List.setIfInBounds_toArray, List.set_cons_zero, List.set_cons_succ]
          refine wpAnyH_take (i := 18) (v := ?_) rfl (by kernel_rfl) (by kernel_rfl) (by kernel_rfl) (fun _ _ _ h => h) (Or.inl ⟨by rfl, ?_⟩) (by assumption) ?_
          rotate_left
          · (intro w hSw; (try dsimp only at hSw); go_simp)
            first | done | with_reducible rfl
          simp only [Act.put, List.getElem_toArray, List.getElem_cons_zero, List.getElem_cons_succ, List.setIfInBounds_toArray, List.set_cons_zero, List.set_cons_succ]
          refine wpAnyH_take (i := 19) rfl (by kernel_rfl) (by kernel_rfl) (by kernel_rfl) (fun _ _ _ h => h) (Or.inr ⟨by rfl, rfl⟩) (by assumption) ?_
          simp only [Act.put, List.getElem_toArray, List.getElem_cons_zero, List.getElem_cons_succ, List.setIfInBounds_toArray, List.set_cons_zero, List.set_cons_succ]
          refine wpAnyH_take (i := 20) rfl (by kernel_rfl) (by kernel_rfl) (by kernel_rfl) (fun _ _ _ h => h) (Or.inr ⟨by rfl, rfl⟩) (by assumption) ?_
          simp only [Act.put, List.getElem_toArray, List.getElem_cons_zero, List.getElem_cons_succ, List.setIfInBounds_toArray, List.set_cons_zero, List.set_cons_succ]
          refine wpAnyH_take (i := 21) rfl (by kernel_rfl) (by kernel_rfl) (by kernel_rfl) (fun _ _ _ h => h) (Or.inr ⟨by rfl, rfl⟩) (by assumption) ?_
          simp only [Act.put, List.getElem_toArray, List.getElem_cons_zero, List.getElem_cons_succ, List.setIfInBounds_toArray, List.set_cons_zero, List.set_cons_succ]
          refine wpAnyH_take (i := 22) rfl (by kernel_rfl) (by kernel_rfl) (by kernel_rfl) (fun _ _ _ h => h) (Or.inr ⟨by rfl, rfl⟩) (by assumption) ?_
          simp only [Act.put, List.getElem_toArray, List.getElem_cons_zero, List.getElem_cons_succ, List.setIfInBounds_toArray, List.set_cons_zero, List.set_cons_succ]
          refine wpAnyH_take (i := 23) rfl (by kernel_rfl) (by kernel_rfl) (by kernel_rfl) (fun _ _ _ h => h) (Or.inr ⟨by rfl, rfl⟩) (by assumption) ?_
          simp only [Act.put, List.getElem_toArray, List.getElem_cons_zero, List.getElem_cons_succ, List.setIfInBounds_toArray, List.set_cons_zero, List.set_cons_succ]
          refine wpAnyH_take (i := 24) (v := ?_) rfl (by kernel_rfl) (by kernel_rfl) (by kernel_rfl) (fun _ _ _ h => h) (Or.inl ⟨by rfl, ?_⟩) (by assumption) ?_
          rotate_left
          · (intro w hSw; (try dsimp only at hSw); go_simp)
            first | done | with_reducible rfl
          simp only [Act.put, List.getElem_toArray, List.getElem_cons_zero, List.getElem_cons_succ, List.setIfInBounds_toArray, List.set_cons_zero, List.set_cons_succ]
          refine wpAnyH_done (by kernel_rfl) ?_ _
          have HE := Lib.hid (show bindF arI f k j = bindF arI f k k by rw [HB2.out, hfx, heq]; simp)
          have HU9 := Lib.hid (HU.out.trans (hv1))
          clear HB2 HU hHeld q1 q2 q3 q4 q5 SE SF
          go_wp2_with fail
          go_roundw
          case rel => exact ⟨(j : Int) - 1, rfl, by omega, by omega, Lib.hid (by rw [HJ.out]; exact HE.out), HU9⟩
          case measure => simp [intOf]
        | true =>
          by_cases hen : k < j + en
          · have HE := Lib.hid (show bindF arI f k k = (j : Int) by rw [HB2.out, hfx, heq, decide_eq_true hen]; rfl)
            have heni : (k : Int) < ((j + en : Nat) : Int) := by omega
            generalize ((j + en : Nat) : Int) = zz at *
            clear HB2 hen
            go_upto_region 4 with (fail)
            refine wp_region_held_drew (S := fun w' => w'.cell? ⟨b1, o1 + j * 4, none⟩ = some (ei x1) ∧ w'.cell? ⟨b1, o1 + j * 4 + 1, none⟩ = some (ei x2) ∧ w'.cell? ⟨b1, o1 + j * 4 + 2, none⟩ = some (es x3) ∧ w'.cell? ⟨b1, o1 + j * 4 + 3, none⟩ = some (.bool x4) ∧ w'.cell? ⟨b1, o1 + k * 4 + 1, none⟩ = some (ei y2)) (by kernel_rfl) ?_ (fun hHeld => ?_)
            · exact ⟨q1, q2, q3, q4, q5⟩
            refine wpAnyH_take (i := 0) (v := ?_) rfl (by kernel_rfl) (by kernel_rfl) (by kernel_rfl) (fun _ _ _ h => h) (Or.inl ⟨by rfl, ?_⟩) (by assumption) ?_
            rotate_left
            · (intro w hSw; (try dsimp only at hSw); go_simp)
              first | done | with_reducible rfl
            simp only [Act.put, List.getElem_toArray, List.getElem_cons_zero, List.getElem_cons_succ, List.setIfInBounds_toArray, List.set_cons_zero, List.set_cons_succ]
            refine wpAnyH_take (i := 1) (v := ?_) rfl (by kernel_rfl) (by kernel_rfl) (by kernel_rfl) (fun _ _ _ h => h) (Or.inl ⟨by rfl, ?_⟩) (by assumption) ?_
            rotate_left
            · (intro w hSw; (try dsimp only at hSw); go_simp)
              first | done | with_reducible rfl
            simp only [Act.put, List.getElem_toArray, List.getElem_cons_zero, List.getElem_cons_succ, List.setIfInBounds_toArray, List.set_cons_zero, List.set_cons_succ]
            refine wpAnyH_take (i := 2) (v := ?_) rfl (by kernel_rfl) (by kernel_rfl) (by kernel_rfl) (fun _ _ _ h => h) (Or.inl ⟨by rfl, ?_⟩) (by assumption) ?_
            rotate_left
            · (intro w hSw; (try dsimp only at hSw); go_simp)
              first | done | with_reducible rfl
            simp only [Act.put, List.getElem_toArray, List.getElem_cons_zero, List.getElem_cons_succ, List.setIfInBounds_toArray, List.set_cons_zero, List.set_cons_succ]
            refine wpAnyH_take (i := 3) (v := ?_) rfl (by kernel_rfl) (by kernel_rfl) (by kernel_rfl) (fun _ _ _ h => h) (Or.inl ⟨by rfl, ?_⟩) (by assumption) ?_
            rotate_left
            · (intro w hSw; (try dsimp only at hSw); go_simp)
              first | done | with_reducible rfl
            simp only [Act.put, List.getElem_toArray, List.getElem_cons_zero, List.getElem_cons_succ, List.setIfInBounds_toArray, List.set_cons_zero, List.set_cons_succ]
            refine wpAnyH_ready (rs := [4]) (by kernel_rfl) (by simp) ?_
            refine AllReadyH.cons rfl (fun K hK => ?_) AllReadyH.nil
            go_simp
            refine (SF.out _).mono ?_
            rintro e w4 ⟨rfl, hu1⟩
            have hv1 : Upd [] wo w4 := (Upd.refl [] wo).drew.trans hu1
            refine hK.out _ _ ?_ (fun hHeld => ?_)
            · exact ⟨hu1.keep hHeld.1, hu1.keep hHeld.2.1, hu1.keep hHeld.2.2.1, hu1.keep hHeld.2.2.2.1, hu1.keep hHeld.2.2.2.2⟩
            clear hK K
            try simp only [Act.put, List.getElem_toArray, List.getElem_cons_zero, List.getElem_cons_succ, List.setIfInBounds_toArray, List.set_cons_zero, List.set_cons_succ]
            refine wpAnyH_take (i := 5) (v := ?_) rfl (by kernel_rfl) (by kernel_rfl) (by kernel_rfl) (fun _ _ _ h => h) (Or.inl ⟨by rfl, ?_⟩) (by assumption) ?_
            rotate_left
            · (intro w hSw; (try dsimp only at hSw); go_simp)
              first | done | with_reducible rfl
            simp only [Act.put, List.getElem_toArray, List.getElem_cons_zero, List.getElem_cons_succ, List.setIfInBounds_toArray, List.set_cons_zero, List.set_cons_succ]
            refine wpAnyH_take (i := 6) (v := ?_) rfl (by kernel_rfl) (by kernel_rfl) (by kernel_rfl) (fun _ _ _ h => h) (Or.inl ⟨by rfl, ?_⟩) (by assumption) ?_
            rotate_left
            · (intro w hSw; (try dsimp only at hSw); go_simp)
              first | done | with_reducible rfl
            simp only [Act.put, List.getElem_toArray, List.getElem_cons_zero, List.getElem_cons_succ, List.setIfInBounds_toArray, List.set_cons_zero, List.set_cons_succ]
            refine wpAnyH_take (i := 7) (v := ?_) rfl (by kernel_rfl) (by kernel_rfl) (by kernel_rfl) (fun _ _ _ h => h) (Or.inl ⟨by rfl, ?_⟩) (by assumption) ?_
            rotate_left
            · (intro w hSw; (try dsimp only at hSw); go_simp)
              first | done | with_reducible rfl
            simp only [Act.put, List.getElem_toArray, List.getElem_cons_zero, List.getElem_cons_succ, List.setIfInBounds_toArray, List.set_cons_zero, List.set_cons_succ]
            refine wpAnyH_take (i := 8) (v := ?_) rfl (by kernel_rfl) (by kernel_rfl) (by kernel_rfl) (fun _ _ _ h => h) (Or.inl ⟨by rfl, ?_⟩) (by assumption) ?_
            rotate_left
            · (intro w hSw; (try dsimp only at hSw); go_simp)
              first | done | with_reducible rfl
            simp only [Act.put, List.getElem_toArray, List.getElem_cons_zero, List.getElem_cons_succ, List.setIfInBounds_toArray, List.set_cons_zero, List.set_cons_succ]
            refine wpAnyH_take (i := 9) (v := ?_) rfl (by kernel_rfl) (by kernel_rfl) (by kernel_rfl) (fun _ _ _ h => h) (Or.inl ⟨by rfl, ?_⟩) (by assumption) ?_
            rotate_left
            · (intro w hSw; (try dsimp only at hSw); go_simp)
              first | done | with_reducible rfl
            simp only [Act.put, List.getElem_toArray, List.getElem_cons_zero, List.getElem_cons_succ, List.setIfInBounds_toArray, List.set_cons_zero, List.set_cons_succ]
            refine wpAnyH_take (i := 10) (v := ?_) rfl (by kernel_rfl) (by kernel_rfl) (by kernel_rfl) (fun _ _ _ h => h) (Or.inl ⟨by rfl, ?_⟩) (by assumption) ?_
            rotate_left
            · (intro w hSw; (try dsimp only at hSw); go_simp)
              first | done | with_reducible rfl
            simp only [Act.put, List.getElem_toArray, List.getElem_cons_zero, List.getElem_cons_succ, List.setIfInBounds_toArray, List.set_cons_zero, List.set_cons_succ]
            refine wpAnyH_take (i := 11) (v := ?_) rfl (by kernel_rfl) (by kernel_rfl) (by kernel_rfl) (fun _ _ _ h => h) (Or.inl ⟨by rfl, ?_⟩) (by assumption) ?_
            rotate_left
            · (intro w hSw; (try dsimp only at hSw); go_simp)
              first | done | with_reducible rfl
            simp only [Act.put, List.getElem_toArray, List.getElem_cons_zero, List.getElem_cons_succ, List.setIfInBounds_toArray, List.set_cons_zero, List.set_cons_succ]
            refine wpAnyH_take (i := 12) (v := ?_) rfl (by kernel_rfl) (by kernel_rfl) (by kernel_rfl) (fun _ _ _ h => h) (Or.inl ⟨by rfl, ?_⟩) (by assumption) ?_
            rotate_left
            · (intro w hSw; (try dsimp only at hSw); go_simp)
              first | done | with_reducible rfl
            simp only [Act.put, List.getElem_toArray, List.getElem_cons_zero, List.getElem_cons_succ, List.setIfInBounds_toArray, List.set_cons_zero, List.set_cons_succ]
            refine wpAnyH_take (i := 13) (v := ?_) rfl (by kernel_rfl) (by kernel_rfl) (by kernel_rfl) (fun _ _ _ h => h) (Or.inl ⟨by rfl, ?_⟩) (by assumption) ?_
            rotate_left
            · (intro w hSw; (try dsimp only at hSw); go_simp)
              first | done | with_reducible rfl
            simp only [Act.put, List.getElem_toArray, List.getElem_cons_zero, List.getElem_cons_succ, List.setIfInBounds_toArray, List.set_cons_zero, List.set_cons_succ]
            refine wpAnyH_take (i := 14) (v := ?_) rfl (by kernel_rfl) (by kernel_rfl) (by kernel_rfl) (fun _ _ _ h => h) (Or.inl ⟨by rfl, ?_⟩) (by assumption) ?_
            rotate_left
            · (intro w hSw; (try dsimp only at hSw); go_simp)
              first | done | with_reducible rfl
            simp only [Act.put, List.getElem_toArray, List.getElem_cons_zero, List.getElem_cons_succ, List.setIfInBounds_toArray, List.set_cons_zero, List.set_cons_succ]
            refine wpAnyH_take (i := 15) (v := ?_) rfl (by kernel_rfl) (by kernel_rfl) (by kernel_rfl) (fun _ _ _ h => h) (Or.inl ⟨by rfl, ?_⟩) (by assumption) ?_
            rotate_left
            · (intro w hSw; (try dsimp only at hSw); go_simp)
              first | done | with_reducible rfl
            simp only [Act.put, List.getElem_toArray, List.getElem_cons_zero, List.getElem_cons_succ, List.setIfInBounds_toArray, List.set_cons_zero, List.set_cons_succ]
            refine wpAnyH_take (i := 16) (v := ?_) rfl (by kernel_rfl) (by kernel_rfl) (by kernel_rfl) (fun _ _ _ h => h) (Or.inl ⟨by rfl, ?_⟩) (by assumption) ?_
            rotate_left
            · (intro w hSw; (try dsimp only at hSw); go_simp)
              first | done | with_reducible rfl
            simp only [Act.put, List.getElem_toArray, List.getElem_cons_zero, List.getElem_cons_succ, List.setIfInBounds_toArray, List.set_cons_zero, List.set_cons_succ]
            try simp only [heq]
            refine wpAnyH_take (i := 17) (v := ?_) rfl (by kernel_rfl) (by kernel_rfl) (by kernel_rfl) (fun _ _ _ h => h) (Or.inl ⟨by rfl, ?_⟩) (by assumption) ?_
            rotate_left
            · (intro w hSw; (try dsimp only at hSw); go_simp)
              first | done | with_reducible rfl
            simp only [Act.put, List.getElem_toArray, List.getElem_cons_zero, List.getElem_cons_succ, List.setIfInBounds_toArray, List.set_cons_zero, List.set_cons_succ]
            refine wpAnyH_take (i := 18) (v := ?_) rfl (by kernel_rfl) (by kernel_rfl) (by kernel_rfl) (fun _ _ _ h => h) (Or.inl ⟨by rfl, ?_⟩) (by assumption) ?_
            rotate_left
            · (intro w hSw; (try dsimp only at hSw); go_simp)
              first | done | with_reducible rfl
            simp only [Act.put, List.getElem_toArray, List.getElem_cons_zero, List.getElem_cons_succ, List.setIfInBounds_toArray, List.set_cons_zero, List.set_cons_succ]
            refine wpAnyH_take (i := 19) (v := ?_) rfl (by kernel_rfl) (by kernel_rfl) (by kernel_rfl) (fun _ _ _ h => h) (Or.inl ⟨by rfl, ?_⟩) (by assumption) ?_
            rotate_left
            · (intro w hSw; (try dsimp only at hSw); go_simp)
              first | done | with_reducible rfl
            simp only [Act.put, List.getElem_toArray, List.getElem_cons_zero, List.getElem_cons_succ, List.setIfInBounds_toArray, List.set_cons_zero, List.set_cons_succ]
            refine wpAnyH_take (i := 20) (v := ?_) rfl (by kernel_rfl) (by kernel_rfl) (by kernel_rfl) (fun _ _ _ h => h) (Or.inl ⟨by rfl, ?_⟩) (by assumption) ?_
            rotate_left
            · (intro w hSw; (try dsimp only at hSw); go_simp)
              first | done | with_reducible rfl
            simp only [Act.put, List.getElem_toArray, List.getElem_cons_zero, List.getElem_cons_succ, List.setIfInBounds_toArray, List.set_cons_zero, List.set_cons_succ]
            refine wpAnyH_take (i := 21) (v := ?_) rfl (by kernel_rfl) (by kernel_rfl) (by kernel_rfl) (fun _ _ _ h => h) (Or.inl ⟨by rfl, ?_⟩) (by assumption) ?_
            rotate_left
            · (intro w hSw; (try dsimp only at hSw); go_simp)
              first | done | with_reducible rfl
            simp only [Act.put, List.getElem_toArray, List.getElem_cons_zero, List.getElem_cons_succ, List.setIfInBounds_toArray, List.set_cons_zero, List.set_cons_succ]
            refine wpAnyH_ready (rs := [22]) (by kernel_rfl) (by simp) ?_
            refine AllReadyH.cons rfl (fun K hK => ?_) AllReadyH.nil
            go_simp
            refine (SE.out w4 hv1).mono ?_
            rintro e w22 ⟨rfl, hu2⟩
            refine hK.out _ _ ?_ (fun hHeld => ?_)
            · exact ⟨hu2.keep hHeld.1, hu2.keep hHeld.2.1, hu2.keep hHeld.2.2.1, hu2.keep hHeld.2.2.2.1, hu2.keep hHeld.2.2.2.2⟩
            clear hK K
            try simp only [Act.put, List.getElem_toArray, List.getElem_cons_zero, List.getElem_cons_succ, List.setIfInBounds_toArray, List.set_cons_zero, List.set_cons_succ]
            refine wpAnyH_take (i := 23) (v := ?_) rfl (by kernel_rfl) (by kernel_rfl) (by kernel_rfl) (fun _ _ _ h => h) (Or.inl ⟨by rfl, ?_⟩) (by assumption) ?_
            rotate_left
            · (intro w hSw; (try dsimp only at hSw); go_simp)
              first | done | with_reducible rfl
            simp only [Act.put, List.getElem_toArray, List.getElem_cons_zero, List.getElem_cons_succ, List.setIfInBounds_toArray, List.set_cons_zero, List.set_cons_succ]
            try simp only [heni, decide_true]
            refine wpAnyH_take (i := 24) (v := ?_) rfl (by kernel_rfl) (by kernel_rfl) (by kernel_rfl) (fun _ _ _ h => h) (Or.inl ⟨by rfl, ?_⟩) (by assumption) ?_
            rotate_left
            · (intro w hSw; (try dsimp only at hSw); go_simp)
              first | done | with_reducible rfl
            simp only [Act.put, List.getElem_toArray, List.getElem_cons_zero, List.getElem_cons_succ, List.setIfInBounds_toArray, List.set_cons_zero, List.set_cons_succ]
            refine wpAnyH_done (by kernel_rfl) ?_ _
            have HU9 := Lib.hid (HU.out.trans (hv1.trans hu2))
            clear HU hHeld q1 q2 q3 q4 q5 SE SF
            go_wp2_with fail
            go_ret
            exact ⟨by rw [HE.out]; rfl, HU9.out⟩
          · have hend := decide_eq_false hen
            have heni : ¬ (k : Int) < ((j + en : Nat) : Int) := by omega
            have HE0 := Lib.hid (show bindF arI f k k = bindF arI f k j by rw [HB2.out, hfx, heq, hend]; simp)
            generalize ((j + en : Nat) : Int) = zz at *
            clear hend hen
            go_upto_region 4 with (fail)
            refine wp_region_held_drew (S := fun w' => w'.cell? ⟨b1, o1 + j * 4, none⟩ = some (ei x1) ∧ w'.cell? ⟨b1, o1 + j * 4 + 1, none⟩ = some (ei x2) ∧ w'.cell? ⟨b1, o1 + j * 4 + 2, none⟩ = some (es x3) ∧ w'.cell? ⟨b1, o1 + j * 4 + 3, none⟩ = some (.bool x4) ∧ w'.cell? ⟨b1, o1 + k * 4 + 1, none⟩ = some (ei y2)) (by kernel_rfl) ?_ (fun hHeld => ?_)
            · exact ⟨q1, q2, q3, q4, q5⟩
            refine wpAnyH_take (i := 0) (v := ?_) rfl (by kernel_rfl) (by kernel_rfl) (by kernel_rfl) (fun _ _ _ h => h) (Or.inl ⟨by rfl, ?_⟩) (by assumption) ?_
            rotate_left
            · (intro w hSw; (try dsimp only at hSw); go_simp)
              first | done | with_reducible rfl
            simp only [Act.put, List.getElem_toArray, List.getElem_cons_zero, List.getElem_cons_succ, List.setIfInBounds_toArray, List.set_cons_zero, List.set_cons_succ]
            refine wpAnyH_take (i := 1) (v := ?_) rfl (by kernel_rfl) (by kernel_rfl) (by kernel_rfl) (fun _ _ _ h => h) (Or.inl ⟨by rfl, ?_⟩) (by assumption) ?_
            rotate_left
            · (intro w hSw; (try dsimp only at hSw); go_simp)
              first | done | with_reducible rfl
            simp only [Act.put, List.getElem_toArray, List.getElem_cons_zero, List.getElem_cons_succ, List.setIfInBounds_toArray, List.set_cons_zero, List.set_cons_succ]
            refine wpAnyH_take (i := 2) (v := ?_) rfl (by kernel_rfl) (by kernel_rfl) (by kernel_rfl) (fun _ _ _ h => h) (Or.inl ⟨by rfl, ?_⟩) (by assumption) ?_
            rotate_left
            · (intro w hSw; (try dsimp only at hSw); go_simp)
              first | done | with_reducible rfl
            simp only [Act.put, List.getElem_toArray, List.getElem_cons_zero, List.getElem_cons_succ, List.setIfInBounds_toArray, List.set_cons_zero, List.set_cons_succ]
            refine wpAnyH_take (i := 3) (v := ?_) rfl (by kernel_rfl) (by kernel_rfl) (by kernel_rfl) (fun _ _ _ h => h) (Or.inl ⟨by rfl, ?_⟩) (by assumption) ?_
            rotate_left
            · (intro w hSw; (try dsimp only at hSw); go_simp)
              first | done | with_reducible rfl
            simp only [Act.put, List.getElem_toArray, List.getElem_cons_zero, List.getElem_cons_succ, List.setIfInBounds_toArray, List.set_cons_zero, List.set_cons_succ]
            refine wpAnyH_ready (rs := [4]) (by kernel_rfl) (by simp) ?_
            refine AllReadyH.cons rfl (fun K hK => ?_) AllReadyH.nil
            go_simp
            refine (SF.out _).mono ?_
            rintro e w4 ⟨rfl, hu1⟩
            have hv1 : Upd [] wo w4 := (Upd.refl [] wo).drew.trans hu1
            refine hK.out _ _ ?_ (fun hHeld => ?_)
            · exact ⟨hu1.keep hHeld.1, hu1.keep hHeld.2.1, hu1.keep hHeld.2.2.1, hu1.keep hHeld.2.2.2.1, hu1.keep hHeld.2.2.2.2⟩
            clear hK K
            try simp only [Act.put, List.getElem_toArray, List.getElem_cons_zero, List.getElem_cons_succ, List.setIfInBounds_toArray, List.set_cons_zero, List.set_cons_succ]
            refine wpAnyH_take (i := 5) (v := ?_) rfl (by kernel_rfl) (by kernel_rfl) (by kernel_rfl) (fun _ _ _ h => h) (Or.inl ⟨by rfl, ?_⟩) (by assumption) ?_
            rotate_left
            · (intro w hSw; (try dsimp only at hSw); go_simp)
              first | done | with_reducible rfl
            simp only [Act.put, List.getElem_toArray, List.getElem_cons_zero, List.getElem_cons_succ, List.setIfInBounds_toArray, List.set_cons_zero, List.set_cons_succ]
            refine wpAnyH_take (i := 6) (v := ?_) rfl (by kernel_rfl) (by kernel_rfl) (by kernel_rfl) (fun _ _ _ h => h) (Or.inl ⟨by rfl, ?_⟩) (by assumption) ?_
            rotate_left
            · (intro w hSw; (try dsimp only at hSw); go_simp)
              first | done | with_reducible rfl
            simp only [Act.put, List.getElem_toArray, List.getElem_cons_zero, List.getElem_cons_succ, List.setIfInBounds_toArray, List.set_cons_zero, List.set_cons_succ]
            refine wpAnyH_take (i := 7) (v := ?_) rfl (by kernel_rfl) (by kernel_rfl) (by kernel_rfl) (fun _ _ _ h => h) (Or.inl ⟨by rfl, ?_⟩) (by assumption) ?_
            rotate_left
            · (intro w hSw; (try dsimp only at hSw); go_simp)
              first | done | with_reducible rfl
            simp only [Act.put, List.getElem_toArray, List.getElem_cons_zero, List.getElem_cons_succ, List.setIfInBounds_toArray, List.set_cons_zero, List.set_cons_succ]
            refine wpAnyH_take (i := 8) (v := ?_) rfl (by kernel_rfl) (by kernel_rfl) (by kernel_rfl) (fun _ _ _ h => h) (Or.inl ⟨by rfl, ?_⟩) (by assumption) ?_
            rotate_left
            · (intro w hSw; (try dsimp only at hSw); go_simp)
              first | done | with_reducible rfl
            simp only [Act.put, List.getElem_toArray, List.getElem_cons_zero, List.getElem_cons_succ, List.setIfInBounds_toArray, List.set_cons_zero, List.set_cons_succ]
            refine wpAnyH_take (i := 9) (v := ?_) rfl (by kernel_rfl) (by kernel_rfl) (by kernel_rfl) (fun _ _ _ h => h) (Or.inl ⟨by rfl, ?_⟩) (by assumption) ?_
            rotate_left
            · (intro w hSw; (try dsimp only at hSw); go_simp)
              first | done | with_reducible rfl
            simp only [Act.put, List.getElem_toArray, List.getElem_cons_zero, List.getElem_cons_succ, List.setIfInBounds_toArray, List.set_cons_zero, List.set_cons_succ]
            refine wpAnyH_take (i := 10) (v := ?_) rfl (by kernel_rfl) (by kernel_rfl) (by kernel_rfl) (fun _ _ _ h => h) (Or.inl ⟨by rfl, ?_⟩) (by assumption) ?_
            rotate_left
            · (intro w hSw; (try dsimp only at hSw); go_simp)
              first | done | with_reducible rfl
            simp only [Act.put, List.getElem_toArray, List.getElem_cons_zero, List.getElem_cons_succ, List.setIfInBounds_toArray, List.set_cons_zero, List.set_cons_succ]
            refine wpAnyH_take (i := 11) (v := ?_) rfl (by kernel_rfl) (by kernel_rfl) (by kernel_rfl) (fun _ _ _ h => h) (Or.inl ⟨by rfl, ?_⟩) (by assumption) ?_
            rotate_left
            · (intro w hSw; (try dsimp only at hSw); go_simp)
              first | done | with_reducible rfl
            simp only [Act.put, List.getElem_toArray, List.getElem_cons_zero, List.getElem_cons_succ, List.setIfInBounds_toArray, List.set_cons_zero, List.set_cons_succ]
            refine wpAnyH_take (i := 12) (v := ?_) rfl (by kernel_rfl) (by kernel_rfl) (by kernel_rfl) (fun _ _ _ h => h) (Or.inl ⟨by rfl, ?_⟩) (by assumption) ?_
            rotate_left
            · (intro w hSw; (try dsimp only at hSw); go_simp)
              first | done | with_reducible rfl
            simp only [Act.put, List.getElem_toArray, List.getElem_cons_zero, List.getElem_cons_succ, List.setIfInBounds_toArray, List.set_cons_zero, List.set_cons_succ]
            refine wpAnyH_take (i := 13) (v := ?_) rfl (by kernel_rfl) (by kernel_rfl) (by kernel_rfl) (fun _ _ _ h => h) (Or.inl ⟨by rfl, ?_⟩) (by assumption) ?_
            rotate_left
            · (intro w hSw; (try dsimp only at hSw); go_simp)
              first | done | with_reducible rfl
            simp only [Act.put, List.getElem_toArray, List.getElem_cons_zero, List.getElem_cons_succ, List.setIfInBounds_toArray, List.set_cons_zero, List.set_cons_succ]
            refine wpAnyH_take (i := 14) (v := ?_) rfl (by kernel_rfl) (by kernel_rfl) (by kernel_rfl) (fun _ _ _ h => h) (Or.inl ⟨by rfl, ?_⟩) (by assumption) ?_
            rotate_left
            · (intro w hSw; (try dsimp only at hSw); go_simp)
              first | done | with_reducible rfl
            simp only [Act.put, List.getElem_toArray, List.getElem_cons_zero, List.getElem_cons_succ, List.setIfInBounds_toArray, List.set_cons_zero, List.set_cons_succ]
            refine wpAnyH_take (i := 15) (v := ?_) rfl (by kernel_rfl) (by kernel_rfl) (by kernel_rfl) (fun _ _ _ h => h) (Or.inl ⟨by rfl, ?_⟩) (by assumption) ?_
            rotate_left
            · (intro w hSw; (try dsimp only at hSw); go_simp)
              first | done | with_reducible rfl
            simp only [Act.put, List.getElem_toArray, List.getElem_cons_zero, List.getElem_cons_succ, List.setIfInBounds_toArray, List.set_cons_zero, List.set_cons_succ]
            refine wpAnyH_take (i := 16) (v := ?_) rfl (by kernel_rfl) (by kernel_rfl) (by kernel_rfl) (fun _ _ _ h => h) (Or.inl ⟨by rfl, ?_⟩) (by assumption) ?_
            rotate_left
            · (intro w hSw; (try dsimp only at hSw); go_simp)
              first | done | with_reducible rfl
            simp only [Act.put, List.getElem_toArray, List.getElem_cons_zero, List.getElem_cons_succ, List.setIfInBounds_toArray, List.set_cons_zero, List.set_cons_succ]
            try simp only [heq]
            refine wpAnyH_take (i := 17) (v := ?_) rfl (by kernel_rfl) (by kernel_rfl) (by kernel_rfl) (fun _ _ _ h => h) (Or.inl ⟨by rfl, ?_⟩) (by assumption) ?_
            rotate_left
            · (intro w hSw; (try dsimp only at hSw); go_simp)
              first | done | with_reducible rfl
            simp only [Act.put, List.getElem_toArray, List.getElem_cons_zero, List.getElem_cons_succ, List.setIfInBounds_toArray, List.set_cons_zero, List.set_cons_succ]
            refine wpAnyH_take (i := 18) (v := ?_) rfl (by kernel_rfl) (by kernel_rfl) (by kernel_rfl) (fun _ _ _ h => h) (Or.inl ⟨by rfl, ?_⟩) (by assumption) ?_
            rotate_left
            · (intro w hSw; (try dsimp only at hSw); go_simp)
              first | done | with_reducible rfl
            simp only [Act.put, List.getElem_toArray, List.getElem_cons_zero, List.getElem_cons_succ, List.setIfInBounds_toArray, List.set_cons_zero, List.set_cons_succ]
            refine wpAnyH_take (i := 19) (v := ?_) rfl (by kernel_rfl) (by kernel_rfl) (by kernel_rfl) (fun _ _ _ h => h) (Or.inl ⟨by rfl, ?_⟩) (by assumption) ?_
            rotate_left
            · (intro w hSw; (try dsimp only at hSw); go_simp)
              first | done | with_reducible rfl
            simp only [Act.put, List.getElem_toArray, List.getElem_cons_zero, List.getElem_cons_succ, List.setIfInBounds_toArray, List.set_cons_zero, List.set_cons_succ]
            refine wpAnyH_take (i := 20) (v := ?_) rfl (by kernel_rfl) (by kernel_rfl) (by kernel_rfl) (fun _ _ _ h => h) (Or.inl ⟨by rfl, ?_⟩) (by assumption) ?_
            rotate_left
            · (intro w hSw; (try dsimp only at hSw); go_simp)
              first | done | with_reducible rfl
            simp only [Act.put, List.getElem_toArray, List.getElem_cons_zero, List.getElem_cons_succ, List.setIfInBounds_toArray, List.set_cons_zero, List.set_cons_succ]
            refine wpAnyH_take (i := 21) (v := ?_) rfl (by kernel_rfl) (by kernel_rfl) (by kernel_rfl) (fun _ _ _ h => h) (Or.inl ⟨by rfl, ?_⟩) (by assumption) ?_
            rotate_left
            · (intro w hSw; (try dsimp only at hSw); go_simp)
              first | done | with_reducible rfl
            simp only [Act.put, List.getElem_toArray, List.getElem_cons_zero, List.getElem_cons_succ, List.setIfInBounds_toArray, List.set_cons_zero, List.set_cons_succ]
            refine wpAnyH_ready (rs := [22]) (by kernel_rfl) (by simp) ?_
            refine AllReadyH.cons rfl (fun K hK => ?_) AllReadyH.nil
            go_simp
            refine (SE.out w4 hv1).mono ?_
            rintro e w22 ⟨rfl, hu2⟩
            refine hK.out _ _ ?_ (fun hHeld => ?_)
            · exact ⟨hu2.keep hHeld.1, hu2.keep hHeld.2.1, hu2.keep hHeld.2.2.1, hu2.keep hHeld.2.2.2.1, hu2.keep hHeld.2.2.2.2⟩
            clear hK K
            try simp only [Act.put, List.getElem_toArray, List.getElem_cons_zero, List.getElem_cons_succ, List.setIfInBounds_toArray, List.set_cons_zero, List.set_cons_succ]
            refine wpAnyH_take (i := 23) (v := ?_) rfl (by kernel_rfl) (by kernel_rfl) (by kernel_rfl) (fun _ _ _ h => h) (Or.inl ⟨by rfl, ?_⟩) (by assumption) ?_
            rotate_left
            · (intro w hSw; (try dsimp only at hSw); go_simp)
              first | done | with_reducible rfl
            simp only [Act.put, List.getElem_toArray, List.getElem_cons_zero, List.getElem_cons_succ, List.setIfInBounds_toArray, List.set_cons_zero, List.set_cons_succ]
            try simp only [heni, decide_false]
            refine wpAnyH_take (i := 24) (v := ?_) rfl (by kernel_rfl) (by kernel_rfl) (by kernel_rfl) (fun _ _ _ h => h) (Or.inl ⟨by rfl, ?_⟩) (by assumption) ?_
            rotate_left
            · (intro w hSw; (try dsimp only at hSw); go_simp)
              first | done | with_reducible rfl
            simp only [Act.put, List.getElem_toArray, List.getElem_cons_zero, List.getElem_cons_succ, List.setIfInBounds_toArray, List.set_cons_zero, List.set_cons_succ]
            refine wpAnyH_done (by kernel_rfl) ?_ _
            have HU9 := Lib.hid (HU.out.trans (hv1.trans hu2))
            clear HB2 HU hHeld q1 q2 q3 q4 q5 SE SF
            go_wp2_with fail
            go_roundw
            case rel => exact ⟨(j : Int) - 1, rfl, by omega, by omega, Lib.hid (by rw [HJ.out]; exact HE0.out.symm), HU9⟩
            case measure => simp [intOf]

end Go.Proofs.YtddciieaolaleaaGreatDoor

/-
  Formulas with fixed points simplified: the program's side (uses).
-/
namespace Go.Proofs.YtddciieaolaleaaGreatDoor
open Go.RowKit

theorem end_whole {ar : Int → Int} (h0 : ∀ k, 0 ≤ ar k) : ∀ (l : List Nd) (m : Int), 0 ≤ m → shapeF ar m l = true → endF ar m l = l.length
  | [], m, _, _ => rfl
  | n :: l, m, hm, h => by
    obtain ⟨h1, h2⟩ := shape_step h
    have := h0 n.kd
    rw [endF, if_neg (by omega), end_whole h0 l _ (by omega) h2, List.length_cons]
theorem shape_same : ∀ (l : List Nd) (m : Int), (∀ n ∈ l, inB n.kd 0 8 = true) → shapeF arS m l = shapeF arI m l
  | [], m, _ => rfl
  | n :: l, m, h => by
    rw [shapeF, shapeF, ar_same (h n (by simp)), shape_same l _ (fun q hq => h q (by simp [hq]))]
theorem shape_trees (n : Nat) : ∀ (xs : List (Tr Nd)) (r : List Nd) (q : Int), (flatTs xs).length ≤ n → okTs arN xs = true → 0 ≤ q → shapeF arI (q + xs.length) (flatTs xs ++ r) = shapeF arI q r ∧ endF arI xs.length (flatTs xs ++ r) = (flatTs xs).length := by
  induction n with
  | zero =>
    intro xs r q hn _ _
    cases xs with
    | nil => exact ⟨by simp [flatTs], by cases r <;> simp [flatTs, endF]⟩
    | cons x xs => have := flatT_pos x; simp [flatTs] at hn; rw [hn.1] at this; simp at this
  | succ n ih =>
    intro xs r q hn hok hq
    match xs with
    | [] => exact ⟨by simp [flatTs], by cases r <;> simp [flatTs, endF]⟩
    | .mk t cs :: ys =>
      simp only [okTs, okT, Bool.and_eq_true, decide_eq_true_eq] at hok
      have hc : (cs.length : Int) = arI t.kd := hok.1.1
      have hl : ((cs ++ ys).length : Int) = arI t.kd + ys.length := by rw [List.length_append]; omega
      obtain ⟨h1, h2⟩ := ih (cs ++ ys) r q (by rw [flatTs_append, List.length_append]; simp only [flatTs, flatT, List.length_append, List.length_cons] at hn; omega) (by rw [okTs_append, hok.1.2, hok.2]; rfl) hq
      rw [flatTs_append] at h1 h2
      have e0 : flatTs (Tr.mk t cs :: ys) ++ r = t :: ((flatTs cs ++ flatTs ys) ++ r) := by simp [flatTs, flatT]
      have e1 : (((Tr.mk t cs :: ys).length : Nat) : Int) = ys.length + 1 := by simp
      rw [e0, shapeF, endF, e1, if_neg (by omega), if_neg (by omega)]
      rw [show q + ((ys.length : Int) + 1) + arI t.kd - 1 = q + ((cs ++ ys).length : Int) by omega, show (ys.length : Int) + 1 + arI t.kd - 1 = ((cs ++ ys).length : Int) by omega, h1, h2]
      refine ⟨rfl, ?_⟩
      simp only [flatTs, flatT, List.length_append, List.length_cons]; omega
theorem shape_tree {x : Tr Nd} (h : okT arN x = true) : shapeF arI 1 (flatT x) = true := by
  have := (shape_trees _ [x] [] 0 (Nat.le_refl _) (by simpa [okTs] using h) (by omega)).1
  rw [show shapeF arI 1 (flatT x) = shapeF arI 0 [] by simpa [flatTs] using this]; rfl
theorem end_tree {x : Tr Nd} (h : okT arN x = true) (r : List Nd) : endF arI 1 (flatT x ++ r) = (flatT x).length := by
  have := (shape_trees _ [x] r 0 (Nat.le_refl _) (by simpa [okTs] using h) (by omega)).2
  simpa [flatTs] using this

def useP (f : List Nd) (i : Nat) : Bool := !((f.getD i nd0).kd == 6 && bindF arI f i i == 0)
theorem useF_eq (f : List Nd) : usesF f = !(allF (useP f) 1 (f.length - 1)) := by
  unfold usesF
  cases h : allF (fun i => !((f.getD i nd0).kd == 6 && bindF arI f i i == 0)) 1 (f.length - 1) <;> (rw [show useP f = fun i => !((f.getD i nd0).kd == 6 && bindF arI f i i == 0) from rfl, h]; rfl)

set_option maxRecDepth 20000 in
set_option maxHeartbeats 4000000 in
theorem usesI (v : Value) (f : List Nd) (w : World) (fp : List Nat) (hR : R_F1 fp w [v] f) (hlen : f.length ≤ 1000000) (h1 : 1 ≤ f.length) (hs : shapeF arI 1 f = true) :
    Calls Tryz.prog 82 #[v, .int .i64 0, .int .i64 0] w fun e w' => e = .returned (.bool (usesF f)) ∧ Upd [] w w' := by
  have HE := Lib.hid (fun W (hu : Upd [] w W) => by
    have := endI v f 0 W fp (R_F1k.upd hR hu (by simp)) (by omega) (by omega) ⟨1, by omega, by simpa using hs⟩
    rw [List.drop_zero, end_whole (fun k => (arI_in k).1) f 1 (by omega) hs, Nat.zero_add] at this
    exact this)
  have HB := Lib.hid (fun W (hu : Upd [] w W) k (hk : k < f.length) => bindI v f k W fp (R_F1k.upd hR hu (by simp)) (by omega) hk hs)
  obtain ⟨a, cap, rfl, g1, g2, hc⟩ := slF4_open hR
  unfold maxLen at g2
  have HC := Lib.hid hc
  have HF := Lib.hid (useF_eq f)
  have HB2 := Lib.hid (fun i => (bindF_ge arI f i i))
  generalize usesF f = Z at *
  clear hR hc hs
  go_enter Tryz.func82, Tryz.ntmps82
  go_wp2_with fail
  go_loopw [7] (fun iv wr => ∃ k : Nat, 1 ≤ k ∧ k ≤ f.length ∧ iv = .int .i64 k ∧ Hid (allF (useP f) k (f.length - k) = allF (useP f) 1 (f.length - 1)) ∧ Hid (Upd [] w wr)) (fun iv _ => f.length - (intOf iv).toNat)
  case atStart => exact ⟨1, Nat.le_refl _, h1, rfl, Lib.hid rfl, Lib.hid (Upd.refl _ _)⟩
  case round =>
    obtain ⟨k, hk1, hk, rfl, HA, HU⟩ := hrel
    have E1 := Lib.hid (HE.out wr HU.out)
    go_wp2_with fail
    refine E1.out.mono ?_
    rintro e w1 ⟨rfl, hu1⟩
    have HU1 := Lib.hid (HU.out.trans hu1)
    clear E1 hu1 HU
    by_cases hlt : k < f.length
    · obtain ⟨b1, o1, rfl, -, -, p1, p2, p3, p4⟩ := HC.out k hlt
      have p1 := HU1.out.keep p1
      have hA := HA.out
      rw [allF_step (useP f) k f.length hlt] at hA
      have hg : f.getD k nd0 = f[k] := by rw [List.getD_eq_getElem?_getD, List.getElem?_eq_getElem hlt]; rfl
      have B1 := Lib.hid (HB.out w1 HU1.out k hlt)
      have hbb := HB2.out k
      have hp : useP f k = !(f[k].kd == 6 && bindF arI f k k == 0) := by unfold useP; rw [hg]
      rw [hp] at hA
      generalize bindF arI f k k = B at *
      generalize f[k].kd = K at *
      have HA2 := Lib.hid hA
      clear hA hg hp p2 p3 p4 HA
      by_cases hK : K = 6
      · subst hK
        by_cases hB : B = 0
        · subst hB
          have HE2 := Lib.hid (show Z = true by rw [HF.out, ← HA2.out]; rfl)
          go_wp2_with fail
          refine B1.out.mono ?_
          rintro e w2 ⟨rfl, hu2⟩
          have HU2 := Lib.hid (HU1.out.trans hu2)
          clear B1 hu2
          go_wp2_with fail
          go_ret
          exact ⟨by rw [HE2.out]; rfl, HU2.out⟩
        · have hb0 : (B == 0) = false := by simpa using hB
          have HA3 := Lib.hid (show allF (useP f) (k + 1) (f.length - (k + 1)) = allF (useP f) 1 (f.length - 1) by rw [← HA2.out, hb0]; rfl)
          clear HA2 hB
          go_wp2_with fail
          refine B1.out.mono ?_
          rintro e w2 ⟨rfl, hu2⟩
          have HU2 := Lib.hid (HU1.out.trans hu2)
          clear B1 hu2
          go_wp2_with fail
          go_roundw
          case rel => exact ⟨k + 1, by omega, by omega, by go_num, HA3, HU2⟩
          case measure => simp [intOf]; omega
      · have hk0 : (K == 6) = false := by simpa using hK
        have HA3 := Lib.hid (show allF (useP f) (k + 1) (f.length - (k + 1)) = allF (useP f) 1 (f.length - 1) by rw [← HA2.out, hk0]; rfl)
        clear HA2 hK B1
        go_wp2_with fail
        go_roundw
        case rel => exact ⟨k + 1, by omega, by omega, by go_num, HA3, HU1⟩
        case measure => simp [intOf]; omega
    · obtain rfl : k = f.length := by omega
      have HE2 := Lib.hid (show Z = false by rw [HF.out, ← HA.out, Nat.sub_self]; rfl)
      clear HA
      go_wp2_with fail
      go_ret
      exact ⟨by rw [HE2.out]; rfl, HU1.out⟩

end Go.Proofs.YtddciieaolaleaaGreatDoor
