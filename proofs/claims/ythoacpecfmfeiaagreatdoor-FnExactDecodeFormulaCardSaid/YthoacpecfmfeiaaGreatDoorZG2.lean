/-
  Texts joined in one file: LabE, LabJ, LabN, LabL, LabM, TrT, EncP, ForP, HarnF, HarnG, Tree, TreeW, Ops, Post, Fold, Value, FoldW, FoldS, OpenB, Draw, Canon, CanonW, CanonV, Forms, Vals, Eval, EvalS, ForI, ForB, ForV, DecQ, DecU.
-/
import Derived.Test.YthoacpecfmfeiaaGreatDoorZG1
import Derived.Test.YthoacpecfmfeiaaGreatDoorShelf
import Derived.Deep.RegionHeld3
import Derived.Deep.DeepCutAuto
import Derived.Deep.RegionLaw
/-
  Numbers in decimal: what the program's calls return.
-/
namespace Go.Proofs.YthoacpecfmfeiaaGreatDoor
open Go.RowKit

/-- what the calls of the library read of the package's variables. -/
structure Env (w : World) : Prop where
  m : ∃ m : Int, w.cell? ⟨0, 0, none⟩ = some (.int .i64 m)
  tab : Lib.TabIs Tryz.prog w "internal/strconv.uint64pow10" .u64 Lib.pow10Tab
  syn : ∃ tp p, w.var? Tryz.prog "strconv.ErrSyntax" = some #[.iface tp p]
  rng : ∃ tp p, w.var? Tryz.prog "strconv.ErrRange" = some #[.iface tp p]

theorem Upd.var {P : Program} {w w1 : World} {n : String} {cs : Array Value} (hu : Upd [] w w1) (h : w.var? P n = some cs) : w1.var? P n = some cs := by
  unfold World.var? at h ⊢
  cases hg : P.globalNamed n with
  | none => rw [hg] at h; cases h
  | some g =>
    rw [hg] at h
    simp only [Option.bind_some] at h ⊢
    have hlt : g < w.heap.size := by
      rcases Nat.lt_or_ge g w.heap.size with h1 | h1
      · exact h1
      · rw [Array.getElem?_eq_none h1] at h; cases h
    rw [hu.block g hlt (by simp)]
    exact h

theorem Env.upd {w w1 : World} (h : Env w) (hu : Upd [] w w1) : Env w1 :=
  ⟨h.m.imp fun _ hm => hu.keep hm, hu.var h.tab, h.syn.imp fun _ hs => hs.imp fun _ hs => hu.var hs, h.rng.imp fun _ hs => hs.imp fun _ hs => hu.var hs⟩

theorem Upd.grow (w : World) (k : Nat) (os : Array Obj) : Upd [] w (Sort.grow (w.drewN k) os) := by
  refine ⟨rfl, rfl, rfl, ?_, fun i hi _ => ?_⟩
  · show w.heap.size ≤ (w.heap ++ os).size
    rw [Array.size_append]; omega
  · show (w.heap ++ os)[i]? = w.heap[i]?
    rw [Array.getElem?_append_left hi]

theorem decimal (n : Int) (w : World) (h0 : -9223372036854775808 ≤ n) (h1 : n ≤ 9223372036854775807) (he : Env w) :
    Calls Tryz.prog 88 #[.int .i64 n] w fun e w' => e = .returned (es (Lib.itoa n)) ∧ Upd [] w w' := by
  have S1 := Lib.hid (Tryz.strconv_FormatInt_10 n h0 h1 w he.tab)
  clear he h0 h1
  go_enter Tryz.func88, Tryz.ntmps88
  go_wp2_with fail
  refine S1.out.mono ?_
  rintro e w1 ⟨rfl, k, os, rfl⟩
  have HU := Lib.hid (Upd.grow w k os)
  generalize Sort.grow (w.drewN k) os = w1 at *
  clear S1
  go_wp2_with fail
  go_ret
  exact ⟨rfl, HU.out⟩

theorem isActionI (l : List UInt8) (w : World) (hl : l.length ≤ 2000000) :
    Calls Tryz.prog 61 #[es l] w fun e w' => e = .returned (.bool (actF l)) ∧ w = w' := by
  have S1 := Lib.hid (isNameI l w hl)
  cases hn : nameF l with
  | false =>
    have HR := Lib.hid (show actF l = false by simp [actF, hn])
    rw [hn] at S1
    clear hn
    go_enter Tryz.func61, Tryz.ntmps61
    go_wp2_with fail
    refine S1.out.mono ?_
    rintro e w1 ⟨rfl, rfl⟩
    clear S1
    go_wp2_with fail
    go_ret
    exact ⟨by rw [HR.out]; rfl, rfl⟩
  | true =>
    have HR := Lib.hid (show actF l = (l != tauL) by simp [actF, hn])
    rw [hn] at S1
    clear hn
    go_enter Tryz.func61, Tryz.ntmps61
    go_wp2_with fail
    refine S1.out.mono ?_
    rintro e w1 ⟨rfl, rfl⟩
    clear S1
    go_wp2_with fail
    go_ret
    refine ⟨?_, rfl⟩
    rw [HR.out]
    simp [tauL, bne]

theorem parse_range {l : List UInt8} {v : Int} (h : Lib.parseIntB 64 l = .ok v) : -9223372036854775808 ≤ v ∧ v ≤ 9223372036854775807 := by
  unfold Lib.parseIntB at h
  cases l with
  | nil => cases h
  | cons c r =>
    simp only at h
    split at h
    · cases h
    · cases h
    · split at h
      · cases h
      · split at h
        · cases h
        · rename_i h1 h2
          simp only [Lib.NumEnd.ok.injEq] at h
          subst h
          by_cases hc : c.toNat = 45
          · simp only [hc, not_true_eq_false, true_and, false_and, not_false_eq_true] at h1 h2
            simp only [hc, if_true]; omega
          · simp only [hc, not_false_eq_true, true_and, false_and] at h1 h2
            simp only [hc, if_false]; omega

theorem digL_trim (s : List UInt8) : Lib.trimPrefix s [45] = digL s := by
  cases s with
  | nil => rfl
  | cons b r =>
    by_cases hb : b = 45
    · subst hb; simp [Lib.trimPrefix, Lib.hasPrefix, digL, negL, List.isPrefixOf]
    · have h1 : (b == 45) = false := by simpa using hb
      have h2 : ((45 : UInt8) == b) = false := by simpa using fun e => hb e.symm
      simp [Lib.trimPrefix, Lib.hasPrefix, digL, negL, List.isPrefixOf, h1, h2]

def NumV (s : List UInt8) (w : World) (e : Ending) (w' : World) : Prop := e = .returned (.tuple #[.int .i64 ((numF s).getD 0), .bool (numF s).isSome]) ∧ Upd [] w w'

set_option maxRecDepth 20000 in
set_option maxHeartbeats 2000000 in
theorem readDecimalI (s : List UInt8) (w : World) (hl : s.length ≤ 2000000) (he : Env w) : Calls Tryz.prog 80 #[es s] w (NumV s w) := by
  have S1 := Lib.hid (Tryz.strings_TrimPrefix ⟨s.toArray⟩ ⟨#[45]⟩ w)
  have e1 : Lib.trimPrefix (⟨s.toArray⟩ : ByteArray).data.toList (⟨#[45]⟩ : ByteArray).data.toList = digL s := digL_trim s
  rw [e1] at S1
  clear e1
  have hdl : (digL s).length ≤ s.length := by
    unfold digL; split <;> simp
  by_cases hlen : 18 < (digL s).length
  · have HR := Lib.hid (show numF s = none by unfold numF; rw [if_pos (Or.inr (Or.inl hlen))])
    generalize digL s = d at *
    have g1 : (18 : Int) < (d.length : Int) := by omega
    clear hlen he
    go_enter Tryz.func80, Tryz.ntmps80
    go_wp2_with fail
    refine S1.out.mono ?_
    rintro e w1 ⟨rfl, rfl⟩
    clear S1
    go_wp2_with fail
    go_ret2
    exact ⟨by rw [HR.out]; rfl, Upd.refl _ _⟩
  · have hsz : (⟨s.toArray⟩ : ByteArray).size = s.length := rfl
    rcases hp : Lib.parseIntB 64 s with v | _ | _
    rotate_left
    · skip
      have HR := Lib.hid (show numF s = none by
        cases hn : numF s with
        | none => rfl
        | some n =>
          obtain ⟨a, -, b⟩ := numF_some hn
          rw [a, parse_itoa n b] at hp; cases hp)
      obtain ⟨tp, p, hsyn⟩ := he.syn
      have S2 := Lib.hid (Tryz.strconv_ParseInt_10_at64_syntax_var ⟨s.toArray⟩ (by rw [hsz]; omega) hp tp p w hsyn)
      clear hsyn hp hsz he
      generalize digL s = d at *
      have g1 : ¬ (18 : Int) < (d.length : Int) := by omega
      clear hlen
      go_enter Tryz.func80, Tryz.ntmps80
      go_wp2_with fail
      refine S1.out.mono ?_
      rintro e w1 ⟨rfl, rfl⟩
      clear S1
      go_wp2_with fail
      refine S2.out.mono ?_
      rintro e w1 ⟨N, rfl, -, -, hb⟩
      have HU := Lib.hid (Upd.ofBelow hb)
      clear S2 hb
      go_wp2_with fail
      go_ret2
      exact ⟨by rw [HR.out]; rfl, HU.out⟩
    · skip
      have HR := Lib.hid (show numF s = none by
        cases hn : numF s with
        | none => rfl
        | some n =>
          obtain ⟨a, -, b⟩ := numF_some hn
          rw [a, parse_itoa n b] at hp; cases hp)
      obtain ⟨tp, p, hsyn⟩ := he.rng
      have S2 := Lib.hid (Tryz.strconv_ParseInt_10_at64_range_var ⟨s.toArray⟩ (by rw [hsz]; omega) hp tp p w hsyn)
      clear hsyn hp hsz he
      generalize digL s = d at *
      have g1 : ¬ (18 : Int) < (d.length : Int) := by omega
      clear hlen
      go_enter Tryz.func80, Tryz.ntmps80
      go_wp2_with fail
      refine S1.out.mono ?_
      rintro e w1 ⟨rfl, rfl⟩
      clear S1
      go_wp2_with fail
      refine S2.out.mono ?_
      rintro e w1 ⟨N, rfl, -, -, hb⟩
      have HU := Lib.hid (Upd.ofBelow hb)
      clear S2 hb
      go_wp2_with fail
      go_ret2
      exact ⟨by rw [HR.out]; rfl, HU.out⟩
    · skip
      obtain ⟨v0, v1⟩ := parse_range hp
      have S2 := Lib.hid (Tryz.strconv_ParseInt_10_at64_ok ⟨s.toArray⟩ (by rw [hsz]; omega) v hp w)
      have HR := Lib.hid (show numF s = if Lib.itoa v = s then some v else none by
        split
        · rename_i h
          rw [← h]; exact numF_itoa v (by rw [h]; omega)
        · rename_i h
          cases hn : numF s with
          | none => rfl
          | some n =>
            exfalso
            obtain ⟨a, -, b⟩ := numF_some hn
            rw [a, parse_itoa n b] at hp
            cases hp
            exact h a.symm)
      have S3 := Lib.hid (fun w1 (hu : Upd [] w w1) => decimal v w1 v0 v1 (he.upd hu))
      clear hp hsz he
      generalize digL s = d at *
      have g1 : ¬ (18 : Int) < (d.length : Int) := by omega
      clear hlen
      go_enter Tryz.func80, Tryz.ntmps80
      go_wp2_with fail
      refine S1.out.mono ?_
      rintro e wa ⟨rfl, rfl⟩
      clear S1
      go_wp2_with fail
      refine S2.out.mono ?_
      rintro e w1 ⟨rfl, hw⟩
      have hu : Upd [] wa w1 := by
        rcases hw with rfl | ⟨t, rfl⟩
        · exact Upd.refl _ _
        · exact Upd.ofBelow (Lib.bytesWorld_below _ _ _)
      have S4 := Lib.hid (S3.out w1 hu)
      have HU := Lib.hid hu
      clear S2 S3 hw hu
      go_wp2_with fail
      refine S4.out.mono ?_
      rintro e w2 ⟨rfl, hu2⟩
      have HU2 := Lib.hid (HU.out.trans hu2)
      clear S4 HU hu2
      by_cases heq : Lib.itoa v = s
      · have HR2 := Lib.hid (HR.out.trans (if_pos heq))
        rw [heq]
        clear HR heq
        go_wp2_with fail
        go_ret2
        exact ⟨by rw [HR2.out]; rfl, HU2.out⟩
      · have HR2 := Lib.hid (HR.out.trans (if_neg heq))
        clear HR
        generalize Lib.itoa v = A at *
        have hne : (A == s) = false := by simpa using heq
        go_wp2_with fail
        go_ret2
        exact ⟨by rw [HR2.out]; rfl, HU2.out⟩

end Go.Proofs.YthoacpecfmfeiaaGreatDoor

/-
  Labels made: what the program's calls return.
-/
namespace Go.Proofs.YthoacpecfmfeiaaGreatDoor
open Go.RowKit

set_option maxRecDepth 20000 in
set_option maxHeartbeats 4000000 in
theorem joinedI (v : Value) (xs : List Int) (w : World) (fp : List Nat) (hR : R1 fp w [v] xs) (h0 : 0 < xs.length) (hl : xs.length ≤ 1000000)
    (hv : ∀ x ∈ xs, (-9223372036854775808 ≤ x ∧ x ≤ 9223372036854775807) ∧ (Lib.itoa x).length ≤ 30) (he : Env w) :
    Calls Tryz.prog 84 #[v, es [44]] w fun e w' => e = .returned (es (txtV xs)) ∧ Upd [] w w' := by
  obtain ⟨i0, hi, hz0, hz1, hz2⟩ := info_parts Tryz.info9
  obtain ⟨a, cap, rfl, h1, h2, -⟩ := slF1_open hR
  unfold maxLen at h2
  have HR := Lib.hid hR
  have HV := Lib.hid hv
  have HE := Lib.hid he
  have hm2 : i0.bytes * xs.length ≤ 281474976710656 := by rw [hz2]; omega
  clear hR hv he
  go_enter Tryz.func84, Tryz.ntmps84
  go_wp2_with (first
    | (at_make; refine wpList_make_full _ rfl _ _ 83 rfl w.heap.size 9 i0 (es []) 1 Tryz.underlying83 hi hz0 hz1 .i64 .i64 _ _ xs.length rfl rfl rfl rfl hm2 (by unfold maxLen; omega) (Nat.le_refl _) ?_; intro w2 hrow hgrow)
    | fail)
  rw [made_one _ rfl] at hrow
  have hU : Upd [] w w2 := (Upd.refl _ _).grown hgrow (by simp)
  obtain ⟨fo, ho1, ho2, ho3⟩ := New.ofOwns (w := w) (e := 9) (enc := es) (xs := List.replicate xs.length ([] : List UInt8)) (by simpa using hrow)
  have HST := Lib.hid (And.intro (show RS fo w2 [.slice (some ⟨w.heap.size, 0, none⟩) xs.length xs.length] ((xs.take 0).map Lib.itoa ++ List.replicate (xs.length - 0) []) from by simpa using ho1) ho2)
  clear hrow hgrow ho1 ho2 ho3 hm2
  go_wp2_with fail
  go_loopw [13] (fun i wr => ∃ k : Nat, k ≤ xs.length ∧ i = .int .i64 k ∧ Upd [] w wr ∧ RS fo wr [.slice (some ⟨w.heap.size, 0, none⟩) xs.length xs.length] ((xs.take k).map Lib.itoa ++ List.replicate (xs.length - k) []) ∧ Own fo wr) (fun i _ => xs.length - (intOf i).toNat)
  case atStart => exact ⟨0, Nat.zero_le _, rfl, hU, HST.out.1, HST.out.2⟩
  case round =>
    clear HST hU
    obtain ⟨k, hk, rfl, hU, ho1, ho2⟩ := hrel
    by_cases hlt : k < xs.length
    · obtain ⟨a', cap', hv, -, -, hc⟩ := slF1_open (R1k.upd HR.out hU (by simp))
      cases hv
      obtain ⟨b1, o1, rfl, -, -, p1⟩ := hc k hlt
      have hset := set_fill Lib.itoa [] xs k hlt
      obtain ⟨⟨x0, x1⟩, -⟩ := HV.out xs[k] (List.getElem_mem hlt)
      have hlen : ((xs.take k).map Lib.itoa ++ List.replicate (xs.length - k) ([] : List UInt8)).length = xs.length := by simp; omega
      have HL := Lib.hid hlen
      have HS := Lib.hid hset
      have HU := Lib.hid hU
      have HO := Lib.hid (And.intro ho1 ho2)
      generalize xs[k] = x at *
      have S1 := Lib.hid (decimal x wr x0 x1 (HE.out.upd hU))
      clear hc hset hlen hU ho1 ho2
      go_wp2_with fail
      refine S1.out.mono ?_
      rintro e w3 ⟨rfl, hu3⟩
      obtain ⟨hbl, hcl0, hfz, hos⟩ := rowCellS (RSk.upd HO.out.1 hu3 (by simp)) (HO.out.2.upd hu3 (by simp)) HL.out k hlt
      have hos := hos (Lib.itoa x)
      rw [HS.out] at hos
      obtain ⟨z0, hz0'⟩ : ∃ z0 : List UInt8, w3.cell? ⟨w.heap.size, k, none⟩ = some (es z0) := ⟨_, hcl0⟩
      clear hcl0
      have HP := Lib.hid (And.intro hos (HU.out.trans hu3))
      clear S1 hos HO HU hu3 HS HL
      generalize Lib.itoa x = A at *
      go_wp2_with fail
      go_roundw
      case rel => exact ⟨k + 1, by omega, by go_num, HP.out.2.setCell (Or.inl (Nat.le_refl _)) _, HP.out.1.1, HP.out.1.2⟩
      case measure => simp [intOf]; omega
    · obtain rfl : k = xs.length := by omega
      obtain ⟨ps, hps⟩ : ∃ ps, ps = xs.map Lib.itoa := ⟨_, rfl⟩
      have hpl : ps.length = xs.length := by rw [hps]; simp
      have ho3 : RS fo wr [.slice (some ⟨w.heap.size, 0, none⟩) xs.length xs.length] ps := by rw [hps]; simpa using ho1
      obtain ⟨a', cap', hv, -, hc2, hc⟩ := slF1_open ho3
      simp only [Value.slice.injEq] at hv
      obtain ⟨rfl, -, rfl⟩ := hv
      have hle : (joinC 44 ps).length ≤ ps.length * (30 + 1) := joinC_le 44 30 ps (fun p hp => by
        rw [hps] at hp
        obtain ⟨x, hx, rfl⟩ := List.mem_map.1 hp
        exact (HV.out x hx).2)
      have hbk : w.heap.size < wr.heap.size := by
        obtain ⟨b, off, hb, -, hbl, -⟩ := hc 0 (by omega)
        cases hb; exact hbl
      have hmm : (ps.map (fun p => (⟨p.toArray⟩ : ByteArray))).map (fun b => b.data.toList) = ps := by
        rw [List.map_map]; exact (List.map_congr_left (fun p _ => rfl)).trans (List.map_id _)
      have hj : Lib.join ((ps.map (fun p => (⟨p.toArray⟩ : ByteArray))).map (fun b => b.data.toList)) (⟨#[44]⟩ : ByteArray).data.toList = joinC 44 ps := by
        rw [hmm]; exact join_lib 44 ps
      have S0 := Tryz.strings_Join w.heap.size 0 xs.length (ps.map (fun p => (⟨p.toArray⟩ : ByteArray))) ⟨#[44]⟩ wr (fun j x hx => by
        obtain ⟨hj1, rfl⟩ := List.getElem?_eq_some_iff.1 hx
        have hj2 : j < ps.length := by simpa using hj1
        obtain ⟨b, off, hb, -, -, hcl⟩ := hc j hj2
        cases hb
        rw [hcl]
        simp [es]) hbk (by simp; omega) (by simp; omega) (by rw [hj]; omega)
      rw [hj] at S0
      simp only [List.length_map, hpl] at S0
      have S1 := Lib.hid S0
      have HX := Lib.hid (show joinC 44 ps = txtV xs by rw [hps, txtV])
      have HU := Lib.hid hU
      clear hj hmm hle hc hc2 ho3 ho1 ho2 hps hU S0 HV HE HR
      generalize joinC 44 ps = J at *
      go_wp2_with fail
      refine S1.out.mono ?_
      rintro e w3 ⟨rfl, hb3⟩
      have HP := Lib.hid (HU.out.trans (Upd.ofBelow hb3))
      clear S1 hb3 HU
      go_wp2_with fail
      go_ret
      exact ⟨by rw [← HX.out]; rfl, HP.out⟩

end Go.Proofs.YthoacpecfmfeiaaGreatDoor

/-
  Words read as numbers.
-/
namespace Go.Proofs.YthoacpecfmfeiaaGreatDoor
open Go.RowKit

def NumsV (ps : List (List UInt8)) (w : World) (e : Ending) (w' : World) : Prop :=
  (∃ v', e = .returned (.tuple #[v', .bool (numsF ps).isSome]) ∧ New R1 w w' v' ((numsF ps).getD [])) ∧ Upd [] w w'

set_option maxRecDepth 20000 in
set_option maxHeartbeats 4000000 in
theorem readNumbersI (v : Value) (ps : List (List UInt8)) (w : World) (fp : List Nat) (hR : slF 1 (fun s => [es s]) fp w [v] ps) (hl : ps.length ≤ 2000001) (hp : ∀ p ∈ ps, p.length ≤ 2000000) (he : Env w) :
    Calls Tryz.prog 74 #[v] w (NumsV ps w) := by
  obtain ⟨i1, ki, kz0, kz1, kz2⟩ := info_parts Tryz.info2
  obtain ⟨a, cap, rfl, h1, h2, -⟩ := slF1_open hR
  unfold maxLen at h2
  have hlit := World.ownsRow_nil w w.heap.size 2 1
  have HLIT := Lib.hid hlit
  have HR := Lib.hid hR
  have HP := Lib.hid hp
  have HE := Lib.hid he
  clear hR hp he hlit
  go_enter Tryz.func74, Tryz.ntmps74
  go_wp2_with fail
  go_loopw [4, 11] (fun ov i wr => ∃ (k : Nat) (ns : List Int), k ≤ ps.length ∧ i = .int .i64 k ∧ ns.length = k ∧ Hid (numsF ps = (numsF (ps.drop k)).map (ns ++ ·)) ∧ Hid (wr.ownsRow w.heap.size 2 1 ov k (ns.map ei)) ∧ Upd [] w wr) (fun _ i _ => ps.length - (intOf i).toNat)
  case atStart => exact ⟨0, [], by omega, rfl, rfl, Lib.hid (by simp), HLIT, Upd.refl _ _⟩
  case round =>
    clear HLIT
    obtain ⟨k, ns, hk, rfl, hnl, hF, hown, hU⟩ := hrel
    have HNL := Lib.hid hnl
    clear hnl
    by_cases hlt : k < ps.length
    · obtain ⟨a', cap', hv, -, -, hc⟩ := slF1_open ((slF_kept _ _).upd HR.out hU (by simp))
      cases hv
      obtain ⟨b1, o1, rfl, -, -, p1⟩ := hc k hlt
      have hF1 := hF.out
      rw [List.drop_eq_getElem_cons hlt, numsF_cons] at hF1
      have hpk := HP.out ps[k] (List.getElem_mem hlt)
      have HF := Lib.hid hF1
      have HU := Lib.hid hU
      clear hF1 hF hc
      generalize ps[k] = s at *
      have S1 := Lib.hid (readDecimalI s wr hpk (HE.out.upd hU))
      clear hU
      go_wp2_with fail
      refine S1.out.mono ?_
      rintro e w3 ⟨rfl, hu3⟩
      have HU3 := Lib.hid (HU.out.trans hu3)
      have hown3 := ownsRow_upd hown.out hu3
      have hsz3 := HU3.out.size
      clear S1 HU hu3 hown
      cases hn : numF s with
      | none =>
        rw [hn] at HF
        have HN := Lib.hid (show numsF ps = none from HF.out)
        clear HF hown3
        go_wp2_with fail
        go_ret2
        exact ⟨⟨_, by rw [HN.out]; rfl, by rw [HN.out]; exact new_nil _ _⟩, HU3.out⟩
      | some x =>
        rw [hn] at HF
        have HN := Lib.hid (show numsF ps = (numsF (ps.drop (k + 1))).map ((ns ++ [x]) ++ ·) by
          rw [HF.out]
          simp [Function.comp_def])
        clear HF
        simp only [Option.getD_some, Option.isSome_some]
        go_wp2_with (first
          | (at_builtin; refine wpList_append_tight _ rfl _ _ 69 rfl w.heap.size 2 i1 (.int .i64 0) 1 8 Tryz.underlying69 ki kz0 kz1 kz2 rfl (by decide) _ _ _ rfl (hown3.alloc _) ⟨w3.heap.size, 0, none⟩ 1 1 [ei x] rfl rfl (fun j u hj => by rw [addr_add]; exact cell_new w3 #[ei x] _ _ rfl _ _ (by simpa using hj)) (by simp [Value.oneCell']) (by unfold maxLen; omega) (by omega) (by simp; omega) ?_)
          | fail)
        intro v4 w4 hown4 hg4 ht4
        have hu4 : Upd [] w w4 := (HU3.out.alloc _).grown hg4 (fun b hb => Or.inl (by have := (hown3.lt b hb).1; omega))
        have HQ := Lib.hid (And.intro hown4 hu4)
        clear hown4 hg4 ht4 hu4 hown3
        go_wp2_with fail
        go_roundw
        case rel => exact ⟨k + 1, ns ++ [x], by omega, by go_num, by simp [HNL.out], HN, Lib.hid (by simpa using HQ.out.1), HQ.out.2⟩
        case measure => simp [intOf]; omega
    · obtain rfl : k = ps.length := by omega
      have hF1 := hF.out
      rw [List.drop_of_length_le (Nat.le_refl _)] at hF1
      have HN := Lib.hid (show numsF ps = some ns by rw [hF1]; simp [numsF])
      have HQ := Lib.hid (And.intro (New.ofOwns (w := w) (e := 2) (enc := ei) (xs := ns) (by rw [HNL.out]; exact hown.out)) hU)
      clear hown hU hF hF1
      go_wp2_with fail
      go_ret2
      exact ⟨⟨_, by rw [HN.out]; rfl, by rw [HN.out]; exact HQ.out.1⟩, HQ.out.2⟩

end Go.Proofs.YthoacpecfmfeiaaGreatDoor

/-
  Labels made and read: what the program's calls return.
-/
namespace Go.Proofs.YthoacpecfmfeiaaGreatDoor
open Go.RowKit

def LabV (name : List UInt8) (xs : List Int) (w : World) (e : Ending) (w' : World) : Prop :=
  (∃ t : List UInt8, e = .returned (.tuple #[es t, .bool (labT name xs).isSome]) ∧ Hid (∀ s, labT name xs = some s → t = s)) ∧ Upd [] w w'

theorem isV_itoa {x : Int} (h : isV x = true) : (-9223372036854775808 ≤ x ∧ x ≤ 9223372036854775807) ∧ (Lib.itoa x).length ≤ 30 := by
  have hb := inB_true h
  have h1 := itoa_len64 h
  have h2 : (Lib.itoa x).length ≤ (digL (Lib.itoa x)).length + 1 := by unfold digL; split <;> simp <;> omega
  omega

theorem labT_no {name : List UInt8} {xs : List Int} (ht : name ≠ tauL) (h : (actF name && decide (xs.length ≤ 2) && xs.all isV) = false) : labT name xs = none := by
  unfold labT; rw [if_neg ht, h]; rfl
theorem labT_yes {name : List UInt8} {xs : List Int} (ht : name ≠ tauL) (h : (actF name && decide (xs.length ≤ 2) && xs.all isV) = true) : labT name xs = some (if xs = [] then name else ((name ++ [40]) ++ txtV xs) ++ [41]) := by
  unfold labT; rw [if_neg ht, if_pos h]

set_option maxRecDepth 20000 in
set_option maxHeartbeats 4000000 in
theorem labelOfI (name : List UInt8) (v : Value) (xs : List Int) (w : World) (fp : List Nat) (hn : name.length ≤ 2000000) (hR : R1 fp w [v] xs) (he : Env w) :
    Calls Tryz.prog 77 #[es name, v] w (LabV name xs w) := by
  obtain ⟨a, cap, rfl, h1, h2, -⟩ := slF1_open hR
  unfold maxLen at h2
  by_cases htau : name = tauL
  · have HT := Lib.hid (show labT name xs = if xs = [] then some tauL else none by unfold labT; rw [if_pos htau])
    have e1 : es name = .string ⟨#[116, 97, 117]⟩ := by rw [htau]; rfl
    rw [e1]
    clear hR he e1 htau
    cases xs with
    | nil =>
      go_enter Tryz.func77, Tryz.ntmps77
      go_wp2_with fail
      go_ret2
      exact ⟨⟨tauL, by rw [HT.out]; rfl, Lib.hid (fun s hs => by rw [HT.out] at hs; simpa using hs)⟩, Upd.refl _ _⟩
    | cons x xs =>
      have g0 : ¬ (((x :: xs).length : Int) = 0) := by simp; omega
      have HT2 := Lib.hid (show labT name (x :: xs) = none by rw [HT.out]; rfl)
      clear HT
      generalize x :: xs = ys at *
      have g1 : ((ys.length : Int) == 0) = false := by simpa using g0
      go_enter Tryz.func77, Tryz.ntmps77
      go_wp2_with fail
      go_ret2
      exact ⟨⟨tauL, by rw [HT2.out]; first | rfl | (simp [tauL, g1, es]), Lib.hid (fun s hs => by rw [HT2.out] at hs; cases hs)⟩, Upd.refl _ _⟩
  · have g0 : (name == [116, 97, 117]) = false := by simpa [tauL] using htau
    have HTAU := Lib.hid htau
    have S1 := Lib.hid (isActionI name w hn)
    cases ha : actF name with
    | false =>
      have HT := Lib.hid (labT_no (xs := xs) htau (by rw [ha]; rfl))
      rw [ha] at S1
      clear hR he htau ha
      go_enter Tryz.func77, Tryz.ntmps77
      go_wp2_with fail
      refine S1.out.mono ?_
      rintro e w1 ⟨rfl, rfl⟩
      clear S1
      go_wp2_with fail
      go_ret2
      exact ⟨⟨[], by rw [HT.out]; rfl, Lib.hid (fun s hs => by rw [HT.out] at hs; cases hs)⟩, Upd.refl _ _⟩
    | true =>
      rw [ha] at S1
      by_cases hlen : xs.length ≤ 2
      · have g3 : ¬ ((2 : Int) < (xs.length : Int)) := by omega
        have S2 := Lib.hid (areValues _ xs w fp hR)
        cases hv : xs.all isV with
        | false =>
          have HT := Lib.hid (labT_no (xs := xs) htau (by rw [hv]; simp))
          rw [hv] at S2
          clear hR he htau ha hv hlen
          go_enter Tryz.func77, Tryz.ntmps77
          go_wp2_with fail
          refine S1.out.mono ?_
          rintro e w1 ⟨rfl, rfl⟩
          clear S1
          go_wp2_with fail
          refine S2.out.mono ?_
          rintro e w1 ⟨rfl, rfl⟩
          clear S2
          go_wp2_with fail
          go_ret2
          exact ⟨⟨[], by rw [HT.out]; rfl, Lib.hid (fun s hs => by rw [HT.out] at hs; cases hs)⟩, Upd.refl _ _⟩
        | true =>
          have HT := Lib.hid (labT_yes (xs := xs) htau (by rw [ha, hv, decide_eq_true hlen]; rfl))
          rw [hv] at S2
          by_cases h0 : xs = []
          · have HT2 := Lib.hid (HT.out.trans (by rw [if_pos h0]))
            have g4 : ((xs.length : Int) == 0) = true := by rw [h0]; rfl
            clear hR he htau ha hv hlen h0 HT
            go_enter Tryz.func77, Tryz.ntmps77
            go_wp2_with fail
            refine S1.out.mono ?_
            rintro e w1 ⟨rfl, rfl⟩
            clear S1
            go_wp2_with fail
            refine S2.out.mono ?_
            rintro e w1 ⟨rfl, rfl⟩
            clear S2
            go_wp2_with fail
            go_ret2
            exact ⟨⟨name, by rw [HT2.out]; rfl, Lib.hid (fun s hs => by rw [HT2.out] at hs; simpa using hs)⟩, Upd.refl _ _⟩
          · have HT2 := Lib.hid (HT.out.trans (by rw [if_neg h0]))
            have hpos : 0 < xs.length := List.length_pos_iff.2 h0
            have g4 : ((xs.length : Int) == 0) = false := by simp; omega
            have S3 := Lib.hid (joinedI _ xs w fp hR hpos (by omega) (fun x hx => isV_itoa (List.all_eq_true.1 hv x hx)) he)
            have hjl : (txtV xs).length ≤ 2 * 31 := by
              refine Nat.le_trans (joinC_le 44 30 (xs.map Lib.itoa) (fun p hp => ?_)) ?_
              · obtain ⟨x, hx, rfl⟩ := List.mem_map.1 hp
                exact (isV_itoa (List.all_eq_true.1 hv x hx)).2
              · rw [List.length_map]; omega
            clear hR he htau ha hv hlen h0 HT
            generalize txtV xs = J at *
            go_enter Tryz.func77, Tryz.ntmps77
            go_wp2_with fail
            refine S1.out.mono ?_
            rintro e w1 ⟨rfl, rfl⟩
            clear S1
            go_wp2_with fail
            refine S2.out.mono ?_
            rintro e w1 ⟨rfl, rfl⟩
            clear S2
            go_wp2_with fail
            refine S3.out.mono ?_
            rintro e w3 ⟨rfl, hu3⟩
            have HU := Lib.hid hu3
            clear S3 hu3
            go_wp2_with fail
            go_ret2
            exact ⟨⟨_, by rw [HT2.out]; rfl, Lib.hid (fun s hs => by rw [HT2.out] at hs; simpa using hs)⟩, HU.out⟩
      · have g3 : (2 : Int) < (xs.length : Int) := by omega
        have HT := Lib.hid (labT_no (xs := xs) htau (by rw [decide_eq_false hlen]; simp))
        clear hR he htau ha hlen
        go_enter Tryz.func77, Tryz.ntmps77
        go_wp2_with fail
        refine S1.out.mono ?_
        rintro e w1 ⟨rfl, rfl⟩
        clear S1
        go_wp2_with fail
        go_ret2
        exact ⟨⟨[], by rw [HT.out]; rfl, Lib.hid (fun s hs => by rw [HT.out] at hs; cases hs)⟩, Upd.refl _ _⟩

end Go.Proofs.YthoacpecfmfeiaaGreatDoor

/-
  Labels read: what the program's calls return.
-/
namespace Go.Proofs.YthoacpecfmfeiaaGreatDoor
open Go.RowKit

theorem es_bytes (b : ByteArray) : es b.data.toList = .string b := by simp [es]

theorem splitC_len (c : UInt8) : ∀ l : List UInt8, (splitC c l).length ≤ l.length + 1 ∧ ∀ p ∈ splitC c l, p.length ≤ l.length
  | [] => by simp [splitC]
  | b :: l => by
    obtain ⟨h1, h2⟩ := splitC_len c l
    by_cases hb : b = c
    · subst hb
      have e : splitC b (b :: l) = [] :: splitC b l := by rw [splitC, if_pos rfl]
      rw [e]
      refine ⟨by simp; omega, fun p hp => ?_⟩
      rcases List.mem_cons.1 hp with rfl | hp
      · simp
      · have := h2 p hp; simp; omega
    · obtain ⟨p, ps, e1, e2⟩ := splitC_cons c b l hb
      rw [e2]
      rw [e1] at h1 h2
      refine ⟨by simp at h1 ⊢; omega, fun q hq => ?_⟩
      rcases List.mem_cons.1 hq with rfl | hq
      · have := h2 p (by simp); simp; omega
      · have := h2 q (by simp [hq]); simp; omega

theorem cut_len (s sep : List UInt8) : (Lib.cut s sep).1.length ≤ s.length ∧ (Lib.cut s sep).2.1.length ≤ s.length := by
  unfold Lib.cut
  split <;> simp <;> omega
theorem trim_len (s p : List UInt8) : (Lib.trimSuffix s p).length ≤ s.length := by
  unfold Lib.trimSuffix
  split <;> simp <;> omega
theorem cut_false {s : List UInt8} (h : (Lib.cut s [40]).2.2 = false) : Lib.cut s [40] = (s, [], false) := by
  unfold Lib.cut at h ⊢
  split at h
  · cases h
  · rename_i h1; rw [if_neg h1]

theorem cutI (l : List UInt8) (w : World) (hl : l.length ≤ 2000000) (he : Env w) :
    Calls Tryz.prog 73 #[es l, .string ⟨#[40]⟩] w fun e w' => e = .returned (.tuple #[es (Lib.cut l [40]).1, es (Lib.cut l [40]).2.1, .bool (Lib.cut l [40]).2.2]) ∧ Upd [] w w' := by
  obtain ⟨m, hm⟩ := he.m
  have hsz : (⟨l.toArray⟩ : ByteArray).size = l.length := rfl
  refine (Tryz.strings_Cut ⟨l.toArray⟩ ⟨#[40]⟩ m w (by rw [hsz]; omega) hm).mono ?_
  rintro e w1 ⟨rfl, n, rfl⟩
  exact ⟨rfl, (Upd.refl _ _).drewN n⟩

theorem trimI (l : List UInt8) (w : World) (hl : l.length ≤ 2000000) :
    Calls Tryz.prog 76 #[es l, .string ⟨#[41]⟩] w fun e w' => e = .returned (es (Lib.trimSuffix l [41])) ∧ w' = w := by
  have hsz : (⟨l.toArray⟩ : ByteArray).size = l.length := rfl
  exact (Tryz.strings_TrimSuffix ⟨l.toArray⟩ ⟨#[41]⟩ w (by rw [hsz]; omega)).mono (fun e w1 h => h)

theorem splitI (l : List UInt8) (w : World) (hl : l.length ≤ 2000000) (he : Env w) :
    Calls Tryz.prog 75 #[es l, .string ⟨#[44]⟩] w fun e w' => (∃ v', e = .returned v' ∧ New RS w w' v' (splitC 44 l)) ∧ Upd [] w w' := by
  obtain ⟨m, hm⟩ := he.m
  have hsz : (⟨l.toArray⟩ : ByteArray).size = l.length := rfl
  have hlen := Lib.splitB_all ⟨#[44]⟩ (by decide) 0 (Lib.countB ⟨l.toArray⟩ ⟨#[44]⟩) ⟨l.toArray⟩ rfl
  have hdat : (Lib.splitB ⟨#[44]⟩ 0 (Lib.countB ⟨l.toArray⟩ ⟨#[44]⟩) ⟨l.toArray⟩).map (·.data.toList) = splitC 44 l := by
    rw [Lib.splitB_data]; exact split_lib 44 l
  refine (Tryz.strings_Split ⟨l.toArray⟩ ⟨#[44]⟩ m w (by rw [hsz]; omega) hm (by decide)).mono ?_
  rintro e w1 ⟨rfl, rfl⟩
  generalize Lib.splitB ⟨#[44]⟩ 0 (Lib.countB ⟨l.toArray⟩ ⟨#[44]⟩) ⟨l.toArray⟩ = bs at *
  generalize Lib.countB ⟨l.toArray⟩ ⟨#[44]⟩ = n at *
  have hsp := (splitC_len 44 l).1
  have hmap : bs.map Value.string = (splitC 44 l).map es := by
    rw [← hdat, List.map_map]
    exact List.map_congr_left (fun b _ => (es_bytes b).symm)
  have hn : n + 1 = (splitC 44 l).length := by rw [← hdat, List.length_map, hlen]
  rw [hmap, hn]
  exact ⟨⟨_, rfl, new_lit (enc := es) w 9 (splitC 44 l) (by unfold maxLen; omega)⟩, (Upd.refl _ _).alloc _⟩

def ReadV (s : List UInt8) (w : World) (e : Ending) (w' : World) : Prop :=
  (∃ (n : List UInt8) (v' : Value) (vs : List Int), e = .returned (.tuple #[es n, v', .bool (readF s).isSome]) ∧ New R1 w w' v' vs ∧ (readF s).getD ([], []) = (n, vs)) ∧ Upd [] w w'

set_option maxRecDepth 20000 in
set_option maxHeartbeats 4000000 in
theorem readLabelI (s : List UInt8) (w : World) (hl : s.length ≤ 2000000) (he : Env w) : Calls Tryz.prog 65 #[es s] w (ReadV s w) := by
  have S1 := Lib.hid (cutI s w hl he)
  obtain ⟨hc1, hc2⟩ := cut_len s [40]
  have HE := Lib.hid he
  clear he
  cases hm : (Lib.cut s [40]).2.2 with
  | false =>
    have hcf := cut_false hm
    have HF := Lib.hid (show readF s = if labT s [] = some s then some (s, []) else none by unfold readF; rw [hm]; rfl)
    rw [hcf] at S1
    clear hm hcf hc1 hc2
    go_enter Tryz.func65, Tryz.ntmps65
    go_wp2_with fail
    refine S1.out.mono ?_
    rintro e w1 ⟨rfl, hu1⟩
    obtain ⟨f0, hR0, hO0, hG0⟩ := new_nil w w1
    have S4 := Lib.hid (labelOfI s (.slice none 0 0) [] w1 f0 hl hR0 (HE.out.upd hu1))
    have HU1 := Lib.hid hu1
    have HN := Lib.hid (show New R1 w w1 (.slice none 0 0) [] from ⟨f0, hR0, hO0, hG0⟩)
    clear S1 hu1 hR0 hO0 hG0
    go_wp2_with fail
    refine S4.out.mono ?_
    rintro e w4 ⟨⟨t, rfl, ht⟩, hu4⟩
    have HU := Lib.hid (HU1.out.trans hu4)
    have HN4 := Lib.hid (R1k.new HN.out hu4 (by simp))
    clear S4 HU1 HN hu4
    cases hL : labT s [] with
    | none =>
      have HR := Lib.hid (show readF s = none by rw [HF.out, hL]; rfl)
      clear HF ht hL
      go_wp2_with fail
      go_ret3
      exact ⟨⟨[], _, [], by rw [HR.out]; rfl, new_nil _ _, by rw [HR.out]; rfl⟩, HU.out⟩
    | some s' =>
      obtain rfl := ht.out s' hL
      by_cases heq : t = s
      · have HR := Lib.hid (show readF s = some (s, []) by rw [HF.out, hL, if_pos (by rw [heq])])
        clear HF hL
        subst heq
        clear ht
        go_wp2_with fail
        go_ret3
        exact ⟨⟨t, _, [], by rw [HR.out]; rfl, HN4.out, by rw [HR.out]; rfl⟩, HU.out⟩
      · have HR := Lib.hid (show readF s = none by rw [HF.out, hL, if_neg (by simpa using heq)])
        have hne : (t == s) = false := by simpa using heq
        clear HF ht hL
        go_wp2_with fail
        go_ret3
        exact ⟨⟨[], _, [], by rw [HR.out]; rfl, new_nil _ _, by rw [HR.out]; rfl⟩, HU.out⟩
  | true =>
    have HF := Lib.hid (show readF s = match numsF (splitC 44 (Lib.trimSuffix (Lib.cut s [40]).2.1 [41])) with
      | none => none
      | some vs => if labT (Lib.cut s [40]).1 vs = some s then some ((Lib.cut s [40]).1, vs) else none by unfold readF; rw [hm]; rfl)
    rw [hm] at S1
    clear hm
    generalize (Lib.cut s [40]).1 = nm at *
    generalize (Lib.cut s [40]).2.1 = rest at *
    have htl := trim_len rest [41]
    have hnm : nm.length ≤ 2000000 := by omega
    have S2 := Lib.hid (fun w1 : World => trimI rest w1 (by omega))
    generalize Lib.trimSuffix rest [41] = r2 at *
    obtain ⟨hp1, hp2⟩ := splitC_len 44 r2
    have S3 := Lib.hid (fun (w1 : World) (hu : Upd [] w w1) => splitI r2 w1 (by omega) (HE.out.upd hu))
    generalize splitC 44 r2 = ps at *
    have HPL := Lib.hid (show ∀ p ∈ ps, p.length ≤ 2000000 from fun p hp => by have := hp2 p hp; omega)
    have hpl : ps.length ≤ 2000001 := by omega
    clear hp1 hp2 htl hc1 hc2
    go_enter Tryz.func65, Tryz.ntmps65
    go_wp2_with fail
    refine S1.out.mono ?_
    rintro e w1 ⟨rfl, hu1⟩
    have S2 := Lib.hid (S2.out w1)
    have S3 := Lib.hid (S3.out w1 hu1)
    have HU1 := Lib.hid hu1
    clear S1 hu1
    go_wp2_with fail
    refine S2.out.mono ?_
    rintro e w2 ⟨rfl, rfl⟩
    clear S2
    go_wp2_with fail
    refine S3.out.mono ?_
    rintro e w3 ⟨⟨v3, rfl, fq, hq1, hq2, hq3⟩, hu3⟩
    have HU3 := Lib.hid (HU1.out.trans hu3)
    have S4 := Lib.hid (readNumbersI v3 ps w3 fq hq1 (by omega) HPL.out (HE.out.upd HU3.out))
    have hsz3 := HU3.out.size
    clear S3 HU1 hu3 hq1 hq2 hq3
    go_wp2_with fail
    refine S4.out.mono ?_
    rintro e w4 ⟨⟨v4, rfl, hn4⟩, hu4⟩
    have HU4 := Lib.hid (HU3.out.trans hu4)
    clear S4 HU3 hu4
    cases hN : numsF ps with
    | none =>
      have HR := Lib.hid (show readF s = none by rw [HF.out, hN])
      clear HF hN hn4
      go_wp2_with fail
      go_ret3
      exact ⟨⟨[], _, [], by rw [HR.out]; rfl, new_nil _ _, by rw [HR.out]; rfl⟩, HU4.out⟩
    | some vs =>
      rw [hN] at hn4 HF
      have HF2 := Lib.hid (show readF s = if labT nm vs = some s then some (nm, vs) else none from HF.out)
      obtain ⟨f4, hr4, -, -⟩ := id hn4
      have S5 := Lib.hid (labelOfI nm v4 vs w4 f4 hnm hr4 (HE.out.upd HU4.out))
      have HN := Lib.hid (show New R1 w w4 v4 vs from hn4.mono hsz3)
      clear HF hN hn4 hr4
      go_wp2_with fail
      refine S5.out.mono ?_
      rintro e w5 ⟨⟨t, rfl, ht⟩, hu5⟩
      have HU := Lib.hid (HU4.out.trans hu5)
      have HN5 := Lib.hid (R1k.new HN.out hu5 (by simp))
      clear S5 HU4 HN hu5
      cases hL : labT nm vs with
      | none =>
        have HR := Lib.hid (show readF s = none by rw [HF2.out, hL]; rfl)
        clear HF2 ht hL
        go_wp2_with fail
        go_ret3
        exact ⟨⟨[], _, [], by rw [HR.out]; rfl, new_nil _ _, by rw [HR.out]; rfl⟩, HU.out⟩
      | some s' =>
        obtain rfl := ht.out s' hL
        by_cases heq : t = s
        · have HR := Lib.hid (show readF s = some (nm, vs) by rw [HF2.out, hL, if_pos (by rw [heq])])
          clear HF2 hL
          subst heq
          clear ht
          go_wp2_with fail
          go_ret3
          exact ⟨⟨nm, _, vs, by rw [HR.out]; rfl, HN5.out, by rw [HR.out]; rfl⟩, HU.out⟩
        · have HR := Lib.hid (show readF s = none by rw [HF2.out, hL, if_neg (by simpa using heq)])
          have hne : (t == s) = false := by simpa using heq
          clear HF2 ht hL
          go_wp2_with fail
          go_ret3
          exact ⟨⟨[], _, [], by rw [HR.out]; rfl, new_nil _ _, by rw [HR.out]; rfl⟩, HU.out⟩

set_option maxRecDepth 20000 in
theorem isLabelI (s : List UInt8) (w : World) (hl : s.length ≤ 2000000) (he : Env w) : Calls Tryz.prog 60 #[es s] w fun e w' => e = .returned (.bool (readF s).isSome) ∧ Upd [] w w' := by
  have S1 := Lib.hid (readLabelI s w hl he)
  clear he
  go_enter Tryz.func60, Tryz.ntmps60
  go_wp2_with fail
  refine S1.out.mono ?_
  rintro e w1 ⟨⟨n, v, vs, rfl, hn, hr⟩, hu⟩
  have HU := Lib.hid hu
  clear S1 hn hr hu
  go_wp2_with fail
  go_ret
  exact ⟨rfl, HU.out⟩

def ValuesV (s : List UInt8) (w : World) (e : Ending) (w' : World) : Prop :=
  (∃ (v' : Value), e = .returned (.tuple #[v', .bool (readF s).isSome]) ∧ New R1 w w' v' ((readF s).getD ([], [])).2) ∧ Upd [] w w'

end Go.Proofs.YthoacpecfmfeiaaGreatDoor

/-
  Lists of labels: what the program's and the reference's calls return.
-/
namespace Go.Proofs.YthoacpecfmfeiaaGreatDoor
open Go.RowKit

/-- whether a text is a label. -/
def isLab (s : List UInt8) : Bool := (readF s).isSome

def IdxL (xs : List (List UInt8)) (w : World) (e : Ending) (w' : World) : Prop := (∃ q : Int, e = .returned (.int .i64 q) ∧ -1 ≤ q ∧ q ≤ 9223372036854775807 ∧ decide (0 ≤ q) = xs.any (fun n => !isLab n)) ∧ Upd [] w w'

set_option maxRecDepth 20000 in
theorem labelS (s : List UInt8) (w : World) (hl : s.length ≤ 2000000) : Calls Tryz.prog 57 #[es s] w fun e w' => e = .returned (.bool (isLab s)) ∧ Upd [] w w' := by
  have S1 := Lib.hid (valuesS s w hl)
  go_enter Tryz.func57, Tryz.ntmps57
  go_wp2_with fail
  refine S1.out.mono ?_
  rintro e w1 ⟨⟨v, vs, rfl, hn, -⟩, hu⟩
  have HU := Lib.hid hu
  clear S1 hn hu
  go_wp2_with fail
  go_ret
  exact ⟨rfl, HU.out⟩

theorem joinC_snoc (c : UInt8) : ∀ (ps : List (List UInt8)) (p : List UInt8), ps ≠ [] → joinC c (ps ++ [p]) = joinC c ps ++ ([c] ++ p)
  | [], _, h => absurd rfl h
  | [q], p, _ => by simp [joinC]
  | q :: r :: ps, p, _ => by
    have h := joinC_snoc c (r :: ps) p (by simp)
    simp only [List.cons_append] at h ⊢
    simp only [joinC]
    rw [h]; simp
theorem joinC_tot (c : UInt8) : ∀ ps : List (List UInt8), ((joinC c ps).length : Int) ≤ totS ps + ps.length
  | [] => by simp [joinC, totS]
  | [p] => by simp [joinC, totS]; omega
  | p :: q :: ps => by
    have h := joinC_tot c (q :: ps)
    simp only [joinC, totS, List.map_cons, List.sum_cons, List.length_append, List.length_cons] at h ⊢
    omega

end Go.Proofs.YthoacpecfmfeiaaGreatDoor

/-
  Binary images, plainly: numbers, texts, the check value, the seal.
-/
namespace Go.Proofs.YthoacpecfmfeiaaGreatDoor
open Go.RowKit

/-- a number in bytes of seven bits. -/
def numL (n : Nat) : List UInt8 := if h : n < 128 then [UInt8.ofNat n] else UInt8.ofNat (128 + n % 128) :: numL (n / 128)
termination_by n
decreasing_by omega
theorem numL_small {n : Nat} (h : n < 128) : numL n = [UInt8.ofNat n] := by rw [numL, dif_pos h]
theorem numL_big {n : Nat} (h : ¬ n < 128) : numL n = UInt8.ofNat (128 + n % 128) :: numL (n / 128) := by rw [numL, dif_neg h]
theorem numL_len (n j : Nat) (h : n < 128 ^ (j + 1)) : (numL n).length ≤ j + 1 := by
  induction j generalizing n with
  | zero => rw [numL_small (by omega)]; simp
  | succ j ih =>
    by_cases hn : n < 128
    · rw [numL_small hn]; simp
    · rw [numL_big hn, List.length_cons]
      have := ih (n / 128) (by rw [Nat.pow_succ] at h; omega)
      omega
/-- a text behind its length. -/
def textL (s : List UInt8) : List UInt8 := numL s.length ++ s

/-- one bit of the check value. -/
def crcB (c : Nat) : Nat := if 65535 < c * 2 then ((c * 2) &&& 65535) ^^^ 4129 else c * 2
def crcN : Nat → Nat → Nat
  | 0, c => c
  | n + 1, c => crcN n (crcB c)
def crcY (c : Nat) (b : UInt8) : Nat := crcN 8 (c ^^^ (b.toNat * 256))
def crcL : List UInt8 → Nat → Nat
  | [], c => c
  | b :: l, c => crcL l (crcY c b)
theorem crcB_lt {c : Nat} (h : c < 65536) : crcB c < 65536 := by
  unfold crcB
  split
  · refine Nat.xor_lt_two_pow (n := 16) ?_ (by decide)
    have : (c * 2) &&& 65535 ≤ 65535 := Nat.and_le_right
    omega
  · omega
theorem crcN_lt : ∀ (n : Nat) {c : Nat}, c < 65536 → crcN n c < 65536
  | 0, _, h => h
  | n + 1, _, h => crcN_lt n (crcB_lt h)
theorem crcX_lt {c : Nat} (b : UInt8) (h : c < 65536) : c ^^^ (b.toNat * 256) < 65536 :=
  Nat.xor_lt_two_pow (n := 16) (by omega) (by have := b.toNat_lt; omega)
theorem crcY_lt {c : Nat} (b : UInt8) (h : c < 65536) : crcY c b < 65536 := crcN_lt 8 (crcX_lt b h)
theorem crcL_lt : ∀ (l : List UInt8) {c : Nat}, c < 65536 → crcL l c < 65536
  | [], _, h => h
  | b :: l, _, h => crcL_lt l (crcY_lt b h)

/-- an image: its check value behind the contents, if it is not too long. -/
def sealL (body : List UInt8) : List UInt8 := if 6000 < body.length + 2 then [] else body ++ [UInt8.ofNat (crcL body 65535 / 256), UInt8.ofNat (crcL body 65535 % 256)]

/-- the contents of a system's image. -/
def sysB (x : Sys) : List UInt8 :=
  (((numL x.st.toNat ++ numL x.ini.toNat) ++ numL x.labs.length) ++ (x.labs.drop 1).flatMap textL) ++ (numL x.eds.length ++ x.eds.flatMap fun e => (numL e.fr.toNat ++ numL e.lb.toNat) ++ numL e.to.toNat)
def sysImg (x : Sys) : List UInt8 := sealL (1 :: sysB x)

/-- texts in order. -/
def bl (a b : List UInt8) : Bool := Op.bytesLess a b
theorem bl_total : ∀ a b : List UInt8, (bl a b || a == b) = !bl b a
  | [], [] => rfl
  | [], _ :: _ => rfl
  | _ :: _, [] => rfl
  | a :: x, b :: y => by
    have ih := bl_total x y
    unfold bl at ih ⊢
    simp only [Op.bytesLess]
    rcases Nat.lt_trichotomy a.toNat b.toNat with h | h | h
    · have h1 : a < b := UInt8.lt_iff_toNat_lt.2 h
      have h2 : ¬ b < a := fun h2 => by have := UInt8.lt_iff_toNat_lt.1 h2; omega
      have h3 : ¬ b = a := fun e => by rw [e] at h; omega
      simp [h1, h2, h3]
    · have e : a = b := UInt8.toNat_inj.1 h
      subst e
      have h2 : ¬ a < a := fun h2 => by have := UInt8.lt_iff_toNat_lt.1 h2; omega
      simp only [h2, decide_false, Bool.false_or, beq_self_eq_true, Bool.true_and]
      rw [← ih]
      simp
    · have h1 : b < a := UInt8.lt_iff_toNat_lt.2 h
      have h2 : ¬ a < b := fun h2 => by have := UInt8.lt_iff_toNat_lt.1 h2; omega
      have h3 : ¬ a = b := fun e => by rw [e] at h; omega
      simp [h1, h2, h3]
def edLt (a b : Ed) : Bool := if a.fr ≠ b.fr then decide (a.fr < b.fr) else if a.lb ≠ b.lb then decide (a.lb < b.lb) else decide (a.to < b.to)

/-- all of m from k on. -/
def allF (P : Nat → Bool) : Nat → Nat → Bool
  | _, 0 => true
  | k, m + 1 => P k && allF P (k + 1) m
theorem allF_step (P : Nat → Bool) (k n : Nat) (h : k < n) : allF P k (n - k) = (P k && allF P (k + 1) (n - (k + 1))) := by
  obtain ⟨m, hm⟩ : ∃ m, n - k = m + 1 := ⟨n - k - 1, by omega⟩
  rw [hm, allF, show n - (k + 1) = m by omega]
theorem allF_end (P : Nat → Bool) (n : Nat) : allF P n (n - n) = true := by rw [Nat.sub_self]; rfl

def labP (labs : List (List UInt8)) (i : Nat) : Bool := isLab (labs.getD i []) && ((labs.getD i [] == tauL) == decide (i = 0)) && (!decide (1 < i) || bl (labs.getD (i - 1) []) (labs.getD i []))
def edP (x : Sys) (i : Nat) : Bool :=
  inB (x.eds.getD i ⟨0, 0, 0⟩).fr 0 (x.st - 1) && inB (x.eds.getD i ⟨0, 0, 0⟩).to 0 (x.st - 1) && inB (x.eds.getD i ⟨0, 0, 0⟩).lb 0 (x.labs.length - 1) && (decide (i = 0) || edLt (x.eds.getD (i - 1) ⟨0, 0, 0⟩) (x.eds.getD i ⟨0, 0, 0⟩))
/-- the labels of a system are in order. -/
def labsOk (labs : List (List UInt8)) : Bool := decide (1 ≤ labs.length) && decide (labs.length ≤ 12) && allF (labP labs) 0 labs.length
/-- a system is valid. -/
def sysOk (x : Sys) : Bool := inB x.st 1 40 && inB x.ini 0 (x.st - 1) && labsOk x.labs && decide (x.eds.length ≤ 300) && allF (edP x) 0 x.eds.length

end Go.Proofs.YthoacpecfmfeiaaGreatDoor

/-
  Formulas, plainly: their shape, their fields, what binds a variable; validity as the program and as the reference reckon it.
-/
namespace Go.Proofs.YthoacpecfmfeiaaGreatDoor
open Go.RowKit

/-- a node: kind, variable, label, and whether the label is negated. -/
structure Nd where
  kd : Int
  vr : Int
  lb : List UInt8
  nt : Bool
deriving DecidableEq

/-- how many formulas a node of a kind wants behind it, for the program and for the reference. -/
def arI (k : Int) : Int := if k = 2 ∨ k = 3 then 2 else if k = 4 ∨ k = 5 ∨ k = 7 ∨ k = 8 then 1 else 0
def arS (k : Int) : Int := if k = 0 ∨ k = 1 ∨ k = 6 then 0 else if k = 2 ∨ k = 3 then 2 else 1
theorem ar_same {k : Int} (h : inB k 0 8 = true) : arS k = arI k := by
  have := inB_true h
  unfold arS arI
  split <;> split <;> (try split) <;> omega
theorem arI_in (k : Int) : 0 ≤ arI k ∧ arI k ≤ 2 := by unfold arI; split <;> (try split) <;> omega
theorem arS_in (k : Int) : 0 ≤ arS k ∧ arS k ≤ 2 := by unfold arS; split <;> (try split) <;> omega

/-- m formulas are still to come, and the nodes are exactly those. -/
def shapeF (ar : Int → Int) : Int → List Nd → Bool
  | m, [] => m == 0
  | m, n :: l => if m = 0 then false else shapeF ar (m + ar n.kd - 1) l
/-- how many nodes m formulas have. -/
def endF (ar : Int → Int) : Int → List Nd → Nat
  | _, [] => 0
  | m, n :: l => if m ≤ 0 then 0 else endF ar (m + ar n.kd - 1) l + 1
theorem shape_step {ar : Int → Int} {m : Int} {n : Nd} {l : List Nd} (h : shapeF ar m (n :: l) = true) : m ≠ 0 ∧ shapeF ar (m + ar n.kd - 1) l = true := by
  rw [shapeF] at h
  split at h
  · cases h
  · next hm => exact ⟨hm, h⟩
theorem shape_drop {ar : Int → Int} (ha : ∀ k, 0 ≤ ar k ∧ ar k ≤ 2) : ∀ (l : List Nd) (m : Int), 0 ≤ m → shapeF ar m l = true → ∀ k, k < l.length → ∃ q : Int, 1 ≤ q ∧ q ≤ m + l.length ∧ shapeF ar q (l.drop k) = true
  | [], _, _, _, k, hk => by simp at hk
  | n :: l, m, hm, h, k, hk => by
    obtain ⟨h1, h2⟩ := shape_step h
    cases k with
    | zero => exact ⟨m, by omega, by omega, h⟩
    | succ k =>
      have := ha n.kd
      obtain ⟨q, q1, q2, q3⟩ := shape_drop ha l _ (by omega) h2 k (by simpa using hk)
      exact ⟨q, q1, by simp; omega, q3⟩

def fixF (k : Int) : Bool := k == 7 || k == 8
def modF (k : Int) : Bool := k == 4 || k == 5
/-- a pattern: nothing, a label, or a name before a star. -/
def patF (s : List UInt8) : Bool := s == [] || isLab s || (s.getLast? == some 42 && actF s.dropLast)
def fieldsF (n : Nd) : Bool := if modF n.kd then patF n.lb else n.lb == [] && !n.nt
def boundF (n : Nd) : Bool := if fixF n.kd || n.kd == 6 then inB n.vr 0 2 else n.vr == 0
def nd0 : Nd := ⟨0, 0, [], false⟩
/-- node i binds the variable at node k. -/
def bndP (ar : Int → Int) (f : List Nd) (k i : Nat) : Bool := fixF (f.getD i nd0).kd && ((f.getD i nd0).vr == (f.getD k nd0).vr) && decide (k < i + endF ar 1 (f.drop i))
/-- the last of the nodes before i that binds the variable at node k, or -1. -/
def bindF (ar : Int → Int) (f : List Nd) (k : Nat) : Nat → Int
  | 0 => -1
  | i + 1 => if bndP ar f k i then (i : Int) else bindF ar f k i
theorem bindF_ge (ar : Int → Int) (f : List Nd) (k : Nat) : ∀ i, -1 ≤ bindF ar f k i ∧ bindF ar f k i < i
  | 0 => by simp [bindF]
  | i + 1 => by
    rw [bindF]
    split
    · omega
    · have := bindF_ge ar f k i; omega
def varP (ar : Int → Int) (f : List Nd) (k : Nat) : Bool := !((f.getD k nd0).kd == 6 && decide (bindF ar f k k < 0))
def ndkI (f : List Nd) (k : Nat) : Bool := inB (f.getD k nd0).kd 0 8 && fieldsF (f.getD k nd0) && boundF (f.getD k nd0) && varP arI f k
def ndkS (f : List Nd) (k : Nat) : Bool := boundF (f.getD k nd0) && varP arS f k
/-- a formula is valid, as the program reckons it. -/
def frmOk (f : List Nd) : Bool := inB f.length 1 30 && shapeF arI 1 f && allF (ndkI f) 0 f.length
def shapeS : Int → List Nd → Bool
  | m, [] => m == 0
  | m, n :: l => if m = 0 ∨ inB n.kd 0 8 = false then false else if fieldsF n = false then false else shapeS (m + arS n.kd - 1) l
/-- .. and as the reference does. -/
def frmOkS (f : List Nd) : Bool := inB f.length 1 30 && shapeS 1 f && allF (ndkS f) 0 f.length

theorem shapeS_split : ∀ (l : List Nd) (m : Int), shapeS m l = (shapeF arI m l && l.all fun n => inB n.kd 0 8 && fieldsF n)
  | [], m => by simp [shapeS, shapeF]
  | n :: l, m => by
    rw [shapeS, shapeF, List.all_cons]
    by_cases hm : m = 0
    · simp [hm]
    · cases hk : inB n.kd 0 8 with
      | false => simp [hm]
      | true =>
        cases hf : fieldsF n with
        | false => simp [hm]
        | true =>
          simp only [hm, Bool.true_eq_false, or_self, if_false, Bool.true_and]
          rw [ar_same hk, shapeS_split l]
theorem endF_same : ∀ (l : List Nd) (m : Int), (∀ n ∈ l, inB n.kd 0 8 = true) → endF arS m l = endF arI m l
  | [], m, _ => rfl
  | n :: l, m, h => by
    rw [endF, endF, ar_same (h n (by simp)), endF_same l _ (fun q hq => h q (by simp [hq]))]
theorem bindF_same (f : List Nd) (h : ∀ n ∈ f, inB n.kd 0 8 = true) (k : Nat) : ∀ i, bindF arS f k i = bindF arI f k i
  | 0 => rfl
  | i + 1 => by
    rw [bindF, bindF, bindF_same f h k i]
    unfold bndP
    rw [endF_same _ _ (fun n hn => h n (List.mem_of_mem_drop hn))]
theorem allF_congr {P Q : Nat → Bool} : ∀ (m k : Nat), (∀ i, k ≤ i → i < k + m → P i = Q i) → allF P k m = allF Q k m
  | 0, _, _ => rfl
  | m + 1, k, h => by
    rw [allF, allF, h k (Nat.le_refl _) (by omega), allF_congr m (k + 1) (fun i h1 h2 => h i (by omega) (by omega))]
theorem allF_and {P Q : Nat → Bool} : ∀ (m k : Nat), allF (fun i => P i && Q i) k m = (allF P k m && allF Q k m)
  | 0, _ => rfl
  | m + 1, k => by
    rw [allF, allF, allF, allF_and m (k + 1)]
    cases P k <;> cases Q k <;> simp
theorem all_allF (P : Nd → Bool) (f : List Nd) : f.all P = allF (fun i => P (f.getD i nd0)) 0 f.length := by
  suffices h : ∀ (m k : Nat), k + m = f.length → (f.drop k).all P = allF (fun i => P (f.getD i nd0)) k m by
    have := h f.length 0 (by omega)
    simpa using this
  intro m
  induction m with
  | zero => intro k hk; rw [List.drop_of_length_le (by omega)]; rfl
  | succ m ih =>
    intro k hk
    rw [List.drop_eq_getElem_cons (by omega), List.all_cons, allF, ih (k + 1) (by omega)]
    congr 2
    rw [List.getD_eq_getElem?_getD, List.getElem?_eq_getElem (by omega)]; rfl
theorem frmOk_same (f : List Nd) : frmOkS f = frmOk f := by
  unfold frmOkS frmOk
  rw [shapeS_split]
  cases hall : f.all (fun n => inB n.kd 0 8 && fieldsF n) with
  | false =>
    have hI : allF (ndkI f) 0 f.length = false := by
      have e : ndkI f = fun i => (inB (f.getD i nd0).kd 0 8 && fieldsF (f.getD i nd0)) && (boundF (f.getD i nd0) && varP arI f i) := by
        funext i; unfold ndkI; simp only [Bool.and_assoc]
      rw [e, allF_and, ← all_allF (fun n => inB n.kd 0 8 && fieldsF n), hall]; rfl
    rw [hI]; simp
  | true =>
    have hk : ∀ n ∈ f, inB n.kd 0 8 = true := fun n hn => by
      have := List.all_eq_true.1 hall n hn
      simp only [Bool.and_eq_true] at this
      exact this.1
    have e : allF (ndkS f) 0 f.length = allF (ndkI f) 0 f.length := by
      refine allF_congr _ _ (fun i _ hi => ?_)
      have hi2 : i < f.length := by omega
      have hg : f.getD i nd0 = f[i] := by rw [List.getD_eq_getElem?_getD, List.getElem?_eq_getElem hi2]; rfl
      have h9 := List.all_eq_true.1 hall f[i] (List.getElem_mem hi2)
      simp only [Bool.and_eq_true] at h9
      unfold ndkS ndkI varP
      rw [bindF_same f hk, hg, h9.1, h9.2]; simp
    rw [e]; simp

/-- the bytes of a node, and of a formula's image. -/
def trN (b : Bool) : Nat := if b then 1 else 0
def ndB (n : Nd) : List UInt8 := ((numL n.kd.toNat ++ numL n.vr.toNat) ++ numL (trN n.nt)) ++ textL n.lb
def frmB (f : List Nd) : List UInt8 := numL f.length ++ f.flatMap ndB
def frmImg (f : List Nd) : List UInt8 := sealL (2 :: frmB f)

end Go.Proofs.YthoacpecfmfeiaaGreatDoor

/-
  The laws' helper functions over lists of nodes.
-/
namespace Go.Proofs.YthoacpecfmfeiaaGreatDoor
open Go.RowKit Go.ChangeShapes

abbrev R_F1 : Rp (List Nd) := slF 4 (fun t => [ei t.kd, ei t.vr, es t.lb, .bool t.nt])
theorem R_F1k : Kept R_F1 := slF_kept _ _
def szF_F1 (x : List Nd) : Int := x.length + totS (x.map Nd.lb)
def mkF_F1 (x : List Nd) : Int := 4 * x.length
theorem mkF_F1_nonneg (x : List Nd) : 0 ≤ mkF_F1 x := by unfold mkF_F1; omega
def ndsOk (x : List Nd) : Prop := ∀ n ∈ x, n.lb.length ≤ 9223372036854775807

theorem Tryz.infoNd : (Tryz.prog.info? 37).map (fun i => (i.zero, i.size, i.bytes)) = some (some (.agg #[.int .i64 0, .int .i64 0, .string ⟨#[]⟩, .bool false]), 4, 40) := by kernel_rfl

set_option maxRecDepth 20000 in
set_option maxHeartbeats 400000 in
theorem szNode (a b : Int) (c : List UInt8) (d : Bool) (left : Int) (w : World) (hl : 0 ≤ left) (hl2 : left ≤ 1048576) (hc : c.length ≤ 9223372036854775807) :
    Calls Tryz.prog 14 #[.agg #[ei a, ei b, es c, .bool d], .int .i64 left] w fun e w' => e = .returned (.int .i64 (if left - (c.length : Int) < 0 then -1 else left - c.length)) ∧ Upd [] w w' := by
  by_cases h : left - (c.length : Int) < 0
  · rw [if_pos h]
    go_enter Tryz.func14, Tryz.ntmps14
    go_wp2_with fail
    go_ret
    exact ⟨rfl, (Upd.refl _ _).alloc _⟩
  · rw [if_neg h]
    go_enter Tryz.func14, Tryz.ntmps14
    go_wp2_with fail
    go_ret
    exact ⟨rfl, (Upd.refl _ _).alloc _⟩

set_option maxRecDepth 20000 in
set_option maxHeartbeats 800000 in
theorem sz_F1 (v : Value) (xs : List Nd) (left : Int) (w : World) (fp : List Nat) (hl : 0 ≤ left) (hl2 : left ≤ 1048576) (hR : R_F1 fp w [v] xs) (hS : ndsOk xs) :
    Calls Tryz.prog 5 #[v, .int .i64 left] w fun e w' => (∃ r : Int, e = .returned (.int .i64 r) ∧ (r = -1 ∨ (0 ≤ r ∧ r + szF_F1 xs = left))) ∧ Upd [] w w' := by
  obtain ⟨a, cap, rfl, h1, h2, hc⟩ := slF4_open hR
  unfold maxLen at h2
  unfold szF_F1
  have HS := Lib.hid hS
  have HC := Lib.hid hc
  clear hR hS hc
  by_cases hlt : left - (xs.length : Int) < 0
  · go_enter Tryz.func5, Tryz.ntmps5
    go_wp2_with fail
    go_ret
    exact ⟨⟨-1, rfl, Or.inl rfl⟩, Upd.refl _ _⟩
  · have hge : 0 ≤ left - (xs.length : Int) := by omega
    clear hlt
    go_enter Tryz.func5, Tryz.ntmps5
    go_wp2_with fail
    go_loopw [1, 5] (fun kk i wr => ∃ (k : Nat) (l : Int), k ≤ xs.length ∧ i = .int .i64 k ∧ kk = .int .i64 l ∧ 0 ≤ l ∧ Hid (l + xs.length + totS ((xs.take k).map Nd.lb) = left) ∧ Upd [] w wr) (fun _ i _ => xs.length - (intOf i).toNat)
    case atStart => exact ⟨0, _, Nat.zero_le _, rfl, rfl, hge, Lib.hid (by simp [totS]), Upd.refl _ _⟩
    case round =>
      obtain ⟨wo, rfl⟩ : ∃ wo : World, wo = wr := ⟨_, rfl⟩
      obtain ⟨k, l, hk, rfl, rfl, hl0, HL, hU⟩ := hrel
      by_cases hlt : k < xs.length
      · obtain ⟨b, off, rfl, -, -, p1, p2, p3, p4⟩ := HC.out k hlt
        have q1 := hU.keep p1
        have q2 := hU.keep p2
        have q3 := hU.keep p3
        have q4 := hU.keep p4
        have ht := totS_nonneg ((xs.take k).map Nd.lb)
        have HT := Lib.hid (show totS ((xs.take (k + 1)).map Nd.lb) = totS ((xs.take k).map Nd.lb) + xs[k].lb.length by
          have := totS_snoc (xs.map Nd.lb) k (by simpa using hlt)
          rw [← List.map_take, ← List.map_take] at this
          simpa using this)
        have hb2 : l ≤ 1048576 := by have := HL.out; omega
        have HU := Lib.hid hU
        have S1 := Lib.hid (szNode xs[k].kd xs[k].vr xs[k].lb xs[k].nt l wo hl0 hb2 (HS.out xs[k] (List.getElem_mem hlt)))
        clear ht p1 p2 p3 p4 hU
        generalize xs[k] = x at *
        obtain ⟨x1, x2, x3, x4⟩ := x
        simp only at *
        by_cases hneg : l - (x3.length : Int) < 0
        · rw [if_pos hneg] at S1
          go_wp2_with fail
          refine S1.out.mono ?_
          rintro e w1 ⟨rfl, hu1⟩
          have HU1 := Lib.hid (HU.out.trans hu1)
          clear S1 hu1
          go_wp2_with fail
          go_ret
          exact ⟨⟨-1, rfl, Or.inl rfl⟩, HU1.out⟩
        · rw [if_neg hneg] at S1
          have HN := Lib.hid hneg
          obtain ⟨l2, hl2e⟩ : ∃ l2, l2 = l - (x3.length : Int) := ⟨_, rfl⟩
          have hl20 : 0 ≤ l2 := by omega
          have hl21 : l2 ≤ 1048576 := by omega
          rw [← hl2e] at S1
          have HL2 := Lib.hid hl2e
          clear hneg hl2e
          go_wp2_with fail
          refine S1.out.mono ?_
          rintro e w1 ⟨rfl, hu1⟩
          have HU1 := Lib.hid (HU.out.trans hu1)
          clear S1 hu1
          go_wp2_with fail
          go_roundw
          case rel => exact ⟨k + 1, l2, by omega, by go_num, rfl, hl20, Lib.hid (by have := HL.out; have := HL2.out; rw [HT.out]; omega), HU1.out⟩
          case measure => simp [intOf]; omega
      · obtain rfl : k = xs.length := by omega
        have HU := Lib.hid hU
        have HZ := Lib.hid (show l + (xs.length + totS (xs.map Nd.lb)) = left by have := HL.out; rw [List.take_length] at this; omega)
        clear hU HL
        go_wp2_with fail
        go_ret
        exact ⟨⟨l, rfl, Or.inr ⟨hl0, HZ.out⟩⟩, HU.out⟩

set_option maxRecDepth 20000 in
set_option maxHeartbeats 400000 in
theorem toNode (a b : Int) (c : List UInt8) (d : Bool) (w : World) : Calls Tryz.prog 17 #[.agg #[ei a, ei b, es c, .bool d]] w fun e w' => e = .returned (.agg #[ei a, ei b, es c, .bool d]) ∧ Upd [] w w' := by
  go_enter Tryz.func17, Tryz.ntmps17
  go_wp2
  refine bodyPost_ret (v := .agg #[ei a, ei b, es c, .bool d]) (by simp [results, Tryz.results17, go_sem]) rfl ⟨rfl, ?_⟩
  exact (((Upd.refl _ _).alloc _).alloc _).alloc _

set_option maxRecDepth 20000 in
set_option maxHeartbeats 800000 in
theorem eqNode (a b : Int) (c : List UInt8) (d : Bool) (w : World) : Calls Tryz.prog 23 #[.agg #[ei a, ei b, es c, .bool d], .agg #[ei a, ei b, es c, .bool d]] w fun e w' => e = .returned (.bool true) ∧ Upd [] w w' := by
  have h1 : (a != a) = false := by simp
  have h2 : (b != b) = false := by simp
  have h3 : (c != c) = false := by simp
  have h3' : (c == c) = true := by simp
  have h4 : (d != d) = false := by simp
  have h4' : (d == d) = true := by simp
  go_enter Tryz.func23, Tryz.ntmps23
  go_wp2
  go_ret
  exact ⟨rfl, ((Upd.refl _ _).alloc _).alloc _⟩

set_option maxRecDepth 20000 in
set_option maxHeartbeats 800000 in
theorem eq_F1 (v1 v2 : Value) (xs : List Nd) (w : World) (f1 f2 : List Nat) (h1 : R_F1 f1 w [v1] xs) (h2 : R_F1 f2 w [v2] xs) :
    Calls Tryz.prog 9 #[v1, v2] w fun e w' => e = .returned (.bool true) ∧ Upd [] w w' := by
  obtain ⟨a1, c1, rfl, hl1, hm1, hc1⟩ := slF4_open h1
  obtain ⟨a2, c2, rfl, hl2, hm2, hc2⟩ := slF4_open h2
  unfold maxLen at hm1 hm2
  have HC1 := Lib.hid hc1
  have HC2 := Lib.hid hc2
  have hbe : ((xs.length : Int) != (xs.length : Int)) = false := by simp
  clear h1 h2 hc1 hc2
  go_enter Tryz.func9, Tryz.ntmps9
  go_wp2
  go_loopw [5] (fun i wr => ∃ k : Nat, k ≤ xs.length ∧ i = .int .i64 k ∧ Upd [] w wr) (fun i _ => xs.length - (intOf i).toNat)
  case atStart => exact ⟨0, Nat.zero_le _, rfl, Upd.refl _ _⟩
  case round =>
    obtain ⟨k, hk, rfl, hU⟩ := hrel
    by_cases hlt : k < xs.length
    · obtain ⟨b1, o1, rfl, -, hb1, p1, p2, p3, p4⟩ := HC1.out k hlt
      obtain ⟨b2, o2, rfl, -, hb2, p5, p6, p7, p8⟩ := HC2.out k hlt
      have q1 := hU.keep p1
      have q2 := hU.keep p2
      have q3 := hU.keep p3
      have q4 := hU.keep p4
      have q5 := hU.keep p5
      have q6 := hU.keep p6
      have q7 := hU.keep p7
      have q8 := hU.keep p8
      have HU := Lib.hid hU
      clear p1 p2 p3 p4 p5 p6 p7 p8 hU
      generalize xs[k] = x at *
      obtain ⟨x1, x2, x3, x4⟩ := x
      simp only at q1 q2 q3 q4 q5 q6 q7 q8
      have S1 := Lib.hid (fun W => eqNode x1 x2 x3 x4 W)
      go_wp2
      go_region_held3 (fun w' => w'.cell? ⟨b1, o1 + k * 4, none⟩ = some (ei x1) ∧ w'.cell? ⟨b1, o1 + k * 4 + 1, none⟩ = some (ei x2) ∧ w'.cell? ⟨b1, o1 + k * 4 + 2, none⟩ = some (es x3) ∧ w'.cell? ⟨b1, o1 + k * 4 + 3, none⟩ = some (.bool x4) ∧ w'.cell? ⟨b2, o2 + k * 4, none⟩ = some (ei x1) ∧ w'.cell? ⟨b2, o2 + k * 4 + 1, none⟩ = some (ei x2) ∧ w'.cell? ⟨b2, o2 + k * 4 + 2, none⟩ = some (es x3) ∧ w'.cell? ⟨b2, o2 + k * 4 + 3, none⟩ = some (.bool x4)) (go_keep) (((with_reducible refine (S1.out _).mono ?_); rintro e w1 ⟨rfl, hu1⟩; have t1 := hu1.keep q1; have t2 := hu1.keep q2; have t3 := hu1.keep q3; have t4 := hu1.keep q4; have t5 := hu1.keep q5; have t6 := hu1.keep q6; have t7 := hu1.keep q7; have t8 := hu1.keep q8))
      have HU1 := Lib.hid (HU.out.drew.trans hu1)
      clear hu1 HU
      go_wp2_with fail
      go_roundw
      case rel => exact ⟨k + 1, by omega, by go_num, HU1.out⟩
      case measure => simp [intOf]; omega
    · have hge : xs.length ≤ k := by omega
      go_wp2
      go_ret
      exact ⟨rfl, hU⟩

theorem fillF_set (xs : List Nd) (k : Nat) (hk : k < xs.length) : (xs.take k ++ List.replicate (xs.length - k) nd0).set k xs[k] = xs.take (k + 1) ++ List.replicate (xs.length - (k + 1)) nd0 := by
  have hl : (xs.take k).length = k := by simp; omega
  rw [List.set_append_right _ _ (by omega), hl, Nat.sub_self, show xs.length - k = (xs.length - (k + 1)) + 1 from by omega, List.replicate_succ, List.set_cons_zero, List.take_succ_eq_append_getElem hk, List.append_assoc, List.singleton_append]

set_option maxRecDepth 20000 in
set_option maxHeartbeats 800000 in
theorem to_F1 (v : Value) (xs : List Nd) (w : World) (fp : List Nat) (hl : szF_F1 xs ≤ 1048576) (hR : R_F1 fp w [v] xs) :
    Calls Tryz.prog 7 #[v] w fun e w' => (∃ v', e = .returned v' ∧ New R_F1 w w' v' xs) ∧ Upd [] w w' := by
  obtain ⟨i0, hi, hz0, hz1, hz2⟩ := info_parts Tryz.infoNd
  obtain ⟨a, cap, rfl, h1, h2, hc⟩ := slF4_open hR
  unfold maxLen at h2
  have htt := totS_nonneg (xs.map Nd.lb)
  unfold szF_F1 at hl
  clear hR
  have hm1 : i0.bytes * xs.length ≤ 281474976710656 := by rw [hz2]; omega
  go_enter Tryz.func7, Tryz.ntmps7
  go_wp2_with (first
    | (at_make; refine wpList_make_full _ rfl _ _ 25 rfl w.heap.size 37 i0 (.agg #[.int .i64 0, .int .i64 0, .string ⟨#[]⟩, .bool false]) 4 Tryz.underlying25 hi hz0 hz1 .i64 .i64 _ _ xs.length rfl rfl rfl rfl hm1 (by unfold maxLen; omega) (Nat.le_refl _) ?_; intro w1 hown hgrow)
    | fail)
  rw [made_four] at hown
  obtain ⟨fo, hT, hO, hb0⟩ := New.ofOwns4 (w := w) (e := 37) (xs := List.replicate xs.length nd0) (e1 := fun t => ei t.kd) (e2 := fun t => ei t.vr) (e3 := fun t => es t.lb) (e4 := fun t => .bool t.nt) (by
    have e : ((List.replicate xs.length ()).flatMap fun _ => [Value.int .i64 0, Value.int .i64 0, Value.string ⟨#[]⟩, Value.bool false]) = (List.replicate xs.length nd0).flatMap fun t => [ei t.kd, ei t.vr, es t.lb, .bool t.nt] := by
      generalize xs.length = n
      induction n with
      | zero => rfl
      | succ n ih => simp only [List.replicate_succ, List.flatMap_cons, ih]; rfl
    rw [← e]; simpa using hown)
  have hU : Upd [] w w1 := (Upd.refl _ _).grown hgrow (by simp)
  have HB := Lib.hid hb0
  clear hgrow hm1 hown hb0
  go_loopw [4] (fun i wr => ∃ k : Nat, k ≤ xs.length ∧ i = .int .i64 k ∧ Upd [] w wr ∧ Own fo wr ∧
      R_F1 fo wr [.slice (some ⟨w.heap.size, 0, none⟩) xs.length xs.length] (xs.take k ++ List.replicate (xs.length - k) nd0))
    (fun i _ => xs.length - (intOf i).toNat)
  case atStart => exact ⟨0, Nat.zero_le _, rfl, hU, hO, by simpa using hT⟩
  case round =>
    clear hT hO hU
    obtain ⟨k, hk, rfl, hU, hO, hT⟩ := hrel
    have hlen : (xs.take k ++ List.replicate (xs.length - k) nd0).length = xs.length := by simp; omega
    by_cases hlt : k < xs.length
    · obtain ⟨b, off, rfl, -, hb, p1, p2, p3, p4⟩ := hc k hlt
      have q1 := hU.keep p1
      have q2 := hU.keep p2
      have q3 := hU.keep p3
      have q4 := hU.keep p4
      have HF2 := Lib.hid (fillF_set xs k hlt)
      have HLEN := Lib.hid hlen
      have HT := Lib.hid (And.intro hT (And.intro hO hU))
      have S1 := Lib.hid (toNode xs[k].kd xs[k].vr xs[k].lb xs[k].nt wr)
      clear p1 p2 p3 p4 hc hlen hT hO hU
      go_wp2_with fail
      refine S1.out.mono ?_
      rintro e w2 ⟨rfl, hu2⟩
      have hT2 := R_F1k.upd HT.out.1 hu2 (by simp)
      have hO2 := HT.out.2.1.upd hu2 (by simp)
      have HU2 := Lib.hid (HT.out.2.2.trans hu2)
      obtain ⟨a', cap', hv, -, -, hcell⟩ := slF4_open hT2
      obtain ⟨b', off', rfl, hfo, hb', r1, r2, r3, r4⟩ := hcell k (by rw [HLEN.out]; exact hlt)
      simp only [Value.slice.injEq, Option.some.injEq, Addr.mk.injEq, and_true] at hv
      obtain ⟨⟨rfl, rfl⟩, -, rfl⟩ := hv
      rw [Nat.zero_add] at r1 r2 r3 r4
      have hfr1 : w2.frozen? ⟨w.heap.size, k * 4, none⟩ = false := hO2.frozen (by rw [hfo]; simp) _
      have hfr2 : w2.frozen? ⟨w.heap.size, k * 4 + 1, none⟩ = false := hO2.frozen (by rw [hfo]; simp) _
      have hfr3 : w2.frozen? ⟨w.heap.size, k * 4 + 2, none⟩ = false := hO2.frozen (by rw [hfo]; simp) _
      have hfr4 : w2.frozen? ⟨w.heap.size, k * 4 + 3, none⟩ = false := hO2.frozen (by rw [hfo]; simp) _
      have hset := slF4_set (b := w.heap.size) (off := 0) (cap := xs.length) (by rw [HLEN.out]; exact hT2) k (by rw [HLEN.out]; exact hlt) xs[k]
      rw [HLEN.out, HF2.out, Nat.zero_add] at hset
      have HS := Lib.hid (And.intro hset ((((hO2.setCell ⟨w.heap.size, k * 4, none⟩ (ei xs[k].kd)).setCell ⟨w.heap.size, k * 4 + 1, none⟩ (ei xs[k].vr)).setCell ⟨w.heap.size, k * 4 + 2, none⟩ (es xs[k].lb)).setCell ⟨w.heap.size, k * 4 + 3, none⟩ (.bool xs[k].nt)))
      generalize (List.take k xs ++ List.replicate (xs.length - k) nd0)[k]'_ = el at r1 r2 r3 r4
      clear hset hT2 hO2 hu2 hcell hfo q1 q2 q3 q4 HF2 HLEN HT S1
      go_wp2_with fail
      go_roundw
      case rel => exact ⟨k + 1, by omega, by go_num, (((HU2.out.setCell (Or.inl (Nat.le_refl _)) _).setCell (Or.inl (Nat.le_refl _)) _).setCell (Or.inl (Nat.le_refl _)) _).setCell (Or.inl (Nat.le_refl _)) _, HS.out.2, HS.out.1⟩
      case measure => simp [intOf]; omega
    · obtain rfl : k = xs.length := by omega
      clear hc
      go_wp2
      go_ret
      exact ⟨⟨_, rfl, fo, by simpa using hT, hO, HB.out⟩, hU⟩

end Go.Proofs.YthoacpecfmfeiaaGreatDoor

/-
  Nodes marked and found marked by the laws' helper functions.
-/
namespace Go.Proofs.YthoacpecfmfeiaaGreatDoor
open Go.RowKit Go.ChangeShapes

/-- the node that marks the number k. -/
def mkNd (k : Int) : Nd := ⟨k, k + 1, mtx (k + 1 + 1), (k + 1 + 1 + 1) % 3 == 0⟩
def upN (k : Int) : Nat → List Nd
  | 0 => []
  | n + 1 => mkNd k :: upN (k + 4) n
@[simp] theorem upN_length (k : Int) (n : Nat) : (upN k n).length = n := by
  induction n generalizing k with
  | zero => rfl
  | succ n ih => simp [upN, ih]
theorem upN_snoc (k : Int) (n : Nat) : upN k (n + 1) = upN k n ++ [mkNd (k + 4 * n)] := by
  induction n generalizing k with
  | zero => simp [upN]
  | succ n ih =>
    rw [upN, ih (k + 4)]
    simp only [upN, List.cons_append, List.cons.injEq, List.append_cancel_left_eq, true_and, and_true]
    congr 1; omega
theorem upN_get (k : Int) (n i : Nat) (h : i < n) : (upN k n)[i]'(by simpa using h) = mkNd (k + 4 * i) := by
  induction n generalizing k i with
  | zero => omega
  | succ n ih =>
    cases i with
    | zero => simp [upN]
    | succ i => simp only [upN, List.getElem_cons_succ]; rw [ih _ _ (by omega)]; congr 1; omega
theorem upN_set (xs : List Nd) (k0 : Int) (k : Nat) (hk : k < xs.length) :
    (upN k0 k ++ xs.drop k).set k (mkNd (k0 + 4 * k)) = upN k0 (k + 1) ++ xs.drop (k + 1) := by
  rw [List.set_append_right _ _ (by simp), upN_length, Nat.sub_self, List.drop_eq_getElem_cons hk, List.set_cons_zero, upN_snoc]
  simp

set_option maxRecDepth 20000 in
set_option maxHeartbeats 2000000 in
theorem mark_F1 (v : Value) (xs : List Nd) (k0 : Int) (w : World) (fp : List Nat) (hk0 : 0 ≤ k0) (hk1 : k0 + mkF_F1 xs ≤ 4611686018427387904) (hR : R_F1 fp w [v] xs) (hO : Own fp w) :
    Calls Tryz.prog 12 #[v, .int .i64 k0] w fun e w' => e = .returned (.int .i64 (k0 + mkF_F1 xs)) ∧ R_F1 fp w' [v] (upN k0 xs.length) ∧ Own fp w' ∧ Upd fp w w' := by
  obtain ⟨a, cap, rfl, h1, h2, -⟩ := slF4_open hR
  unfold maxLen at h2
  unfold mkF_F1 at hk1 ⊢
  go_enter Tryz.func12, Tryz.ntmps12
  go_wp2
  go_loopw [1, 5] (fun kk i wr => ∃ k : Nat, k ≤ xs.length ∧ i = .int .i64 k ∧ kk = .int .i64 (k0 + 4 * k) ∧ Upd fp w wr ∧ Own fp wr ∧
      R_F1 fp wr [.slice a xs.length cap] (upN k0 k ++ xs.drop k))
    (fun _ i _ => xs.length - (intOf i).toNat)
  case atStart => exact ⟨0, Nat.zero_le _, rfl, by simp, Upd.refl _ _, hO, by simpa [upN] using hR⟩
  case round =>
    clear hR hO
    obtain ⟨wo, rfl⟩ : ∃ wo : World, wo = wr := ⟨_, rfl⟩
    obtain ⟨k, hk, rfl, rfl, hU, hO, hT⟩ := hrel
    have hlen : (upN k0 k ++ xs.drop k).length = xs.length := by simp; omega
    by_cases hlt : k < xs.length
    · obtain ⟨a', cap', hv, -, -, hcell⟩ := slF4_open hT
      obtain ⟨b, off, rfl, hfo, hb', r1, r2, r3, r4⟩ := hcell k (by omega)
      simp only [Value.slice.injEq] at hv
      obtain ⟨rfl, -, rfl⟩ := hv
      have hin : b ∈ fp := by rw [hfo]; simp
      have hfr1 : wo.frozen? ⟨b, off + k * 4, none⟩ = false := hO.frozen hin _
      have hfr2 : wo.frozen? ⟨b, off + k * 4 + 1, none⟩ = false := hO.frozen hin _
      obtain ⟨v', hv', hF⟩ := hT
      cases hv'
      rw [hlen] at hF
      have g1 := hF.set (j := k * 4) (by omega) (ei (k0 + 4 * k))
      have g2 := g1.set (j := k * 4 + 1) (by omega) (ei (k0 + 4 * k + 1))
      have HSET := Lib.hid (upN_set xs k0 k hlt)
      obtain ⟨wa, hwa⟩ : ∃ wa, wa = (wo.setCell ⟨b, off + k * 4, none⟩ (ei (k0 + 4 * k))).setCell ⟨b, off + k * 4 + 1, none⟩ (ei (k0 + 4 * k + 1)) := ⟨_, rfl⟩
      have S1 := Lib.hid (markText (k0 + 4 * k + 1 + 1) wa (by omega) (by omega))
      have HUa := Lib.hid (show Upd fp w wa by rw [hwa]; exact (hU.setCell (Or.inr hin) _).setCell (Or.inr hin) _)
      have HOa := Lib.hid (show Own fp wa by rw [hwa]; exact (hO.setCell _ _).setCell _ _)
      rw [← Nat.add_assoc, ← hwa] at g2
      have HF2 := Lib.hid g2
      have k3 : wa.cell? ⟨b, off + k * 4 + 2, none⟩ = some (es ((upN k0 k ++ xs.drop k)[k]'(by omega)).lb) := by
        rw [hwa, World.cell?_setCell_other _ _ _ _ (by simp), World.cell?_setCell_other _ _ _ _ (by simp)]; exact r3
      have k4 : wa.cell? ⟨b, off + k * 4 + 3, none⟩ = some (.bool ((upN k0 k ++ xs.drop k)[k]'(by omega)).nt) := by
        rw [hwa, World.cell?_setCell_other _ _ _ _ (by simp), World.cell?_setCell_other _ _ _ _ (by simp)]; exact r4
      have HLEN := Lib.hid hlen
      generalize ((upN k0 k ++ xs.drop k)[k]'_) = el at r1 r2 r3 r4 k3 k4
      clear hF g1 g2 hcell hO hU hlen
      go_wp2_with fail
      have hwb : (wo.setCell ⟨b, off + k * 4, none⟩ (.int .i64 (k0 + 4 * k))).setCell ⟨b, off + k * 4 + 1, none⟩ (.int .i64 (k0 + 4 * k + 1)) = wa := hwa.symm
      rw [hwb]
      clear hwa hwb r1 r2 r3 r4 hfr1 hfr2
      refine S1.out.mono ?_
      rintro e w1 ⟨rfl, hu1⟩
      have m3 := hu1.keep k3
      have m4 := hu1.keep k4
      have hO1 := HOa.out.upd hu1 (by simp)
      have hfr3 : w1.frozen? ⟨b, off + k * 4 + 2, none⟩ = false := hO1.frozen hin _
      have hfr4 : w1.frozen? ⟨b, off + k * 4 + 3, none⟩ = false := hO1.frozen hin _
      have g2 := Flat.upd HF2.out hu1 (by simp)
      have g3 := g2.set (j := k * 4 + 2) (by omega) (es (mtx (k0 + 4 * k + 1 + 1)))
      have g4 := g3.set (j := k * 4 + 3) (by omega) (.bool ((k0 + 4 * (k : Int) + 1 + 1 + 1) % 3 == 0))
      have hfs := flatMap_four_set (fun t : Nd => ei t.kd) (fun t => ei t.vr) (fun t => es t.lb) (fun t => Value.bool t.nt) (upN k0 k ++ xs.drop k) k (by rw [HLEN.out]; exact hlt) (mkNd (k0 + 4 * k))
      have hfin : (((((upN k0 k ++ xs.drop k).flatMap fun t => [ei t.kd, ei t.vr, es t.lb, .bool t.nt]).set (k * 4) (ei (k0 + 4 * k))).set (k * 4 + 1) (ei (k0 + 4 * k + 1))).set (k * 4 + 2) (es (mtx (k0 + 4 * k + 1 + 1)))).set (k * 4 + 3) (.bool ((k0 + 4 * (k : Int) + 1 + 1 + 1) % 3 == 0)) = (upN k0 (k + 1) ++ xs.drop (k + 1)).flatMap fun t => [ei t.kd, ei t.vr, es t.lb, .bool t.nt] := by
        rw [← HSET.out]; exact hfs
      rw [hfin] at g4
      have HT2 := Lib.hid (show R_F1 fp ((w1.setCell ⟨b, off + k * 4 + 2, none⟩ (es (mtx (k0 + 4 * k + 1 + 1)))).setCell ⟨b, off + k * 4 + 3, none⟩ (.bool ((k0 + 4 * (k : Int) + 1 + 1 + 1) % 3 == 0))) [.slice (some ⟨b, off, none⟩) xs.length cap] (upN k0 (k + 1) ++ xs.drop (k + 1)) from by
        refine ⟨_, rfl, ?_⟩
        have e : (upN k0 (k + 1) ++ xs.drop (k + 1)).length = xs.length := by simp; omega
        rw [e]
        simpa only [Nat.add_assoc] using g4)
      have HO2 := Lib.hid ((hO1.setCell ⟨b, off + k * 4 + 2, none⟩ (es (mtx (k0 + 4 * k + 1 + 1)))).setCell ⟨b, off + k * 4 + 3, none⟩ (.bool ((k0 + 4 * (k : Int) + 1 + 1 + 1) % 3 == 0)))
      have HU2 := Lib.hid (((HUa.out.trans (hu1.mono (by simp))).setCell (p := ⟨b, off + k * 4 + 2, none⟩) (Or.inr hin) (es (mtx (k0 + 4 * k + 1 + 1)))).setCell (p := ⟨b, off + k * 4 + 3, none⟩) (Or.inr hin) (.bool ((k0 + 4 * (k : Int) + 1 + 1 + 1) % 3 == 0)))
      generalize mtx (k0 + 4 * k + 1 + 1) = T at *
      clear S1 HUa HOa HF2 k3 k4 hu1 hO1 g2 g3 g4 hfs hfin HSET
      go_wp2_with fail
      go_roundw
      case rel => exact ⟨k + 1, by omega, by go_num, by go_num, HU2.out, HO2.out, HT2.out⟩
      case measure => simp [intOf]; omega
    · obtain rfl : k = xs.length := by omega
      go_wp2_with fail
      go_ret
      refine ⟨rfl, by simpa using hT, hO, hU⟩

set_option maxRecDepth 20000 in
set_option maxHeartbeats 2000000 in
theorem held_F1 (v : Value) (xs : List Nd) (k0 : Int) (w : World) (fp : List Nat) (hk0 : 0 ≤ k0) (hk1 : k0 + mkF_F1 xs ≤ 4611686018427387904) (hR : R_F1 fp w [v] (upN k0 xs.length)) :
    Calls Tryz.prog 13 #[v, .int .i64 k0] w fun e w' => e = .returned (.int .i64 (k0 + mkF_F1 xs)) ∧ Upd [] w w' := by
  obtain ⟨a, cap, rfl, h1, h2, hc⟩ := slF4_open hR
  simp only [upN_length] at *
  unfold maxLen at h2
  unfold mkF_F1 at hk1 ⊢
  have HC := Lib.hid hc
  clear hR hc
  generalize xs.length = n at *
  go_enter Tryz.func13, Tryz.ntmps13
  go_wp2
  go_loopw [1, 5] (fun kk i wr => ∃ k : Nat, k ≤ n ∧ i = .int .i64 k ∧ kk = .int .i64 (k0 + 4 * k) ∧ Hid (Upd [] w wr)) (fun _ i _ => n - (intOf i).toNat)
  case atStart => exact ⟨0, Nat.zero_le _, rfl, by simp, Lib.hid (Upd.refl _ _)⟩
  case round =>
    obtain ⟨wo, rfl⟩ : ∃ wo : World, wo = wr := ⟨_, rfl⟩
    obtain ⟨k, hk, rfl, rfl, HU⟩ := hrel
    by_cases hlt : k < n
    · obtain ⟨b, off, rfl, -, hb, p1, p2, p3, p4⟩ := HC.out k hlt
      rw [upN_get k0 n k hlt] at p1 p2 p3 p4
      unfold mkNd at p1 p2 p3 p4
      simp only at p1 p2 p3 p4
      have q1 := HU.out.keep p1
      have q2 := HU.out.keep p2
      have q3 := HU.out.keep p3
      have q4 := HU.out.keep p4
      have S1 := Lib.hid (fun W : World => markText (k0 + 4 * k + 1 + 1) W (by omega) (by omega))
      have hne : ((k0 + 4 * (k : Int)) != (k0 + 4 * (k : Int))) = false := by simp
      have hne2 : ((k0 + 4 * (k : Int) + 1) != (k0 + 4 * (k : Int) + 1)) = false := by simp
      generalize mtx (k0 + 4 * k + 1 + 1) = T at *
      have hne3 : (T != T) = false := by simp
      have hne3' : (T == T) = true := by simp
      obtain ⟨z, hz⟩ : ∃ z, k0 + 4 * (k : Int) + 1 + 1 + 1 = z := ⟨_, rfl⟩
      have hne4 : ((z % 3 == 0) != (z % 3 == 0)) = false := by simp
      rw [hz] at q4
      have HZ := Lib.hid hz
      clear p1 p2 p3 p4
      go_upto_region 10 with (fail)
      go_region_held3 (fun w' => w'.cell? ⟨b, off + k * 4 + 2, none⟩ = some (es T)) (go_keep) (((with_reducible refine (S1.out _).mono ?_); rintro e w1 ⟨rfl, hu1⟩; have t3 := hu1.keep q3))
      have HU1 := Lib.hid (HU.out.drew.trans hu1)
      have t4 := (HU.out.drew.trans hu1)
      have u4 := hu1.keep (show wo.drew.cell? ⟨b, off + k * 4 + 3, none⟩ = some (.bool (z % 3 == 0)) from q4)
      clear hu1 HU S1 q1 q2 q3 q4 t3 t4
      go_wp2_with fail
      go_roundw
      case rel => exact ⟨k + 1, by omega, by go_num, by go_num, HU1⟩
      case measure => simp [intOf]; omega
    · obtain rfl : k = n := by omega
      go_wp2_with fail
      go_ret
      exact ⟨rfl, HU.out⟩

end Go.Proofs.YthoacpecfmfeiaaGreatDoor

/-
  Expressions as trees: how a tree lies in memory; the terms of a tree in order; a valid list of terms is one tree's.
-/
namespace Go.Proofs.YthoacpecfmfeiaaGreatDoor
open Go.RowKit

inductive Ex where
  | mk (t : Tm) (args : List Ex)

mutual
def RE : Ex → List Nat → World → List Value → Prop
  | .mk t args, fp, w, cs => ∃ b s fa us fb fps, cs = [.pointer (some ⟨b, 0, none⟩)] ∧ fp = b :: fa ∧ w.cell? ⟨b, 0, none⟩ = some (ei t.1) ∧ w.cell? ⟨b, 1, none⟩ = some (ei t.2) ∧ w.cell? ⟨b, 2, none⟩ = some s ∧
      Flat fb w s 1 args.length us ∧ List.length fps = args.length ∧ fa = fb ++ List.flatten fps ∧ REs args fps w us
def REs : List Ex → List (List Nat) → World → List Value → Prop
  | [], _, _, _ => True
  | x :: xs, fps, w, us => ∃ f fs u vs, fps = f :: fs ∧ us = u :: vs ∧ RE x f w [u] ∧ REs xs fs w vs
end

mutual
def flatE : Ex → List Tm
  | .mk t args => t :: flatEs args
def flatEs : List Ex → List Tm
  | [] => []
  | x :: xs => flatE x ++ flatEs xs
end

mutual
def okE : Ex → Bool
  | .mk t args => decide ((args.length : Int) = arity t) && okEs args
def okEs : List Ex → Bool
  | [] => true
  | x :: xs => okE x && okEs xs
end

abbrev R_E : Rp Ex := fun fp w cs x => RE x fp w cs

theorem REs_get : ∀ (xs : List Ex) (fps : List (List Nat)) (w : World) (us : List Value), REs xs fps w us → ∀ i (h : i < xs.length) u (f : List Nat), us[i]? = some u → fps[i]? = some f → RE xs[i] f w [u]
  | [], _, _, _, _, i, h, _, _, _, _ => by simp at h
  | x :: xs, fps, w, us, hr, i, h, u, f, hu, hf => by
    obtain ⟨f0, fs, u0, vs, rfl, rfl, h1, h2⟩ := hr
    cases i with
    | zero => simp at hu hf; subst hu hf; exact h1
    | succ i => exact REs_get xs fs w vs h2 i (by simpa using h) u f (by simpa using hu) (by simpa using hf)

theorem REs_mk : ∀ (xs : List Ex) (fps : List (List Nat)) (w : World) (us : List Value), fps.length = xs.length → us.length = xs.length →
    (∀ i (h : i < xs.length) u (f : List Nat), us[i]? = some u → fps[i]? = some f → RE xs[i] f w [u]) → REs xs fps w us
  | [], _, _, _, _, _, _ => trivial
  | x :: xs, fps, w, us, h1, h2, h => by
    match fps, us, h1, h2 with
    | f :: fs, u :: vs, h1, h2 =>
      exact ⟨f, fs, u, vs, rfl, rfl, h 0 (by simp) u f rfl rfl, REs_mk xs fs w vs (by simpa using h1) (by simpa using h2) (fun i hi u' f' hu hf => h (i + 1) (by simpa using hi) u' f' (by simpa using hu) (by simpa using hf))⟩

theorem R_E_open {fp : List Nat} {w : World} {v : Value} {t : Tm} {args : List Ex} (h : R_E fp w [v] (.mk t args)) :
    ∃ b s fa, v = .pointer (some ⟨b, 0, none⟩) ∧ fp = b :: fa ∧ w.cell? ⟨b, 0, none⟩ = some (ei t.1) ∧ w.cell? ⟨b, 1, none⟩ = some (ei t.2) ∧ w.cell? ⟨b, 2, none⟩ = some s ∧ slP R_E fa w [s] args := by
  simp only [R_E, RE] at h
  obtain ⟨b, s, fa, us, fb, fps, hv, rfl, h1, h2, h3, h4, h5, rfl, h6⟩ := h
  simp at hv
  exact ⟨b, s, _, hv, rfl, h1, h2, h3, s, us, fb, fps, rfl, h4, h5, rfl, REs_get _ _ _ _ h6⟩

theorem R_E_mk {w : World} {t : Tm} {args : List Ex} {b : Nat} {s : Value} {fa : List Nat} (h1 : w.cell? ⟨b, 0, none⟩ = some (ei t.1)) (h2 : w.cell? ⟨b, 1, none⟩ = some (ei t.2)) (h3 : w.cell? ⟨b, 2, none⟩ = some s)
    (h : slP R_E fa w [s] args) : R_E (b :: fa) w [.pointer (some ⟨b, 0, none⟩)] (.mk t args) := by
  obtain ⟨v, us, fb, fps, hv, h4, h5, rfl, h6⟩ := h
  cases hv
  have hl : us.length = args.length := by obtain ⟨_, _, _, _, _, h, _⟩ := h4; simpa using h
  simp only [R_E, RE]
  exact ⟨b, s, _, us, fb, fps, rfl, rfl, h1, h2, h3, h4, h5, rfl, REs_mk _ _ _ _ h5 hl h6⟩

theorem R_E_form {fp : List Nat} {w : World} {v : Value} {x : Ex} (h : R_E fp w [v] x) : ∃ b, v = .pointer (some ⟨b, 0, none⟩) := by
  obtain ⟨t, args⟩ := x
  obtain ⟨b, -, -, rfl, -⟩ := R_E_open h
  exact ⟨b, rfl⟩

mutual
theorem RE_lt : ∀ (x : Ex) (fp : List Nat) (w : World) (cs : List Value), RE x fp w cs → ∀ b ∈ fp, b < w.heap.size
  | .mk t args, fp, w, cs, h, b, hb => by
    simp only [RE] at h
    obtain ⟨b0, s, fa, us, fb, fps, -, rfl, h1, -, -, h4, h5, rfl, h6⟩ := h
    rcases List.mem_cons.1 hb with rfl | hb
    · exact World.block_lt_of_cell? w _ h1
    · rcases List.mem_append.1 hb with hb | hb
      · exact h4.lt b hb
      · exact REs_lt args fps w us h5 h6 b hb
theorem REs_lt : ∀ (xs : List Ex) (fps : List (List Nat)) (w : World) (us : List Value), fps.length = xs.length → REs xs fps w us → ∀ b ∈ fps.flatten, b < w.heap.size
  | [], fps, _, _, h, _, b, hb => by simp at h; subst h; simp at hb
  | x :: xs, fps, w, us, hl, h, b, hb => by
    simp only [REs] at h
    obtain ⟨f, fs, u, vs, rfl, rfl, h1, h2⟩ := h
    rw [List.flatten_cons] at hb
    rcases List.mem_append.1 hb with hb | hb
    · exact RE_lt x f w [u] h1 b hb
    · exact REs_lt xs fs w vs (by simpa using hl) h2 b hb
end

mutual
theorem RE_frame : ∀ (x : Ex) (fp : List Nat) (w w' : World) (cs : List Value), RE x fp w cs → w.heap.size ≤ w'.heap.size → (∀ b ∈ fp, w'.heap[b]? = w.heap[b]?) → RE x fp w' cs
  | .mk t args, fp, w, w', cs, h, hs, hb => by
    simp only [RE] at h ⊢
    obtain ⟨b0, s, fa, us, fb, fps, rfl, rfl, h1, h2, h3, h4, h5, rfl, h6⟩ := h
    have hb0 := hb b0 (by simp)
    refine ⟨b0, s, _, us, fb, fps, rfl, rfl, ?_, ?_, ?_, h4.frame hs (fun b h => hb b (by simp [h])), h5, rfl, REs_frame args fps w w' us h6 hs (fun b h => hb b (by simp only [List.mem_cons, List.mem_append]; exact Or.inr (Or.inr h)))⟩
    · rw [World.cell?_of_block (w := w) hb0]; exact h1
    · rw [World.cell?_of_block (w := w) hb0]; exact h2
    · rw [World.cell?_of_block (w := w) hb0]; exact h3
theorem REs_frame : ∀ (xs : List Ex) (fps : List (List Nat)) (w w' : World) (us : List Value), REs xs fps w us → w.heap.size ≤ w'.heap.size → (∀ b ∈ fps.flatten, w'.heap[b]? = w.heap[b]?) → REs xs fps w' us
  | [], _, _, _, _, _, _, _ => trivial
  | x :: xs, fps, w, w', us, h, hs, hb => by
    simp only [REs] at h ⊢
    obtain ⟨f, fs, u, vs, rfl, rfl, h1, h2⟩ := h
    exact ⟨f, fs, u, vs, rfl, rfl, RE_frame x f w w' [u] h1 hs (fun b h => hb b (by rw [List.flatten_cons]; exact List.mem_append_left _ h)), REs_frame xs fs w w' vs h2 hs (fun b h => hb b (by rw [List.flatten_cons]; exact List.mem_append_right _ h))⟩
end

theorem R_Ek : Kept R_E := ⟨fun h => RE_lt _ _ _ _ h, fun h hs hb => RE_frame _ _ _ _ _ h hs hb⟩

theorem flatEs_append (xs ys : List Ex) : flatEs (xs ++ ys) = flatEs xs ++ flatEs ys := by
  induction xs with
  | nil => rfl
  | cons x xs ih => simp [flatEs, ih]
theorem okEs_append (xs ys : List Ex) : okEs (xs ++ ys) = (okEs xs && okEs ys) := by
  induction xs with
  | nil => simp [okEs]
  | cons x xs ih => simp [okEs, ih, Bool.and_assoc]
theorem flatE_pos (x : Ex) : 1 ≤ (flatE x).length := by cases x; simp [flatE]

/-- terms behind which no operand is wanted are the terms of trees. -/
theorem trees_of_run (nv : Int) : ∀ (ts : List Tm) (n : Nat), run nv ts n = some 0 → ∃ xs : List Ex, xs.length = n ∧ okEs xs = true ∧ flatEs xs = ts
  | [], n, h => ⟨[], by simp [run] at h; simp; omega, rfl, rfl⟩
  | t :: ts, n, h => by
    rw [run] at h
    by_cases hn : (n : Int) = 0
    · simp [hn] at h
    · rw [if_neg hn] at h
      by_cases ht : tOk t nv = true
      · rw [if_pos ht] at h
        have hb := arity_bd t
        obtain ⟨m, hm⟩ : ∃ m : Nat, arity t = m := ⟨(arity t).toNat, by omega⟩
        rw [hm, show ((n : Int) + ((m : Int) - 1)) = ((n - 1 + m : Nat) : Int) from by omega] at h
        obtain ⟨xs, h1, h2, h3⟩ := trees_of_run nv ts (n - 1 + m) h
        refine ⟨.mk t (xs.take m) :: xs.drop m, by simp; omega, ?_, ?_⟩
        · have hok : okEs (xs.take m) = true ∧ okEs (xs.drop m) = true := by
            have := h2; rw [← List.take_append_drop m xs, okEs_append, Bool.and_eq_true] at this; exact this
          simp only [okEs, okE, hok.1, hok.2, Bool.and_true, decide_eq_true_eq, hm]
          simp; omega
        · simp only [flatEs, flatE]
          rw [List.cons_append, ← flatEs_append, List.take_append_drop, h3]
      · rw [if_neg ht] at h; cases h

theorem tree_of_ok {e : List Tm} (h : eOk e = true) : ∃ x : Ex, okE x = true ∧ flatE x = e := by
  unfold eOk isE at h
  rw [Bool.and_eq_true] at h
  have h2 : run 29 e ((1 : Nat) : Int) = some 0 := by simpa using h.2
  obtain ⟨xs, h3, h4, h5⟩ := trees_of_run 29 e 1 h2
  match xs, h3 with
  | [x], _ => exact ⟨x, by simpa [okEs] using h4, by simpa [flatEs] using h5⟩

end Go.Proofs.YthoacpecfmfeiaaGreatDoor

/-
  The terms of a tree in order; a tree out of terms: what each call returns and makes.
-/
namespace Go.Proofs.YthoacpecfmfeiaaGreatDoor
open Go.RowKit

abbrev encT (t : Tm) : List Value := [ei t.1, ei t.2]

theorem flatEs_take (xs : List Ex) (k : Nat) (h : k < xs.length) : flatEs (xs.take (k + 1)) = flatEs (xs.take k) ++ flatE xs[k] := by
  rw [List.take_succ_eq_append_getElem h, flatEs_append]; simp [flatEs]
theorem flatEs_take_le (xs : List Ex) (k : Nat) : (flatEs (xs.take k)).length ≤ (flatEs xs).length := by
  conv => rhs; rw [← List.take_append_drop k xs, flatEs_append, List.length_append]
  omega

theorem Below.keepK {α : Type} {R : Rp α} (K : Kept R) {B : Nat} {w w' : World} {fp cs x} (h : R fp w cs x) (hb : Below B w w') (hf : ∀ b ∈ fp, b < B) : R fp w' cs x :=
  K.frame h hb.size fun b hm => hb.block b (hf b hm)

/-- a slice without its first element, whatever address its value bears. -/
theorem slF_tail {α : Type} {n : Nat} {enc : α → List Value} (he : ∀ x, (enc x).length = n) {fp : List Nat} {w : World} {b off len cap : Nat} {x : α} {xs : List α}
    (h : slF n enc fp w [.slice (some ⟨b, off, none⟩) len cap] (x :: xs)) (o' : Nat) (ho : xs ≠ [] → o' = off + n) :
    ∃ fp', slF n enc fp' w [.slice (some ⟨b, o', none⟩) (len - 1) (cap - 1)] xs ∧ (∀ c ∈ fp', c ∈ fp) := by
  obtain ⟨v, hv, a, cap', hv2, h1, h2, h3, h4⟩ := h
  cases hv
  simp only [Value.slice.injEq] at hv2
  obtain ⟨rfl, rfl, rfl⟩ := hv2
  simp only [List.length_cons] at *
  have hl : (xs.flatMap enc).length = xs.length * n := by
    clear h3 h4 ho
    induction xs with
    | nil => simp
    | cons y ys ih => rw [List.flatMap_cons, List.length_append, he, ih (by simp at h1; omega), List.length_cons, Nat.add_mul]; omega
  rcases h4 with ⟨h0, -⟩ | ⟨b', off', hb', rfl, hbl, hc⟩
  · omega
  · simp only [Option.some.injEq, Addr.mk.injEq, and_true] at hb'
    obtain ⟨rfl, rfl⟩ := hb'
    by_cases hx : xs = []
    · subst hx
      exact ⟨[], ⟨_, rfl, some ⟨b, o', none⟩, cap - 1, by simp, by simp, by omega, by simp, Or.inl ⟨rfl, rfl⟩⟩, by simp⟩
    · refine ⟨[b], ⟨_, rfl, _, cap - 1, by simp, by omega, by omega, hl, Or.inr ⟨b, o', rfl, rfl, hbl, fun j u hu => ?_⟩⟩, by simp⟩
      have := hc (n + j) u (by rw [List.flatMap_cons, List.getElem?_append_right (by rw [he]; omega), he, Nat.add_sub_cancel_left]; exact hu)
      rw [ho hx, Nat.add_assoc]; exact this

end Go.Proofs.YthoacpecfmfeiaaGreatDoor

/-
  OperandsOf, both sides.
-/
namespace Go.Proofs.YthoacpecfmfeiaaGreatDoor
open Go.RowKit

abbrev R_T2' : Rp (List (List Tm)) := slP R_T1

noncomputable def treeOf (e : List Tm) (h : eOk e = true) : Ex := Classical.choose (tree_of_ok h)
theorem treeOf_ok (e : List Tm) (h : eOk e = true) : okE (treeOf e h) = true ∧ flatE (treeOf e h) = e := Classical.choose_spec (tree_of_ok h)
def argsOf : Ex → List Ex | .mk _ args => args
def termOf : Ex → Tm | .mk t _ => t
open Classical in
noncomputable def opsRes (e : List Tm) : List (List Tm) × Int := if h : eOk e = true then ((argsOf (treeOf e h)).map flatE, 0) else ([], 1)

theorem eOk_len {e : List Tm} (h : eOk e = true) : 1 ≤ e.length ∧ e.length ≤ 60 := by have := isE_len h; omega

theorem flatE_arg_le (x : Ex) (k : Nat) (h : k < (argsOf x).length) : (flatE (argsOf x)[k]).length ≤ (flatE x).length := by
  obtain ⟨t, args⟩ := x
  simp only [argsOf, flatE, List.length_cons] at *
  have e1 : flatEs args = flatEs (args.take k) ++ (flatE args[k] ++ flatEs (args.drop (k + 1))) := by
    conv => lhs; rw [← List.take_append_drop k args, flatEs_append, List.drop_eq_getElem_cons (show k < args.length from h)]
    rfl
  rw [e1, List.length_append, List.length_append]; omega

theorem slF_sub {α : Type} {n : Nat} {enc : α → List Value} (he : ∀ x, (enc x).length = n) {fp : List Nat} {w : World} {b off len cap : Nat} {xs : List α}
    (h : slF n enc fp w [.slice (some ⟨b, off, none⟩) len cap] xs) (i j : Nat) (hij : i ≤ j) (hj : j ≤ xs.length) :
    ∃ fp', slF n enc fp' w [.slice (some ⟨b, off + i * n, none⟩) (j - i) (cap - i)] ((xs.take j).drop i) ∧ (∀ c ∈ fp', c ∈ fp) := by
  obtain ⟨v, hv, a, cap', hv2, h1, h2, h3, h4⟩ := h
  cases hv
  simp only [Value.slice.injEq] at hv2
  obtain ⟨rfl, rfl, rfl⟩ := hv2
  have hfl : ∀ ys : List α, (ys.flatMap enc).length = ys.length * n := by
    intro ys
    induction ys with
    | nil => simp
    | cons y ys ih => rw [List.flatMap_cons, List.length_append, he, ih, List.length_cons, Nat.add_mul]; omega
  have hlen : ((xs.take j).drop i).length = j - i := by simp; omega
  rcases h4 with ⟨h0, rfl⟩ | ⟨b', off', hb', rfl, hbl, hc⟩
  · have : j = 0 := by omega
    subst this
    obtain rfl : i = 0 := by omega
    exact ⟨[], ⟨_, rfl, some ⟨b, off + 0 * n, none⟩, cap - 0, by simp, by simp, by omega, by simp, Or.inl ⟨by simp, rfl⟩⟩, by simp⟩
  · simp only [Option.some.injEq, Addr.mk.injEq, and_true] at hb'
    obtain ⟨rfl, rfl⟩ := hb'
    refine ⟨[b], ⟨_, rfl, some ⟨b, off + i * n, none⟩, cap - i, by rw [hlen], by omega, by omega, hfl _, Or.inr ⟨b, off + i * n, rfl, rfl, hbl, fun q u hu => ?_⟩⟩, by simp⟩
    have e1 : xs.flatMap enc = (xs.take i).flatMap enc ++ (((xs.take j).drop i).flatMap enc ++ (xs.drop j).flatMap enc) := by
      rw [← List.flatMap_append, ← List.flatMap_append]
      congr 1
      rw [← List.append_assoc]
      conv => lhs; rw [← List.take_append_drop j xs]
      congr 1
      conv => lhs; rw [← List.take_append_drop i (xs.take j)]
      rw [List.take_take, Nat.min_eq_left hij]
    have hti : ((xs.take i).flatMap enc).length = i * n := by rw [hfl]; congr 1; simp; omega
    have hq : q < (((xs.take j).drop i).flatMap enc).length := (List.getElem?_eq_some_iff.1 hu).1
    have := hc (i * n + q) u (by rw [e1, List.getElem?_append_right (by omega), hti, Nat.add_sub_cancel_left, List.getElem?_append_left hq]; exact hu)
    rw [Nat.add_assoc]; exact this

theorem ops_b (e : List Tm) : mkF_T2 (opsRes e).1 ≤ 300 := by
  unfold opsRes
  split
  · rename_i h
    obtain ⟨-, hfl⟩ := treeOf_ok e h
    have hlen := eOk_len h
    generalize treeOf e h = x at *
    obtain ⟨t, args⟩ := x
    simp only [flatE] at hfl
    have h1 : (flatEs args).length ≤ 60 := by have : (flatEs args).length + 1 = e.length := by rw [← hfl]; rfl
                                              omega
    have h2 : ∀ xs : List Ex, mkF_T2 (xs.map flatE) = 2 * (flatEs xs).length := by
      intro xs
      induction xs with
      | nil => rfl
      | cons y ys ih =>
        unfold mkF_T2 at *
        simp only [List.map_cons, List.sum_cons, flatEs, List.length_append, ih, mkF_T1]
        omega
    simp only [argsOf]
    rw [h2]; omega
  · simp [mkF_T2]

end Go.Proofs.YthoacpecfmfeiaaGreatDoor

/-
  Postfix form: the stack of trees, plainly.
-/
namespace Go.Proofs.YthoacpecfmfeiaaGreatDoor

/-- terms in postfix order, onto a stack of trees (its top is the list's end). -/
def pfE : List Tm → List Ex → Option (List Ex)
  | [], st => some st
  | t :: ts, st => if (st.length : Int) < arity t then none else pfE ts (st.take (st.length - (arity t).toNat) ++ [.mk t (st.drop (st.length - (arity t).toNat))])

theorem flatEs_all (P : Tm → Bool) (xs ys : List Ex) : (flatEs (xs ++ ys)).all P = ((flatEs xs).all P && (flatEs ys).all P) := by
  rw [flatEs_append, List.all_append]

theorem pfE_ok : ∀ (ts : List Tm) (st out : List Ex), okEs st = true → pfE ts st = some out → okEs out = true ∧ (∀ P : Tm → Bool, (flatEs out).all P = ((flatEs st).all P && ts.all P)) ∧ (flatEs out).length = (flatEs st).length + ts.length
  | [], st, out, h, hp => by simp [pfE] at hp; subst hp; exact ⟨h, by simp, by simp⟩
  | t :: ts, st, out, h, hp => by
    rw [pfE] at hp
    split at hp
    · cases hp
    · rename_i hlt
      have hb := arity_bd t
      have hst : okEs (st.take (st.length - (arity t).toNat)) = true ∧ okEs (st.drop (st.length - (arity t).toNat)) = true := by
        rw [← List.take_append_drop (st.length - (arity t).toNat) st, okEs_append, Bool.and_eq_true] at h; exact h
      have hfl : flatEs st = flatEs (st.take (st.length - (arity t).toNat)) ++ flatEs (st.drop (st.length - (arity t).toNat)) := by
        rw [← flatEs_append, List.take_append_drop]
      obtain ⟨g1, g2, g3⟩ := pfE_ok ts _ out (by
        rw [okEs_append, hst.1]
        simp only [okEs, okE, hst.2, Bool.and_true, Bool.true_and, decide_eq_true_eq, List.length_drop]
        omega) hp
      refine ⟨g1, fun P => ?_, ?_⟩
      · rw [g2 P, flatEs_all, hfl, List.all_append]
        simp only [flatEs, flatE, List.append_nil, List.all_cons]
        cases (flatEs (List.take (st.length - (arity t).toNat) st)).all P <;> cases (flatEs (List.drop (st.length - (arity t).toNat) st)).all P <;> cases P t <;> cases ts.all P <;> rfl
      · rw [g3, flatEs_append, hfl]
        simp only [flatEs, flatE, List.append_nil, List.length_append, List.length_cons]
        omega

mutual
theorem run_tree (nv : Int) : ∀ (x : Ex) (rest : List Tm) (n : Nat), okE x = true → (flatE x).all (fun t => tOk t nv) = true → run nv (flatE x ++ rest) ((n + 1 : Nat) : Int) = run nv rest n
  | .mk t args, rest, n, h, ha => by
    simp only [okE, Bool.and_eq_true, decide_eq_true_eq] at h
    simp only [flatE, List.all_cons, Bool.and_eq_true] at ha
    rw [flatE, List.cons_append, run, if_neg (by omega), if_pos ha.1, show (((n + 1 : Nat) : Int) + (arity t - 1)) = ((n + args.length : Nat) : Int) from by omega]
    exact run_trees nv args rest n h.2 ha.2
theorem run_trees (nv : Int) : ∀ (xs : List Ex) (rest : List Tm) (n : Nat), okEs xs = true → (flatEs xs).all (fun t => tOk t nv) = true → run nv (flatEs xs ++ rest) ((n + xs.length : Nat) : Int) = run nv rest n
  | [], rest, n, _, _ => by simp [flatEs]
  | x :: xs, rest, n, h, ha => by
    simp only [okEs, Bool.and_eq_true] at h
    simp only [flatEs, List.all_append, Bool.and_eq_true] at ha
    rw [flatEs, List.append_assoc, List.length_cons, show n + (xs.length + 1) = (n + xs.length) + 1 from by omega, run_tree nv x _ _ h.1 ha.1]
    exact run_trees nv xs rest n h.2 ha.2
end

theorem run_all (nv : Int) : ∀ (ts : List Tm) (n : Int), run nv ts n ≠ none → ts.all (fun t => tOk t nv) = true
  | [], _, _ => rfl
  | t :: ts, n, h => by
    rw [run] at h
    split at h
    · exact absurd rfl h
    · split at h
      · rename_i ht
        rw [List.all_cons, ht, run_all nv ts _ h]; rfl
      · exact absurd rfl h

theorem eOk_tree (x : Ex) (h : okE x = true) : eOk (flatE x) = (decide ((flatE x).length ≤ 60) && (flatE x).all (fun t => tOk t 29)) := by
  unfold eOk isE
  cases ha : (flatE x).all (fun t => tOk t 29)
  · have : (run 29 (flatE x) 1 == some 0) = false := by
      cases hr : run 29 (flatE x) 1 with
      | none => rfl
      | some m => have := run_all 29 (flatE x) 1 (by rw [hr]; simp); rw [this] at ha; cases ha
    rw [this]; simp
  · have := run_tree 29 x [] 0 h ha
    simp only [List.append_nil, run] at this
    rw [show ((0 + 1 : Nat) : Int) = 1 from rfl] at this
    rw [this]
    simp only [Int.natCast_zero, beq_self_eq_true, Bool.and_true]
    rw [decide_eq_decide]; omega

end Go.Proofs.YthoacpecfmfeiaaGreatDoor

/-
  Values of trees, and folding, plainly.
-/
namespace Go.Proofs.YthoacpecfmfeiaaGreatDoor

def truthV (b : Bool) : Int := if b then 1 else 0
def opV (op a b : Int) : Int :=
  if op = 0 then (a + b) % 64 else if op = 1 then (a - b + 64) % 64 else if op = 2 then a * b % 64
  else if op = 3 then truthV (a == b) else if op = 4 then truthV (a != b) else if op = 5 then truthV (decide (a < b)) else if op = 6 then truthV (decide (a ≤ b))
  else if op = 7 then truthV (a != 0 && b != 0) else truthV (a != 0 || b != 0)

theorem truthV_bd (b : Bool) : 0 ≤ truthV b ∧ truthV b ≤ 63 := by unfold truthV; split <;> omega
theorem opV_bd (op a b : Int) : 0 ≤ opV op a b ∧ opV op a b ≤ 63 := by
  unfold opV
  repeat' split
  all_goals first | exact truthV_bd _ | (constructor <;> omega)

mutual
def valE (vals : List Int) : Ex → Int
  | .mk t args => if t.1 = 0 then t.2 else if t.1 = 1 then vals.getD t.2.toNat 0 else if t.1 = 3 then truthV ((valEs vals args).getD 0 0 == 0) else opV t.2 ((valEs vals args).getD 0 0) ((valEs vals args).getD 1 0)
def valEs (vals : List Int) : List Ex → List Int
  | [] => []
  | x :: xs => valE vals x :: valEs vals xs
end

def isNum : Ex → Bool | .mk t _ => t.1 == 0
mutual
def foldE : Ex → Ex
  | .mk t args => if args = [] then .mk t args else if (foldEs args).all isNum then .mk (0, valE [] (.mk t (foldEs args))) [] else .mk t (foldEs args)
def foldEs : List Ex → List Ex
  | [] => []
  | x :: xs => foldE x :: foldEs xs
end

theorem foldEs_map (xs : List Ex) : foldEs xs = xs.map foldE := by
  induction xs with
  | nil => rfl
  | cons x xs ih => simp [foldEs, ih]
theorem valEs_map (vals : List Int) (xs : List Ex) : valEs vals xs = xs.map (valE vals) := by
  induction xs with
  | nil => rfl
  | cons x xs ih => simp [valEs, ih]

/-- a tree with valid terms for a number of variables. -/
def goodE (nv : Int) (x : Ex) : Bool := okE x && (flatE x).all (fun t => tOk t nv)
def goodEs (nv : Int) (xs : List Ex) : Bool := okEs xs && (flatEs xs).all (fun t => tOk t nv)

theorem goodEs_cons (nv : Int) (x : Ex) (xs : List Ex) : goodEs nv (x :: xs) = (goodE nv x && goodEs nv xs) := by
  simp only [goodEs, goodE, okEs, flatEs, List.all_append]
  cases okE x <;> cases okEs xs <;> simp
theorem goodEs_all (nv : Int) (xs : List Ex) : goodEs nv xs = xs.all (goodE nv) := by
  induction xs with
  | nil => rfl
  | cons x xs ih => rw [goodEs_cons, ih]; rfl
theorem goodE_mk (nv : Int) (t : Tm) (args : List Ex) : goodE nv (.mk t args) = (decide ((args.length : Int) = arity t) && tOk t nv && goodEs nv args) := by
  simp only [goodE, goodEs, okE, flatE, List.all_cons]
  cases decide ((args.length : Int) = arity t) <;> cases tOk t nv <;> cases okEs args <;> simp

theorem tOk_kind {t : Tm} {nv : Int} (h : tOk t nv = true) : t.1 = 0 ∨ t.1 = 1 ∨ t.1 = 2 ∨ t.1 = 3 := by
  unfold tOk at h
  repeat' split at h
  all_goals first | omega | cases h

theorem arity0 {t : Tm} {nv : Int} (h : tOk t nv = true) (h0 : arity t = 0) : t.1 = 0 ∨ t.1 = 1 := by
  rcases tOk_kind h with h | h | h | h
  · exact Or.inl h
  · exact Or.inr h
  · simp [arity, h] at h0
  · simp [arity, h] at h0

mutual
theorem valE_bd (vals : List Int) (nv : Int) (hv : ∀ k, 0 ≤ vals.getD k 0 ∧ vals.getD k 0 ≤ 63) : ∀ x : Ex, goodE nv x = true → 0 ≤ valE vals x ∧ valE vals x ≤ 63
  | .mk t args, h => by
    rw [goodE_mk] at h
    simp only [Bool.and_eq_true] at h
    rw [valE]
    split
    · rename_i h0
      have := h.1.2
      simp only [tOk, h0, if_true] at this
      exact inB_true this
    · split
      · exact hv _
      · split
        · exact truthV_bd _
        · exact opV_bd _ _ _
end

theorem isNum_good {x : Ex} {nv : Int} (h : goodE nv x = true) (hn : isNum x = true) : ∃ n, x = .mk (0, n) [] ∧ 0 ≤ n ∧ n ≤ 63 := by
  obtain ⟨⟨a, n⟩, args⟩ := x
  simp [isNum] at hn
  subst hn
  rw [goodE_mk] at h
  simp only [Bool.and_eq_true, decide_eq_true_eq] at h
  have ha : args = [] := List.eq_nil_of_length_eq_zero (by have := h.1.1; simp [arity] at this; simpa using this)
  subst ha
  have := h.1.2
  simp only [tOk, if_true] at this
  exact ⟨n, rfl, inB_true this⟩

mutual
theorem foldE_good (nv : Int) : ∀ x : Ex, goodE nv x = true → goodE nv (foldE x) = true
  | .mk t args, h => by
    rw [foldE]
    split
    · exact h
    · have h' := h
      rw [goodE_mk] at h
      simp only [Bool.and_eq_true] at h
      have ih := foldEs_good nv args h.2
      have hx : goodE nv (.mk t (foldEs args)) = true := by
        rw [goodE_mk]; simp only [Bool.and_eq_true]; exact ⟨⟨by rw [foldEs_map, List.length_map]; exact h.1.1, h.1.2⟩, ih⟩
      split
      · have hb := valE_bd [] nv (by intro k; simp) _ hx
        rw [goodE_mk]
        simp only [Bool.and_eq_true]
        exact ⟨⟨by simp [arity], by simp only [tOk, if_true]; exact inB_mk hb⟩, rfl⟩
      · exact hx
theorem foldEs_good (nv : Int) : ∀ xs : List Ex, goodEs nv xs = true → goodEs nv (foldEs xs) = true
  | [], h => h
  | x :: xs, h => by
    rw [goodEs_cons, Bool.and_eq_true] at h
    rw [foldEs, goodEs_cons, Bool.and_eq_true]
    exact ⟨foldE_good nv x h.1, foldEs_good nv xs h.2⟩
end

mutual
theorem foldE_len : ∀ x : Ex, (flatE (foldE x)).length ≤ (flatE x).length
  | .mk t args => by
    rw [foldE]
    split
    · exact Nat.le_refl _
    · split
      · simp [flatE, flatEs]
      · simp only [flatE, List.length_cons]; have := foldEs_len args; omega
theorem foldEs_len : ∀ xs : List Ex, (flatEs (foldEs xs)).length ≤ (flatEs xs).length
  | [] => Nat.le_refl _
  | x :: xs => by
    simp only [foldEs, flatEs, List.length_append]
    have := foldE_len x; have := foldEs_len xs; omega
end

theorem eOk_good {e : List Tm} (h : eOk e = true) (x : Ex) (hok : okE x = true) (hfl : flatE x = e) : goodE 29 x = true := by
  have ha : (flatE x).all (fun t => tOk t 29) = true := by
    rw [hfl]
    unfold eOk isE at h
    rw [Bool.and_eq_true] at h
    exact run_all 29 e 1 (by have := h.2; intro hh; rw [hh] at this; simp at this)
  unfold goodE; rw [hok, ha]; rfl

mutual
/-- folding changes no value. -/
theorem valE_fold (vals : List Int) (nv : Int) : ∀ x : Ex, goodE nv x = true → valE vals (foldE x) = valE vals x
  | .mk t args, h => by
    rw [goodE_mk] at h
    simp only [Bool.and_eq_true, decide_eq_true_eq] at h
    rw [foldE]
    split
    · rfl
    · rename_i hne
      have ih := valEs_fold vals nv args h.2
      have hg := foldEs_good nv args h.2
      split
      · rename_i hnum
        have hk : t.1 ≠ 0 ∧ t.1 ≠ 1 := by
          have hz : arity t ≠ 0 := by rw [← h.1.1]; intro hz; exact hne (List.eq_nil_of_length_eq_zero (by omega))
          constructor <;> (intro e; apply hz; simp [arity, e])
        have hsame : valEs [] (foldEs args) = valEs vals args := by
          rw [← ih]
          exact vals_num vals nv (foldEs args) hg hnum
        simp only [valE, if_true, hk.1, hk.2, if_false, hsame]
      · simp only [valE, ih]
theorem valEs_fold (vals : List Int) (nv : Int) : ∀ xs : List Ex, goodEs nv xs = true → valEs vals (foldEs xs) = valEs vals xs
  | [], _ => rfl
  | x :: xs, h => by
    rw [goodEs_cons, Bool.and_eq_true] at h
    rw [foldEs, valEs, valEs, valE_fold vals nv x h.1, valEs_fold vals nv xs h.2]
theorem vals_num (vals : List Int) (nv : Int) : ∀ xs : List Ex, goodEs nv xs = true → xs.all isNum = true → valEs [] xs = valEs vals xs
  | [], _, _ => rfl
  | x :: xs, h, hn => by
    rw [goodEs_cons, Bool.and_eq_true] at h
    rw [List.all_cons, Bool.and_eq_true] at hn
    obtain ⟨n, rfl, -⟩ := isNum_good h.1 hn.1
    rw [valEs, valEs, vals_num vals nv xs h.2 hn.2]
    simp [valE]
end

end Go.Proofs.YthoacpecfmfeiaaGreatDoor

/-
  Values of operations and of trees: what the calls return.
-/
namespace Go.Proofs.YthoacpecfmfeiaaGreatDoor
open Go.RowKit

theorem truthI (b : Bool) (w : World) : Calls Tryz.prog 20 #[.bool b] w fun e w' => e = .returned (.int .i64 (truthV b)) ∧ w = w' := by
  cases b
  · go_enter Tryz.func20, Tryz.ntmps20
    go_wp2
    go_ret
    exact ⟨rfl, rfl⟩
  · go_enter Tryz.func20, Tryz.ntmps20
    go_wp2
    go_ret
    exact ⟨rfl, rfl⟩

theorem truthS (b : Bool) (w : World) : Calls Tryz.prog 36 #[.bool b] w fun e w' => e = .returned (.int .i64 (truthV b)) ∧ w = w' := by
  cases b
  · go_enter Tryz.func36, Tryz.ntmps36
    go_wp2
    go_ret
    exact ⟨rfl, rfl⟩
  · go_enter Tryz.func36, Tryz.ntmps36
    go_wp2
    go_ret
    exact ⟨rfl, rfl⟩

end Go.Proofs.YthoacpecfmfeiaaGreatDoor

/-
  Folding, the program's side.
-/
namespace Go.Proofs.YthoacpecfmfeiaaGreatDoor
open Go.RowKit

theorem goodE_nums {t : Tm} {bs : List Ex} (h : goodE 29 (.mk t bs) = true) (hn : bs.all isNum = true) (h1 : t.1 ≠ 1) : goodE 0 (.mk t bs) = true := by
  rw [goodE_mk] at h ⊢
  simp only [Bool.and_eq_true] at h ⊢
  refine ⟨⟨h.1.1, ?_⟩, ?_⟩
  · have := h.1.2
    simp only [tOk, h1, if_false] at this ⊢; exact this
  · have hg := h.2
    rw [goodEs_all, List.all_eq_true] at hg ⊢
    rw [List.all_eq_true] at hn
    intro x hx
    obtain ⟨n, rfl, h0, h63⟩ := isNum_good (hg x hx) (hn x hx)
    rw [goodE_mk]
    simp only [Bool.and_eq_true]
    exact ⟨⟨by simp [arity], by simp only [tOk, if_true]; exact inB_mk ⟨h0, h63⟩⟩, rfl⟩

theorem flatE_arg_le' (args : List Ex) (k : Nat) (h : k < args.length) : (flatE args[k]).length ≤ (flatEs args).length := by
  have e1 : flatEs args = flatEs (args.take k) ++ (flatE args[k] ++ flatEs (args.drop (k + 1))) := by
    conv => lhs; rw [← List.take_append_drop k args, flatEs_append, List.drop_eq_getElem_cons h]
    rfl
  rw [e1, List.length_append, List.length_append]; omega

open Classical in
noncomputable def foldRes (e : List Tm) : List Tm × Int := if h : eOk e = true then (flatE (foldE (treeOf e h)), 0) else ([], 1)

def Fo (w : World) (fp : List Nat) (x : Ex) (e : Ending) (w' : World) : Prop := (∃ v' fp', e = .returned v' ∧ R_E fp' w' [v'] x ∧ ∀ b ∈ fp', b ∈ fp ∨ w.heap.size ≤ b) ∧ Upd [] w w'

end Go.Proofs.YthoacpecfmfeiaaGreatDoor

/-
  Folding, the reference's side.
-/
namespace Go.Proofs.YthoacpecfmfeiaaGreatDoor
open Go.RowKit

theorem oneCells (ts : List Tm) : ∀ u ∈ ts.flatMap encT, u.oneCell' = true := by
  intro u hu
  obtain ⟨t, -, ht⟩ := List.mem_flatMap.1 hu
  simp at ht
  rcases ht with rfl | rfl <;> rfl

theorem fold_b (e : List Tm) : mkF_T1 (foldRes e).1 ≤ 300 := by
  unfold foldRes
  split
  · rename_i h
    obtain ⟨-, hfl⟩ := treeOf_ok e h
    have hlen := eOk_len h
    have := foldE_len (treeOf e h)
    rw [hfl] at this
    unfold mkF_T1; simp only; omega
  · simp [mkF_T1]

end Go.Proofs.YthoacpecfmfeiaaGreatDoor

/-
  The form's reading of bytes.
-/
namespace Go.Proofs.YthoacpecfmfeiaaGreatDoor
open Go.RowKit

theorem opens_B1 : Opens Tryz.prog 40 R_B (fun xs => ∀ n ∈ xs, (Lit.int .u8 n).wf = true) := opens_ints Tryz.underlying40 Tryz.underlying5 (by kernel_rfl)
theorem bytes_of {xs : List Int} (h : ∀ n ∈ xs, (Lit.int .u8 n).wf = true) : bytesOk xs := by
  intro x hx
  have := h x hx
  simp [Lit.wf, IntKind.min, IntKind.max, IntKind.signed, IntKind.bits] at this
  omega

end Go.Proofs.YthoacpecfmfeiaaGreatDoor

/-
  The expressions that the reference draws.
-/
namespace Go.Proofs.YthoacpecfmfeiaaGreatDoor
open Go.RowKit

def DrawP (w : World) (p N : Nat) (nv most : Int) (e : Ending) (w' : World) : Prop :=
  (∃ (v' : Value) (x : Ex), e = .returned v' ∧ goodE nv x = true ∧ ((flatE x).length : Int) ≤ 2 * most + 1 ∧ New R_T1 w w' v' (flatE x)) ∧ IsSrc (N + 20 * (2 * most.toNat + 1)) p w' ∧ Upd [p] w w'

theorem draw_leaf {w w' : World} {p N M : Nat} {nv most : Int} {e : TypeId} {a b : Int} (hm : 0 ≤ most) (ht : tOk (a, b) nv = true) (h0 : a = 0 ∨ a = 1) (hs : IsSrc M p w') (hu : Upd [p] w w') (hM : M ≤ N + 20) :
    DrawP w p N nv most (.returned (.slice (some ⟨w'.heap.size, 0, none⟩) 1 1)) (w'.alloc (.cells #[ei a, ei b] e)) := by
  have hn : New R_T1 w' (w'.alloc (.cells #[ei a, ei b] e)) (.slice (some ⟨w'.heap.size, 0, none⟩) 1 1) [(a, b)] :=
    New.ofOwns2 (e := e) (by simpa using World.ownsRow_lit (base := w'.heap.size) (e := e) (size := 2) w' #[ei a, ei b] 1 (Nat.le_refl _) (by simp [maxLen]) (by simp))
  refine ⟨⟨_, .mk (a, b) [], rfl, ?_, ?_, ?_⟩, (hs.upd ((Upd.refl _ _).alloc _)).mono (by omega), hu.alloc _⟩
  · rw [goodE_mk]
    have : arity (a, b) = 0 := by rcases h0 with rfl | rfl <;> simp [arity]
    simp [this, ht, goodEs, okEs, flatEs]
  · simp [flatE, flatEs]; omega
  · exact (show New R_T1 w' _ _ (flatE (.mk (a, b) [])) from by simpa [flatE, flatEs] using hn).mono hu.size

end Go.Proofs.YthoacpecfmfeiaaGreatDoor

/-
  Canonical forms, plainly; forests of the rest of a valid list of terms.
-/
namespace Go.Proofs.YthoacpecfmfeiaaGreatDoor

def cmpT (a b : Tm) : Int := if cmpI a.1 b.1 ≠ 0 then cmpI a.1 b.1 else cmpI a.2 b.2
def cmpTL : List Tm → List Tm → Int
  | [], [] => 0
  | [], _ :: _ => -1
  | _ :: _, [] => 1
  | x :: xs, y :: ys => if cmpT x y ≠ 0 then cmpT x y else cmpTL xs ys
/-- by length, then by terms. -/
def gtL (a b : List Tm) : Bool := if a.length = b.length then decide (cmpTL a b > 0) else decide (b.length < a.length)
def stays (t : Tm) : Bool := t.1 != 2 || (t.2 == 1 || t.2 == 5 || t.2 == 6)
def swapE (t : Tm) (bs : List Ex) : List Ex := if stays t then bs else if gtL (flatE (bs.getD 0 (.mk (0, 0) []))) (flatE (bs.getD 1 (.mk (0, 0) []))) then bs.reverse else bs
mutual
def canonE : Ex → Ex
  | .mk t args => .mk t (swapE t (canonEs args))
def canonEs : List Ex → List Ex
  | [] => []
  | x :: xs => canonE x :: canonEs xs
end
theorem canonEs_map (xs : List Ex) : canonEs xs = xs.map canonE := by
  induction xs with
  | nil => rfl
  | cons x xs ih => simp [canonEs, ih]

theorem cmpI_gt (a b : Int) : (cmpI a b ≠ 0 ↔ a ≠ b) ∧ (0 < cmpI a b ↔ b < a) ∧ (cmpI a b = 0 ↔ a = b) ∧ -1 ≤ cmpI a b ∧ cmpI a b ≤ 1 := by
  unfold cmpI; split
  · omega
  · split <;> omega

theorem cmpT_bd (a b : Tm) : -1 ≤ cmpT a b ∧ cmpT a b ≤ 1 := by
  unfold cmpT; split
  · exact (cmpI_gt _ _).2.2.2
  · exact (cmpI_gt _ _).2.2.2
theorem cmpT_eq (a b : Tm) : cmpT a b = 0 ↔ a = b := by
  obtain ⟨a1, a2⟩ := a
  obtain ⟨b1, b2⟩ := b
  have h1 := cmpI_gt a1 b1
  have h2 := cmpI_gt a2 b2
  simp only [cmpT, Prod.mk.injEq]
  split <;> omega
theorem cmpTL_bd : ∀ a b : List Tm, -1 ≤ cmpTL a b ∧ cmpTL a b ≤ 1
  | [], [] => by simp [cmpTL]
  | [], _ :: _ => by simp [cmpTL]
  | _ :: _, [] => by simp [cmpTL]
  | x :: xs, y :: ys => by
    rw [cmpTL]; split
    · exact cmpT_bd _ _
    · exact cmpTL_bd _ _

theorem cmpTL_step (xs ys : List Tm) (k : Nat) (h1 : k < xs.length) (h2 : k < ys.length) :
    cmpTL (xs.drop k) (ys.drop k) = if cmpT xs[k] ys[k] ≠ 0 then cmpT xs[k] ys[k] else cmpTL (xs.drop (k + 1)) (ys.drop (k + 1)) := by
  rw [List.drop_eq_getElem_cons h1, List.drop_eq_getElem_cons h2, cmpTL]

theorem swapE_perm (t : Tm) (bs : List Ex) : (swapE t bs).Perm bs := by
  unfold swapE
  split
  · exact List.Perm.refl _
  · split
    · exact List.reverse_perm _
    · exact List.Perm.refl _

theorem flatEs_length (xs : List Ex) : (flatEs xs).length = (xs.map (fun x => (flatE x).length)).sum := by
  induction xs with
  | nil => rfl
  | cons x xs ih => simp [flatEs, ih]
mutual
theorem canonE_len : ∀ x : Ex, (flatE (canonE x)).length = (flatE x).length
  | .mk t args => by
    have h1 := canonEs_len args
    simp only [canonE, flatE, List.length_cons, flatEs_length] at *
    rw [List.Perm.sum_nat ((swapE_perm t (canonEs args)).map _), h1]
theorem canonEs_len : ∀ xs : List Ex, (flatEs (canonEs xs)).length = (flatEs xs).length
  | [] => rfl
  | x :: xs => by
    simp only [canonEs, flatEs, List.length_append, canonE_len x, canonEs_len xs]
end
mutual
theorem canonE_good (nv : Int) : ∀ x : Ex, goodE nv x = true → goodE nv (canonE x) = true
  | .mk t args, h => by
    rw [goodE_mk] at h
    simp only [Bool.and_eq_true] at h
    have ih := canonEs_good nv args h.2
    rw [canonE, goodE_mk]
    simp only [Bool.and_eq_true]
    refine ⟨⟨?_, h.1.2⟩, ?_⟩
    · rw [(swapE_perm t (canonEs args)).length_eq, canonEs_map, List.length_map]; exact h.1.1
    · rw [goodEs_all, List.all_eq_true] at ih ⊢
      intro x hx
      exact ih x ((swapE_perm t (canonEs args)).mem_iff.1 hx)
theorem canonEs_good (nv : Int) : ∀ xs : List Ex, goodEs nv xs = true → goodEs nv (canonEs xs) = true
  | [], h => h
  | x :: xs, h => by
    rw [goodEs_cons, Bool.and_eq_true] at h
    rw [canonEs, goodEs_cons, Bool.and_eq_true]
    exact ⟨canonE_good nv x h.1, canonEs_good nv xs h.2⟩
end

theorem run_append (nv : Int) : ∀ (a b : List Tm) (n : Int), run nv (a ++ b) n = (run nv a n).bind (run nv b)
  | [], b, n => by simp [run]
  | t :: a, b, n => by
    rw [List.cons_append, run, run]
    split
    · rfl
    · split
      · exact run_append nv a b _
      · rfl
theorem run_nonneg (nv : Int) : ∀ (a : List Tm) (n m : Int), run nv a n = some m → 0 ≤ n → 0 ≤ m
  | [], n, m, h, h0 => by simp [run] at h; omega
  | t :: a, n, m, h, h0 => by
    rw [run] at h
    split at h
    · cases h
    · split at h
      · exact run_nonneg nv a _ m h (by have := arity_bd t; omega)
      · cases h

/-- the forest of the last terms of a valid list, one term longer. -/
theorem forest_step {e : List Tm} (h : eOk e = true) (k : Nat) (hk : k < e.length) (xs : List Ex) (hok : okEs xs = true) (hfl : flatEs xs = e.drop (k + 1)) (hlen : run 29 (e.take (k + 1)) 1 = some (xs.length : Int)) :
    tOk e[k] 29 = true ∧ (arity e[k]).toNat ≤ xs.length ∧ run 29 (e.take k) 1 = some (((xs.length - (arity e[k]).toNat + 1 : Nat)) : Int) ∧
      okEs (.mk e[k] (xs.take (arity e[k]).toNat) :: xs.drop (arity e[k]).toNat) = true ∧ flatEs (.mk e[k] (xs.take (arity e[k]).toNat) :: xs.drop (arity e[k]).toNat) = e.drop k := by
  have hr : run 29 e 1 = some 0 := by unfold eOk isE at h; rw [Bool.and_eq_true] at h; simpa using h.2
  have hb := arity_bd e[k]
  rw [List.take_succ_eq_append_getElem hk, run_append] at hlen
  cases hm : run 29 (e.take k) 1 with
  | none => rw [hm] at hlen; simp at hlen
  | some m =>
    rw [hm] at hlen
    have hm0 := run_nonneg 29 _ _ _ hm (by omega)
    simp only [Option.bind_some, run] at hlen
    split at hlen
    · cases hlen
    · rename_i hne
      split at hlen
      · rename_i ht
        simp only [Option.some.injEq] at hlen
        have hA : (arity e[k]).toNat ≤ xs.length := by omega
        refine ⟨ht, hA, by congr 1; omega, ?_, ?_⟩
        · have hsp : okEs (xs.take (arity e[k]).toNat) = true ∧ okEs (xs.drop (arity e[k]).toNat) = true := by
            rw [← List.take_append_drop (arity e[k]).toNat xs, okEs_append, Bool.and_eq_true] at hok; exact hok
          simp only [okEs, okE, hsp.1, hsp.2, Bool.and_true, decide_eq_true_eq, List.length_take]
          omega
        · rw [List.drop_eq_getElem_cons hk, ← hfl]
          simp only [flatEs, flatE, List.cons_append]
          rw [← flatEs_append, List.take_append_drop]
      · cases hlen

theorem forest_start {e : List Tm} (h : eOk e = true) : run 29 (e.take e.length) 1 = some (([] : List Ex).length : Int) := by
  unfold eOk isE at h; rw [Bool.and_eq_true] at h
  rw [List.take_length]; simpa using h.2
theorem forest_end {e : List Tm} {xs : List Ex} (hlen : run 29 (e.take 0) 1 = some (xs.length : Int)) : ∃ x, xs = [x] := by
  simp [run] at hlen
  match xs, hlen with
  | [x], _ => exact ⟨x, rfl⟩
  | [], h => simp at h
  | _ :: _ :: _, h => simp at h; omega

theorem trees_inj (n : Nat) : ∀ (xs ys : List Ex) (r s : List Tm), (flatEs xs).length ≤ n → okEs xs = true → okEs ys = true → xs.length = ys.length → flatEs xs ++ r = flatEs ys ++ s → xs = ys ∧ r = s := by
  induction n with
  | zero =>
    intro xs ys r s hn _ _ hl h
    cases xs with
    | nil =>
      have : ys = [] := List.eq_nil_of_length_eq_zero (by simpa using hl.symm)
      subst this; exact ⟨rfl, by simpa [flatEs] using h⟩
    | cons x xs => have := flatE_pos x; simp [flatEs] at hn; rw [hn.1] at this; simp at this
  | succ n ih =>
    intro xs ys r s hn h1 h2 hl h
    match xs, ys, hl with
    | [], [], _ => exact ⟨rfl, by simpa [flatEs] using h⟩
    | .mk t cs :: xs, .mk u bs :: ys, hl =>
      simp only [flatEs, flatE, List.cons_append, List.cons.injEq, List.append_assoc, List.length_cons, List.length_append] at h hn
      simp only [okEs, okE, Bool.and_eq_true, decide_eq_true_eq] at h1 h2
      obtain ⟨rfl, h⟩ := h
      have hab : cs.length = bs.length := by have := h1.1.1; have := h2.1.1; omega
      obtain ⟨h3, h4⟩ := ih (cs ++ xs) (bs ++ ys) r s (by rw [flatEs_append, List.length_append]; omega) (by rw [okEs_append, h1.1.2, h1.2]; rfl) (by rw [okEs_append, h2.1.2, h2.2]; rfl)
        (by simp only [List.length_append]; simp at hl; omega) (by rw [flatEs_append, flatEs_append, List.append_assoc, List.append_assoc]; exact h)
      obtain ⟨rfl, rfl⟩ := List.append_inj h3 hab
      exact ⟨rfl, h4⟩
theorem tree_inj {x y : Ex} (h1 : okE x = true) (h2 : okE y = true) (h : flatE x = flatE y) : x = y := by
  have := (trees_inj _ [x] [y] [] [] (Nat.le_refl _) (by simpa [okEs] using h1) (by simpa [okEs] using h2) rfl (by simpa [flatEs] using h)).1
  simpa using this

open Classical in
noncomputable def canonRes (e : List Tm) : List Tm × Int := if h : eOk e = true then (flatE (canonE (treeOf e h)), 0) else ([], 1)

end Go.Proofs.YthoacpecfmfeiaaGreatDoor

/-
  Comparing terms, small calls of Go's library, and canonical forms, the program's side.
-/
namespace Go.Proofs.YthoacpecfmfeiaaGreatDoor
open Go.RowKit

def orV (x y : Int) : Int := if x ≠ 0 then x else y

def IdxP (xs : List Int) (n : Int) (w : World) (e : Ending) (w' : World) : Prop := (∃ q : Int, e = .returned (.int .i64 q) ∧ -1 ≤ q ∧ q ≤ 9223372036854775807 ∧ (decide (0 ≤ q)) = xs.contains n) ∧ w = w'

end Go.Proofs.YthoacpecfmfeiaaGreatDoor

/-
  Canonical forms, the program's side.
-/
namespace Go.Proofs.YthoacpecfmfeiaaGreatDoor
open Go.RowKit

/-- two elements of a collected row change places. -/
theorem Got.swap {α : Type} {R : Rp α} (K : Kept R) {base : Nat} {G : Nat → Prop} {e : TypeId} {w w1 : World} {g cap : Nat} {x y : α} {u0 u1 : Value} (h : Got R base G e w (.slice (some ⟨g, 0, none⟩) 2 cap) [x, y])
    (hus : w.ownsRow base e 1 (.slice (some ⟨g, 0, none⟩) 2 cap) 2 [u0, u1]) (h1 : w1.ownsRow base e 1 (.slice (some ⟨g, 0, none⟩) 2 cap) 2 [u1, u0]) (hu : Upd [g] w w1) :
    Got R base G e w1 (.slice (some ⟨g, 0, none⟩) 2 cap) [y, x] := by
  obtain ⟨us, fps, q1, q2, q3, q4⟩ := h
  have hsame : us = [u0, u1] := by
    rcases q1.2 with ⟨h0, -⟩ | ⟨b, c, cur, hv, -, hh, -, -, -, r4⟩
    · cases h0
    · cases hv
      rcases hus.2 with ⟨h0, -⟩ | ⟨b', c', cur', hv', -, hh', -, -, -, r4'⟩
      · cases h0
      · cases hv'
        rw [hh] at hh'; cases hh'
        simp only [List.length_cons, List.length_nil] at r4
        rw [← r4, ← r4']
  subst hsame
  match fps, q2 with
  | [f0, f1], _ =>
    have hd : ∀ b ∈ f0 ++ f1, b ∉ [g] := fun b hb hm => by
      have := (q3 b (by simpa using hb)).1
      simp at hm; subst hm; simp [Value.ownBlock] at this
    refine ⟨[u1, u0], [f1, f0], h1, rfl, fun b hb => q3 b (by simp at hb ⊢; exact hb.symm), fun i hi u f hu' hf => ?_⟩
    match i, hi with
    | 0, _ =>
      simp at hu' hf; subst hu' hf
      exact K.upd (q4 1 (by simp) u1 f1 rfl rfl) hu (fun b hb => hd b (by simp [hb]))
    | 1, _ =>
      simp at hu' hf; subst hu' hf
      exact K.upd (q4 0 (by simp) u0 f0 rfl rfl) hu (fun b hb => hd b (by simp [hb]))

theorem gtL_or (a b : List Tm) : gtL a b = decide (0 < orV (cmpI a.length b.length) (cmpTL a b)) := by
  have h := cmpI_gt (a.length : Int) (b.length : Int)
  unfold gtL orV
  by_cases hl : a.length = b.length
  · have h0 : cmpI (a.length : Int) (b.length : Int) = 0 := by omega
    simp [hl, cmpI]
  · have h0 : cmpI (a.length : Int) (b.length : Int) ≠ 0 := by omega
    rw [if_neg hl, if_pos h0, decide_eq_decide]; omega
theorem orV_bd {x y : Int} (h1 : -1 ≤ x ∧ x ≤ 1) (h2 : -1 ≤ y ∧ y ≤ 1) : -1 ≤ orV x y ∧ orV x y ≤ 1 := by unfold orV; split <;> omega

def Cano (x : Ex) (w : World) (fp : List Nat) (e : Ending) (w' : World) : Prop := Fo w fp (canonE x) e w'

theorem canon_b (e : List Tm) : mkF_T1 (canonRes e).1 ≤ 300 := by
  unfold canonRes
  split
  · rename_i h
    obtain ⟨-, hfl⟩ := treeOf_ok e h
    have hlen := eOk_len h
    have := canonE_len (treeOf e h)
    rw [hfl] at this
    unfold mkF_T1; simp only; omega
  · simp [mkF_T1]

end Go.Proofs.YthoacpecfmfeiaaGreatDoor

/-
  What the laws FnForms and FnTerms need: drawn expressions, expressions held against each other, postfix form.
-/
namespace Go.Proofs.YthoacpecfmfeiaaGreatDoor
open Go.RowKit

def TermsOut (nv : Int) (w : World) (e : Ending) (w' : World) : Prop := (∃ (v' : Value) (x : Ex), e = .returned v' ∧ goodE nv x = true ∧ (flatE x).length ≤ 13 ∧ New R_T1 w w' v' (flatE x)) ∧ Upd [] w w'

theorem goodE_more {nv mv : Int} (h : nv ≤ mv) : ∀ x : Ex, goodE nv x = true → goodE mv x = true := by
  intro x hx
  unfold goodE at hx ⊢
  rw [Bool.and_eq_true] at hx ⊢
  refine ⟨hx.1, ?_⟩
  rw [List.all_eq_true] at hx ⊢
  intro t ht
  have := hx.2 t ht
  unfold tOk at this ⊢
  repeat' split at this
  all_goals simp_all
  have h9 := inB_true this
  exact inB_mk ⟨by omega, by omega⟩

theorem eOk_of_good {x : Ex} {nv : Int} (h : goodE nv x = true) (hn : nv ≤ 29) (hl : (flatE x).length ≤ 60) : eOk (flatE x) = true := by
  have h2 := goodE_more hn x h
  unfold goodE at h2
  rw [Bool.and_eq_true] at h2
  rw [eOk_tree x h2.1, h2.2]
  simp [hl]

end Go.Proofs.YthoacpecfmfeiaaGreatDoor

/-
  Lists of values, and whether all variables of an expression have one.
-/
namespace Go.Proofs.YthoacpecfmfeiaaGreatDoor
open Go.RowKit

/-- a variable without a value. -/
def lackV (many : Int) (t : Tm) : Bool := t.1 == 1 && decide (many ≤ t.2)

def IdxC (many : Int) (xs : List Tm) (w : World) (e : Ending) (w' : World) : Prop := (∃ q : Int, e = .returned (.int .i64 q) ∧ -1 ≤ q ∧ q ≤ 9223372036854775807 ∧ decide (0 ≤ q) = xs.any (lackV many)) ∧ Upd [] w w'

end Go.Proofs.YthoacpecfmfeiaaGreatDoor

/-
  Evaluate: what the calls return for a valid expression and values for all its variables.
-/
namespace Go.Proofs.YthoacpecfmfeiaaGreatDoor
open Go.RowKit

theorem vals_bd {vals : List Int} (h : vals.all isV = true) (k : Nat) : 0 ≤ vals.getD k 0 ∧ vals.getD k 0 ≤ 63 := by
  rw [List.getD_eq_getElem?_getD]
  by_cases hk : k < vals.length
  · rw [List.getElem?_eq_getElem hk]
    exact inB_true (List.all_eq_true.1 h _ (List.getElem_mem hk))
  · rw [List.getElem?_eq_none (by omega)]; simp
theorem lack_no {x : Ex} {n : Int} (h : goodE n x = true) : (flatE x).any (lackV n) = false := by
  unfold goodE at h
  rw [Bool.and_eq_true] at h
  rw [List.any_eq_false]
  intro t ht
  have := List.all_eq_true.1 h.2 t ht
  unfold lackV
  by_cases h1 : t.1 = 1
  · simp only [tOk, h1, if_true] at this
    have := inB_true (by simpa using this)
    simp [h1]; omega
  · simp [h1]

end Go.Proofs.YthoacpecfmfeiaaGreatDoor

/-
  Evaluate, the reference's side.
-/
namespace Go.Proofs.YthoacpecfmfeiaaGreatDoor
open Go.RowKit

theorem isE_of_good {x : Ex} {nv : Int} (h : goodE nv x = true) (hl : (flatE x).length ≤ 60) : isE (flatE x) nv 60 = true := by
  unfold goodE at h
  rw [Bool.and_eq_true] at h
  have := run_tree nv x [] 0 h.1 h.2
  simp only [List.append_nil, run] at this
  rw [show ((0 + 1 : Nat) : Int) = 1 from rfl] at this
  unfold isE
  rw [this]
  simp; omega

end Go.Proofs.YthoacpecfmfeiaaGreatDoor

/-
  The program's checks of a node and of a formula's shape: what the calls return.
-/
namespace Go.Proofs.YthoacpecfmfeiaaGreatDoor
open Go.RowKit

set_option maxRecDepth 20000 in
set_option maxHeartbeats 800000 in
theorem operandsI (a b : Int) (c : List UInt8) (d : Bool) (w : World) : Calls Tryz.prog 52 #[.agg #[ei a, ei b, es c, .bool d]] w fun e w' => e = .returned (.int .i64 (arI a)) ∧ Upd [] w w' := by
  by_cases h2 : a = 2
  · have HI := Lib.hid (show arI a = 2 by subst h2; rfl)
    have b2 : (a == 2) = true := by simpa using h2
    clear h2
    go_enter Tryz.func52, Tryz.ntmps52
    go_wp2_with fail
    go_ret
    exact ⟨by rw [HI.out]; rfl, (Upd.refl _ _).alloc _⟩
  · have b2 : (a == 2) = false := by simpa using h2
    by_cases h3 : a = 3
    · have HI := Lib.hid (show arI a = 2 by subst h3; rfl)
      have b3 : (a == 3) = true := by simpa using h3
      clear h3 h2
      go_enter Tryz.func52, Tryz.ntmps52
      go_wp2_with fail
      go_ret
      exact ⟨by rw [HI.out]; rfl, (Upd.refl _ _).alloc _⟩
    · have b3 : (a == 3) = false := by simpa using h3
      by_cases h4 : a = 4
      · have HI := Lib.hid (show arI a = 1 by subst h4; rfl)
        have b4 : (a == 4) = true := by simpa using h4
        clear h4 h2 h3
        go_enter Tryz.func52, Tryz.ntmps52
        go_wp2_with fail
        go_ret
        exact ⟨by rw [HI.out]; rfl, (Upd.refl _ _).alloc _⟩
      · have b4 : (a == 4) = false := by simpa using h4
        by_cases h5 : a = 5
        · have HI := Lib.hid (show arI a = 1 by subst h5; rfl)
          have b5 : (a == 5) = true := by simpa using h5
          clear h5 h2 h3 h4
          go_enter Tryz.func52, Tryz.ntmps52
          go_wp2_with fail
          go_ret
          exact ⟨by rw [HI.out]; rfl, (Upd.refl _ _).alloc _⟩
        · have b5 : (a == 5) = false := by simpa using h5
          by_cases h7 : a = 7
          · have HI := Lib.hid (show arI a = 1 by subst h7; rfl)
            have b7 : (a == 7) = true := by simpa using h7
            clear h7 h2 h3 h4 h5
            go_enter Tryz.func52, Tryz.ntmps52
            go_wp2_with fail
            go_ret
            exact ⟨by rw [HI.out]; rfl, (Upd.refl _ _).alloc _⟩
          · have b7 : (a == 7) = false := by simpa using h7
            by_cases h8 : a = 8
            · have HI := Lib.hid (show arI a = 1 by subst h8; rfl)
              have b8 : (a == 8) = true := by simpa using h8
              clear h8 h2 h3 h4 h5 h7
              go_enter Tryz.func52, Tryz.ntmps52
              go_wp2_with fail
              go_ret
              exact ⟨by rw [HI.out]; rfl, (Upd.refl _ _).alloc _⟩
            · have b8 : (a == 8) = false := by simpa using h8
              have HI := Lib.hid (show arI a = 0 by unfold arI; rw [if_neg (by omega), if_neg (by omega)])
              clear h2 h3 h4 h5 h7 h8
              go_enter Tryz.func52, Tryz.ntmps52
              go_wp2_with fail
              go_ret
              exact ⟨by rw [HI.out]; rfl, (Upd.refl _ _).alloc _⟩

set_option maxRecDepth 20000 in
set_option maxHeartbeats 800000 in
theorem isModI (a b : Int) (c : List UInt8) (d : Bool) (w : World) : Calls Tryz.prog 53 #[.agg #[ei a, ei b, es c, .bool d]] w fun e w' => e = .returned (.bool (modF a)) ∧ Upd [] w w' := by
  by_cases h4 : a = 4
  · have HI := Lib.hid (show modF a = true by subst h4; rfl)
    have b4 : (a == 4) = true := by simpa using h4
    clear h4
    go_enter Tryz.func53, Tryz.ntmps53
    go_wp2_with fail
    go_ret
    exact ⟨by rw [HI.out]; rfl, (Upd.refl _ _).alloc _⟩
  · have b4 : (a == 4) = false := by simpa using h4
    by_cases h5 : a = 5
    · have HI := Lib.hid (show modF a = true by subst h5; rfl)
      have b5 : (a == 5) = true := by simpa using h5
      clear h5 h4
      go_enter Tryz.func53, Tryz.ntmps53
      go_wp2_with fail
      go_ret
      exact ⟨by rw [HI.out]; rfl, (Upd.refl _ _).alloc _⟩
    · have b5 : (a == 5) = false := by simpa using h5
      have HI := Lib.hid (show modF a = false by unfold modF; simp [h4, h5])
      clear h4 h5
      go_enter Tryz.func53, Tryz.ntmps53
      go_wp2_with fail
      go_ret
      exact ⟨by rw [HI.out]; rfl, (Upd.refl _ _).alloc _⟩

set_option maxRecDepth 20000 in
set_option maxHeartbeats 800000 in
theorem isFixI (a b : Int) (c : List UInt8) (d : Bool) (w : World) : Calls Tryz.prog 55 #[.agg #[ei a, ei b, es c, .bool d]] w fun e w' => e = .returned (.bool (fixF a)) ∧ Upd [] w w' := by
  by_cases h7 : a = 7
  · have HI := Lib.hid (show fixF a = true by subst h7; rfl)
    have b7 : (a == 7) = true := by simpa using h7
    clear h7
    go_enter Tryz.func55, Tryz.ntmps55
    go_wp2_with fail
    go_ret
    exact ⟨by rw [HI.out]; rfl, (Upd.refl _ _).alloc _⟩
  · have b7 : (a == 7) = false := by simpa using h7
    by_cases h8 : a = 8
    · have HI := Lib.hid (show fixF a = true by subst h8; rfl)
      have b8 : (a == 8) = true := by simpa using h8
      clear h8 h7
      go_enter Tryz.func55, Tryz.ntmps55
      go_wp2_with fail
      go_ret
      exact ⟨by rw [HI.out]; rfl, (Upd.refl _ _).alloc _⟩
    · have b8 : (a == 8) = false := by simpa using h8
      have HI := Lib.hid (show fixF a = false by unfold fixF; simp [h7, h8])
      clear h7 h8
      go_enter Tryz.func55, Tryz.ntmps55
      go_wp2_with fail
      go_ret
      exact ⟨by rw [HI.out]; rfl, (Upd.refl _ _).alloc _⟩
theorem suf_last (s : List UInt8) : Lib.hasSuffix s [42] = (s.getLast? == some 42) := by
  rcases List.eq_nil_or_concat s with rfl | ⟨l, x, rfl⟩
  · rfl
  · have h1 : Lib.hasSuffix (l.concat x) [42] = (42 == x) := by
      simp only [Lib.hasSuffix, List.isSuffixOf, List.concat_eq_append, List.reverse_append, List.reverse_cons, List.reverse_nil, List.nil_append, List.singleton_append]
      exact Bool.and_true _
    have h2 : (l.concat x).getLast? = some x := by simp
    rw [h1, h2, Bool.eq_iff_iff, beq_iff_eq, beq_iff_eq, Option.some.injEq]
    exact ⟨Eq.symm, Eq.symm⟩
theorem trim_last (s : List UInt8) (h : Lib.hasSuffix s [42] = true) : Lib.trimSuffix s [42] = s.dropLast := by
  unfold Lib.trimSuffix
  rw [if_pos h, List.dropLast_eq_take]; rfl

set_option maxRecDepth 20000 in
set_option maxHeartbeats 2000000 in
theorem isPatI (s : List UInt8) (w : World) (hl : s.length ≤ 2000000) (he : Env w) : Calls Tryz.prog 54 #[es s] w fun e w' => e = .returned (.bool (patF s)) ∧ Upd [] w w' := by
  have S0 := Tryz.strings_CutSuffix ⟨s.toArray⟩ ⟨#[42]⟩ w (by have : (⟨s.toArray⟩ : ByteArray).size = s.length := rfl; omega)
  have e0 : (⟨#[42]⟩ : ByteArray).data.toList = [42] := rfl
  have e1 : (⟨s.toArray⟩ : ByteArray).data.toList = s := by simp
  rw [e0, e1] at S0
  have S1 := Lib.hid (isLabelI s w hl he)
  have HP := Lib.hid (show patF s = (s == [] || isLab s || (s.getLast? == some 42 && actF s.dropLast)) from rfl)
  have HL := Lib.hid (show isLab s = (readF s).isSome from rfl)
  rw [← suf_last] at HP
  by_cases h0 : s = []
  · subst h0
    have HS := Lib.hid S0
    clear S0 S1 HP HL
    go_enter Tryz.func54, Tryz.ntmps54
    go_wp2_with fail
    refine HS.out.mono ?_
    rintro e w1 ⟨rfl, rfl⟩
    go_wp2_with fail
    go_ret
    exact ⟨rfl, Upd.refl _ _⟩
  · have b0 : (s == ([] : List UInt8)) = false := by simpa using h0
    cases hlab : (readF s).isSome with
    | true =>
      have HR := Lib.hid (show patF s = true by rw [HP.out, HL.out, hlab]; simp)
      rw [hlab] at S1
      have HS := Lib.hid S0
      clear S0 HP HL hlab h0
      generalize Lib.trimSuffix s [42] = tr at *
      generalize Lib.hasSuffix s [42] = hs at *
      go_enter Tryz.func54, Tryz.ntmps54
      go_wp2_with fail
      refine HS.out.mono ?_
      rintro e w1 ⟨rfl, rfl⟩
      clear HS
      go_wp2_with fail
      refine S1.out.mono ?_
      rintro e w1 ⟨rfl, hu⟩
      have HU := Lib.hid hu
      clear S1 hu
      go_wp2_with fail
      go_ret
      exact ⟨by rw [HR.out]; rfl, HU.out⟩
    | false =>
      rw [hlab] at S1
      cases hhs : Lib.hasSuffix s [42] with
      | false =>
        have HR := Lib.hid (show patF s = false by rw [HP.out, HL.out, hlab, hhs, b0]; rfl)
        rw [hhs] at S0
        have HS := Lib.hid S0
        clear S0 HP HL hlab h0 hhs
        generalize Lib.trimSuffix s [42] = tr at *
        go_enter Tryz.func54, Tryz.ntmps54
        go_wp2_with fail
        refine HS.out.mono ?_
        rintro e w1 ⟨rfl, rfl⟩
        clear HS
        go_wp2_with fail
        refine S1.out.mono ?_
        rintro e w1 ⟨rfl, hu⟩
        have HU := Lib.hid hu
        clear S1 hu
        go_wp2_with fail
        go_ret
        exact ⟨by rw [HR.out]; rfl, HU.out⟩
      | true =>
        have HR := Lib.hid (show patF s = actF s.dropLast by rw [HP.out, HL.out, hlab, hhs, b0]; rfl)
        have S2 := Lib.hid (fun W => isActionI s.dropLast W (by simp; omega))
        rw [trim_last s hhs, hhs] at S0
        have HS := Lib.hid S0
        clear S0 HP HL hlab h0 hhs
        generalize s.dropLast = tr at *
        generalize actF tr = q at *
        go_enter Tryz.func54, Tryz.ntmps54
        go_wp2_with fail
        refine HS.out.mono ?_
        rintro e w1 ⟨rfl, rfl⟩
        clear HS
        go_wp2_with fail
        refine S1.out.mono ?_
        rintro e w1 ⟨rfl, hu⟩
        have HU := Lib.hid hu
        clear S1 hu
        go_wp2_with fail
        refine (S2.out _).mono ?_
        rintro e w2 ⟨rfl, rfl⟩
        clear S2
        go_wp2_with fail
        go_ret
        exact ⟨by rw [HR.out]; rfl, HU.out⟩

set_option maxRecDepth 20000 in
set_option maxHeartbeats 2000000 in
theorem fieldsI (a b : Int) (c : List UInt8) (d : Bool) (w : World) (hl : c.length ≤ 2000000) (he : Env w) :
    Calls Tryz.prog 41 #[.agg #[ei a, ei b, es c, .bool d]] w fun e w' => e = .returned (.bool (fieldsF ⟨a, b, c, d⟩)) ∧ Upd [] w w' := by
  have S1 := Lib.hid (fun W : World => isModI a b c d W)
  have HF := Lib.hid (show fieldsF ⟨a, b, c, d⟩ = if modF a then patF c else c == [] && !d from rfl)
  have S2 := Lib.hid (fun (W : World) (hu : Upd [] w W) => isPatI c W hl (he.upd hu))
  clear he
  obtain ⟨wA, hwA⟩ : ∃ wA, wA = w.alloc (.cells #[ei a, ei b, es c, .bool d] 37) := ⟨_, rfl⟩
  have uA : Upd [] w wA := by rw [hwA]; exact (Upd.refl _ _).alloc _
  have HC := Lib.hid (fun W (hu : Upd [] wA W) => show W.cell? ⟨w.heap.size, 0, none⟩ = some (ei a) ∧ W.cell? ⟨w.heap.size, 1, none⟩ = some (ei b) ∧ W.cell? ⟨w.heap.size, 2, none⟩ = some (es c) ∧ W.cell? ⟨w.heap.size, 3, none⟩ = some (.bool d) from by
    rw [hwA] at hu
    exact ⟨hu.keep (cell_new w _ _ _ rfl 0 _ rfl), hu.keep (cell_new w _ _ _ rfl 1 _ rfl), hu.keep (cell_new w _ _ _ rfl 2 _ rfl), hu.keep (cell_new w _ _ _ rfl 3 _ rfl)⟩)
  have UA := Lib.hid uA
  clear uA
  generalize fieldsF ⟨a, b, c, d⟩ = R at *
  cases hm : modF a with
  | true =>
    rw [hm] at S1 HF
    have HR := Lib.hid (show R = patF c from HF.out)
    clear HF hm
    generalize patF c = q at *
    go_enter Tryz.func41, Tryz.ntmps41
    go_wp2_with fail
    rw [← hwA]
    clear hwA
    refine (S1.out _).mono ?_
    rintro e w1 ⟨rfl, hu1⟩
    obtain ⟨x0, x1, x2, x3⟩ := HC.out w1 hu1
    have HU := Lib.hid (UA.out.trans hu1)
    have T2 := Lib.hid (S2.out w1 HU.out)
    clear S1 hu1 S2
    go_wp2_with fail
    refine T2.out.mono ?_
    rintro e w2 ⟨rfl, hu2⟩
    have HU2 := Lib.hid (HU.out.trans hu2)
    clear T2 hu2 HU x0 x1 x2 x3
    go_wp2_with fail
    go_ret
    exact ⟨by rw [HR.out]; rfl, HU2.out⟩
  | false =>
    rw [hm] at S1 HF
    have HR := Lib.hid (show R = (c == [] && !d) from HF.out)
    clear HF hm
    by_cases h0 : c = []
    · subst h0
      have HR2 := Lib.hid (show R = !d by rw [HR.out]; simp)
      clear HR
      go_enter Tryz.func41, Tryz.ntmps41
      go_wp2_with fail
      rw [← hwA]
      clear hwA
      refine (S1.out _).mono ?_
      rintro e w1 ⟨rfl, hu1⟩
      obtain ⟨x0, x1, x2, x3⟩ := HC.out w1 hu1
      have HU := Lib.hid (UA.out.trans hu1)
      clear S1 hu1 S2
      go_wp2_with fail
      go_ret
      exact ⟨by rw [HR2.out]; rfl, HU.out⟩
    · have b0 : (c == ([] : List UInt8)) = false := by simpa using h0
      have HR2 := Lib.hid (show R = false by rw [HR.out, b0]; rfl)
      clear HR h0
      go_enter Tryz.func41, Tryz.ntmps41
      go_wp2_with fail
      rw [← hwA]
      clear hwA
      refine (S1.out _).mono ?_
      rintro e w1 ⟨rfl, hu1⟩
      obtain ⟨x0, x1, x2, x3⟩ := HC.out w1 hu1
      have HU := Lib.hid (UA.out.trans hu1)
      clear S1 hu1 S2
      go_wp2_with fail
      go_ret
      exact ⟨by rw [HR2.out]; rfl, HU.out⟩

set_option maxRecDepth 20000 in
set_option maxHeartbeats 2000000 in
theorem boundI (a b : Int) (c : List UInt8) (d : Bool) (w : World) :
    Calls Tryz.prog 42 #[.agg #[ei a, ei b, es c, .bool d]] w fun e w' => e = .returned (.bool (boundF ⟨a, b, c, d⟩)) ∧ Upd [] w w' := by
  have S1 := Lib.hid (fun W : World => isFixI a b c d W)
  have HF := Lib.hid (show boundF ⟨a, b, c, d⟩ = if fixF a || a == 6 then inB b 0 2 else b == 0 from rfl)
  have S2 := Lib.hid (fun W : World => within b 0 2 W)
  obtain ⟨wA, hwA⟩ : ∃ wA, wA = w.alloc (.cells #[ei a, ei b, es c, .bool d] 37) := ⟨_, rfl⟩
  have uA : Upd [] w wA := by rw [hwA]; exact (Upd.refl _ _).alloc _
  have HC := Lib.hid (fun W (hu : Upd [] wA W) => show W.cell? ⟨w.heap.size, 0, none⟩ = some (ei a) ∧ W.cell? ⟨w.heap.size, 1, none⟩ = some (ei b) from by
    rw [hwA] at hu
    exact ⟨hu.keep (cell_new w _ _ _ rfl 0 _ rfl), hu.keep (cell_new w _ _ _ rfl 1 _ rfl)⟩)
  have UA := Lib.hid uA
  clear uA
  generalize boundF ⟨a, b, c, d⟩ = R at *
  generalize inB b 0 2 = q at *
  cases hm : fixF a with
  | true =>
    rw [hm] at S1 HF
    have HR := Lib.hid (show R = q from HF.out)
    clear HF hm
    go_enter Tryz.func42, Tryz.ntmps42
    go_wp2_with fail
    rw [← hwA]
    clear hwA
    refine (S1.out _).mono ?_
    rintro e w1 ⟨rfl, hu1⟩
    obtain ⟨x0, x1⟩ := HC.out w1 hu1
    have HU := Lib.hid (UA.out.trans hu1)
    clear S1 hu1
    go_wp2_with fail
    refine (S2.out _).mono ?_
    rintro e w2 ⟨rfl, rfl⟩
    clear S2 x0 x1
    go_wp2_with fail
    go_ret
    exact ⟨by rw [HR.out]; rfl, HU.out⟩
  | false =>
    rw [hm] at S1 HF
    by_cases h6 : a = 6
    · have HR := Lib.hid (show R = q by rw [HF.out, h6]; rfl)
      have b6 : (a == 6) = true := by simpa using h6
      clear HF hm h6
      go_enter Tryz.func42, Tryz.ntmps42
      go_wp2_with fail
      rw [← hwA]
      clear hwA
      refine (S1.out _).mono ?_
      rintro e w1 ⟨rfl, hu1⟩
      obtain ⟨x0, x1⟩ := HC.out w1 hu1
      have HU := Lib.hid (UA.out.trans hu1)
      clear S1 hu1
      go_wp2_with fail
      refine (S2.out _).mono ?_
      rintro e w2 ⟨rfl, rfl⟩
      clear S2 x0 x1
      go_wp2_with fail
      go_ret
      exact ⟨by rw [HR.out]; rfl, HU.out⟩
    · have b6 : (a == 6) = false := by simpa using h6
      have HR := Lib.hid (show R = (b == 0) by rw [HF.out, b6]; rfl)
      clear HF hm h6
      generalize hq : (b == 0) = q2 at *
      go_enter Tryz.func42, Tryz.ntmps42
      go_wp2_with fail
      rw [← hwA]
      clear hwA
      refine (S1.out _).mono ?_
      rintro e w1 ⟨rfl, hu1⟩
      obtain ⟨x0, x1⟩ := HC.out w1 hu1
      have HU := Lib.hid (UA.out.trans hu1)
      clear S1 hu1
      go_wp2_with fail
      go_ret
      exact ⟨by rw [HR.out]; rfl, HU.out⟩

set_option maxRecDepth 20000 in
set_option maxHeartbeats 2000000 in
theorem shapeI (v : Value) (f : List Nd) (w : World) (fp : List Nat) (hR : R_F1 fp w [v] f) (hlen : f.length ≤ 2000000) :
    Calls Tryz.prog 40 #[v] w fun e w' => e = .returned (.bool (shapeF arI 1 f)) ∧ Upd [] w w' := by
  obtain ⟨a, cap, rfl, h1, h2, hc⟩ := slF4_open hR
  unfold maxLen at h2
  have HC := Lib.hid hc
  clear hR hc
  go_enter Tryz.func40, Tryz.ntmps40
  go_wp2_with fail
  go_loopw [3, 8] (fun mv iv wr => ∃ (k : Nat) (m : Int), k ≤ f.length ∧ iv = .int .i64 k ∧ mv = .int .i64 m ∧ 0 ≤ m ∧ m ≤ 1 + 2 * k ∧ Hid (shapeF arI m (f.drop k) = shapeF arI 1 f) ∧ Hid (Upd [] w wr)) (fun _ iv _ => f.length - (intOf iv).toNat)
  case atStart => exact ⟨0, 1, Nat.zero_le _, rfl, rfl, by omega, by omega, Lib.hid rfl, Lib.hid (Upd.refl _ _)⟩
  case round =>
    obtain ⟨wo, rfl⟩ : ∃ wo : World, wo = wr := ⟨_, rfl⟩
    obtain ⟨k, m, hk, rfl, rfl, hm0, hm1, HS, HU⟩ := hrel
    by_cases hlt : k < f.length
    · obtain ⟨b1, o1, rfl, -, -, p1, p2, p3, p4⟩ := HC.out k hlt
      have q1 := HU.out.keep p1
      have q2 := HU.out.keep p2
      have q3 := HU.out.keep p3
      have q4 := HU.out.keep p4
      have hS := HS.out
      rw [List.drop_eq_getElem_cons hlt, shapeF] at hS
      have S1 := Lib.hid (fun W : World => operandsI f[k].kd f[k].vr f[k].lb f[k].nt W)
      have har := arI_in f[k].kd
      clear p1 p2 p3 p4 HS
      by_cases hz : m = 0
      · rw [if_pos hz] at hS
        have HR := Lib.hid hS
        have bz : (m == 0) = true := by simpa using hz
        clear hS hz S1 har
        generalize f[k] = x at *
        obtain ⟨x1, x2, x3, x4⟩ := x
        simp only at q1 q2 q3 q4
        go_wp2_with fail
        go_ret
        exact ⟨by rw [← HR.out]; rfl, HU.out.alloc _⟩
      · rw [if_neg hz] at hS
        have HR := Lib.hid hS
        have bz : (m == 0) = false := by simpa using hz
        clear hS hz
        generalize arI f[k].kd = ar at *
        generalize f[k] = x at *
        obtain ⟨x1, x2, x3, x4⟩ := x
        simp only at q1 q2 q3 q4 S1
        go_wp2_with fail
        refine (S1.out _).mono ?_
        rintro e w1 ⟨rfl, hu1⟩
        have HU1 := Lib.hid ((HU.out.alloc _).trans hu1)
        clear S1 hu1 HU q1 q2 q3 q4
        obtain ⟨m2, hm2⟩ : ∃ m2 : Int, m2 = m + ar - 1 := ⟨_, rfl⟩
        have hm3 : m + (ar - 1) = m2 := by omega
        have HM := Lib.hid hm2
        rw [← hm2] at HR
        have hm4 : 0 ≤ m2 := by
          have hmz : m ≠ 0 := by simpa using bz
          omega
        have hm5 : m2 ≤ 1 + 2 * (k + 1) := by omega
        clear hm2
        go_wp2_with fail
        go_roundw
        case rel => exact ⟨k + 1, m2, by omega, by go_num, rfl, hm4, by omega, HR, HU1⟩
        case measure => simp [intOf]; omega
    · obtain rfl : k = f.length := by omega
      have HR := Lib.hid (show (m == 0) = shapeF arI 1 f by rw [← HS.out, List.drop_length]; rfl)
      clear HS
      generalize hq : (m == 0) = q at *
      go_wp2_with fail
      go_ret
      exact ⟨by rw [← HR.out]; rfl, HU.out⟩

set_option maxRecDepth 20000 in
set_option maxHeartbeats 2000000 in
theorem endI (v : Value) (f : List Nd) (i : Nat) (w : World) (fp : List Nat) (hR : R_F1 fp w [v] f) (hlen : f.length ≤ 2000000) (hi : i < f.length) (hs : ∃ q : Int, 1 ≤ q ∧ shapeF arI q (f.drop i) = true) :
    Calls Tryz.prog 56 #[v, .int .i64 i] w fun e w' => e = .returned (.int .i64 ((i + endF arI 1 (f.drop i) : Nat) : Int)) ∧ Upd [] w w' := by
  obtain ⟨a, cap, rfl, h1, h2, hc⟩ := slF4_open hR
  unfold maxLen at h2
  have HC := Lib.hid hc
  have HQ := Lib.hid hs
  clear hR hc hs
  go_enter Tryz.func56, Tryz.ntmps56
  go_wp2_with fail
  go_loopw [1, 5] (fun kv mv wr => ∃ (k : Nat) (m : Int), k ≤ f.length ∧ kv = .int .i64 k ∧ mv = .int .i64 m ∧ 0 ≤ m ∧ m ≤ 1 + 2 * k ∧ Hid (∃ q : Int, m ≤ q ∧ shapeF arI q (f.drop k) = true) ∧ Hid (k + endF arI m (f.drop k) = i + endF arI 1 (f.drop i)) ∧ Hid (Upd [] w wr)) (fun kv _ _ => f.length - (intOf kv).toNat)
  case atStart => exact ⟨i, 1, by omega, rfl, rfl, by omega, by omega, Lib.hid (by obtain ⟨q, h, h'⟩ := HQ.out; exact ⟨q, h, h'⟩), Lib.hid rfl, Lib.hid (Upd.refl _ _)⟩
  case round =>
    clear HQ
    obtain ⟨wo, rfl⟩ : ∃ wo : World, wo = wr := ⟨_, rfl⟩
    obtain ⟨k, m, hk, rfl, rfl, hm0, hm1, HS, HE, HU⟩ := hrel
    by_cases hz : m = 0
    · subst hz
      have HR := Lib.hid (show k = i + endF arI 1 (f.drop i) by
        rw [← HE.out]
        cases f.drop k with
        | nil => rfl
        | cons n l => simp [endF])
      clear HS HE
      go_wp2_with fail
      go_ret
      exact ⟨by rw [← HR.out]; rfl, HU.out⟩
    · have hlt : k < f.length := by
        rcases Nat.lt_or_ge k f.length with h | h
        · exact h
        · exfalso
          obtain ⟨q, g1, g2⟩ := HS.out
          rw [List.drop_of_length_le h, shapeF] at g2
          simp at g2; omega
      obtain ⟨b1, o1, rfl, -, -, p1, p2, p3, p4⟩ := HC.out k hlt
      have q1 := HU.out.keep p1
      have q2 := HU.out.keep p2
      have q3 := HU.out.keep p3
      have q4 := HU.out.keep p4
      have S1 := Lib.hid (operandsI f[k].kd f[k].vr f[k].lb f[k].nt wo)
      have har := arI_in f[k].kd
      have HS2 := Lib.hid (show ∃ q : Int, m + arI f[k].kd - 1 ≤ q ∧ shapeF arI q (f.drop (k + 1)) = true from by
        obtain ⟨q, g1, g2⟩ := HS.out
        rw [List.drop_eq_getElem_cons hlt] at g2
        exact ⟨q + arI f[k].kd - 1, by omega, (shape_step g2).2⟩)
      have HE2 := Lib.hid (show k + 1 + endF arI (m + arI f[k].kd - 1) (f.drop (k + 1)) = i + endF arI 1 (f.drop i) by
        rw [← HE.out, List.drop_eq_getElem_cons hlt, endF, if_neg (by omega)]; omega)
      have hmp : 0 < m := by omega
      clear p1 p2 p3 p4 HS HE hz
      generalize arI f[k].kd = ar at *
      generalize f[k] = x at *
      obtain ⟨x1, x2, x3, x4⟩ := x
      simp only at q1 q2 q3 q4 S1
      go_wp2_with fail
      refine S1.out.mono ?_
      rintro e w1 ⟨rfl, hu1⟩
      have HU1 := Lib.hid (HU.out.trans hu1)
      clear S1 hu1 HU q1 q2 q3 q4
      obtain ⟨m2, hm2⟩ : ∃ m2 : Int, m2 = m + ar - 1 := ⟨_, rfl⟩
      have hm3 : m + (ar - 1) = m2 := by omega
      rw [← hm2] at HS2 HE2
      have hm4 : 0 ≤ m2 := by omega
      have hm5 : m2 ≤ 1 + 2 * (k + 1) := by omega
      clear hm2
      go_wp2_with fail
      go_roundw
      case rel => exact ⟨k + 1, m2, by omega, by go_num, rfl, hm4, by omega, HS2, HE2, HU1⟩
      case measure => simp [intOf]; omega

end Go.Proofs.YthoacpecfmfeiaaGreatDoor

/-
  The program's search for what binds a variable, and its check of a formula: what the calls return. (The drawn region's ways are printed by tools/genforb.py.)
-/
namespace Go.Proofs.YthoacpecfmfeiaaGreatDoor
open Go.RowKit

set_option maxRecDepth 20000 in
set_option maxHeartbeats 4000000 in
theorem bindI (v : Value) (f : List Nd) (k : Nat) (w : World) (fp : List Nat) (hR : R_F1 fp w [v] f) (hlen : f.length ≤ 2000000) (hk : k < f.length) (hs : shapeF arI 1 f = true) :
    Calls Tryz.prog 43 #[v, .int .i64 k] w fun e w' => e = .returned (.int .i64 (bindF arI f k k)) ∧ Upd [] w w' := by
  have HR := Lib.hid hR
  have HSH := Lib.hid (shape_drop arI_in f 1 (by omega) hs)
  obtain ⟨a, cap, rfl, h1, h2, hc⟩ := slF4_open hR
  unfold maxLen at h2
  obtain ⟨b1, o1, rfl, -, -, hcs⟩ := hc 0 (by omega)
  have HC := Lib.hid (fun i (hi : i < f.length) => show w.cell? ⟨b1, o1 + i * 4, none⟩ = some (ei f[i].kd) ∧ w.cell? ⟨b1, o1 + i * 4 + 1, none⟩ = some (ei f[i].vr) ∧ w.cell? ⟨b1, o1 + i * 4 + 2, none⟩ = some (es f[i].lb) ∧ w.cell? ⟨b1, o1 + i * 4 + 3, none⟩ = some (.bool f[i].nt) from by
    obtain ⟨b, o, hbo, -, -, q⟩ := hc i hi
    cases hbo
    exact q)
  clear hR hc hcs hs
  go_enter Tryz.func43, Tryz.ntmps43
  go_wp2_with fail
  go_loopw [5] (fun zv wr => ∃ z : Int, zv = .int .i64 z ∧ -1 ≤ z ∧ z < k ∧ Hid (bindF arI f k (z + 1).toNat = bindF arI f k k) ∧ Hid (Upd [] w wr)) (fun zv _ => (intOf zv + 1).toNat)
  case atStart => exact ⟨(k : Int) - 1, rfl, by omega, by omega, Lib.hid (by congr 1; omega), Lib.hid (Upd.refl _ _)⟩
  case round =>
    obtain ⟨wo, rfl⟩ : ∃ wo : World, wo = wr := ⟨_, rfl⟩
    obtain ⟨z, rfl, hz1, hzk, HB, HU⟩ := hrel
    by_cases hz : z < 0
    · obtain rfl : z = -1 := by omega
      have HE := Lib.hid (show bindF arI f k k = -1 by rw [← HB.out]; rfl)
      clear HB hz
      go_wp2_with fail
      go_ret
      exact ⟨by rw [HE.out]; rfl, HU.out⟩
    · obtain ⟨j, rfl⟩ : ∃ j : Nat, z = j := ⟨z.toNat, by omega⟩
      have hjf : j < f.length := by omega
      obtain ⟨q1, q2, q3, q4⟩ := HC.out j hjf
      obtain ⟨-, q5, -, -⟩ := HC.out k hk
      have q1 := HU.out.keep q1
      have q2 := HU.out.keep q2
      have q3 := HU.out.keep q3
      have q4 := HU.out.keep q4
      have q5 := HU.out.keep q5
      have gj : f.getD j nd0 = f[j] := by rw [List.getD_eq_getElem?_getD, List.getElem?_eq_getElem hjf]; rfl
      have gk : f.getD k nd0 = f[k] := by rw [List.getD_eq_getElem?_getD, List.getElem?_eq_getElem hk]; rfl
      have HB2 := Lib.hid (show bindF arI f k k = if fixF f[j].kd && (f[j].vr == f[k].vr) && decide (k < j + endF arI 1 (f.drop j)) then (j : Int) else bindF arI f k j by
        rw [← HB.out, show ((j : Int) + 1).toNat = j + 1 by omega, bindF]
        unfold bndP
        rw [gj, gk])
      have SE := Lib.hid (fun W (hu : Upd [] wo W) => endI _ f j W fp (R_F1k.upd HR.out (HU.out.trans hu) (by simp)) hlen hjf (by obtain ⟨q, g1, -, g3⟩ := HSH.out j hjf; exact ⟨q, g1, g3⟩))
      have SF := Lib.hid (fun W : World => isFixI f[j].kd f[j].vr f[j].lb f[j].nt W)
      have HJ := Lib.hid (show ((j : Int) - 1 + 1).toNat = j by omega)
      have jl : (j : Int) < f.length := by omega
      have kl : (k : Int) < f.length := by omega
      have j0 : 0 ≤ (j : Int) := by omega
      clear gj gk HB hz
      generalize endF arI 1 (f.drop j) = en at *
      generalize f[k].vr = y2 at *
      generalize f[j] = x at *
      obtain ⟨x1, x2, x3, x4⟩ := x
      simp only at q1 q2 q3 q4 HB2 SF
      cases hfx : fixF x1 with
      | false =>
        rw [hfx] at SF
        go_upto_region 4 with (fail)
        refine wp_region_held_drew (S := fun w' => w'.cell? ⟨b1, o1 + j * 4, none⟩ = some (ei x1) ∧ w'.cell? ⟨b1, o1 + j * 4 + 1, none⟩ = some (ei x2) ∧ w'.cell? ⟨b1, o1 + j * 4 + 2, none⟩ = some (es x3) ∧ w'.cell? ⟨b1, o1 + j * 4 + 3, none⟩ = some (.bool x4) ∧ w'.cell? ⟨b1, o1 + k * 4 + 1, none⟩ = some (ei y2)) (by kernel_rfl) ?_ (fun hHeld => ?_)
        · exact ⟨q1, q2, q3, q4, q5⟩
        refine wpAnyH_take (i := 0) (v := ?_) rfl (by kernel_rfl) (by kernel_rfl) (by kernel_rfl) (fun _ _ _ h => h) (Or.inl ⟨by rfl, ?_⟩) (by assumption) ?_
        rotate_left
        · (intro w hSw; (try dsimp only at hSw); go_simp)
          first | done | with_reducible rfl
        simp only [Act.put, List.getElem_toArray, List.getElem_cons_zero, List.getElem_cons_succ, List.setIfInBounds_toArray, List.set_cons_zero, List.set_cons_succ]
        refine wpAnyH_take (i := 1) (v := ?_) rfl (by kernel_rfl) (by kernel_rfl) (by kernel_rfl) (fun _ _ _ h => h) (Or.inl ⟨by rfl, ?_⟩) (by assumption) ?_
        rotate_left
        · (intro w hSw; (try dsimp only at hSw); go_simp)
          first | done | with_reducible rfl
        simp only [Act.put, List.getElem_toArray, List.getElem_cons_zero, List.getElem_cons_succ, List.setIfInBounds_toArray, List.set_cons_zero, List.set_cons_succ]
        refine wpAnyH_take (i := 2) (v := ?_) rfl (by kernel_rfl) (by kernel_rfl) (by kernel_rfl) (fun _ _ _ h => h) (Or.inl ⟨by rfl, ?_⟩) (by assumption) ?_
        rotate_left
        · (intro w hSw; (try dsimp only at hSw); go_simp)
          first | done | with_reducible rfl
        simp only [Act.put, List.getElem_toArray, List.getElem_cons_zero, List.getElem_cons_succ, List.setIfInBounds_toArray, List.set_cons_zero, List.set_cons_succ]
        refine wpAnyH_take (i := 3) (v := ?_) rfl (by kernel_rfl) (by kernel_rfl) (by kernel_rfl) (fun _ _ _ h => h) (Or.inl ⟨by rfl, ?_⟩) (by assumption) ?_
        rotate_left
        · (intro w hSw; (try dsimp only at hSw); go_simp)
          first | done | with_reducible rfl
        simp only [Act.put, List.getElem_toArray, List.getElem_cons_zero, List.getElem_cons_succ, List.setIfInBounds_toArray, List.set_cons_zero, List.set_cons_succ]
        refine wpAnyH_ready (rs := [4]) (by kernel_rfl) (by simp) ?_
        refine AllReadyH.cons rfl (fun K hK => ?_) AllReadyH.nil
        go_simp
        refine (SF.out _).mono ?_
        rintro e w4 ⟨rfl, hu1⟩
        have hv1 : Upd [] wo w4 := (Upd.refl [] wo).drew.trans hu1
        refine hK.out _ _ ?_ (fun hHeld => ?_)
        · exact ⟨hu1.keep hHeld.1, hu1.keep hHeld.2.1, hu1.keep hHeld.2.2.1, hu1.keep hHeld.2.2.2.1, hu1.keep hHeld.2.2.2.2⟩
        clear hK K
        try simp only [Act.put, List.getElem_toArray, List.getElem_cons_zero, List.getElem_cons_succ, List.setIfInBounds_toArray, List.set_cons_zero, List.set_cons_succ]
        refine wpAnyH_take (i := 5) (v := ?_) rfl (by kernel_rfl) (by kernel_rfl) (by kernel_rfl) (fun _ _ _ h => h) (Or.inl ⟨by rfl, ?_⟩) (by assumption) ?_
        rotate_left
        · (intro w hSw; (try dsimp only at hSw); go_simp)
          first | done | with_reducible rfl
        simp only [Act.put, List.getElem_toArray, List.getElem_cons_zero, List.getElem_cons_succ, List.setIfInBounds_toArray, List.set_cons_zero, List.set_cons_succ]
        refine wpAnyH_take (i := 6) rfl (by kernel_rfl) (by kernel_rfl) (by kernel_rfl) (fun _ _ _ h => h) (Or.inr ⟨by rfl, rfl⟩) (by assumption) ?_
        simp only [Act.put, List.getElem_toArray, List.getElem_cons_zero, List.getElem_cons_succ, List.setIfInBounds_toArray, List.set_cons_zero, List.set_cons_succ]
        refine wpAnyH_take (i := 7) rfl (by kernel_rfl) (by kernel_rfl) (by kernel_rfl) (fun _ _ _ h => h) (Or.inr ⟨by rfl, rfl⟩) (by assumption) ?_
        simp only [Act.put, List.getElem_toArray, List.getElem_cons_zero, List.getElem_cons_succ, List.setIfInBounds_toArray, List.set_cons_zero, List.set_cons_succ]
        refine wpAnyH_take (i := 8) rfl (by kernel_rfl) (by kernel_rfl) (by kernel_rfl) (fun _ _ _ h => h) (Or.inr ⟨by rfl, rfl⟩) (by assumption) ?_
        simp only [Act.put, List.getElem_toArray, List.getElem_cons_zero, List.getElem_cons_succ, List.setIfInBounds_toArray, List.set_cons_zero, List.set_cons_succ]
        refine wpAnyH_take (i := 9) rfl (by kernel_rfl) (by kernel_rfl) (by kernel_rfl) (fun _ _ _ h => h) (Or.inr ⟨by rfl, rfl⟩) (by assumption) ?_
        simp only [Act.put, List.getElem_toArray, List.getElem_cons_zero, List.getElem_cons_succ, List.setIfInBounds_toArray, List.set_cons_zero, List.set_cons_succ]
        refine wpAnyH_take (i := 10) rfl (by kernel_rfl) (by kernel_rfl) (by kernel_rfl) (fun _ _ _ h => h) (Or.inr ⟨by rfl, rfl⟩) (by assumption) ?_
        simp only [Act.put, List.getElem_toArray, List.getElem_cons_zero, List.getElem_cons_succ, List.setIfInBounds_toArray, List.set_cons_zero, List.set_cons_succ]
        refine wpAnyH_take (i := 11) rfl (by kernel_rfl) (by kernel_rfl) (by kernel_rfl) (fun _ _ _ h => h) (Or.inr ⟨by rfl, rfl⟩) (by assumption) ?_
        simp only [Act.put, List.getElem_toArray, List.getElem_cons_zero, List.getElem_cons_succ, List.setIfInBounds_toArray, List.set_cons_zero, List.set_cons_succ]
        refine wpAnyH_take (i := 12) rfl (by kernel_rfl) (by kernel_rfl) (by kernel_rfl) (fun _ _ _ h => h) (Or.inr ⟨by rfl, rfl⟩) (by assumption) ?_
        simp only [Act.put, List.getElem_toArray, List.getElem_cons_zero, List.getElem_cons_succ, List.setIfInBounds_toArray, List.set_cons_zero, List.set_cons_succ]
        refine wpAnyH_take (i := 13) rfl (by kernel_rfl) (by kernel_rfl) (by kernel_rfl) (fun _ _ _ h => h) (Or.inr ⟨by rfl, rfl⟩) (by assumption) ?_
        simp only [Act.put, List.getElem_toArray, List.getElem_cons_zero, List.getElem_cons_succ, List.setIfInBounds_toArray, List.set_cons_zero, List.set_cons_succ]
        refine wpAnyH_take (i := 14) rfl (by kernel_rfl) (by kernel_rfl) (by kernel_rfl) (fun _ _ _ h => h) (Or.inr ⟨by rfl, rfl⟩) (by assumption) ?_
        simp only [Act.put, List.getElem_toArray, List.getElem_cons_zero, List.getElem_cons_succ, List.setIfInBounds_toArray, List.set_cons_zero, List.set_cons_succ]
        refine wpAnyH_take (i := 15) rfl (by kernel_rfl) (by kernel_rfl) (by kernel_rfl) (fun _ _ _ h => h) (Or.inr ⟨by rfl, rfl⟩) (by assumption) ?_
        simp only [Act.put, List.getElem_toArray, List.getElem_cons_zero, List.getElem_cons_succ, List.setIfInBounds_toArray, List.set_cons_zero, List.set_cons_succ]
        refine wpAnyH_take (i := 16) rfl (by kernel_rfl) (by kernel_rfl) (by kernel_rfl) (fun _ _ _ h => h) (Or.inr ⟨by rfl, rfl⟩) (by assumption) ?_
        simp only [Act.put, List.getElem_toArray, List.getElem_cons_zero, List.getElem_cons_succ, List.setIfInBounds_toArray, List.set_cons_zero, List.set_cons_succ]
        refine wpAnyH_take (i := 17) (v := ?_) rfl (by kernel_rfl) (by kernel_rfl) (by kernel_rfl) (fun _ _ _ h => h) (Or.inl ⟨by rfl, ?_⟩) (by assumption) ?_
        rotate_left
        · (intro w hSw; (try dsimp only at hSw); go_simp)
          first | done | with_reducible rfl
        simp only [Act.put, List.getElem_toArray, List.getElem_cons_zero, List.getElem_cons_succ, List.setIfInBounds_toArray, List.set_cons_zero, List.set_cons_succ]
        refine wpAnyH_take (i := 18) (v := ?_) rfl (by kernel_rfl) (by kernel_rfl) (by kernel_rfl) (fun _ _ _ h => h) (Or.inl ⟨by rfl, ?_⟩) (by assumption) ?_
        rotate_left
        · (intro w hSw; (try dsimp only at hSw); go_simp)
          first | done | with_reducible rfl
        simp only [Act.put, List.getElem_toArray, List.getElem_cons_zero, List.getElem_cons_succ, List.setIfInBounds_toArray, List.set_cons_zero, List.set_cons_succ]
        refine wpAnyH_take (i := 19) rfl (by kernel_rfl) (by kernel_rfl) (by kernel_rfl) (fun _ _ _ h => h) (Or.inr ⟨by rfl, rfl⟩) (by assumption) ?_
        simp only [Act.put, List.getElem_toArray, List.getElem_cons_zero, List.getElem_cons_succ, List.setIfInBounds_toArray, List.set_cons_zero, List.set_cons_succ]
        refine wpAnyH_take (i := 20) rfl (by kernel_rfl) (by kernel_rfl) (by kernel_rfl) (fun _ _ _ h => h) (Or.inr ⟨by rfl, rfl⟩) (by assumption) ?_
        simp only [Act.put, List.getElem_toArray, List.getElem_cons_zero, List.getElem_cons_succ, List.setIfInBounds_toArray, List.set_cons_zero, List.set_cons_succ]
        refine wpAnyH_take (i := 21) rfl (by kernel_rfl) (by kernel_rfl) (by kernel_rfl) (fun _ _ _ h => h) (Or.inr ⟨by rfl, rfl⟩) (by assumption) ?_
        simp only [Act.put, List.getElem_toArray, List.getElem_cons_zero, List.getElem_cons_succ, List.setIfInBounds_toArray, List.set_cons_zero, List.set_cons_succ]
        refine wpAnyH_take (i := 22) rfl (by kernel_rfl) (by kernel_rfl) (by kernel_rfl) (fun _ _ _ h => h) (Or.inr ⟨by rfl, rfl⟩) (by assumption) ?_
        simp only [Act.put, List.getElem_toArray, List.getElem_cons_zero, List.getElem_cons_succ, List.setIfInBounds_toArray, List.set_cons_zero, List.set_cons_succ]
        refine wpAnyH_take (i := 23) rfl (by kernel_rfl) (by kernel_rfl) (by kernel_rfl) (fun _ _ _ h => h) (Or.inr ⟨by rfl, rfl⟩) (by assumption) ?_
        simp only [Act.put, List.getElem_toArray, List.getElem_cons_zero, List.getElem_cons_succ, List.setIfInBounds_toArray, List.set_cons_zero, List.set_cons_succ]
        refine wpAnyH_take (i := 24) (v := ?_) rfl (by kernel_rfl) (by kernel_rfl) (by kernel_rfl) (fun _ _ _ h => h) (Or.inl ⟨by rfl, ?_⟩) (by assumption) ?_
        rotate_left
        · (intro w hSw; (try dsimp only at hSw); go_simp)
          first | done | with_reducible rfl
        simp only [Act.put, List.getElem_toArray, List.getElem_cons_zero, List.getElem_cons_succ, List.setIfInBounds_toArray, List.set_cons_zero, List.set_cons_succ]
        refine wpAnyH_done (by kernel_rfl) ?_ _
        have HE := Lib.hid (show bindF arI f k j = bindF arI f k k by rw [HB2.out, hfx]; simp)
        have HU9 := Lib.hid (HU.out.trans (hv1))
        clear HB2 HU hHeld q1 q2 q3 q4 q5 SE SF
        go_wp2_with fail
        go_roundw
        case rel => exact ⟨(j : Int) - 1, rfl, by omega, by omega, Lib.hid (by rw [HJ.out]; exact HE.out), HU9⟩
        case measure => simp [intOf]
      | true =>
        rw [hfx] at SF
        cases heq : (x2 == y2) with
        | false =>
          go_upto_region 4 with (fail)
          refine wp_region_held_drew (S := fun w' => w'.cell? ⟨b1, o1 + j * 4, none⟩ = some (ei x1) ∧ w'.cell? ⟨b1, o1 + j * 4 + 1, none⟩ = some (ei x2) ∧ w'.cell? ⟨b1, o1 + j * 4 + 2, none⟩ = some (es x3) ∧ w'.cell? ⟨b1, o1 + j * 4 + 3, none⟩ = some (.bool x4) ∧ w'.cell? ⟨b1, o1 + k * 4 + 1, none⟩ = some (ei y2)) (by kernel_rfl) ?_ (fun hHeld => ?_)
          · exact ⟨q1, q2, q3, q4, q5⟩
          refine wpAnyH_take (i := 0) (v := ?_) rfl (by kernel_rfl) (by kernel_rfl) (by kernel_rfl) (fun _ _ _ h => h) (Or.inl ⟨by rfl, ?_⟩) (by assumption) ?_
          rotate_left
          · (intro w hSw; (try dsimp only at hSw); go_simp)
            first | done | with_reducible rfl
          simp only [Act.put, List.getElem_toArray, List.getElem_cons_zero, List.getElem_cons_succ, List.setIfInBounds_toArray, List.set_cons_zero, List.set_cons_succ]
          refine wpAnyH_take (i := 1) (v := ?_) rfl (by kernel_rfl) (by kernel_rfl) (by kernel_rfl) (fun _ _ _ h => h) (Or.inl ⟨by rfl, ?_⟩) (by assumption) ?_
          rotate_left
          · (intro w hSw; (try dsimp only at hSw); go_simp)
            first | done | with_reducible rfl
          simp only [Act.put, List.getElem_toArray, List.getElem_cons_zero, List.getElem_cons_succ, List.setIfInBounds_toArray, List.set_cons_zero, List.set_cons_succ]
          refine wpAnyH_take (i := 2) (v := ?_) rfl (by kernel_rfl) (by kernel_rfl) (by kernel_rfl) (fun _ _ _ h => h) (Or.inl ⟨by rfl, ?_⟩) (by assumption) ?_
          rotate_left
          · (intro w hSw; (try dsimp only at hSw); go_simp)
            first | done | with_reducible rfl
          simp only [Act.put, List.getElem_toArray, List.getElem_cons_zero, List.getElem_cons_succ, List.setIfInBounds_toArray, List.set_cons_zero, List.set_cons_succ]
          refine wpAnyH_take (i := 3) (v := ?_) rfl (by kernel_rfl) (by kernel_rfl) (by kernel_rfl) (fun _ _ _ h => h) (Or.inl ⟨by rfl, ?_⟩) (by assumption) ?_
          rotate_left
          · (intro w hSw; (try dsimp only at hSw); go_simp)
            first | done | with_reducible rfl
          simp only [Act.put, List.getElem_toArray, List.getElem_cons_zero, List.getElem_cons_succ, List.setIfInBounds_toArray, List.set_cons_zero, List.set_cons_succ]
          refine wpAnyH_ready (rs := [4]) (by kernel_rfl) (by simp) ?_
          refine AllReadyH.cons rfl (fun K hK => ?_) AllReadyH.nil
          go_simp
          refine (SF.out _).mono ?_
          rintro e w4 ⟨rfl, hu1⟩
          have hv1 : Upd [] wo w4 := (Upd.refl [] wo).drew.trans hu1
          refine hK.out _ _ ?_ (fun hHeld => ?_)
          · exact ⟨hu1.keep hHeld.1, hu1.keep hHeld.2.1, hu1.keep hHeld.2.2.1, hu1.keep hHeld.2.2.2.1, hu1.keep hHeld.2.2.2.2⟩
          clear hK K
          try simp only [Act.put, List.getElem_toArray, List.getElem_cons_zero, List.getElem_cons_succ, List.setIfInBounds_toArray, List.set_cons_zero, List.set_cons_succ]
          refine wpAnyH_take (i := 5) (v := ?_) rfl (by kernel_rfl) (by kernel_rfl) (by kernel_rfl) (fun _ _ _ h => h) (Or.inl ⟨by rfl, ?_⟩) (by assumption) ?_
          rotate_left
          · (intro w hSw; (try dsimp only at hSw); go_simp)
            first | done | with_reducible rfl
          simp only [Act.put, List.getElem_toArray, List.getElem_cons_zero, List.getElem_cons_succ, List.setIfInBounds_toArray, List.set_cons_zero, List.set_cons_succ]
          refine wpAnyH_take (i := 6) (v := ?_) rfl (by kernel_rfl) (by kernel_rfl) (by kernel_rfl) (fun _ _ _ h => h) (Or.inl ⟨by rfl, ?_⟩) (by assumption) ?_
          rotate_left
          · (intro w hSw; (try dsimp only at hSw); go_simp)
            first | done | with_reducible rfl
          simp only [Act.put, List.getElem_toArray, List.getElem_cons_zero, List.getElem_cons_succ, List.setIfInBounds_toArray, List.set_cons_zero, List.set_cons_succ]
          refine wpAnyH_take (i := 7) (v := ?_) rfl (by kernel_rfl) (by kernel_rfl) (by kernel_rfl) (fun _ _ _ h => h) (Or.inl ⟨by rfl, ?_⟩) (by assumption) ?_
          rotate_left
          · (intro w hSw; (try dsimp only at hSw); go_simp)
            first | done | with_reducible rfl
          simp only [Act.put, List.getElem_toArray, List.getElem_cons_zero, List.getElem_cons_succ, List.setIfInBounds_toArray, List.set_cons_zero, List.set_cons_succ]
          refine wpAnyH_take (i := 8) (v := ?_) rfl (by kernel_rfl) (by kernel_rfl) (by kernel_rfl) (fun _ _ _ h => h) (Or.inl ⟨by rfl, ?_⟩) (by assumption) ?_
          rotate_left
          · (intro w hSw; (try dsimp only at hSw); go_simp)
            first | done | with_reducible rfl
          simp only [Act.put, List.getElem_toArray, List.getElem_cons_zero, List.getElem_cons_succ, List.setIfInBounds_toArray, List.set_cons_zero, List.set_cons_succ]
          refine wpAnyH_take (i := 9) (v := ?_) rfl (by kernel_rfl) (by kernel_rfl) (by kernel_rfl) (fun _ _ _ h => h) (Or.inl ⟨by rfl, ?_⟩) (by assumption) ?_
          rotate_left
          · (intro w hSw; (try dsimp only at hSw); go_simp)
            first | done | with_reducible rfl
          simp only [Act.put, List.getElem_toArray, List.getElem_cons_zero, List.getElem_cons_succ, List.setIfInBounds_toArray, List.set_cons_zero, List.set_cons_succ]
          refine wpAnyH_take (i := 10) (v := ?_) rfl (by kernel_rfl) (by kernel_rfl) (by kernel_rfl) (fun _ _ _ h => h) (Or.inl ⟨by rfl, ?_⟩) (by assumption) ?_
          rotate_left
          · (intro w hSw; (try dsimp only at hSw); go_simp)
            first | done | with_reducible rfl
          simp only [Act.put, List.getElem_toArray, List.getElem_cons_zero, List.getElem_cons_succ, List.setIfInBounds_toArray, List.set_cons_zero, List.set_cons_succ]
          refine wpAnyH_take (i := 11) (v := ?_) rfl (by kernel_rfl) (by kernel_rfl) (by kernel_rfl) (fun _ _ _ h => h) (Or.inl ⟨by rfl, ?_⟩) (by assumption) ?_
          rotate_left
          · (intro w hSw; (try dsimp only at hSw); go_simp)
            first | done | with_reducible rfl
          simp only [Act.put, List.getElem_toArray, List.getElem_cons_zero, List.getElem_cons_succ, List.setIfInBounds_toArray, List.set_cons_zero, List.set_cons_succ]
          refine wpAnyH_take (i := 12) (v := ?_) rfl (by kernel_rfl) (by kernel_rfl) (by kernel_rfl) (fun _ _ _ h => h) (Or.inl ⟨by rfl, ?_⟩) (by assumption) ?_
          rotate_left
          · (intro w hSw; (try dsimp only at hSw); go_simp)
            first | done | with_reducible rfl
          simp only [Act.put, List.getElem_toArray, List.getElem_cons_zero, List.getElem_cons_succ, List.setIfInBounds_toArray, List.set_cons_zero, List.set_cons_succ]
          refine wpAnyH_take (i := 13) (v := ?_) rfl (by kernel_rfl) (by kernel_rfl) (by kernel_rfl) (fun _ _ _ h => h) (Or.inl ⟨by rfl, ?_⟩) (by assumption) ?_
          rotate_left
          · (intro w hSw; (try dsimp only at hSw); go_simp)
            first | done | with_reducible rfl
          simp only [Act.put, List.getElem_toArray, List.getElem_cons_zero, List.getElem_cons_succ, List.setIfInBounds_toArray, List.set_cons_zero, List.set_cons_succ]
          refine wpAnyH_take (i := 14) (v := ?_) rfl (by kernel_rfl) (by kernel_rfl) (by kernel_rfl) (fun _ _ _ h => h) (Or.inl ⟨by rfl, ?_⟩) (by assumption) ?_
          rotate_left
          · (intro w hSw; (try dsimp only at hSw); go_simp)
            first | done | with_reducible rfl
          simp only [Act.put, List.getElem_toArray, List.getElem_cons_zero, List.getElem_cons_succ, List.setIfInBounds_toArray, List.set_cons_zero, List.set_cons_succ]
          refine wpAnyH_take (i := 15) (v := ?_) rfl (by kernel_rfl) (by kernel_rfl) (by kernel_rfl) (fun _ _ _ h => h) (Or.inl ⟨by rfl, ?_⟩) (by assumption) ?_
          rotate_left
          · (intro w hSw; (try dsimp only at hSw); go_simp)
            first | done | with_reducible rfl
          simp only [Act.put, List.getElem_toArray, List.getElem_cons_zero, List.getElem_cons_succ, List.setIfInBounds_toArray, List.set_cons_zero, List.set_cons_succ]
          refine wpAnyH_take (i := 16) (v := ?_) rfl (by kernel_rfl) (by kernel_rfl) (by kernel_rfl) (fun _ _ _ h => h) (Or.inl ⟨by rfl, ?_⟩) (by assumption) ?_
          rotate_left
          · (intro w hSw; (try dsimp only at hSw); go_simp)
            first | done | with_reducible rfl
          simp only [Act.put, List.getElem_toArray, List.getElem_cons_zero, List.getElem_cons_succ, List.setIfInBounds_toArray, List.set_cons_zero, List.set_cons_succ]
          try simp only [heq]
          refine wpAnyH_take (i := 17) (v := ?_) rfl (by kernel_rfl) (by kernel_rfl) (by kernel_rfl) (fun _ _ _ h => h) (Or.inl ⟨by rfl, ?_⟩) (by assumption) ?_
          rotate_left
          · (intro w hSw; (try dsimp only at hSw); go_simp)
            first | done | with_reducible rfl
          simp only [Act.put, List.getElem_toArray, List.getElem_cons_zero, List.getElem_cons_succ, List.setIfInBounds_toArray, List.set_cons_zero, List.set_cons_succ]
          refine wpAnyH_take (i := 18) (v := ?_) rfl (by kernel_rfl) (by kernel_rfl) (by kernel_rfl) (fun _ _ _ h => h) (Or.inl ⟨by rfl, ?_⟩) (by assumption) ?_
          rotate_left
          · (intro w hSw; (try dsimp only at hSw); go_simp)
            first | done | with_reducible rfl
          simp only [Act.put, List.getElem_toArray, List.getElem_cons_zero, List.getElem_cons_succ, List.setIfInBounds_toArray, List.set_cons_zero, List.set_cons_succ]
          refine wpAnyH_take (i := 19) rfl (by kernel_rfl) (by kernel_rfl) (by kernel_rfl) (fun _ _ _ h => h) (Or.inr ⟨by rfl, rfl⟩) (by assumption) ?_
          simp only [Act.put, List.getElem_toArray, List.getElem_cons_zero, List.getElem_cons_succ, List.setIfInBounds_toArray, List.set_cons_zero, List.set_cons_succ]
          refine wpAnyH_take (i := 20) rfl (by kernel_rfl) (by kernel_rfl) (by kernel_rfl) (fun _ _ _ h => h) (Or.inr ⟨by rfl, rfl⟩) (by assumption) ?_
          simp only [Act.put, List.getElem_toArray, List.getElem_cons_zero, List.getElem_cons_succ, List.setIfInBounds_toArray, List.set_cons_zero, List.set_cons_succ]
          refine wpAnyH_take (i := 21) rfl (by kernel_rfl) (by kernel_rfl) (by kernel_rfl) (fun _ _ _ h => h) (Or.inr ⟨by rfl, rfl⟩) (by assumption) ?_
          simp only [Act.put, List.getElem_toArray, List.getElem_cons_zero, List.getElem_cons_succ, List.setIfInBounds_toArray, List.set_cons_zero, List.set_cons_succ]
          refine wpAnyH_take (i := 22) rfl (by kernel_rfl) (by kernel_rfl) (by kernel_rfl) (fun _ _ _ h => h) (Or.inr ⟨by rfl, rfl⟩) (by assumption) ?_
          simp only [Act.put, List.getElem_toArray, List.getElem_cons_zero, List.getElem_cons_succ, List.setIfInBounds_toArray, List.set_cons_zero, List.set_cons_succ]
          refine wpAnyH_take (i := 23) rfl (by kernel_rfl) (by kernel_rfl) (by kernel_rfl) (fun _ _ _ h => h) (Or.inr ⟨by rfl, rfl⟩) (by assumption) ?_
          simp only [Act.put, List.getElem_toArray, List.getElem_cons_zero, List.getElem_cons_succ, List.setIfInBounds_toArray, List.set_cons_zero, List.set_cons_succ]
          refine wpAnyH_take (i := 24) (v := ?_) rfl (by kernel_rfl) (by kernel_rfl) (by kernel_rfl) (fun _ _ _ h => h) (Or.inl ⟨by rfl, ?_⟩) (by assumption) ?_
          rotate_left
          · (intro w hSw; (try dsimp only at hSw); go_simp)
            first | done | with_reducible rfl
          simp only [Act.put, List.getElem_toArray, List.getElem_cons_zero, List.getElem_cons_succ, List.setIfInBounds_toArray, List.set_cons_zero, List.set_cons_succ]
          refine wpAnyH_done (by kernel_rfl) ?_ _
          have HE := Lib.hid (show bindF arI f k j = bindF arI f k k by rw [HB2.out, hfx, heq]; simp)
          have HU9 := Lib.hid (HU.out.trans (hv1))
          clear HB2 HU hHeld q1 q2 q3 q4 q5 SE SF
          go_wp2_with fail
          go_roundw
          case rel => exact ⟨(j : Int) - 1, rfl, by omega, by omega, Lib.hid (by rw [HJ.out]; exact HE.out), HU9⟩
          case measure => simp [intOf]
        | true =>
          by_cases hen : k < j + en
          · have HE := Lib.hid (show bindF arI f k k = (j : Int) by rw [HB2.out, hfx, heq, decide_eq_true hen]; rfl)
            have heni : (k : Int) < ((j + en : Nat) : Int) := by omega
            generalize ((j + en : Nat) : Int) = zz at *
            clear HB2 hen
            go_upto_region 4 with (fail)
            refine wp_region_held_drew (S := fun w' => w'.cell? ⟨b1, o1 + j * 4, none⟩ = some (ei x1) ∧ w'.cell? ⟨b1, o1 + j * 4 + 1, none⟩ = some (ei x2) ∧ w'.cell? ⟨b1, o1 + j * 4 + 2, none⟩ = some (es x3) ∧ w'.cell? ⟨b1, o1 + j * 4 + 3, none⟩ = some (.bool x4) ∧ w'.cell? ⟨b1, o1 + k * 4 + 1, none⟩ = some (ei y2)) (by kernel_rfl) ?_ (fun hHeld => ?_)
            · exact ⟨q1, q2, q3, q4, q5⟩
            refine wpAnyH_take (i := 0) (v := ?_) rfl (by kernel_rfl) (by kernel_rfl) (by kernel_rfl) (fun _ _ _ h => h) (Or.inl ⟨by rfl, ?_⟩) (by assumption) ?_
            rotate_left
            · (intro w hSw; (try dsimp only at hSw); go_simp)
              first | done | with_reducible rfl
            simp only [Act.put, List.getElem_toArray, List.getElem_cons_zero, List.getElem_cons_succ, List.setIfInBounds_toArray, List.set_cons_zero, List.set_cons_succ]
            refine wpAnyH_take (i := 1) (v := ?_) rfl (by kernel_rfl) (by kernel_rfl) (by kernel_rfl) (fun _ _ _ h => h) (Or.inl ⟨by rfl, ?_⟩) (by assumption) ?_
            rotate_left
            · (intro w hSw; (try dsimp only at hSw); go_simp)
              first | done | with_reducible rfl
            simp only [Act.put, List.getElem_toArray, List.getElem_cons_zero, List.getElem_cons_succ, List.setIfInBounds_toArray, List.set_cons_zero, List.set_cons_succ]
            refine wpAnyH_take (i := 2) (v := ?_) rfl (by kernel_rfl) (by kernel_rfl) (by kernel_rfl) (fun _ _ _ h => h) (Or.inl ⟨by rfl, ?_⟩) (by assumption) ?_
            rotate_left
            · (intro w hSw; (try dsimp only at hSw); go_simp)
              first | done | with_reducible rfl
            simp only [Act.put, List.getElem_toArray, List.getElem_cons_zero, List.getElem_cons_succ, List.setIfInBounds_toArray, List.set_cons_zero, List.set_cons_succ]
            refine wpAnyH_take (i := 3) (v := ?_) rfl (by kernel_rfl) (by kernel_rfl) (by kernel_rfl) (fun _ _ _ h => h) (Or.inl ⟨by rfl, ?_⟩) (by assumption) ?_
            rotate_left
            · (intro w hSw; (try dsimp only at hSw); go_simp)
              first | done | with_reducible rfl
            simp only [Act.put, List.getElem_toArray, List.getElem_cons_zero, List.getElem_cons_succ, List.setIfInBounds_toArray, List.set_cons_zero, List.set_cons_succ]
            refine wpAnyH_ready (rs := [4]) (by kernel_rfl) (by simp) ?_
            refine AllReadyH.cons rfl (fun K hK => ?_) AllReadyH.nil
            go_simp
            refine (SF.out _).mono ?_
            rintro e w4 ⟨rfl, hu1⟩
            have hv1 : Upd [] wo w4 := (Upd.refl [] wo).drew.trans hu1
            refine hK.out _ _ ?_ (fun hHeld => ?_)
            · exact ⟨hu1.keep hHeld.1, hu1.keep hHeld.2.1, hu1.keep hHeld.2.2.1, hu1.keep hHeld.2.2.2.1, hu1.keep hHeld.2.2.2.2⟩
            clear hK K
            try simp only [Act.put, List.getElem_toArray, List.getElem_cons_zero, List.getElem_cons_succ, List.setIfInBounds_toArray, List.set_cons_zero, List.set_cons_succ]
            refine wpAnyH_take (i := 5) (v := ?_) rfl (by kernel_rfl) (by kernel_rfl) (by kernel_rfl) (fun _ _ _ h => h) (Or.inl ⟨by rfl, ?_⟩) (by assumption) ?_
            rotate_left
            · (intro w hSw; (try dsimp only at hSw); go_simp)
              first | done | with_reducible rfl
            simp only [Act.put, List.getElem_toArray, List.getElem_cons_zero, List.getElem_cons_succ, List.setIfInBounds_toArray, List.set_cons_zero, List.set_cons_succ]
            refine wpAnyH_take (i := 6) (v := ?_) rfl (by kernel_rfl) (by kernel_rfl) (by kernel_rfl) (fun _ _ _ h => h) (Or.inl ⟨by rfl, ?_⟩) (by assumption) ?_
            rotate_left
            · (intro w hSw; (try dsimp only at hSw); go_simp)
              first | done | with_reducible rfl
            simp only [Act.put, List.getElem_toArray, List.getElem_cons_zero, List.getElem_cons_succ, List.setIfInBounds_toArray, List.set_cons_zero, List.set_cons_succ]
            refine wpAnyH_take (i := 7) (v := ?_) rfl (by kernel_rfl) (by kernel_rfl) (by kernel_rfl) (fun _ _ _ h => h) (Or.inl ⟨by rfl, ?_⟩) (by assumption) ?_
            rotate_left
            · (intro w hSw; (try dsimp only at hSw); go_simp)
              first | done | with_reducible rfl
            simp only [Act.put, List.getElem_toArray, List.getElem_cons_zero, List.getElem_cons_succ, List.setIfInBounds_toArray, List.set_cons_zero, List.set_cons_succ]
            refine wpAnyH_take (i := 8) (v := ?_) rfl (by kernel_rfl) (by kernel_rfl) (by kernel_rfl) (fun _ _ _ h => h) (Or.inl ⟨by rfl, ?_⟩) (by assumption) ?_
            rotate_left
            · (intro w hSw; (try dsimp only at hSw); go_simp)
              first | done | with_reducible rfl
            simp only [Act.put, List.getElem_toArray, List.getElem_cons_zero, List.getElem_cons_succ, List.setIfInBounds_toArray, List.set_cons_zero, List.set_cons_succ]
            refine wpAnyH_take (i := 9) (v := ?_) rfl (by kernel_rfl) (by kernel_rfl) (by kernel_rfl) (fun _ _ _ h => h) (Or.inl ⟨by rfl, ?_⟩) (by assumption) ?_
            rotate_left
            · (intro w hSw; (try dsimp only at hSw); go_simp)
              first | done | with_reducible rfl
            simp only [Act.put, List.getElem_toArray, List.getElem_cons_zero, List.getElem_cons_succ, List.setIfInBounds_toArray, List.set_cons_zero, List.set_cons_succ]
            refine wpAnyH_take (i := 10) (v := ?_) rfl (by kernel_rfl) (by kernel_rfl) (by kernel_rfl) (fun _ _ _ h => h) (Or.inl ⟨by rfl, ?_⟩) (by assumption) ?_
            rotate_left
            · (intro w hSw; (try dsimp only at hSw); go_simp)
              first | done | with_reducible rfl
            simp only [Act.put, List.getElem_toArray, List.getElem_cons_zero, List.getElem_cons_succ, List.setIfInBounds_toArray, List.set_cons_zero, List.set_cons_succ]
            refine wpAnyH_take (i := 11) (v := ?_) rfl (by kernel_rfl) (by kernel_rfl) (by kernel_rfl) (fun _ _ _ h => h) (Or.inl ⟨by rfl, ?_⟩) (by assumption) ?_
            rotate_left
            · (intro w hSw; (try dsimp only at hSw); go_simp)
              first | done | with_reducible rfl
            simp only [Act.put, List.getElem_toArray, List.getElem_cons_zero, List.getElem_cons_succ, List.setIfInBounds_toArray, List.set_cons_zero, List.set_cons_succ]
            refine wpAnyH_take (i := 12) (v := ?_) rfl (by kernel_rfl) (by kernel_rfl) (by kernel_rfl) (fun _ _ _ h => h) (Or.inl ⟨by rfl, ?_⟩) (by assumption) ?_
            rotate_left
            · (intro w hSw; (try dsimp only at hSw); go_simp)
              first | done | with_reducible rfl
            simp only [Act.put, List.getElem_toArray, List.getElem_cons_zero, List.getElem_cons_succ, List.setIfInBounds_toArray, List.set_cons_zero, List.set_cons_succ]
            refine wpAnyH_take (i := 13) (v := ?_) rfl (by kernel_rfl) (by kernel_rfl) (by kernel_rfl) (fun _ _ _ h => h) (Or.inl ⟨by rfl, ?_⟩) (by assumption) ?_
            rotate_left
            · (intro w hSw; (try dsimp only at hSw); go_simp)
              first | done | with_reducible rfl
            simp only [Act.put, List.getElem_toArray, List.getElem_cons_zero, List.getElem_cons_succ, List.setIfInBounds_toArray, List.set_cons_zero, List.set_cons_succ]
            refine wpAnyH_take (i := 14) (v := ?_) rfl (by kernel_rfl) (by kernel_rfl) (by kernel_rfl) (fun _ _ _ h => h) (Or.inl ⟨by rfl, ?_⟩) (by assumption) ?_
            rotate_left
            · (intro w hSw; (try dsimp only at hSw); go_simp)
              first | done | with_reducible rfl
            simp only [Act.put, List.getElem_toArray, List.getElem_cons_zero, List.getElem_cons_succ, List.setIfInBounds_toArray, List.set_cons_zero, List.set_cons_succ]
            refine wpAnyH_take (i := 15) (v := ?_) rfl (by kernel_rfl) (by kernel_rfl) (by kernel_rfl) (fun _ _ _ h => h) (Or.inl ⟨by rfl, ?_⟩) (by assumption) ?_
            rotate_left
            · (intro w hSw; (try dsimp only at hSw); go_simp)
              first | done | with_reducible rfl
            simp only [Act.put, List.getElem_toArray, List.getElem_cons_zero, List.getElem_cons_succ, List.setIfInBounds_toArray, List.set_cons_zero, List.set_cons_succ]
            refine wpAnyH_take (i := 16) (v := ?_) rfl (by kernel_rfl) (by kernel_rfl) (by kernel_rfl) (fun _ _ _ h => h) (Or.inl ⟨by rfl, ?_⟩) (by assumption) ?_
            rotate_left
            · (intro w hSw; (try dsimp only at hSw); go_simp)
              first | done | with_reducible rfl
            simp only [Act.put, List.getElem_toArray, List.getElem_cons_zero, List.getElem_cons_succ, List.setIfInBounds_toArray, List.set_cons_zero, List.set_cons_succ]
            try simp only [heq]
            refine wpAnyH_take (i := 17) (v := ?_) rfl (by kernel_rfl) (by kernel_rfl) (by kernel_rfl) (fun _ _ _ h => h) (Or.inl ⟨by rfl, ?_⟩) (by assumption) ?_
            rotate_left
            · (intro w hSw; (try dsimp only at hSw); go_simp)
              first | done | with_reducible rfl
            simp only [Act.put, List.getElem_toArray, List.getElem_cons_zero, List.getElem_cons_succ, List.setIfInBounds_toArray, List.set_cons_zero, List.set_cons_succ]
            refine wpAnyH_take (i := 18) (v := ?_) rfl (by kernel_rfl) (by kernel_rfl) (by kernel_rfl) (fun _ _ _ h => h) (Or.inl ⟨by rfl, ?_⟩) (by assumption) ?_
            rotate_left
            · (intro w hSw; (try dsimp only at hSw); go_simp)
              first | done | with_reducible rfl
            simp only [Act.put, List.getElem_toArray, List.getElem_cons_zero, List.getElem_cons_succ, List.setIfInBounds_toArray, List.set_cons_zero, List.set_cons_succ]
            refine wpAnyH_take (i := 19) (v := ?_) rfl (by kernel_rfl) (by kernel_rfl) (by kernel_rfl) (fun _ _ _ h => h) (Or.inl ⟨by rfl, ?_⟩) (by assumption) ?_
            rotate_left
            · (intro w hSw; (try dsimp only at hSw); go_simp)
              first | done | with_reducible rfl
            simp only [Act.put, List.getElem_toArray, List.getElem_cons_zero, List.getElem_cons_succ, List.setIfInBounds_toArray, List.set_cons_zero, List.set_cons_succ]
            refine wpAnyH_take (i := 20) (v := ?_) rfl (by kernel_rfl) (by kernel_rfl) (by kernel_rfl) (fun _ _ _ h => h) (Or.inl ⟨by rfl, ?_⟩) (by assumption) ?_
            rotate_left
            · (intro w hSw; (try dsimp only at hSw); go_simp)
              first | done | with_reducible rfl
            simp only [Act.put, List.getElem_toArray, List.getElem_cons_zero, List.getElem_cons_succ, List.setIfInBounds_toArray, List.set_cons_zero, List.set_cons_succ]
            refine wpAnyH_take (i := 21) (v := ?_) rfl (by kernel_rfl) (by kernel_rfl) (by kernel_rfl) (fun _ _ _ h => h) (Or.inl ⟨by rfl, ?_⟩) (by assumption) ?_
            rotate_left
            · (intro w hSw; (try dsimp only at hSw); go_simp)
              first | done | with_reducible rfl
            simp only [Act.put, List.getElem_toArray, List.getElem_cons_zero, List.getElem_cons_succ, List.setIfInBounds_toArray, List.set_cons_zero, List.set_cons_succ]
            refine wpAnyH_ready (rs := [22]) (by kernel_rfl) (by simp) ?_
            refine AllReadyH.cons rfl (fun K hK => ?_) AllReadyH.nil
            go_simp
            refine (SE.out w4 hv1).mono ?_
            rintro e w22 ⟨rfl, hu2⟩
            refine hK.out _ _ ?_ (fun hHeld => ?_)
            · exact ⟨hu2.keep hHeld.1, hu2.keep hHeld.2.1, hu2.keep hHeld.2.2.1, hu2.keep hHeld.2.2.2.1, hu2.keep hHeld.2.2.2.2⟩
            clear hK K
            try simp only [Act.put, List.getElem_toArray, List.getElem_cons_zero, List.getElem_cons_succ, List.setIfInBounds_toArray, List.set_cons_zero, List.set_cons_succ]
            refine wpAnyH_take (i := 23) (v := ?_) rfl (by kernel_rfl) (by kernel_rfl) (by kernel_rfl) (fun _ _ _ h => h) (Or.inl ⟨by rfl, ?_⟩) (by assumption) ?_
            rotate_left
            · (intro w hSw; (try dsimp only at hSw); go_simp)
              first | done | with_reducible rfl
            simp only [Act.put, List.getElem_toArray, List.getElem_cons_zero, List.getElem_cons_succ, List.setIfInBounds_toArray, List.set_cons_zero, List.set_cons_succ]
            try simp only [heni, decide_true]
            refine wpAnyH_take (i := 24) (v := ?_) rfl (by kernel_rfl) (by kernel_rfl) (by kernel_rfl) (fun _ _ _ h => h) (Or.inl ⟨by rfl, ?_⟩) (by assumption) ?_
            rotate_left
            · (intro w hSw; (try dsimp only at hSw); go_simp)
              first | done | with_reducible rfl
            simp only [Act.put, List.getElem_toArray, List.getElem_cons_zero, List.getElem_cons_succ, List.setIfInBounds_toArray, List.set_cons_zero, List.set_cons_succ]
            refine wpAnyH_done (by kernel_rfl) ?_ _
            have HU9 := Lib.hid (HU.out.trans (hv1.trans hu2))
            clear HU hHeld q1 q2 q3 q4 q5 SE SF
            go_wp2_with fail
            go_ret
            exact ⟨by rw [HE.out]; rfl, HU9.out⟩
          · have hend := decide_eq_false hen
            have heni : ¬ (k : Int) < ((j + en : Nat) : Int) := by omega
            have HE0 := Lib.hid (show bindF arI f k k = bindF arI f k j by rw [HB2.out, hfx, heq, hend]; simp)
            generalize ((j + en : Nat) : Int) = zz at *
            clear hend hen
            go_upto_region 4 with (fail)
            refine wp_region_held_drew (S := fun w' => w'.cell? ⟨b1, o1 + j * 4, none⟩ = some (ei x1) ∧ w'.cell? ⟨b1, o1 + j * 4 + 1, none⟩ = some (ei x2) ∧ w'.cell? ⟨b1, o1 + j * 4 + 2, none⟩ = some (es x3) ∧ w'.cell? ⟨b1, o1 + j * 4 + 3, none⟩ = some (.bool x4) ∧ w'.cell? ⟨b1, o1 + k * 4 + 1, none⟩ = some (ei y2)) (by kernel_rfl) ?_ (fun hHeld => ?_)
            · exact ⟨q1, q2, q3, q4, q5⟩
            refine wpAnyH_take (i := 0) (v := ?_) rfl (by kernel_rfl) (by kernel_rfl) (by kernel_rfl) (fun _ _ _ h => h) (Or.inl ⟨by rfl, ?_⟩) (by assumption) ?_
            rotate_left
            · (intro w hSw; (try dsimp only at hSw); go_simp)
              first | done | with_reducible rfl
            simp only [Act.put, List.getElem_toArray, List.getElem_cons_zero, List.getElem_cons_succ, List.setIfInBounds_toArray, List.set_cons_zero, List.set_cons_succ]
            refine wpAnyH_take (i := 1) (v := ?_) rfl (by kernel_rfl) (by kernel_rfl) (by kernel_rfl) (fun _ _ _ h => h) (Or.inl ⟨by rfl, ?_⟩) (by assumption) ?_
            rotate_left
            · (intro w hSw; (try dsimp only at hSw); go_simp)
              first | done | with_reducible rfl
            simp only [Act.put, List.getElem_toArray, List.getElem_cons_zero, List.getElem_cons_succ, List.setIfInBounds_toArray, List.set_cons_zero, List.set_cons_succ]
            refine wpAnyH_take (i := 2) (v := ?_) rfl (by kernel_rfl) (by kernel_rfl) (by kernel_rfl) (fun _ _ _ h => h) (Or.inl ⟨by rfl, ?_⟩) (by assumption) ?_
            rotate_left
            · (intro w hSw; (try dsimp only at hSw); go_simp)
              first | done | with_reducible rfl
            simp only [Act.put, List.getElem_toArray, List.getElem_cons_zero, List.getElem_cons_succ, List.setIfInBounds_toArray, List.set_cons_zero, List.set_cons_succ]
            refine wpAnyH_take (i := 3) (v := ?_) rfl (by kernel_rfl) (by kernel_rfl) (by kernel_rfl) (fun _ _ _ h => h) (Or.inl ⟨by rfl, ?_⟩) (by assumption) ?_
            rotate_left
            · (intro w hSw; (try dsimp only at hSw); go_simp)
              first | done | with_reducible rfl
            simp only [Act.put, List.getElem_toArray, List.getElem_cons_zero, List.getElem_cons_succ, List.setIfInBounds_toArray, List.set_cons_zero, List.set_cons_succ]
            refine wpAnyH_ready (rs := [4]) (by kernel_rfl) (by simp) ?_
            refine AllReadyH.cons rfl (fun K hK => ?_) AllReadyH.nil
            go_simp
            refine (SF.out _).mono ?_
            rintro e w4 ⟨rfl, hu1⟩
            have hv1 : Upd [] wo w4 := (Upd.refl [] wo).drew.trans hu1
            refine hK.out _ _ ?_ (fun hHeld => ?_)
            · exact ⟨hu1.keep hHeld.1, hu1.keep hHeld.2.1, hu1.keep hHeld.2.2.1, hu1.keep hHeld.2.2.2.1, hu1.keep hHeld.2.2.2.2⟩
            clear hK K
            try simp only [Act.put, List.getElem_toArray, List.getElem_cons_zero, List.getElem_cons_succ, List.setIfInBounds_toArray, List.set_cons_zero, List.set_cons_succ]
            refine wpAnyH_take (i := 5) (v := ?_) rfl (by kernel_rfl) (by kernel_rfl) (by kernel_rfl) (fun _ _ _ h => h) (Or.inl ⟨by rfl, ?_⟩) (by assumption) ?_
            rotate_left
            · (intro w hSw; (try dsimp only at hSw); go_simp)
              first | done | with_reducible rfl
            simp only [Act.put, List.getElem_toArray, List.getElem_cons_zero, List.getElem_cons_succ, List.setIfInBounds_toArray, List.set_cons_zero, List.set_cons_succ]
            refine wpAnyH_take (i := 6) (v := ?_) rfl (by kernel_rfl) (by kernel_rfl) (by kernel_rfl) (fun _ _ _ h => h) (Or.inl ⟨by rfl, ?_⟩) (by assumption) ?_
            rotate_left
            · (intro w hSw; (try dsimp only at hSw); go_simp)
              first | done | with_reducible rfl
            simp only [Act.put, List.getElem_toArray, List.getElem_cons_zero, List.getElem_cons_succ, List.setIfInBounds_toArray, List.set_cons_zero, List.set_cons_succ]
            refine wpAnyH_take (i := 7) (v := ?_) rfl (by kernel_rfl) (by kernel_rfl) (by kernel_rfl) (fun _ _ _ h => h) (Or.inl ⟨by rfl, ?_⟩) (by assumption) ?_
            rotate_left
            · (intro w hSw; (try dsimp only at hSw); go_simp)
              first | done | with_reducible rfl
            simp only [Act.put, List.getElem_toArray, List.getElem_cons_zero, List.getElem_cons_succ, List.setIfInBounds_toArray, List.set_cons_zero, List.set_cons_succ]
            refine wpAnyH_take (i := 8) (v := ?_) rfl (by kernel_rfl) (by kernel_rfl) (by kernel_rfl) (fun _ _ _ h => h) (Or.inl ⟨by rfl, ?_⟩) (by assumption) ?_
            rotate_left
            · (intro w hSw; (try dsimp only at hSw); go_simp)
              first | done | with_reducible rfl
            simp only [Act.put, List.getElem_toArray, List.getElem_cons_zero, List.getElem_cons_succ, List.setIfInBounds_toArray, List.set_cons_zero, List.set_cons_succ]
            refine wpAnyH_take (i := 9) (v := ?_) rfl (by kernel_rfl) (by kernel_rfl) (by kernel_rfl) (fun _ _ _ h => h) (Or.inl ⟨by rfl, ?_⟩) (by assumption) ?_
            rotate_left
            · (intro w hSw; (try dsimp only at hSw); go_simp)
              first | done | with_reducible rfl
            simp only [Act.put, List.getElem_toArray, List.getElem_cons_zero, List.getElem_cons_succ, List.setIfInBounds_toArray, List.set_cons_zero, List.set_cons_succ]
            refine wpAnyH_take (i := 10) (v := ?_) rfl (by kernel_rfl) (by kernel_rfl) (by kernel_rfl) (fun _ _ _ h => h) (Or.inl ⟨by rfl, ?_⟩) (by assumption) ?_
            rotate_left
            · (intro w hSw; (try dsimp only at hSw); go_simp)
              first | done | with_reducible rfl
            simp only [Act.put, List.getElem_toArray, List.getElem_cons_zero, List.getElem_cons_succ, List.setIfInBounds_toArray, List.set_cons_zero, List.set_cons_succ]
            refine wpAnyH_take (i := 11) (v := ?_) rfl (by kernel_rfl) (by kernel_rfl) (by kernel_rfl) (fun _ _ _ h => h) (Or.inl ⟨by rfl, ?_⟩) (by assumption) ?_
            rotate_left
            · (intro w hSw; (try dsimp only at hSw); go_simp)
              first | done | with_reducible rfl
            simp only [Act.put, List.getElem_toArray, List.getElem_cons_zero, List.getElem_cons_succ, List.setIfInBounds_toArray, List.set_cons_zero, List.set_cons_succ]
            refine wpAnyH_take (i := 12) (v := ?_) rfl (by kernel_rfl) (by kernel_rfl) (by kernel_rfl) (fun _ _ _ h => h) (Or.inl ⟨by rfl, ?_⟩) (by assumption) ?_
            rotate_left
            · (intro w hSw; (try dsimp only at hSw); go_simp)
              first | done | with_reducible rfl
            simp only [Act.put, List.getElem_toArray, List.getElem_cons_zero, List.getElem_cons_succ, List.setIfInBounds_toArray, List.set_cons_zero, List.set_cons_succ]
            refine wpAnyH_take (i := 13) (v := ?_) rfl (by kernel_rfl) (by kernel_rfl) (by kernel_rfl) (fun _ _ _ h => h) (Or.inl ⟨by rfl, ?_⟩) (by assumption) ?_
            rotate_left
            · (intro w hSw; (try dsimp only at hSw); go_simp)
              first | done | with_reducible rfl
            simp only [Act.put, List.getElem_toArray, List.getElem_cons_zero, List.getElem_cons_succ, List.setIfInBounds_toArray, List.set_cons_zero, List.set_cons_succ]
            refine wpAnyH_take (i := 14) (v := ?_) rfl (by kernel_rfl) (by kernel_rfl) (by kernel_rfl) (fun _ _ _ h => h) (Or.inl ⟨by rfl, ?_⟩) (by assumption) ?_
            rotate_left
            · (intro w hSw; (try dsimp only at hSw); go_simp)
              first | done | with_reducible rfl
            simp only [Act.put, List.getElem_toArray, List.getElem_cons_zero, List.getElem_cons_succ, List.setIfInBounds_toArray, List.set_cons_zero, List.set_cons_succ]
            refine wpAnyH_take (i := 15) (v := ?_) rfl (by kernel_rfl) (by kernel_rfl) (by kernel_rfl) (fun _ _ _ h => h) (Or.inl ⟨by rfl, ?_⟩) (by assumption) ?_
            rotate_left
            · (intro w hSw; (try dsimp only at hSw); go_simp)
              first | done | with_reducible rfl
            simp only [Act.put, List.getElem_toArray, List.getElem_cons_zero, List.getElem_cons_succ, List.setIfInBounds_toArray, List.set_cons_zero, List.set_cons_succ]
            refine wpAnyH_take (i := 16) (v := ?_) rfl (by kernel_rfl) (by kernel_rfl) (by kernel_rfl) (fun _ _ _ h => h) (Or.inl ⟨by rfl, ?_⟩) (by assumption) ?_
            rotate_left
            · (intro w hSw; (try dsimp only at hSw); go_simp)
              first | done | with_reducible rfl
            simp only [Act.put, List.getElem_toArray, List.getElem_cons_zero, List.getElem_cons_succ, List.setIfInBounds_toArray, List.set_cons_zero, List.set_cons_succ]
            try simp only [heq]
            refine wpAnyH_take (i := 17) (v := ?_) rfl (by kernel_rfl) (by kernel_rfl) (by kernel_rfl) (fun _ _ _ h => h) (Or.inl ⟨by rfl, ?_⟩) (by assumption) ?_
            rotate_left
            · (intro w hSw; (try dsimp only at hSw); go_simp)
              first | done | with_reducible rfl
            simp only [Act.put, List.getElem_toArray, List.getElem_cons_zero, List.getElem_cons_succ, List.setIfInBounds_toArray, List.set_cons_zero, List.set_cons_succ]
            refine wpAnyH_take (i := 18) (v := ?_) rfl (by kernel_rfl) (by kernel_rfl) (by kernel_rfl) (fun _ _ _ h => h) (Or.inl ⟨by rfl, ?_⟩) (by assumption) ?_
            rotate_left
            · (intro w hSw; (try dsimp only at hSw); go_simp)
              first | done | with_reducible rfl
            simp only [Act.put, List.getElem_toArray, List.getElem_cons_zero, List.getElem_cons_succ, List.setIfInBounds_toArray, List.set_cons_zero, List.set_cons_succ]
            refine wpAnyH_take (i := 19) (v := ?_) rfl (by kernel_rfl) (by kernel_rfl) (by kernel_rfl) (fun _ _ _ h => h) (Or.inl ⟨by rfl, ?_⟩) (by assumption) ?_
            rotate_left
            · (intro w hSw; (try dsimp only at hSw); go_simp)
              first | done | with_reducible rfl
            simp only [Act.put, List.getElem_toArray, List.getElem_cons_zero, List.getElem_cons_succ, List.setIfInBounds_toArray, List.set_cons_zero, List.set_cons_succ]
            refine wpAnyH_take (i := 20) (v := ?_) rfl (by kernel_rfl) (by kernel_rfl) (by kernel_rfl) (fun _ _ _ h => h) (Or.inl ⟨by rfl, ?_⟩) (by assumption) ?_
            rotate_left
            · (intro w hSw; (try dsimp only at hSw); go_simp)
              first | done | with_reducible rfl
            simp only [Act.put, List.getElem_toArray, List.getElem_cons_zero, List.getElem_cons_succ, List.setIfInBounds_toArray, List.set_cons_zero, List.set_cons_succ]
            refine wpAnyH_take (i := 21) (v := ?_) rfl (by kernel_rfl) (by kernel_rfl) (by kernel_rfl) (fun _ _ _ h => h) (Or.inl ⟨by rfl, ?_⟩) (by assumption) ?_
            rotate_left
            · (intro w hSw; (try dsimp only at hSw); go_simp)
              first | done | with_reducible rfl
            simp only [Act.put, List.getElem_toArray, List.getElem_cons_zero, List.getElem_cons_succ, List.setIfInBounds_toArray, List.set_cons_zero, List.set_cons_succ]
            refine wpAnyH_ready (rs := [22]) (by kernel_rfl) (by simp) ?_
            refine AllReadyH.cons rfl (fun K hK => ?_) AllReadyH.nil
            go_simp
            refine (SE.out w4 hv1).mono ?_
            rintro e w22 ⟨rfl, hu2⟩
            refine hK.out _ _ ?_ (fun hHeld => ?_)
            · exact ⟨hu2.keep hHeld.1, hu2.keep hHeld.2.1, hu2.keep hHeld.2.2.1, hu2.keep hHeld.2.2.2.1, hu2.keep hHeld.2.2.2.2⟩
            clear hK K
            try simp only [Act.put, List.getElem_toArray, List.getElem_cons_zero, List.getElem_cons_succ, List.setIfInBounds_toArray, List.set_cons_zero, List.set_cons_succ]
            refine wpAnyH_take (i := 23) (v := ?_) rfl (by kernel_rfl) (by kernel_rfl) (by kernel_rfl) (fun _ _ _ h => h) (Or.inl ⟨by rfl, ?_⟩) (by assumption) ?_
            rotate_left
            · (intro w hSw; (try dsimp only at hSw); go_simp)
              first | done | with_reducible rfl
            simp only [Act.put, List.getElem_toArray, List.getElem_cons_zero, List.getElem_cons_succ, List.setIfInBounds_toArray, List.set_cons_zero, List.set_cons_succ]
            try simp only [heni, decide_false]
            refine wpAnyH_take (i := 24) (v := ?_) rfl (by kernel_rfl) (by kernel_rfl) (by kernel_rfl) (fun _ _ _ h => h) (Or.inl ⟨by rfl, ?_⟩) (by assumption) ?_
            rotate_left
            · (intro w hSw; (try dsimp only at hSw); go_simp)
              first | done | with_reducible rfl
            simp only [Act.put, List.getElem_toArray, List.getElem_cons_zero, List.getElem_cons_succ, List.setIfInBounds_toArray, List.set_cons_zero, List.set_cons_succ]
            refine wpAnyH_done (by kernel_rfl) ?_ _
            have HU9 := Lib.hid (HU.out.trans (hv1.trans hu2))
            clear HB2 HU hHeld q1 q2 q3 q4 q5 SE SF
            go_wp2_with fail
            go_roundw
            case rel => exact ⟨(j : Int) - 1, rfl, by omega, by omega, Lib.hid (by rw [HJ.out]; exact HE0.out.symm), HU9⟩
            case measure => simp [intOf]

end Go.Proofs.YthoacpecfmfeiaaGreatDoor

/-
  The program's check of a formula: what the call returns.
-/
namespace Go.Proofs.YthoacpecfmfeiaaGreatDoor
open Go.RowKit

theorem frm_step (f : List Nd) (k : Nat) (h : k < f.length) : allF (ndkI f) k (f.length - k) = (ndkI f k && allF (ndkI f) (k + 1) (f.length - (k + 1))) := allF_step (ndkI f) k f.length h

set_option maxRecDepth 20000 in
set_option maxHeartbeats 4000000 in
theorem validFI (v : Value) (f : List Nd) (w : World) (fp : List Nat) (hR : R_F1 fp w [v] f) (hlen : f.length ≤ 2000000) (hl : ∀ n ∈ f, n.lb.length ≤ 2000000) (he : Env w) :
    Calls Tryz.prog 18 #[v] w fun e w' => e = .returned (.bool (frmOk f)) ∧ Upd [] w w' := by
  have HR := Lib.hid hR
  obtain ⟨a, cap, rfl, h1, h2, hc⟩ := slF4_open hR
  unfold maxLen at h2
  have HC := Lib.hid hc
  have HL := Lib.hid hl
  have HE := Lib.hid he
  have HOK := Lib.hid (show frmOk f = (inB f.length 1 30 && shapeF arI 1 f && allF (ndkI f) 0 f.length) from rfl)
  have S1 := Lib.hid (fun W : World => within (f.length : Int) 1 30 W)
  have S2 := Lib.hid (fun W (hu : Upd [] w W) => shapeI _ f W fp (R_F1k.upd HR.out hu (by simp)) hlen)
  clear hR hc hl he
  cases hin : inB (f.length : Int) 1 30 with
  | false =>
    rw [hin] at S1
    have HF := Lib.hid (show frmOk f = false by rw [HOK.out, hin]; rfl)
    clear hin HOK S2
    go_enter Tryz.func18, Tryz.ntmps18
    go_wp2_with fail
    refine (S1.out _).mono ?_
    rintro e w1 ⟨rfl, rfl⟩
    clear S1
    go_wp2_with fail
    go_ret
    exact ⟨by rw [HF.out]; rfl, Upd.refl _ _⟩
  | true =>
    rw [hin] at S1 HOK
    clear hin
    cases hsh : shapeF arI 1 f with
    | false =>
      rw [hsh] at S2
      have HF := Lib.hid (show frmOk f = false by rw [HOK.out, hsh]; rfl)
      clear hsh HOK
      go_enter Tryz.func18, Tryz.ntmps18
      go_wp2_with fail
      refine (S1.out _).mono ?_
      rintro e w1 ⟨rfl, rfl⟩
      have T2 := Lib.hid (S2.out _ (Upd.refl _ _))
      clear S1 S2
      go_wp2_with fail
      refine T2.out.mono ?_
      rintro e w1 ⟨rfl, hu⟩
      have HU := Lib.hid hu
      clear T2 hu
      go_wp2_with fail
      go_ret
      exact ⟨by rw [HF.out]; rfl, HU.out⟩
    | true =>
      rw [hsh] at S2 HOK
      have HSH := Lib.hid hsh
      have HF := Lib.hid (show frmOk f = allF (ndkI f) 0 f.length by rw [HOK.out]; rfl)
      clear hsh HOK
      go_enter Tryz.func18, Tryz.ntmps18
      go_wp2_with fail
      refine (S1.out _).mono ?_
      rintro e w1 ⟨rfl, rfl⟩
      have T2 := Lib.hid (S2.out _ (Upd.refl _ _))
      clear S1 S2
      go_wp2_with fail
      refine T2.out.mono ?_
      rintro e w1 ⟨rfl, hu⟩
      have HU := Lib.hid hu
      clear T2 hu
      go_wp2_with fail
      go_loopw [16] (fun iv wr => ∃ k : Nat, k ≤ f.length ∧ iv = .int .i64 k ∧ Hid (allF (ndkI f) k (f.length - k) = frmOk f) ∧ Hid (Upd [] w wr)) (fun iv _ => f.length - (intOf iv).toNat)
      case atStart => exact ⟨0, Nat.zero_le _, rfl, Lib.hid (by rw [HF.out]; rfl), HU⟩
      case round =>
        clear HU HF
        obtain ⟨wo, rfl⟩ : ∃ wo : World, wo = wr := ⟨_, rfl⟩
        obtain ⟨k, hk, rfl, HA, HU⟩ := hrel
        by_cases hlt : k < f.length
        · obtain ⟨b1, o1, rfl, -, -, p1, p2, p3, p4⟩ := HC.out k hlt
          have q1 := HU.out.keep p1
          have q2 := HU.out.keep p2
          have q3 := HU.out.keep p3
          have q4 := HU.out.keep p4
          have gk : f.getD k nd0 = f[k] := by rw [List.getD_eq_getElem?_getD, List.getElem?_eq_getElem hlt]; rfl
          have hcl := HL.out f[k] (List.getElem_mem hlt)
          have HN := Lib.hid (show frmOk f = (inB f[k].kd 0 8 && fieldsF f[k] && boundF f[k] && !(f[k].kd == 6 && decide (bindF arI f k k < 0)) && allF (ndkI f) (k + 1) (f.length - (k + 1))) by
            rw [← HA.out, frm_step f k hlt]
            unfold ndkI varP
            rw [gk])
          have SB := Lib.hid (fun W (hu : Upd [] wo W) => bindI _ f k W fp (R_F1k.upd HR.out (HU.out.trans hu) (by simp)) hlen hlt HSH.out)
          have EW := Lib.hid (fun W (hu : Upd [] wo W) => HE.out.upd (HU.out.trans hu))
          clear p1 p2 p3 p4 HA gk
          generalize bindF arI f k k = B at *
          generalize f[k] = x at *
          obtain ⟨x1, x2, x3, x4⟩ := x
          simp only at q1 q2 q3 q4 HN hcl
          have SW := Lib.hid (fun W : World => within x1 0 8 W)
          have SF := Lib.hid (fun W (hu : Upd [] wo W) => fieldsI x1 x2 x3 x4 W hcl (EW.out W hu))
          have SO := Lib.hid (fun W : World => boundI x1 x2 x3 x4 W)
          obtain ⟨wA, hwA⟩ : ∃ wA, wA = wo.alloc (.cells #[ei x1, ei x2, es x3, .bool x4] 37) := ⟨_, rfl⟩
          have uA : Upd [] wo wA := by rw [hwA]; exact (Upd.refl _ _).alloc _
          have HX := Lib.hid (fun W (hu : Upd [] wA W) => show W.cell? ⟨wo.heap.size, 0, none⟩ = some (ei x1) ∧ W.cell? ⟨wo.heap.size, 1, none⟩ = some (ei x2) ∧ W.cell? ⟨wo.heap.size, 2, none⟩ = some (es x3) ∧ W.cell? ⟨wo.heap.size, 3, none⟩ = some (.bool x4) from by
            rw [hwA] at hu
            exact ⟨hu.keep (cell_new wo _ _ _ rfl 0 _ rfl), hu.keep (cell_new wo _ _ _ rfl 1 _ rfl), hu.keep (cell_new wo _ _ _ rfl 2 _ rfl), hu.keep (cell_new wo _ _ _ rfl 3 _ rfl)⟩)
          have UA := Lib.hid uA
          obtain ⟨y0, y1, y2, y3⟩ := HX.out wA (Upd.refl _ _)
          clear uA EW
          obtain ⟨TT, hTT⟩ : ∃ TT, TT = wo.heap.size := ⟨_, rfl⟩
          rw [← hTT] at HX y0 y1 y2 y3
          go_upto_region 6 with (fail)
          rw [← hwA, ← hTT]
          clear hwA hTT
          cases hw1 : inB x1 0 8 with
          | false =>
            rw [hw1] at SW
            have HZ := Lib.hid (show frmOk f = false by rw [HN.out, hw1]; simp)
            clear HN hw1 SF SO SB
            go_wp2_with fail
            refine (SW.out _).mono ?_
            rintro e w1 ⟨rfl, rfl⟩
            clear SW
            go_wp2_with fail
            go_ret
            exact ⟨by rw [HZ.out]; rfl, HU.out.trans UA.out⟩
          | true =>
            rw [hw1] at SW HN
            clear hw1
            have TF := Lib.hid (SF.out wA UA.out)
            clear SF
            cases hw2 : fieldsF ⟨x1, x2, x3, x4⟩ with
            | false =>
              rw [hw2] at TF
              have HZ := Lib.hid (show frmOk f = false by rw [HN.out, hw2]; simp)
              clear HN hw2 SO SB
              go_wp2_with fail
              refine (SW.out _).mono ?_
              rintro e w1 ⟨rfl, rfl⟩
              clear SW
              go_wp2_with fail
              refine TF.out.mono ?_
              rintro e w1 ⟨rfl, hu1⟩
              have HU1 := Lib.hid ((HU.out.trans UA.out).trans hu1)
              clear TF hu1
              go_wp2_with fail
              go_ret
              exact ⟨by rw [HZ.out]; rfl, HU1.out⟩
            | true =>
              rw [hw2] at TF HN
              clear hw2
              cases hw3 : boundF ⟨x1, x2, x3, x4⟩ with
              | false =>
                rw [hw3] at SO
                have HZ := Lib.hid (show frmOk f = false by rw [HN.out, hw3]; simp)
                clear HN hw3 SB
                go_wp2_with fail
                refine (SW.out _).mono ?_
                rintro e w1 ⟨rfl, rfl⟩
                clear SW
                go_wp2_with fail
                refine TF.out.mono ?_
                rintro e w1 ⟨rfl, hu1⟩
                obtain ⟨y0, y1, y2, y3⟩ := HX.out w1 hu1
                have HU1 := Lib.hid ((HU.out.trans UA.out).trans hu1)
                clear TF hu1
                go_wp2_with fail
                refine (SO.out _).mono ?_
                rintro e w2 ⟨rfl, hu2⟩
                have HU2 := Lib.hid (HU1.out.trans hu2)
                clear SO hu2
                go_wp2_with fail
                go_ret
                exact ⟨by rw [HZ.out]; rfl, HU2.out⟩
              | true =>
                rw [hw3] at SO HN
                clear hw3
                by_cases h6 : x1 = 6
                · have b6 : (x1 == 6) = true := by simpa using h6
                  have HN2 := Lib.hid (show frmOk f = (!decide (B < 0) && allF (ndkI f) (k + 1) (f.length - (k + 1))) by rw [HN.out, b6]; simp)
                  clear HN h6
                  by_cases hB : B < 0
                  · have HZ := Lib.hid (show frmOk f = false by rw [HN2.out, decide_eq_true hB]; rfl)
                    clear HN2
                    go_wp2_with fail
                    refine (SW.out _).mono ?_
                    rintro e w1 ⟨rfl, rfl⟩
                    clear SW
                    go_wp2_with fail
                    refine TF.out.mono ?_
                    rintro e w1 ⟨rfl, hu1⟩
                    obtain ⟨y0, y1, y2, y3⟩ := HX.out w1 hu1
                    have HV1 := Lib.hid (UA.out.trans hu1)
                    have HX1 := Lib.hid hu1
                    clear TF hu1
                    go_wp2_with fail
                    refine (SO.out _).mono ?_
                    rintro e w2 ⟨rfl, hu2⟩
                    obtain ⟨y0, y1, y2, y3⟩ := HX.out w2 (HX1.out.trans hu2)
                    have HV2 := Lib.hid (HV1.out.trans hu2)
                    have TB := Lib.hid (SB.out w2 HV2.out)
                    clear SO SB hu2
                    go_wp2_with fail
                    refine TB.out.mono ?_
                    rintro e w3 ⟨rfl, hu3⟩
                    have HU3 := Lib.hid (HU.out.trans (HV2.out.trans hu3))
                    clear TB hu3
                    go_wp2_with fail
                    go_ret
                    exact ⟨by rw [HZ.out]; rfl, HU3.out⟩
                  · have HA2 := Lib.hid (show allF (ndkI f) (k + 1) (f.length - (k + 1)) = frmOk f by rw [HN2.out, decide_eq_false hB]; rfl)
                    clear HN2
                    go_wp2_with fail
                    refine (SW.out _).mono ?_
                    rintro e w1 ⟨rfl, rfl⟩
                    clear SW
                    go_wp2_with fail
                    refine TF.out.mono ?_
                    rintro e w1 ⟨rfl, hu1⟩
                    obtain ⟨y0, y1, y2, y3⟩ := HX.out w1 hu1
                    have HV1 := Lib.hid (UA.out.trans hu1)
                    have HX1 := Lib.hid hu1
                    clear TF hu1
                    go_wp2_with fail
                    refine (SO.out _).mono ?_
                    rintro e w2 ⟨rfl, hu2⟩
                    obtain ⟨y0, y1, y2, y3⟩ := HX.out w2 (HX1.out.trans hu2)
                    have HV2 := Lib.hid (HV1.out.trans hu2)
                    have TB := Lib.hid (SB.out w2 HV2.out)
                    clear SO SB hu2
                    go_wp2_with fail
                    refine TB.out.mono ?_
                    rintro e w3 ⟨rfl, hu3⟩
                    have HU3 := Lib.hid (HU.out.trans (HV2.out.trans hu3))
                    clear TB hu3
                    go_wp2_with fail
                    go_roundw
                    case rel => exact ⟨k + 1, by omega, by go_num, HA2, HU3⟩
                    case measure => simp [intOf]; omega
                · have b6 : (x1 == 6) = false := by simpa using h6
                  have HA2 := Lib.hid (show allF (ndkI f) (k + 1) (f.length - (k + 1)) = frmOk f by rw [HN.out, b6]; simp)
                  clear HN h6 SB
                  go_wp2_with fail
                  refine (SW.out _).mono ?_
                  rintro e w1 ⟨rfl, rfl⟩
                  clear SW
                  go_wp2_with fail
                  refine TF.out.mono ?_
                  rintro e w1 ⟨rfl, hu1⟩
                  obtain ⟨y0, y1, y2, y3⟩ := HX.out w1 hu1
                  have HV1 := Lib.hid (UA.out.trans hu1)
                  have HX1 := Lib.hid hu1
                  clear TF hu1
                  go_wp2_with fail
                  refine (SO.out _).mono ?_
                  rintro e w2 ⟨rfl, hu2⟩
                  obtain ⟨y0, y1, y2, y3⟩ := HX.out w2 (HX1.out.trans hu2)
                  have HU3 := Lib.hid (HU.out.trans (HV1.out.trans hu2))
                  clear SO hu2
                  go_wp2_with fail
                  go_roundw
                  case rel => exact ⟨k + 1, by omega, by go_num, HA2, HU3⟩
                  case measure => simp [intOf]; omega
        · obtain rfl : k = f.length := by omega
          have HZ := Lib.hid (show frmOk f = true by rw [← HA.out]; exact allF_end _ _)
          clear HA
          go_wp2_with fail
          go_ret
          exact ⟨by rw [HZ.out]; rfl, HU.out⟩

end Go.Proofs.YthoacpecfmfeiaaGreatDoor

/-
  Reading numbers, texts and edges, plainly: a reader of a given number of bytes a number.
-/
namespace Go.Proofs.YthoacpecfmfeiaaGreatDoor
open Go.RowKit

/-- a number of at most k bytes, behind n with the next unit t: the number, the rest, and whether it is bad. -/
def rdN (z : Nat → Nat) : Nat → Nat → Nat → List UInt8 → Bool → Nat × List UInt8 × Bool
  | 0, _, _, r, _ => (0, r, true)
  | _ + 1, n, _, [], _ => (z n, [], true)
  | k + 1, n, t, c :: r, b => if c.toNat < 128 then (n + c.toNat * t, r, b) else rdN z k (n + c.toNat % 128 * t) (t * 128) r b
/-- what is read of a number that has no end: the program gives what it has, the reference 0. -/
def zF (K n : Nat) : Nat := if K = 4 then n else 0
theorem zF_le (K n : Nat) : zF K n ≤ n := by unfold zF; split <;> omega
/-- the number is small; the rest is shorter, or the reader is bad. -/
theorem rdN_fits (z : Nat → Nat) (hz : ∀ n, z n ≤ n) : ∀ (k n t : Nat) (r : List UInt8) (b : Bool), n < t → (rdN z k n t r b).1 < t * 128 ^ k ∧ (rdN z k n t r b).2.1.length ≤ r.length ∧ ((rdN z k n t r b).2.2 = false → (rdN z k n t r b).2.1.length < r.length) ∧ (b = true → (rdN z k n t r b).2.2 = true) := by
  intro k
  induction k with
  | zero => intro n t r b h; rw [rdN]; refine ⟨by show 0 < t * 128 ^ 0; omega, Nat.le_refl _, by simp, by simp⟩
  | succ k ih =>
    intro n t r b h
    have hp : 1 ≤ 128 ^ k := Nat.pow_pos (by omega)
    cases r with
    | nil =>
      rw [rdN]
      refine ⟨?_, Nat.le_refl _, by simp, by simp⟩
      show z n < t * 128 ^ (k + 1)
      have := hz n
      have : t * 1 ≤ t * 128 ^ (k + 1) := Nat.mul_le_mul_left t (Nat.pow_pos (by omega))
      omega
    | cons c r =>
      rw [rdN]
      by_cases hc : c.toNat < 128
      · rw [if_pos hc]
        refine ⟨?_, by simp, by simp, by simp⟩
        show n + c.toNat * t < t * 128 ^ (k + 1)
        have h1 : c.toNat * t ≤ 127 * t := Nat.mul_le_mul_right t (by omega)
        have h2 : t * 128 ≤ t * 128 ^ (k + 1) := Nat.mul_le_mul_left t (by rw [Nat.pow_succ]; omega)
        omega
      · rw [if_neg hc]
        have h1 : c.toNat % 128 * t ≤ 127 * t := Nat.mul_le_mul_right t (by omega)
        obtain ⟨a1, a2, a3, a4⟩ := ih (n + c.toNat % 128 * t) (t * 128) r b (by omega)
        refine ⟨?_, by simp; omega, fun hq => by have := a3 hq; simp; omega, a4⟩
        rw [Nat.pow_succ, Nat.mul_comm (128 ^ k) 128, ← Nat.mul_assoc]; exact a1

/-- the next number, of at most K bytes. -/
def rN (K : Nat) (r : List UInt8) (b : Bool) : Nat × List UInt8 × Bool := rdN (zF K) K 0 1 r b
/-- the next text. -/
def rT (K : Nat) (r : List UInt8) (b : Bool) : List UInt8 × List UInt8 × Bool :=
  if (K ≠ 4 ∧ (rN K r b).2.2 = true) ∨ (rN K r b).2.1.length < (rN K r b).1 then ([], (rN K r b).2.1, true) else ((rN K r b).2.1.take (rN K r b).1, (rN K r b).2.1.drop (rN K r b).1, (rN K r b).2.2)
/-- at most n texts behind L. -/
def rLs (K : Nat) : Nat → List (List UInt8) → List UInt8 → Bool → List (List UInt8) × List UInt8 × Bool
  | 0, L, r, b => (L, r, b)
  | n + 1, L, r, b => if b then (L, r, b) else rLs K n (L ++ [(rT K r b).1]) (rT K r b).2.1 (rT K r b).2.2
/-- the next edge. -/
def rE (K : Nat) (r : List UInt8) (b : Bool) : Ed × List UInt8 × Bool :=
  (⟨(rN K r b).1, (rN K (rN K r b).2.1 (rN K r b).2.2).1, (rN K (rN K (rN K r b).2.1 (rN K r b).2.2).2.1 (rN K (rN K r b).2.1 (rN K r b).2.2).2.2).1⟩,
    (rN K (rN K (rN K r b).2.1 (rN K r b).2.2).2.1 (rN K (rN K r b).2.1 (rN K r b).2.2).2.2).2)
def rEs (K : Nat) : Nat → List Ed → List UInt8 → Bool → List Ed × List UInt8 × Bool
  | 0, L, r, b => (L, r, b)
  | n + 1, L, r, b => if b then (L, r, b) else rEs K n (L ++ [(rE K r b).1]) (rE K r b).2.1 (rE K r b).2.2

theorem rN_fits (K : Nat) (r : List UInt8) (b : Bool) : (rN K r b).1 < 128 ^ K ∧ (rN K r b).2.1.length ≤ r.length ∧ ((rN K r b).2.2 = false → (rN K r b).2.1.length < r.length) ∧ (b = true → (rN K r b).2.2 = true) := by
  have := rdN_fits (zF K) (zF_le K) K 0 1 r b (by omega)
  rw [Nat.one_mul] at this
  exact this
theorem rT_fits (K : Nat) (r : List UInt8) (b : Bool) : (rT K r b).2.1.length ≤ r.length ∧ ((rT K r b).2.2 = false → (rT K r b).2.1.length < r.length) ∧ (rT K r b).1.length ≤ r.length := by
  obtain ⟨-, h2, h3, -⟩ := rN_fits K r b
  unfold rT
  split
  · exact ⟨h2, by simp, by simp⟩
  · refine ⟨by simp; omega, fun hq => by have := h3 hq; simp; omega, by simp; omega⟩
theorem rE_fits (K : Nat) (r : List UInt8) (b : Bool) : (rE K r b).2.1.length ≤ r.length ∧ ((rE K r b).2.2 = false → (rE K r b).2.1.length < r.length) ∧
    (0 ≤ (rE K r b).1.fr ∧ (rE K r b).1.fr < 128 ^ K) ∧ (0 ≤ (rE K r b).1.lb ∧ (rE K r b).1.lb < 128 ^ K) ∧ (0 ≤ (rE K r b).1.to ∧ (rE K r b).1.to < 128 ^ K) := by
  obtain ⟨a1, a2, a3, a4⟩ := rN_fits K r b
  obtain ⟨b1, b2, b3, b4⟩ := rN_fits K (rN K r b).2.1 (rN K r b).2.2
  obtain ⟨c1, c2, c3, c4⟩ := rN_fits K (rN K (rN K r b).2.1 (rN K r b).2.2).2.1 (rN K (rN K r b).2.1 (rN K r b).2.2).2.2
  unfold rE
  refine ⟨by simp only; omega, fun hq => ?_, ⟨by simp only; omega, by simp only; exact_mod_cast a1⟩, ⟨by simp only; omega, by simp only; exact_mod_cast b1⟩, ⟨by simp only; omega, by simp only; exact_mod_cast c1⟩⟩
  have := c3 hq
  simp only; omega

theorem rLs_len (K : Nat) : ∀ (n : Nat) (L : List (List UInt8)) (r : List UInt8) (b : Bool), (rLs K n L r b).2.1.length ≤ r.length
  | 0, L, r, b => Nat.le_refl _
  | n + 1, L, r, b => by
    rw [rLs]
    split
    · exact Nat.le_refl _
    · exact Nat.le_trans (rLs_len K n _ _ _) (rT_fits K r b).1
theorem rLs_go (K k : Nat) (L : List (List UInt8)) (r : List UInt8) (h : 1 < k) : rLs K (k - 1) L r false = rLs K (k - 1 - 1) (L ++ [(rT K r false).1]) (rT K r false).2.1 (rT K r false).2.2 := by
  obtain ⟨m, rfl⟩ : ∃ m, k = m + 2 := ⟨k - 2, by omega⟩
  simp [rLs]
theorem rLs_bad (K k : Nat) (L : List (List UInt8)) (r : List UInt8) : rLs K k L r true = (L, r, true) := by
  cases k <;> simp [rLs]
theorem rEs_go (K k : Nat) (L : List Ed) (r : List UInt8) (h : 0 < k) : rEs K k L r false = rEs K (k - 1) (L ++ [(rE K r false).1]) (rE K r false).2.1 (rE K r false).2.2 := by
  obtain ⟨m, rfl⟩ : ∃ m, k = m + 1 := ⟨k - 1, by omega⟩
  simp [rEs]
theorem rEs_bad (K k : Nat) (L : List Ed) (r : List UInt8) : rEs K k L r true = (L, r, true) := by
  cases k <;> simp [rEs]

end Go.Proofs.YthoacpecfmfeiaaGreatDoor

/-
  The kind of an image and its contents, plainly.
-/
namespace Go.Proofs.YthoacpecfmfeiaaGreatDoor
open Go.RowKit

/-- the contents of an image. -/
def midL (s : List UInt8) : List UInt8 := (s.take (s.length - 2)).drop 1
/-- the last two bytes as a check value. -/
def chkF (s : List UInt8) : Nat := (s.getD (s.length - 2) 0).toNat * 256 + (s.getD (s.length - 1) 0).toNat
def k0F (s : List UInt8) : Nat := (s.getD 0 0).toNat
/-- the kind of an image and a code: 0, or the program's numbers for an image that is too short, has another check value, or another form. -/
def kindF (s : List UInt8) : Nat × Nat :=
  if s.length < 3 then (0, 11)
  else if chkF s ≠ crcL (s.take (s.length - 2)) 65535 then (0, 10)
  else if inB (k0F s : Int) 1 3 = false ∨ 6000 < s.length then (0, 9)
  else (k0F s, 0)

/-- what opening a system's image gives: 0, or a code. -/
def opF (s : List UInt8) : Nat := if (kindF s).2 ≠ 0 then (kindF s).2 else if (kindF s).1 ≠ 1 then 6 else 0
theorem opF_len {s : List UInt8} (h : opF s = 0) : 3 ≤ s.length := by
  rcases Nat.lt_or_ge s.length 3 with h3 | h3
  · unfold opF kindF at h
    rw [if_pos h3] at h
    simp at h
  · exact h3
theorem kind_code_le (s : List UInt8) : (kindF s).2 ≤ 11 ∧ (kindF s).1 ≤ 255 := by
  unfold kindF
  split
  · simp
  · split
    · simp
    · split
      · simp
      · have := (s.getD 0 0).toNat_lt
        unfold k0F; simp only; omega

end Go.Proofs.YthoacpecfmfeiaaGreatDoor
