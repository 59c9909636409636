/-
  Texts joined in one file: LabE, LabJ, LabN, LabL, LabM, TrT, EncP, ForP, DecU, EncC, DecK, DecK2, ForQ, FxP, HarnF, ForI, FxW, SimP, ModP, NdEq, SimI, SimL, SimQ, SimR, ForS, ForB, ForV, EncW, EncX, ForE, SimT, ForT, ModU, ModV, SimE, ModS, RepB, ModM, ModH, ModW.
-/
import Derived.Test.YtdnjjanacbkijaaGreatDoorZM1
import Derived.Test.YtdnjjanacbkijaaGreatDoorShelf
import Derived.IntWalk
import Derived.Laws.Bits64b
import Derived.Deep.RegionHeld3
import Derived.Deep.DeepCutAuto
import Derived.Laws.StructEq
import Derived.Deep.QuietTactic
import Derived.BigQuiet
import Derived.Deep.AppendLies
import Derived.Deep.RegionLaw
import Derived.Lib.AppendStr
import Derived.Deep.CutBlock
import Derived.Laws.CopyOwn
/-
  Numbers in decimal: what the program's calls return.
-/
namespace Go.Proofs.YtdnjjanacbkijaaGreatDoor
open Go.RowKit

/-- what the calls of the library read of the package's variables. -/
structure Env (w : World) : Prop where
  m : ∃ m : Int, w.cell? ⟨0, 0, none⟩ = some (.int .i64 m)
  tab : Lib.TabIs Tryz.prog w "internal/strconv.uint64pow10" .u64 Lib.pow10Tab
  syn : ∃ tp p, w.var? Tryz.prog "strconv.ErrSyntax" = some #[.iface tp p]
  rng : ∃ tp p, w.var? Tryz.prog "strconv.ErrRange" = some #[.iface tp p]

theorem Upd.var {P : Program} {w w1 : World} {n : String} {cs : Array Value} (hu : Upd [] w w1) (h : w.var? P n = some cs) : w1.var? P n = some cs := by
  unfold World.var? at h ⊢
  cases hg : P.globalNamed n with
  | none => rw [hg] at h; cases h
  | some g =>
    rw [hg] at h
    simp only [Option.bind_some] at h ⊢
    have hlt : g < w.heap.size := by
      rcases Nat.lt_or_ge g w.heap.size with h1 | h1
      · exact h1
      · rw [Array.getElem?_eq_none h1] at h; cases h
    rw [hu.block g hlt (by simp)]
    exact h

theorem Env.upd {w w1 : World} (h : Env w) (hu : Upd [] w w1) : Env w1 :=
  ⟨h.m.imp fun _ hm => hu.keep hm, hu.var h.tab, h.syn.imp fun _ hs => hs.imp fun _ hs => hu.var hs, h.rng.imp fun _ hs => hs.imp fun _ hs => hu.var hs⟩

theorem Upd.grow (w : World) (k : Nat) (os : Array Obj) : Upd [] w (Sort.grow (w.drewN k) os) := by
  refine ⟨rfl, rfl, rfl, ?_, fun i hi _ => ?_⟩
  · show w.heap.size ≤ (w.heap ++ os).size
    rw [Array.size_append]; omega
  · show (w.heap ++ os)[i]? = w.heap[i]?
    rw [Array.getElem?_append_left hi]

theorem decimal (n : Int) (w : World) (h0 : -9223372036854775808 ≤ n) (h1 : n ≤ 9223372036854775807) (he : Env w) :
    Calls Tryz.prog 95 #[.int .i64 n] w fun e w' => e = .returned (es (Lib.itoa n)) ∧ Upd [] w w' := by
  have S1 := Lib.hid (Tryz.strconv_FormatInt_10 n h0 h1 w he.tab)
  clear he h0 h1
  go_enter Tryz.func95, Tryz.ntmps95
  go_wp2_with fail
  refine S1.out.mono ?_
  rintro e w1 ⟨rfl, k, os, rfl⟩
  have HU := Lib.hid (Upd.grow w k os)
  generalize Sort.grow (w.drewN k) os = w1 at *
  clear S1
  go_wp2_with fail
  go_ret
  exact ⟨rfl, HU.out⟩

theorem isActionI (l : List UInt8) (w : World) (hl : l.length ≤ 2000000) :
    Calls Tryz.prog 70 #[es l] w fun e w' => e = .returned (.bool (actF l)) ∧ w = w' := by
  have S1 := Lib.hid (isNameI l w hl)
  cases hn : nameF l with
  | false =>
    have HR := Lib.hid (show actF l = false by simp [actF, hn])
    rw [hn] at S1
    clear hn
    go_enter Tryz.func70, Tryz.ntmps70
    go_wp2_with fail
    refine S1.out.mono ?_
    rintro e w1 ⟨rfl, rfl⟩
    clear S1
    go_wp2_with fail
    go_ret
    exact ⟨by rw [HR.out]; rfl, rfl⟩
  | true =>
    have HR := Lib.hid (show actF l = (l != tauL) by simp [actF, hn])
    rw [hn] at S1
    clear hn
    go_enter Tryz.func70, Tryz.ntmps70
    go_wp2_with fail
    refine S1.out.mono ?_
    rintro e w1 ⟨rfl, rfl⟩
    clear S1
    go_wp2_with fail
    go_ret
    refine ⟨?_, rfl⟩
    rw [HR.out]
    simp [tauL, bne]

theorem parse_range {l : List UInt8} {v : Int} (h : Lib.parseIntB 64 l = .ok v) : -9223372036854775808 ≤ v ∧ v ≤ 9223372036854775807 := by
  unfold Lib.parseIntB at h
  cases l with
  | nil => cases h
  | cons c r =>
    simp only at h
    split at h
    · cases h
    · cases h
    · split at h
      · cases h
      · split at h
        · cases h
        · rename_i h1 h2
          simp only [Lib.NumEnd.ok.injEq] at h
          subst h
          by_cases hc : c.toNat = 45
          · simp only [hc, not_true_eq_false, true_and, false_and, not_false_eq_true] at h1 h2
            simp only [hc, if_true]; omega
          · simp only [hc, not_false_eq_true, true_and, false_and] at h1 h2
            simp only [hc, if_false]; omega

theorem digL_trim (s : List UInt8) : Lib.trimPrefix s [45] = digL s := by
  cases s with
  | nil => rfl
  | cons b r =>
    by_cases hb : b = 45
    · subst hb; simp [Lib.trimPrefix, Lib.hasPrefix, digL, negL, List.isPrefixOf]
    · have h1 : (b == 45) = false := by simpa using hb
      have h2 : ((45 : UInt8) == b) = false := by simpa using fun e => hb e.symm
      simp [Lib.trimPrefix, Lib.hasPrefix, digL, negL, List.isPrefixOf, h1, h2]

def NumV (s : List UInt8) (w : World) (e : Ending) (w' : World) : Prop := e = .returned (.tuple #[.int .i64 ((numF s).getD 0), .bool (numF s).isSome]) ∧ Upd [] w w'

set_option maxRecDepth 20000 in
set_option maxHeartbeats 2000000 in
theorem readDecimalI (s : List UInt8) (w : World) (hl : s.length ≤ 2000000) (he : Env w) : Calls Tryz.prog 85 #[es s] w (NumV s w) := by
  have S1 := Lib.hid (Tryz.strings_TrimPrefix ⟨s.toArray⟩ ⟨#[45]⟩ w)
  have e1 : Lib.trimPrefix (⟨s.toArray⟩ : ByteArray).data.toList (⟨#[45]⟩ : ByteArray).data.toList = digL s := digL_trim s
  rw [e1] at S1
  clear e1
  have hdl : (digL s).length ≤ s.length := by
    unfold digL; split <;> simp
  by_cases hlen : 18 < (digL s).length
  · have HR := Lib.hid (show numF s = none by unfold numF; rw [if_pos (Or.inr (Or.inl hlen))])
    generalize digL s = d at *
    have g1 : (18 : Int) < (d.length : Int) := by omega
    clear hlen he
    go_enter Tryz.func85, Tryz.ntmps85
    go_wp2_with fail
    refine S1.out.mono ?_
    rintro e w1 ⟨rfl, rfl⟩
    clear S1
    go_wp2_with fail
    go_ret2
    exact ⟨by rw [HR.out]; rfl, Upd.refl _ _⟩
  · have hsz : (⟨s.toArray⟩ : ByteArray).size = s.length := rfl
    rcases hp : Lib.parseIntB 64 s with v | _ | _
    rotate_left
    · skip
      have HR := Lib.hid (show numF s = none by
        cases hn : numF s with
        | none => rfl
        | some n =>
          obtain ⟨a, -, b⟩ := numF_some hn
          rw [a, parse_itoa n b] at hp; cases hp)
      obtain ⟨tp, p, hsyn⟩ := he.syn
      have S2 := Lib.hid (Tryz.strconv_ParseInt_10_at64_syntax_var ⟨s.toArray⟩ (by rw [hsz]; omega) hp tp p w hsyn)
      clear hsyn hp hsz he
      generalize digL s = d at *
      have g1 : ¬ (18 : Int) < (d.length : Int) := by omega
      clear hlen
      go_enter Tryz.func85, Tryz.ntmps85
      go_wp2_with fail
      refine S1.out.mono ?_
      rintro e w1 ⟨rfl, rfl⟩
      clear S1
      go_wp2_with fail
      refine S2.out.mono ?_
      rintro e w1 ⟨N, rfl, -, -, hb⟩
      have HU := Lib.hid (Upd.ofBelow hb)
      clear S2 hb
      go_wp2_with fail
      go_ret2
      exact ⟨by rw [HR.out]; rfl, HU.out⟩
    · skip
      have HR := Lib.hid (show numF s = none by
        cases hn : numF s with
        | none => rfl
        | some n =>
          obtain ⟨a, -, b⟩ := numF_some hn
          rw [a, parse_itoa n b] at hp; cases hp)
      obtain ⟨tp, p, hsyn⟩ := he.rng
      have S2 := Lib.hid (Tryz.strconv_ParseInt_10_at64_range_var ⟨s.toArray⟩ (by rw [hsz]; omega) hp tp p w hsyn)
      clear hsyn hp hsz he
      generalize digL s = d at *
      have g1 : ¬ (18 : Int) < (d.length : Int) := by omega
      clear hlen
      go_enter Tryz.func85, Tryz.ntmps85
      go_wp2_with fail
      refine S1.out.mono ?_
      rintro e w1 ⟨rfl, rfl⟩
      clear S1
      go_wp2_with fail
      refine S2.out.mono ?_
      rintro e w1 ⟨N, rfl, -, -, hb⟩
      have HU := Lib.hid (Upd.ofBelow hb)
      clear S2 hb
      go_wp2_with fail
      go_ret2
      exact ⟨by rw [HR.out]; rfl, HU.out⟩
    · skip
      obtain ⟨v0, v1⟩ := parse_range hp
      have S2 := Lib.hid (Tryz.strconv_ParseInt_10_at64_ok ⟨s.toArray⟩ (by rw [hsz]; omega) v hp w)
      have HR := Lib.hid (show numF s = if Lib.itoa v = s then some v else none by
        split
        · rename_i h
          rw [← h]; exact numF_itoa v (by rw [h]; omega)
        · rename_i h
          cases hn : numF s with
          | none => rfl
          | some n =>
            exfalso
            obtain ⟨a, -, b⟩ := numF_some hn
            rw [a, parse_itoa n b] at hp
            cases hp
            exact h a.symm)
      have S3 := Lib.hid (fun w1 (hu : Upd [] w w1) => decimal v w1 v0 v1 (he.upd hu))
      clear hp hsz he
      generalize digL s = d at *
      have g1 : ¬ (18 : Int) < (d.length : Int) := by omega
      clear hlen
      go_enter Tryz.func85, Tryz.ntmps85
      go_wp2_with fail
      refine S1.out.mono ?_
      rintro e wa ⟨rfl, rfl⟩
      clear S1
      go_wp2_with fail
      refine S2.out.mono ?_
      rintro e w1 ⟨rfl, hw⟩
      have hu : Upd [] wa w1 := by
        rcases hw with rfl | ⟨t, rfl⟩
        · exact Upd.refl _ _
        · exact Upd.ofBelow (Lib.bytesWorld_below _ _ _)
      have S4 := Lib.hid (S3.out w1 hu)
      have HU := Lib.hid hu
      clear S2 S3 hw hu
      go_wp2_with fail
      refine S4.out.mono ?_
      rintro e w2 ⟨rfl, hu2⟩
      have HU2 := Lib.hid (HU.out.trans hu2)
      clear S4 HU hu2
      by_cases heq : Lib.itoa v = s
      · have HR2 := Lib.hid (HR.out.trans (if_pos heq))
        rw [heq]
        clear HR heq
        go_wp2_with fail
        go_ret2
        exact ⟨by rw [HR2.out]; rfl, HU2.out⟩
      · have HR2 := Lib.hid (HR.out.trans (if_neg heq))
        clear HR
        generalize Lib.itoa v = A at *
        have hne : (A == s) = false := by simpa using heq
        go_wp2_with fail
        go_ret2
        exact ⟨by rw [HR2.out]; rfl, HU2.out⟩

end Go.Proofs.YtdnjjanacbkijaaGreatDoor

/-
  Labels made: what the program's calls return.
-/
namespace Go.Proofs.YtdnjjanacbkijaaGreatDoor
open Go.RowKit

set_option maxRecDepth 20000 in
set_option maxHeartbeats 4000000 in
theorem joinedI (v : Value) (xs : List Int) (w : World) (fp : List Nat) (hR : R1 fp w [v] xs) (h0 : 0 < xs.length) (hl : xs.length ≤ 1000000)
    (hv : ∀ x ∈ xs, (-9223372036854775808 ≤ x ∧ x ≤ 9223372036854775807) ∧ (Lib.itoa x).length ≤ 30) (he : Env w) :
    Calls Tryz.prog 89 #[v, es [44]] w fun e w' => e = .returned (es (txtV xs)) ∧ Upd [] w w' := by
  obtain ⟨i0, hi, hz0, hz1, hz2⟩ := info_parts Tryz.info9
  obtain ⟨a, cap, rfl, h1, h2, -⟩ := slF1_open hR
  unfold maxLen at h2
  have HR := Lib.hid hR
  have HV := Lib.hid hv
  have HE := Lib.hid he
  have hm2 : i0.bytes * xs.length ≤ 281474976710656 := by rw [hz2]; omega
  clear hR hv he
  go_enter Tryz.func89, Tryz.ntmps89
  go_wp2_with (first
    | (at_make; refine wpList_make_full _ rfl _ _ 24 rfl w.heap.size 9 i0 (es []) 1 Tryz.underlying24 hi hz0 hz1 .i64 .i64 _ _ xs.length rfl rfl rfl rfl hm2 (by unfold maxLen; omega) (Nat.le_refl _) ?_; intro w2 hrow hgrow)
    | fail)
  rw [made_one _ rfl] at hrow
  have hU : Upd [] w w2 := (Upd.refl _ _).grown hgrow (by simp)
  obtain ⟨fo, ho1, ho2, ho3⟩ := New.ofOwns (w := w) (e := 9) (enc := es) (xs := List.replicate xs.length ([] : List UInt8)) (by simpa using hrow)
  have HST := Lib.hid (And.intro (show RS fo w2 [.slice (some ⟨w.heap.size, 0, none⟩) xs.length xs.length] ((xs.take 0).map Lib.itoa ++ List.replicate (xs.length - 0) []) from by simpa using ho1) ho2)
  clear hrow hgrow ho1 ho2 ho3 hm2
  go_wp2_with fail
  go_loopw [13] (fun i wr => ∃ k : Nat, k ≤ xs.length ∧ i = .int .i64 k ∧ Upd [] w wr ∧ RS fo wr [.slice (some ⟨w.heap.size, 0, none⟩) xs.length xs.length] ((xs.take k).map Lib.itoa ++ List.replicate (xs.length - k) []) ∧ Own fo wr) (fun i _ => xs.length - (intOf i).toNat)
  case atStart => exact ⟨0, Nat.zero_le _, rfl, hU, HST.out.1, HST.out.2⟩
  case round =>
    clear HST hU
    obtain ⟨k, hk, rfl, hU, ho1, ho2⟩ := hrel
    by_cases hlt : k < xs.length
    · obtain ⟨a', cap', hv, -, -, hc⟩ := slF1_open (R1k.upd HR.out hU (by simp))
      cases hv
      obtain ⟨b1, o1, rfl, -, -, p1⟩ := hc k hlt
      have hset := set_fill Lib.itoa [] xs k hlt
      obtain ⟨⟨x0, x1⟩, -⟩ := HV.out xs[k] (List.getElem_mem hlt)
      have hlen : ((xs.take k).map Lib.itoa ++ List.replicate (xs.length - k) ([] : List UInt8)).length = xs.length := by simp; omega
      have HL := Lib.hid hlen
      have HS := Lib.hid hset
      have HU := Lib.hid hU
      have HO := Lib.hid (And.intro ho1 ho2)
      generalize xs[k] = x at *
      have S1 := Lib.hid (decimal x wr x0 x1 (HE.out.upd hU))
      clear hc hset hlen hU ho1 ho2
      go_wp2_with fail
      refine S1.out.mono ?_
      rintro e w3 ⟨rfl, hu3⟩
      obtain ⟨hbl, hcl0, hfz, hos⟩ := rowCellS (RSk.upd HO.out.1 hu3 (by simp)) (HO.out.2.upd hu3 (by simp)) HL.out k hlt
      have hos := hos (Lib.itoa x)
      rw [HS.out] at hos
      obtain ⟨z0, hz0'⟩ : ∃ z0 : List UInt8, w3.cell? ⟨w.heap.size, k, none⟩ = some (es z0) := ⟨_, hcl0⟩
      clear hcl0
      have HP := Lib.hid (And.intro hos (HU.out.trans hu3))
      clear S1 hos HO HU hu3 HS HL
      generalize Lib.itoa x = A at *
      go_wp2_with fail
      go_roundw
      case rel => exact ⟨k + 1, by omega, by go_num, HP.out.2.setCell (Or.inl (Nat.le_refl _)) _, HP.out.1.1, HP.out.1.2⟩
      case measure => simp [intOf]; omega
    · obtain rfl : k = xs.length := by omega
      obtain ⟨ps, hps⟩ : ∃ ps, ps = xs.map Lib.itoa := ⟨_, rfl⟩
      have hpl : ps.length = xs.length := by rw [hps]; simp
      have ho3 : RS fo wr [.slice (some ⟨w.heap.size, 0, none⟩) xs.length xs.length] ps := by rw [hps]; simpa using ho1
      obtain ⟨a', cap', hv, -, hc2, hc⟩ := slF1_open ho3
      simp only [Value.slice.injEq] at hv
      obtain ⟨rfl, -, rfl⟩ := hv
      have hle : (joinC 44 ps).length ≤ ps.length * (30 + 1) := joinC_le 44 30 ps (fun p hp => by
        rw [hps] at hp
        obtain ⟨x, hx, rfl⟩ := List.mem_map.1 hp
        exact (HV.out x hx).2)
      have hbk : w.heap.size < wr.heap.size := by
        obtain ⟨b, off, hb, -, hbl, -⟩ := hc 0 (by omega)
        cases hb; exact hbl
      have hmm : (ps.map (fun p => (⟨p.toArray⟩ : ByteArray))).map (fun b => b.data.toList) = ps := by
        rw [List.map_map]; exact (List.map_congr_left (fun p _ => rfl)).trans (List.map_id _)
      have hj : Lib.join ((ps.map (fun p => (⟨p.toArray⟩ : ByteArray))).map (fun b => b.data.toList)) (⟨#[44]⟩ : ByteArray).data.toList = joinC 44 ps := by
        rw [hmm]; exact join_lib 44 ps
      have S0 := Tryz.strings_Join w.heap.size 0 xs.length (ps.map (fun p => (⟨p.toArray⟩ : ByteArray))) ⟨#[44]⟩ wr (fun j x hx => by
        obtain ⟨hj1, rfl⟩ := List.getElem?_eq_some_iff.1 hx
        have hj2 : j < ps.length := by simpa using hj1
        obtain ⟨b, off, hb, -, -, hcl⟩ := hc j hj2
        cases hb
        rw [hcl]
        simp [es]) hbk (by simp; omega) (by simp; omega) (by rw [hj]; omega)
      rw [hj] at S0
      simp only [List.length_map, hpl] at S0
      have S1 := Lib.hid S0
      have HX := Lib.hid (show joinC 44 ps = txtV xs by rw [hps, txtV])
      have HU := Lib.hid hU
      clear hj hmm hle hc hc2 ho3 ho1 ho2 hps hU S0 HV HE HR
      generalize joinC 44 ps = J at *
      go_wp2_with fail
      refine S1.out.mono ?_
      rintro e w3 ⟨rfl, hb3⟩
      have HP := Lib.hid (HU.out.trans (Upd.ofBelow hb3))
      clear S1 hb3 HU
      go_wp2_with fail
      go_ret
      exact ⟨by rw [← HX.out]; rfl, HP.out⟩

end Go.Proofs.YtdnjjanacbkijaaGreatDoor

/-
  Words read as numbers.
-/
namespace Go.Proofs.YtdnjjanacbkijaaGreatDoor
open Go.RowKit

def NumsV (ps : List (List UInt8)) (w : World) (e : Ending) (w' : World) : Prop :=
  (∃ v', e = .returned (.tuple #[v', .bool (numsF ps).isSome]) ∧ New R1 w w' v' ((numsF ps).getD [])) ∧ Upd [] w w'

set_option maxRecDepth 20000 in
set_option maxHeartbeats 4000000 in
theorem readNumbersI (v : Value) (ps : List (List UInt8)) (w : World) (fp : List Nat) (hR : slF 1 (fun s => [es s]) fp w [v] ps) (hl : ps.length ≤ 2000001) (hp : ∀ p ∈ ps, p.length ≤ 2000000) (he : Env w) :
    Calls Tryz.prog 73 #[v] w (NumsV ps w) := by
  obtain ⟨i1, ki, kz0, kz1, kz2⟩ := info_parts Tryz.info2
  obtain ⟨a, cap, rfl, h1, h2, -⟩ := slF1_open hR
  unfold maxLen at h2
  have hlit := World.ownsRow_nil w w.heap.size 2 1
  have HLIT := Lib.hid hlit
  have HR := Lib.hid hR
  have HP := Lib.hid hp
  have HE := Lib.hid he
  clear hR hp he hlit
  go_enter Tryz.func73, Tryz.ntmps73
  go_wp2_with fail
  go_loopw [4, 11] (fun ov i wr => ∃ (k : Nat) (ns : List Int), k ≤ ps.length ∧ i = .int .i64 k ∧ ns.length = k ∧ Hid (numsF ps = (numsF (ps.drop k)).map (ns ++ ·)) ∧ Hid (wr.ownsRow w.heap.size 2 1 ov k (ns.map ei)) ∧ Upd [] w wr) (fun _ i _ => ps.length - (intOf i).toNat)
  case atStart => exact ⟨0, [], by omega, rfl, rfl, Lib.hid (by simp), HLIT, Upd.refl _ _⟩
  case round =>
    clear HLIT
    obtain ⟨k, ns, hk, rfl, hnl, hF, hown, hU⟩ := hrel
    have HNL := Lib.hid hnl
    clear hnl
    by_cases hlt : k < ps.length
    · obtain ⟨a', cap', hv, -, -, hc⟩ := slF1_open ((slF_kept _ _).upd HR.out hU (by simp))
      cases hv
      obtain ⟨b1, o1, rfl, -, -, p1⟩ := hc k hlt
      have hF1 := hF.out
      rw [List.drop_eq_getElem_cons hlt, numsF_cons] at hF1
      have hpk := HP.out ps[k] (List.getElem_mem hlt)
      have HF := Lib.hid hF1
      have HU := Lib.hid hU
      clear hF1 hF hc
      generalize ps[k] = s at *
      have S1 := Lib.hid (readDecimalI s wr hpk (HE.out.upd hU))
      clear hU
      go_wp2_with fail
      refine S1.out.mono ?_
      rintro e w3 ⟨rfl, hu3⟩
      have HU3 := Lib.hid (HU.out.trans hu3)
      have hown3 := ownsRow_upd hown.out hu3
      have hsz3 := HU3.out.size
      clear S1 HU hu3 hown
      cases hn : numF s with
      | none =>
        rw [hn] at HF
        have HN := Lib.hid (show numsF ps = none from HF.out)
        clear HF hown3
        go_wp2_with fail
        go_ret2
        exact ⟨⟨_, by rw [HN.out]; rfl, by rw [HN.out]; exact new_nil _ _⟩, HU3.out⟩
      | some x =>
        rw [hn] at HF
        have HN := Lib.hid (show numsF ps = (numsF (ps.drop (k + 1))).map ((ns ++ [x]) ++ ·) by
          rw [HF.out]
          simp [Function.comp_def])
        clear HF
        simp only [Option.getD_some, Option.isSome_some]
        go_wp2_with (first
          | (at_builtin; refine wpList_append_tight _ rfl _ _ 34 rfl w.heap.size 2 i1 (.int .i64 0) 1 8 Tryz.underlying34 ki kz0 kz1 kz2 rfl (by decide) _ _ _ rfl (hown3.alloc _) ⟨w3.heap.size, 0, none⟩ 1 1 [ei x] rfl rfl (fun j u hj => by rw [addr_add]; exact cell_new w3 #[ei x] _ _ rfl _ _ (by simpa using hj)) (by simp [Value.oneCell']) (by unfold maxLen; omega) (by omega) (by simp; omega) ?_)
          | fail)
        intro v4 w4 hown4 hg4 ht4
        have hu4 : Upd [] w w4 := (HU3.out.alloc _).grown hg4 (fun b hb => Or.inl (by have := (hown3.lt b hb).1; omega))
        have HQ := Lib.hid (And.intro hown4 hu4)
        clear hown4 hg4 ht4 hu4 hown3
        go_wp2_with fail
        go_roundw
        case rel => exact ⟨k + 1, ns ++ [x], by omega, by go_num, by simp [HNL.out], HN, Lib.hid (by simpa using HQ.out.1), HQ.out.2⟩
        case measure => simp [intOf]; omega
    · obtain rfl : k = ps.length := by omega
      have hF1 := hF.out
      rw [List.drop_of_length_le (Nat.le_refl _)] at hF1
      have HN := Lib.hid (show numsF ps = some ns by rw [hF1]; simp [numsF])
      have HQ := Lib.hid (And.intro (New.ofOwns (w := w) (e := 2) (enc := ei) (xs := ns) (by rw [HNL.out]; exact hown.out)) hU)
      clear hown hU hF hF1
      go_wp2_with fail
      go_ret2
      exact ⟨⟨_, by rw [HN.out]; rfl, by rw [HN.out]; exact HQ.out.1⟩, HQ.out.2⟩

end Go.Proofs.YtdnjjanacbkijaaGreatDoor

/-
  Labels made and read: what the program's calls return.
-/
namespace Go.Proofs.YtdnjjanacbkijaaGreatDoor
open Go.RowKit

def LabV (name : List UInt8) (xs : List Int) (w : World) (e : Ending) (w' : World) : Prop :=
  (∃ t : List UInt8, e = .returned (.tuple #[es t, .bool (labT name xs).isSome]) ∧ Hid (∀ s, labT name xs = some s → t = s)) ∧ Upd [] w w'

theorem isV_itoa {x : Int} (h : isV x = true) : (-9223372036854775808 ≤ x ∧ x ≤ 9223372036854775807) ∧ (Lib.itoa x).length ≤ 30 := by
  have hb := inB_true h
  have h1 := itoa_len64 h
  have h2 : (Lib.itoa x).length ≤ (digL (Lib.itoa x)).length + 1 := by unfold digL; split <;> simp <;> omega
  omega

theorem labT_no {name : List UInt8} {xs : List Int} (ht : name ≠ tauL) (h : (actF name && decide (xs.length ≤ 2) && xs.all isV) = false) : labT name xs = none := by
  unfold labT; rw [if_neg ht, h]; rfl
theorem labT_yes {name : List UInt8} {xs : List Int} (ht : name ≠ tauL) (h : (actF name && decide (xs.length ≤ 2) && xs.all isV) = true) : labT name xs = some (if xs = [] then name else ((name ++ [40]) ++ txtV xs) ++ [41]) := by
  unfold labT; rw [if_neg ht, if_pos h]

set_option maxRecDepth 20000 in
set_option maxHeartbeats 4000000 in
theorem labelOfI (name : List UInt8) (v : Value) (xs : List Int) (w : World) (fp : List Nat) (hn : name.length ≤ 2000000) (hR : R1 fp w [v] xs) (he : Env w) :
    Calls Tryz.prog 76 #[es name, v] w (LabV name xs w) := by
  obtain ⟨a, cap, rfl, h1, h2, -⟩ := slF1_open hR
  unfold maxLen at h2
  by_cases htau : name = tauL
  · have HT := Lib.hid (show labT name xs = if xs = [] then some tauL else none by unfold labT; rw [if_pos htau])
    have e1 : es name = .string ⟨#[116, 97, 117]⟩ := by rw [htau]; rfl
    rw [e1]
    clear hR he e1 htau
    cases xs with
    | nil =>
      go_enter Tryz.func76, Tryz.ntmps76
      go_wp2_with fail
      go_ret2
      exact ⟨⟨tauL, by rw [HT.out]; rfl, Lib.hid (fun s hs => by rw [HT.out] at hs; simpa using hs)⟩, Upd.refl _ _⟩
    | cons x xs =>
      have g0 : ¬ (((x :: xs).length : Int) = 0) := by simp; omega
      have HT2 := Lib.hid (show labT name (x :: xs) = none by rw [HT.out]; rfl)
      clear HT
      generalize x :: xs = ys at *
      have g1 : ((ys.length : Int) == 0) = false := by simpa using g0
      go_enter Tryz.func76, Tryz.ntmps76
      go_wp2_with fail
      go_ret2
      exact ⟨⟨tauL, by rw [HT2.out]; first | rfl | (simp [tauL, g1, es]), Lib.hid (fun s hs => by rw [HT2.out] at hs; cases hs)⟩, Upd.refl _ _⟩
  · have g0 : (name == [116, 97, 117]) = false := by simpa [tauL] using htau
    have HTAU := Lib.hid htau
    have S1 := Lib.hid (isActionI name w hn)
    cases ha : actF name with
    | false =>
      have HT := Lib.hid (labT_no (xs := xs) htau (by rw [ha]; rfl))
      rw [ha] at S1
      clear hR he htau ha
      go_enter Tryz.func76, Tryz.ntmps76
      go_wp2_with fail
      refine S1.out.mono ?_
      rintro e w1 ⟨rfl, rfl⟩
      clear S1
      go_wp2_with fail
      go_ret2
      exact ⟨⟨[], by rw [HT.out]; rfl, Lib.hid (fun s hs => by rw [HT.out] at hs; cases hs)⟩, Upd.refl _ _⟩
    | true =>
      rw [ha] at S1
      by_cases hlen : xs.length ≤ 2
      · have g3 : ¬ ((2 : Int) < (xs.length : Int)) := by omega
        have S2 := Lib.hid (areValues _ xs w fp hR)
        cases hv : xs.all isV with
        | false =>
          have HT := Lib.hid (labT_no (xs := xs) htau (by rw [hv]; simp))
          rw [hv] at S2
          clear hR he htau ha hv hlen
          go_enter Tryz.func76, Tryz.ntmps76
          go_wp2_with fail
          refine S1.out.mono ?_
          rintro e w1 ⟨rfl, rfl⟩
          clear S1
          go_wp2_with fail
          refine S2.out.mono ?_
          rintro e w1 ⟨rfl, rfl⟩
          clear S2
          go_wp2_with fail
          go_ret2
          exact ⟨⟨[], by rw [HT.out]; rfl, Lib.hid (fun s hs => by rw [HT.out] at hs; cases hs)⟩, Upd.refl _ _⟩
        | true =>
          have HT := Lib.hid (labT_yes (xs := xs) htau (by rw [ha, hv, decide_eq_true hlen]; rfl))
          rw [hv] at S2
          by_cases h0 : xs = []
          · have HT2 := Lib.hid (HT.out.trans (by rw [if_pos h0]))
            have g4 : ((xs.length : Int) == 0) = true := by rw [h0]; rfl
            clear hR he htau ha hv hlen h0 HT
            go_enter Tryz.func76, Tryz.ntmps76
            go_wp2_with fail
            refine S1.out.mono ?_
            rintro e w1 ⟨rfl, rfl⟩
            clear S1
            go_wp2_with fail
            refine S2.out.mono ?_
            rintro e w1 ⟨rfl, rfl⟩
            clear S2
            go_wp2_with fail
            go_ret2
            exact ⟨⟨name, by rw [HT2.out]; rfl, Lib.hid (fun s hs => by rw [HT2.out] at hs; simpa using hs)⟩, Upd.refl _ _⟩
          · have HT2 := Lib.hid (HT.out.trans (by rw [if_neg h0]))
            have hpos : 0 < xs.length := List.length_pos_iff.2 h0
            have g4 : ((xs.length : Int) == 0) = false := by simp; omega
            have S3 := Lib.hid (joinedI _ xs w fp hR hpos (by omega) (fun x hx => isV_itoa (List.all_eq_true.1 hv x hx)) he)
            have hjl : (txtV xs).length ≤ 2 * 31 := by
              refine Nat.le_trans (joinC_le 44 30 (xs.map Lib.itoa) (fun p hp => ?_)) ?_
              · obtain ⟨x, hx, rfl⟩ := List.mem_map.1 hp
                exact (isV_itoa (List.all_eq_true.1 hv x hx)).2
              · rw [List.length_map]; omega
            clear hR he htau ha hv hlen h0 HT
            generalize txtV xs = J at *
            go_enter Tryz.func76, Tryz.ntmps76
            go_wp2_with fail
            refine S1.out.mono ?_
            rintro e w1 ⟨rfl, rfl⟩
            clear S1
            go_wp2_with fail
            refine S2.out.mono ?_
            rintro e w1 ⟨rfl, rfl⟩
            clear S2
            go_wp2_with fail
            refine S3.out.mono ?_
            rintro e w3 ⟨rfl, hu3⟩
            have HU := Lib.hid hu3
            clear S3 hu3
            go_wp2_with fail
            go_ret2
            exact ⟨⟨_, by rw [HT2.out]; rfl, Lib.hid (fun s hs => by rw [HT2.out] at hs; simpa using hs)⟩, HU.out⟩
      · have g3 : (2 : Int) < (xs.length : Int) := by omega
        have HT := Lib.hid (labT_no (xs := xs) htau (by rw [decide_eq_false hlen]; simp))
        clear hR he htau ha hlen
        go_enter Tryz.func76, Tryz.ntmps76
        go_wp2_with fail
        refine S1.out.mono ?_
        rintro e w1 ⟨rfl, rfl⟩
        clear S1
        go_wp2_with fail
        go_ret2
        exact ⟨⟨[], by rw [HT.out]; rfl, Lib.hid (fun s hs => by rw [HT.out] at hs; cases hs)⟩, Upd.refl _ _⟩

end Go.Proofs.YtdnjjanacbkijaaGreatDoor

/-
  Labels read: what the program's calls return.
-/
namespace Go.Proofs.YtdnjjanacbkijaaGreatDoor
open Go.RowKit

theorem es_bytes (b : ByteArray) : es b.data.toList = .string b := by simp [es]

theorem splitC_len (c : UInt8) : ∀ l : List UInt8, (splitC c l).length ≤ l.length + 1 ∧ ∀ p ∈ splitC c l, p.length ≤ l.length
  | [] => by simp [splitC]
  | b :: l => by
    obtain ⟨h1, h2⟩ := splitC_len c l
    by_cases hb : b = c
    · subst hb
      have e : splitC b (b :: l) = [] :: splitC b l := by rw [splitC, if_pos rfl]
      rw [e]
      refine ⟨by simp; omega, fun p hp => ?_⟩
      rcases List.mem_cons.1 hp with rfl | hp
      · simp
      · have := h2 p hp; simp; omega
    · obtain ⟨p, ps, e1, e2⟩ := splitC_cons c b l hb
      rw [e2]
      rw [e1] at h1 h2
      refine ⟨by simp at h1 ⊢; omega, fun q hq => ?_⟩
      rcases List.mem_cons.1 hq with rfl | hq
      · have := h2 p (by simp); simp; omega
      · have := h2 q (by simp [hq]); simp; omega

theorem cut_len (s sep : List UInt8) : (Lib.cut s sep).1.length ≤ s.length ∧ (Lib.cut s sep).2.1.length ≤ s.length := by
  unfold Lib.cut
  split <;> simp <;> omega
theorem trim_len (s p : List UInt8) : (Lib.trimSuffix s p).length ≤ s.length := by
  unfold Lib.trimSuffix
  split <;> simp <;> omega
theorem cut_false {s : List UInt8} (h : (Lib.cut s [40]).2.2 = false) : Lib.cut s [40] = (s, [], false) := by
  unfold Lib.cut at h ⊢
  split at h
  · cases h
  · rename_i h1; rw [if_neg h1]

theorem cutI (l : List UInt8) (w : World) (hl : l.length ≤ 2000000) (he : Env w) :
    Calls Tryz.prog 72 #[es l, .string ⟨#[40]⟩] w fun e w' => e = .returned (.tuple #[es (Lib.cut l [40]).1, es (Lib.cut l [40]).2.1, .bool (Lib.cut l [40]).2.2]) ∧ Upd [] w w' := by
  obtain ⟨m, hm⟩ := he.m
  have hsz : (⟨l.toArray⟩ : ByteArray).size = l.length := rfl
  refine (Tryz.strings_Cut ⟨l.toArray⟩ ⟨#[40]⟩ m w (by rw [hsz]; omega) hm).mono ?_
  rintro e w1 ⟨rfl, n, rfl⟩
  exact ⟨rfl, (Upd.refl _ _).drewN n⟩

theorem trimI (l : List UInt8) (w : World) (hl : l.length ≤ 2000000) :
    Calls Tryz.prog 75 #[es l, .string ⟨#[41]⟩] w fun e w' => e = .returned (es (Lib.trimSuffix l [41])) ∧ w' = w := by
  have hsz : (⟨l.toArray⟩ : ByteArray).size = l.length := rfl
  exact (Tryz.strings_TrimSuffix ⟨l.toArray⟩ ⟨#[41]⟩ w (by rw [hsz]; omega)).mono (fun e w1 h => h)

theorem splitI (l : List UInt8) (w : World) (hl : l.length ≤ 2000000) (he : Env w) :
    Calls Tryz.prog 74 #[es l, .string ⟨#[44]⟩] w fun e w' => (∃ v', e = .returned v' ∧ New RS w w' v' (splitC 44 l)) ∧ Upd [] w w' := by
  obtain ⟨m, hm⟩ := he.m
  have hsz : (⟨l.toArray⟩ : ByteArray).size = l.length := rfl
  have hlen := Lib.splitB_all ⟨#[44]⟩ (by decide) 0 (Lib.countB ⟨l.toArray⟩ ⟨#[44]⟩) ⟨l.toArray⟩ rfl
  have hdat : (Lib.splitB ⟨#[44]⟩ 0 (Lib.countB ⟨l.toArray⟩ ⟨#[44]⟩) ⟨l.toArray⟩).map (·.data.toList) = splitC 44 l := by
    rw [Lib.splitB_data]; exact split_lib 44 l
  refine (Tryz.strings_Split ⟨l.toArray⟩ ⟨#[44]⟩ m w (by rw [hsz]; omega) hm (by decide)).mono ?_
  rintro e w1 ⟨rfl, rfl⟩
  generalize Lib.splitB ⟨#[44]⟩ 0 (Lib.countB ⟨l.toArray⟩ ⟨#[44]⟩) ⟨l.toArray⟩ = bs at *
  generalize Lib.countB ⟨l.toArray⟩ ⟨#[44]⟩ = n at *
  have hsp := (splitC_len 44 l).1
  have hmap : bs.map Value.string = (splitC 44 l).map es := by
    rw [← hdat, List.map_map]
    exact List.map_congr_left (fun b _ => (es_bytes b).symm)
  have hn : n + 1 = (splitC 44 l).length := by rw [← hdat, List.length_map, hlen]
  rw [hmap, hn]
  exact ⟨⟨_, rfl, new_lit (enc := es) w 9 (splitC 44 l) (by unfold maxLen; omega)⟩, (Upd.refl _ _).alloc _⟩

def ReadV (s : List UInt8) (w : World) (e : Ending) (w' : World) : Prop :=
  (∃ (n : List UInt8) (v' : Value) (vs : List Int), e = .returned (.tuple #[es n, v', .bool (readF s).isSome]) ∧ New R1 w w' v' vs ∧ (readF s).getD ([], []) = (n, vs)) ∧ Upd [] w w'

set_option maxRecDepth 20000 in
set_option maxHeartbeats 4000000 in
theorem readLabelI (s : List UInt8) (w : World) (hl : s.length ≤ 2000000) (he : Env w) : Calls Tryz.prog 61 #[es s] w (ReadV s w) := by
  have S1 := Lib.hid (cutI s w hl he)
  obtain ⟨hc1, hc2⟩ := cut_len s [40]
  have HE := Lib.hid he
  clear he
  cases hm : (Lib.cut s [40]).2.2 with
  | false =>
    have hcf := cut_false hm
    have HF := Lib.hid (show readF s = if labT s [] = some s then some (s, []) else none by unfold readF; rw [hm]; rfl)
    rw [hcf] at S1
    clear hm hcf hc1 hc2
    go_enter Tryz.func61, Tryz.ntmps61
    go_wp2_with fail
    refine S1.out.mono ?_
    rintro e w1 ⟨rfl, hu1⟩
    obtain ⟨f0, hR0, hO0, hG0⟩ := new_nil w w1
    have S4 := Lib.hid (labelOfI s (.slice none 0 0) [] w1 f0 hl hR0 (HE.out.upd hu1))
    have HU1 := Lib.hid hu1
    have HN := Lib.hid (show New R1 w w1 (.slice none 0 0) [] from ⟨f0, hR0, hO0, hG0⟩)
    clear S1 hu1 hR0 hO0 hG0
    go_wp2_with fail
    refine S4.out.mono ?_
    rintro e w4 ⟨⟨t, rfl, ht⟩, hu4⟩
    have HU := Lib.hid (HU1.out.trans hu4)
    have HN4 := Lib.hid (R1k.new HN.out hu4 (by simp))
    clear S4 HU1 HN hu4
    cases hL : labT s [] with
    | none =>
      have HR := Lib.hid (show readF s = none by rw [HF.out, hL]; rfl)
      clear HF ht hL
      go_wp2_with fail
      go_ret3
      exact ⟨⟨[], _, [], by rw [HR.out]; rfl, new_nil _ _, by rw [HR.out]; rfl⟩, HU.out⟩
    | some s' =>
      obtain rfl := ht.out s' hL
      by_cases heq : t = s
      · have HR := Lib.hid (show readF s = some (s, []) by rw [HF.out, hL, if_pos (by rw [heq])])
        clear HF hL
        subst heq
        clear ht
        go_wp2_with fail
        go_ret3
        exact ⟨⟨t, _, [], by rw [HR.out]; rfl, HN4.out, by rw [HR.out]; rfl⟩, HU.out⟩
      · have HR := Lib.hid (show readF s = none by rw [HF.out, hL, if_neg (by simpa using heq)])
        have hne : (t == s) = false := by simpa using heq
        clear HF ht hL
        go_wp2_with fail
        go_ret3
        exact ⟨⟨[], _, [], by rw [HR.out]; rfl, new_nil _ _, by rw [HR.out]; rfl⟩, HU.out⟩
  | true =>
    have HF := Lib.hid (show readF s = match numsF (splitC 44 (Lib.trimSuffix (Lib.cut s [40]).2.1 [41])) with
      | none => none
      | some vs => if labT (Lib.cut s [40]).1 vs = some s then some ((Lib.cut s [40]).1, vs) else none by unfold readF; rw [hm]; rfl)
    rw [hm] at S1
    clear hm
    generalize (Lib.cut s [40]).1 = nm at *
    generalize (Lib.cut s [40]).2.1 = rest at *
    have htl := trim_len rest [41]
    have hnm : nm.length ≤ 2000000 := by omega
    have S2 := Lib.hid (fun w1 : World => trimI rest w1 (by omega))
    generalize Lib.trimSuffix rest [41] = r2 at *
    obtain ⟨hp1, hp2⟩ := splitC_len 44 r2
    have S3 := Lib.hid (fun (w1 : World) (hu : Upd [] w w1) => splitI r2 w1 (by omega) (HE.out.upd hu))
    generalize splitC 44 r2 = ps at *
    have HPL := Lib.hid (show ∀ p ∈ ps, p.length ≤ 2000000 from fun p hp => by have := hp2 p hp; omega)
    have hpl : ps.length ≤ 2000001 := by omega
    clear hp1 hp2 htl hc1 hc2
    go_enter Tryz.func61, Tryz.ntmps61
    go_wp2_with fail
    refine S1.out.mono ?_
    rintro e w1 ⟨rfl, hu1⟩
    have S2 := Lib.hid (S2.out w1)
    have S3 := Lib.hid (S3.out w1 hu1)
    have HU1 := Lib.hid hu1
    clear S1 hu1
    go_wp2_with fail
    refine S2.out.mono ?_
    rintro e w2 ⟨rfl, rfl⟩
    clear S2
    go_wp2_with fail
    refine S3.out.mono ?_
    rintro e w3 ⟨⟨v3, rfl, fq, hq1, hq2, hq3⟩, hu3⟩
    have HU3 := Lib.hid (HU1.out.trans hu3)
    have S4 := Lib.hid (readNumbersI v3 ps w3 fq hq1 (by omega) HPL.out (HE.out.upd HU3.out))
    have hsz3 := HU3.out.size
    clear S3 HU1 hu3 hq1 hq2 hq3
    go_wp2_with fail
    refine S4.out.mono ?_
    rintro e w4 ⟨⟨v4, rfl, hn4⟩, hu4⟩
    have HU4 := Lib.hid (HU3.out.trans hu4)
    clear S4 HU3 hu4
    cases hN : numsF ps with
    | none =>
      have HR := Lib.hid (show readF s = none by rw [HF.out, hN])
      clear HF hN hn4
      go_wp2_with fail
      go_ret3
      exact ⟨⟨[], _, [], by rw [HR.out]; rfl, new_nil _ _, by rw [HR.out]; rfl⟩, HU4.out⟩
    | some vs =>
      rw [hN] at hn4 HF
      have HF2 := Lib.hid (show readF s = if labT nm vs = some s then some (nm, vs) else none from HF.out)
      obtain ⟨f4, hr4, -, -⟩ := id hn4
      have S5 := Lib.hid (labelOfI nm v4 vs w4 f4 hnm hr4 (HE.out.upd HU4.out))
      have HN := Lib.hid (show New R1 w w4 v4 vs from hn4.mono hsz3)
      clear HF hN hn4 hr4
      go_wp2_with fail
      refine S5.out.mono ?_
      rintro e w5 ⟨⟨t, rfl, ht⟩, hu5⟩
      have HU := Lib.hid (HU4.out.trans hu5)
      have HN5 := Lib.hid (R1k.new HN.out hu5 (by simp))
      clear S5 HU4 HN hu5
      cases hL : labT nm vs with
      | none =>
        have HR := Lib.hid (show readF s = none by rw [HF2.out, hL]; rfl)
        clear HF2 ht hL
        go_wp2_with fail
        go_ret3
        exact ⟨⟨[], _, [], by rw [HR.out]; rfl, new_nil _ _, by rw [HR.out]; rfl⟩, HU.out⟩
      | some s' =>
        obtain rfl := ht.out s' hL
        by_cases heq : t = s
        · have HR := Lib.hid (show readF s = some (nm, vs) by rw [HF2.out, hL, if_pos (by rw [heq])])
          clear HF2 hL
          subst heq
          clear ht
          go_wp2_with fail
          go_ret3
          exact ⟨⟨nm, _, vs, by rw [HR.out]; rfl, HN5.out, by rw [HR.out]; rfl⟩, HU.out⟩
        · have HR := Lib.hid (show readF s = none by rw [HF2.out, hL, if_neg (by simpa using heq)])
          have hne : (t == s) = false := by simpa using heq
          clear HF2 ht hL
          go_wp2_with fail
          go_ret3
          exact ⟨⟨[], _, [], by rw [HR.out]; rfl, new_nil _ _, by rw [HR.out]; rfl⟩, HU.out⟩

set_option maxRecDepth 20000 in
theorem isLabelI (s : List UInt8) (w : World) (hl : s.length ≤ 2000000) (he : Env w) : Calls Tryz.prog 42 #[es s] w fun e w' => e = .returned (.bool (readF s).isSome) ∧ Upd [] w w' := by
  have S1 := Lib.hid (readLabelI s w hl he)
  clear he
  go_enter Tryz.func42, Tryz.ntmps42
  go_wp2_with fail
  refine S1.out.mono ?_
  rintro e w1 ⟨⟨n, v, vs, rfl, hn, hr⟩, hu⟩
  have HU := Lib.hid hu
  clear S1 hn hr hu
  go_wp2_with fail
  go_ret
  exact ⟨rfl, HU.out⟩

set_option maxRecDepth 20000 in
theorem labelNameI (s : List UInt8) (w : World) (hl : s.length ≤ 2000000) (he : Env w) : Calls Tryz.prog 78 #[es s] w fun e w' => e = .returned (es ((readF s).getD ([], [])).1) ∧ Upd [] w w' := by
  have S1 := Lib.hid (readLabelI s w hl he)
  clear he
  go_enter Tryz.func78, Tryz.ntmps78
  go_wp2_with fail
  refine S1.out.mono ?_
  rintro e w1 ⟨⟨n, v, vs, rfl, hn, hr⟩, hu⟩
  have HU := Lib.hid (And.intro hr hu)
  clear S1 hn hr hu
  go_wp2_with fail
  go_ret
  exact ⟨by rw [HU.out.1]; rfl, HU.out.2⟩

end Go.Proofs.YtdnjjanacbkijaaGreatDoor

/-
  Lists of labels: what the program's and the reference's calls return.
-/
namespace Go.Proofs.YtdnjjanacbkijaaGreatDoor
open Go.RowKit

/-- whether a text is a label. -/
def isLab (s : List UInt8) : Bool := (readF s).isSome

end Go.Proofs.YtdnjjanacbkijaaGreatDoor

/-
  Binary images, plainly: numbers, texts, the check value, the seal.
-/
namespace Go.Proofs.YtdnjjanacbkijaaGreatDoor
open Go.RowKit

def edLt (a b : Ed) : Bool := if a.fr ≠ b.fr then decide (a.fr < b.fr) else if a.lb ≠ b.lb then decide (a.lb < b.lb) else decide (a.to < b.to)

/-- all of m from k on. -/
def allF (P : Nat → Bool) : Nat → Nat → Bool
  | _, 0 => true
  | k, m + 1 => P k && allF P (k + 1) m
theorem allF_step (P : Nat → Bool) (k n : Nat) (h : k < n) : allF P k (n - k) = (P k && allF P (k + 1) (n - (k + 1))) := by
  obtain ⟨m, hm⟩ : ∃ m, n - k = m + 1 := ⟨n - k - 1, by omega⟩
  rw [hm, allF, show n - (k + 1) = m by omega]
theorem allF_end (P : Nat → Bool) (n : Nat) : allF P n (n - n) = true := by rw [Nat.sub_self]; rfl

def labP (labs : List (List UInt8)) (i : Nat) : Bool := isLab (labs.getD i []) && ((labs.getD i [] == tauL) == decide (i = 0)) && (!decide (1 < i) || bl (labs.getD (i - 1) []) (labs.getD i []))
def edP (x : Sys) (i : Nat) : Bool :=
  inB (x.eds.getD i ⟨0, 0, 0⟩).fr 0 (x.st - 1) && inB (x.eds.getD i ⟨0, 0, 0⟩).to 0 (x.st - 1) && inB (x.eds.getD i ⟨0, 0, 0⟩).lb 0 (x.labs.length - 1) && (decide (i = 0) || edLt (x.eds.getD (i - 1) ⟨0, 0, 0⟩) (x.eds.getD i ⟨0, 0, 0⟩))
/-- the labels of a system are in order. -/
def labsOk (labs : List (List UInt8)) : Bool := decide (1 ≤ labs.length) && decide (labs.length ≤ 12) && allF (labP labs) 0 labs.length
/-- a system is valid. -/
def sysOk (x : Sys) : Bool := inB x.st 1 40 && inB x.ini 0 (x.st - 1) && labsOk x.labs && decide (x.eds.length ≤ 300) && allF (edP x) 0 x.eds.length

end Go.Proofs.YtdnjjanacbkijaaGreatDoor

/-
  Formulas, plainly: their shape, their fields, what binds a variable; validity as the program and as the reference reckon it.
-/
namespace Go.Proofs.YtdnjjanacbkijaaGreatDoor
open Go.RowKit

/-- a node: kind, variable, label, and whether the label is negated. -/
structure Nd where
  kd : Int
  vr : Int
  lb : List UInt8
  nt : Bool
deriving DecidableEq

/-- how many formulas a node of a kind wants behind it, for the program and for the reference. -/
def arI (k : Int) : Int := if k = 2 ∨ k = 3 then 2 else if k = 4 ∨ k = 5 ∨ k = 7 ∨ k = 8 then 1 else 0
def arS (k : Int) : Int := if k = 0 ∨ k = 1 ∨ k = 6 then 0 else if k = 2 ∨ k = 3 then 2 else 1
theorem arI_in (k : Int) : 0 ≤ arI k ∧ arI k ≤ 2 := by unfold arI; split <;> (try split) <;> omega
/-- m formulas are still to come, and the nodes are exactly those. -/
def shapeF (ar : Int → Int) : Int → List Nd → Bool
  | m, [] => m == 0
  | m, n :: l => if m = 0 then false else shapeF ar (m + ar n.kd - 1) l
def modF (k : Int) : Bool := k == 4 || k == 5
/-- a pattern: nothing, a label, or a name before a star. -/
def patF (s : List UInt8) : Bool := s == [] || isLab s || (s.getLast? == some 42 && actF s.dropLast)
def fieldsF (n : Nd) : Bool := if modF n.kd then patF n.lb else n.lb == [] && !n.nt
def nd0 : Nd := ⟨0, 0, [], false⟩
end Go.Proofs.YtdnjjanacbkijaaGreatDoor

/-
  The kind of an image and its contents, plainly.
-/
namespace Go.Proofs.YtdnjjanacbkijaaGreatDoor
open Go.RowKit

end Go.Proofs.YtdnjjanacbkijaaGreatDoor

/-
  The check value: what both sides' calls return.
-/
namespace Go.Proofs.YtdnjjanacbkijaaGreatDoor
open Go.RowKit

end Go.Proofs.YtdnjjanacbkijaaGreatDoor

/-
  The kind of an image, and the reader of its contents: what both sides' calls return.
-/
namespace Go.Proofs.YtdnjjanacbkijaaGreatDoor
open Go.RowKit

end Go.Proofs.YtdnjjanacbkijaaGreatDoor

/-
  The reader of the contents of a formula's image: what both sides' calls return.
-/
namespace Go.Proofs.YtdnjjanacbkijaaGreatDoor
open Go.RowKit

end Go.Proofs.YtdnjjanacbkijaaGreatDoor

/-
  Images of formulas read back, plainly.
-/
namespace Go.Proofs.YtdnjjanacbkijaaGreatDoor
open Go.RowKit

theorem isLab_len {s : List UInt8} (h : isLab s = true) : s.length ≤ 100 := by
  obtain ⟨nm, vs, hl⟩ : ∃ nm vs, labT nm vs = some s := by
    unfold isLab readF at h
    split at h
    · split at h
      · simp at h
      · split at h
        · next hq => exact ⟨_, _, hq⟩
        · simp at h
    · split at h
      · next hq => exact ⟨_, _, hq⟩
      · simp at h
  unfold labT at hl
  split at hl
  · split at hl
    · cases hl; simp [tauL]
    · simp at hl
  · split at hl
    · next hc =>
      simp only [Bool.and_eq_true, decide_eq_true_eq] at hc
      obtain ⟨⟨ha, h2⟩, hv⟩ := hc
      have hn : nm.length ≤ 10 := by unfold actF nameF at ha; simp only [Bool.and_eq_true, decide_eq_true_eq] at ha; omega
      split at hl
      · cases hl; omega
      · cases hl
        have := joinC_le 44 30 (vs.map Lib.itoa) (by
          intro p hp
          obtain ⟨x, hx, rfl⟩ := List.mem_map.1 hp
          exact (isV_itoa (List.all_eq_true.1 hv x hx)).2)
        have h3 : (vs.map Lib.itoa).length * (30 + 1) ≤ 2 * 31 := Nat.mul_le_mul (by simpa using h2) (by omega)
        simp only [List.length_append, List.length_cons, List.length_nil, txtV]
        omega
    · simp at hl
theorem patF_len {s : List UInt8} (h : patF s = true) : s.length ≤ 100 := by
  unfold patF at h
  simp only [Bool.or_eq_true, Bool.and_eq_true, beq_iff_eq] at h
  rcases h with (h | h) | ⟨-, h⟩
  · rw [h]; simp
  · exact isLab_len h
  · unfold actF nameF at h; simp only [Bool.and_eq_true, decide_eq_true_eq, List.length_dropLast] at h; omega
end Go.Proofs.YtdnjjanacbkijaaGreatDoor

/-
  The text of a formula, plainly.
-/
namespace Go.Proofs.YtdnjjanacbkijaaGreatDoor
open Go.RowKit

def kdT : Tr Nd → Int | .mk n _ => n.kd
end Go.Proofs.YtdnjjanacbkijaaGreatDoor

/-
  The laws' helper functions over lists of nodes.
-/
namespace Go.Proofs.YtdnjjanacbkijaaGreatDoor
open Go.RowKit Go.ChangeShapes

abbrev R_F1 : Rp (List Nd) := slF 4 (fun t => [ei t.kd, ei t.vr, es t.lb, .bool t.nt])
theorem R_F1k : Kept R_F1 := slF_kept _ _
theorem Tryz.infoNd : (Tryz.prog.info? 53).map (fun i => (i.zero, i.size, i.bytes)) = some (some (.agg #[.int .i64 0, .int .i64 0, .string ⟨#[]⟩, .bool false]), 4, 40) := by kernel_rfl

end Go.Proofs.YtdnjjanacbkijaaGreatDoor

/-
  The program's checks of a node and of a formula's shape: what the calls return.
-/
namespace Go.Proofs.YtdnjjanacbkijaaGreatDoor
open Go.RowKit

set_option maxRecDepth 20000 in
set_option maxHeartbeats 800000 in
theorem operandsI (a b : Int) (c : List UInt8) (d : Bool) (w : World) : Calls Tryz.prog 56 #[.agg #[ei a, ei b, es c, .bool d]] w fun e w' => e = .returned (.int .i64 (arI a)) ∧ Upd [] w w' := by
  by_cases h2 : a = 2
  · have HI := Lib.hid (show arI a = 2 by subst h2; rfl)
    have b2 : (a == 2) = true := by simpa using h2
    clear h2
    go_enter Tryz.func56, Tryz.ntmps56
    go_wp2_with fail
    go_ret
    exact ⟨by rw [HI.out]; rfl, (Upd.refl _ _).alloc _⟩
  · have b2 : (a == 2) = false := by simpa using h2
    by_cases h3 : a = 3
    · have HI := Lib.hid (show arI a = 2 by subst h3; rfl)
      have b3 : (a == 3) = true := by simpa using h3
      clear h3 h2
      go_enter Tryz.func56, Tryz.ntmps56
      go_wp2_with fail
      go_ret
      exact ⟨by rw [HI.out]; rfl, (Upd.refl _ _).alloc _⟩
    · have b3 : (a == 3) = false := by simpa using h3
      by_cases h4 : a = 4
      · have HI := Lib.hid (show arI a = 1 by subst h4; rfl)
        have b4 : (a == 4) = true := by simpa using h4
        clear h4 h2 h3
        go_enter Tryz.func56, Tryz.ntmps56
        go_wp2_with fail
        go_ret
        exact ⟨by rw [HI.out]; rfl, (Upd.refl _ _).alloc _⟩
      · have b4 : (a == 4) = false := by simpa using h4
        by_cases h5 : a = 5
        · have HI := Lib.hid (show arI a = 1 by subst h5; rfl)
          have b5 : (a == 5) = true := by simpa using h5
          clear h5 h2 h3 h4
          go_enter Tryz.func56, Tryz.ntmps56
          go_wp2_with fail
          go_ret
          exact ⟨by rw [HI.out]; rfl, (Upd.refl _ _).alloc _⟩
        · have b5 : (a == 5) = false := by simpa using h5
          by_cases h7 : a = 7
          · have HI := Lib.hid (show arI a = 1 by subst h7; rfl)
            have b7 : (a == 7) = true := by simpa using h7
            clear h7 h2 h3 h4 h5
            go_enter Tryz.func56, Tryz.ntmps56
            go_wp2_with fail
            go_ret
            exact ⟨by rw [HI.out]; rfl, (Upd.refl _ _).alloc _⟩
          · have b7 : (a == 7) = false := by simpa using h7
            by_cases h8 : a = 8
            · have HI := Lib.hid (show arI a = 1 by subst h8; rfl)
              have b8 : (a == 8) = true := by simpa using h8
              clear h8 h2 h3 h4 h5 h7
              go_enter Tryz.func56, Tryz.ntmps56
              go_wp2_with fail
              go_ret
              exact ⟨by rw [HI.out]; rfl, (Upd.refl _ _).alloc _⟩
            · have b8 : (a == 8) = false := by simpa using h8
              have HI := Lib.hid (show arI a = 0 by unfold arI; rw [if_neg (by omega), if_neg (by omega)])
              clear h2 h3 h4 h5 h7 h8
              go_enter Tryz.func56, Tryz.ntmps56
              go_wp2_with fail
              go_ret
              exact ⟨by rw [HI.out]; rfl, (Upd.refl _ _).alloc _⟩

set_option maxRecDepth 20000 in
set_option maxHeartbeats 800000 in
theorem isModI (a b : Int) (c : List UInt8) (d : Bool) (w : World) : Calls Tryz.prog 45 #[.agg #[ei a, ei b, es c, .bool d]] w fun e w' => e = .returned (.bool (modF a)) ∧ Upd [] w w' := by
  by_cases h4 : a = 4
  · have HI := Lib.hid (show modF a = true by subst h4; rfl)
    have b4 : (a == 4) = true := by simpa using h4
    clear h4
    go_enter Tryz.func45, Tryz.ntmps45
    go_wp2_with fail
    go_ret
    exact ⟨by rw [HI.out]; rfl, (Upd.refl _ _).alloc _⟩
  · have b4 : (a == 4) = false := by simpa using h4
    by_cases h5 : a = 5
    · have HI := Lib.hid (show modF a = true by subst h5; rfl)
      have b5 : (a == 5) = true := by simpa using h5
      clear h5 h4
      go_enter Tryz.func45, Tryz.ntmps45
      go_wp2_with fail
      go_ret
      exact ⟨by rw [HI.out]; rfl, (Upd.refl _ _).alloc _⟩
    · have b5 : (a == 5) = false := by simpa using h5
      have HI := Lib.hid (show modF a = false by unfold modF; simp [h4, h5])
      clear h4 h5
      go_enter Tryz.func45, Tryz.ntmps45
      go_wp2_with fail
      go_ret
      exact ⟨by rw [HI.out]; rfl, (Upd.refl _ _).alloc _⟩

theorem suf_last (s : List UInt8) : Lib.hasSuffix s [42] = (s.getLast? == some 42) := by
  rcases List.eq_nil_or_concat s with rfl | ⟨l, x, rfl⟩
  · rfl
  · have h1 : Lib.hasSuffix (l.concat x) [42] = (42 == x) := by
      simp only [Lib.hasSuffix, List.isSuffixOf, List.concat_eq_append, List.reverse_append, List.reverse_cons, List.reverse_nil, List.nil_append, List.singleton_append]
      exact Bool.and_true _
    have h2 : (l.concat x).getLast? = some x := by simp
    rw [h1, h2, Bool.eq_iff_iff, beq_iff_eq, beq_iff_eq, Option.some.injEq]
    exact ⟨Eq.symm, Eq.symm⟩
theorem trim_last (s : List UInt8) (h : Lib.hasSuffix s [42] = true) : Lib.trimSuffix s [42] = s.dropLast := by
  unfold Lib.trimSuffix
  rw [if_pos h, List.dropLast_eq_take]; rfl

set_option maxRecDepth 20000 in
set_option maxHeartbeats 2000000 in
theorem isPatI (s : List UInt8) (w : World) (hl : s.length ≤ 2000000) (he : Env w) : Calls Tryz.prog 58 #[es s] w fun e w' => e = .returned (.bool (patF s)) ∧ Upd [] w w' := by
  have S0 := Tryz.strings_CutSuffix ⟨s.toArray⟩ ⟨#[42]⟩ w (by have : (⟨s.toArray⟩ : ByteArray).size = s.length := rfl; omega)
  have e0 : (⟨#[42]⟩ : ByteArray).data.toList = [42] := rfl
  have e1 : (⟨s.toArray⟩ : ByteArray).data.toList = s := by simp
  rw [e0, e1] at S0
  have S1 := Lib.hid (isLabelI s w hl he)
  have HP := Lib.hid (show patF s = (s == [] || isLab s || (s.getLast? == some 42 && actF s.dropLast)) from rfl)
  have HL := Lib.hid (show isLab s = (readF s).isSome from rfl)
  rw [← suf_last] at HP
  by_cases h0 : s = []
  · subst h0
    have HS := Lib.hid S0
    clear S0 S1 HP HL
    go_enter Tryz.func58, Tryz.ntmps58
    go_wp2_with fail
    refine HS.out.mono ?_
    rintro e w1 ⟨rfl, rfl⟩
    go_wp2_with fail
    go_ret
    exact ⟨rfl, Upd.refl _ _⟩
  · have b0 : (s == ([] : List UInt8)) = false := by simpa using h0
    cases hlab : (readF s).isSome with
    | true =>
      have HR := Lib.hid (show patF s = true by rw [HP.out, HL.out, hlab]; simp)
      rw [hlab] at S1
      have HS := Lib.hid S0
      clear S0 HP HL hlab h0
      generalize Lib.trimSuffix s [42] = tr at *
      generalize Lib.hasSuffix s [42] = hs at *
      go_enter Tryz.func58, Tryz.ntmps58
      go_wp2_with fail
      refine HS.out.mono ?_
      rintro e w1 ⟨rfl, rfl⟩
      clear HS
      go_wp2_with fail
      refine S1.out.mono ?_
      rintro e w1 ⟨rfl, hu⟩
      have HU := Lib.hid hu
      clear S1 hu
      go_wp2_with fail
      go_ret
      exact ⟨by rw [HR.out]; rfl, HU.out⟩
    | false =>
      rw [hlab] at S1
      cases hhs : Lib.hasSuffix s [42] with
      | false =>
        have HR := Lib.hid (show patF s = false by rw [HP.out, HL.out, hlab, hhs, b0]; rfl)
        rw [hhs] at S0
        have HS := Lib.hid S0
        clear S0 HP HL hlab h0 hhs
        generalize Lib.trimSuffix s [42] = tr at *
        go_enter Tryz.func58, Tryz.ntmps58
        go_wp2_with fail
        refine HS.out.mono ?_
        rintro e w1 ⟨rfl, rfl⟩
        clear HS
        go_wp2_with fail
        refine S1.out.mono ?_
        rintro e w1 ⟨rfl, hu⟩
        have HU := Lib.hid hu
        clear S1 hu
        go_wp2_with fail
        go_ret
        exact ⟨by rw [HR.out]; rfl, HU.out⟩
      | true =>
        have HR := Lib.hid (show patF s = actF s.dropLast by rw [HP.out, HL.out, hlab, hhs, b0]; rfl)
        have S2 := Lib.hid (fun W => isActionI s.dropLast W (by simp; omega))
        rw [trim_last s hhs, hhs] at S0
        have HS := Lib.hid S0
        clear S0 HP HL hlab h0 hhs
        generalize s.dropLast = tr at *
        generalize actF tr = q at *
        go_enter Tryz.func58, Tryz.ntmps58
        go_wp2_with fail
        refine HS.out.mono ?_
        rintro e w1 ⟨rfl, rfl⟩
        clear HS
        go_wp2_with fail
        refine S1.out.mono ?_
        rintro e w1 ⟨rfl, hu⟩
        have HU := Lib.hid hu
        clear S1 hu
        go_wp2_with fail
        refine (S2.out _).mono ?_
        rintro e w2 ⟨rfl, rfl⟩
        clear S2
        go_wp2_with fail
        go_ret
        exact ⟨by rw [HR.out]; rfl, HU.out⟩

set_option maxRecDepth 20000 in
set_option maxHeartbeats 2000000 in
theorem fieldsI (a b : Int) (c : List UInt8) (d : Bool) (w : World) (hl : c.length ≤ 2000000) (he : Env w) :
    Calls Tryz.prog 35 #[.agg #[ei a, ei b, es c, .bool d]] w fun e w' => e = .returned (.bool (fieldsF ⟨a, b, c, d⟩)) ∧ Upd [] w w' := by
  have S1 := Lib.hid (fun W : World => isModI a b c d W)
  have HF := Lib.hid (show fieldsF ⟨a, b, c, d⟩ = if modF a then patF c else c == [] && !d from rfl)
  have S2 := Lib.hid (fun (W : World) (hu : Upd [] w W) => isPatI c W hl (he.upd hu))
  clear he
  obtain ⟨wA, hwA⟩ : ∃ wA, wA = w.alloc (.cells #[ei a, ei b, es c, .bool d] 53) := ⟨_, rfl⟩
  have uA : Upd [] w wA := by rw [hwA]; exact (Upd.refl _ _).alloc _
  have HC := Lib.hid (fun W (hu : Upd [] wA W) => show W.cell? ⟨w.heap.size, 0, none⟩ = some (ei a) ∧ W.cell? ⟨w.heap.size, 1, none⟩ = some (ei b) ∧ W.cell? ⟨w.heap.size, 2, none⟩ = some (es c) ∧ W.cell? ⟨w.heap.size, 3, none⟩ = some (.bool d) from by
    rw [hwA] at hu
    exact ⟨hu.keep (cell_new w _ _ _ rfl 0 _ rfl), hu.keep (cell_new w _ _ _ rfl 1 _ rfl), hu.keep (cell_new w _ _ _ rfl 2 _ rfl), hu.keep (cell_new w _ _ _ rfl 3 _ rfl)⟩)
  have UA := Lib.hid uA
  clear uA
  generalize fieldsF ⟨a, b, c, d⟩ = R at *
  cases hm : modF a with
  | true =>
    rw [hm] at S1 HF
    have HR := Lib.hid (show R = patF c from HF.out)
    clear HF hm
    generalize patF c = q at *
    go_enter Tryz.func35, Tryz.ntmps35
    go_wp2_with fail
    rw [← hwA]
    clear hwA
    refine (S1.out _).mono ?_
    rintro e w1 ⟨rfl, hu1⟩
    obtain ⟨x0, x1, x2, x3⟩ := HC.out w1 hu1
    have HU := Lib.hid (UA.out.trans hu1)
    have T2 := Lib.hid (S2.out w1 HU.out)
    clear S1 hu1 S2
    go_wp2_with fail
    refine T2.out.mono ?_
    rintro e w2 ⟨rfl, hu2⟩
    have HU2 := Lib.hid (HU.out.trans hu2)
    clear T2 hu2 HU x0 x1 x2 x3
    go_wp2_with fail
    go_ret
    exact ⟨by rw [HR.out]; rfl, HU2.out⟩
  | false =>
    rw [hm] at S1 HF
    have HR := Lib.hid (show R = (c == [] && !d) from HF.out)
    clear HF hm
    by_cases h0 : c = []
    · subst h0
      have HR2 := Lib.hid (show R = !d by rw [HR.out]; simp)
      clear HR
      go_enter Tryz.func35, Tryz.ntmps35
      go_wp2_with fail
      rw [← hwA]
      clear hwA
      refine (S1.out _).mono ?_
      rintro e w1 ⟨rfl, hu1⟩
      obtain ⟨x0, x1, x2, x3⟩ := HC.out w1 hu1
      have HU := Lib.hid (UA.out.trans hu1)
      clear S1 hu1 S2
      go_wp2_with fail
      go_ret
      exact ⟨by rw [HR2.out]; rfl, HU.out⟩
    · have b0 : (c == ([] : List UInt8)) = false := by simpa using h0
      have HR2 := Lib.hid (show R = false by rw [HR.out, b0]; rfl)
      clear HR h0
      go_enter Tryz.func35, Tryz.ntmps35
      go_wp2_with fail
      rw [← hwA]
      clear hwA
      refine (S1.out _).mono ?_
      rintro e w1 ⟨rfl, hu1⟩
      obtain ⟨x0, x1, x2, x3⟩ := HC.out w1 hu1
      have HU := Lib.hid (UA.out.trans hu1)
      clear S1 hu1 S2
      go_wp2_with fail
      go_ret
      exact ⟨by rw [HR2.out]; rfl, HU.out⟩

set_option maxRecDepth 20000 in
set_option maxHeartbeats 2000000 in
theorem shapeI (v : Value) (f : List Nd) (w : World) (fp : List Nat) (hR : R_F1 fp w [v] f) (hlen : f.length ≤ 2000000) :
    Calls Tryz.prog 32 #[v] w fun e w' => e = .returned (.bool (shapeF arI 1 f)) ∧ Upd [] w w' := by
  obtain ⟨a, cap, rfl, h1, h2, hc⟩ := slF4_open hR
  unfold maxLen at h2
  have HC := Lib.hid hc
  clear hR hc
  go_enter Tryz.func32, Tryz.ntmps32
  go_wp2_with fail
  go_loopw [3, 8] (fun mv iv wr => ∃ (k : Nat) (m : Int), k ≤ f.length ∧ iv = .int .i64 k ∧ mv = .int .i64 m ∧ 0 ≤ m ∧ m ≤ 1 + 2 * k ∧ Hid (shapeF arI m (f.drop k) = shapeF arI 1 f) ∧ Hid (Upd [] w wr)) (fun _ iv _ => f.length - (intOf iv).toNat)
  case atStart => exact ⟨0, 1, Nat.zero_le _, rfl, rfl, by omega, by omega, Lib.hid rfl, Lib.hid (Upd.refl _ _)⟩
  case round =>
    obtain ⟨wo, rfl⟩ : ∃ wo : World, wo = wr := ⟨_, rfl⟩
    obtain ⟨k, m, hk, rfl, rfl, hm0, hm1, HS, HU⟩ := hrel
    by_cases hlt : k < f.length
    · obtain ⟨b1, o1, rfl, -, -, p1, p2, p3, p4⟩ := HC.out k hlt
      have q1 := HU.out.keep p1
      have q2 := HU.out.keep p2
      have q3 := HU.out.keep p3
      have q4 := HU.out.keep p4
      have hS := HS.out
      rw [List.drop_eq_getElem_cons hlt, shapeF] at hS
      have S1 := Lib.hid (fun W : World => operandsI f[k].kd f[k].vr f[k].lb f[k].nt W)
      have har := arI_in f[k].kd
      clear p1 p2 p3 p4 HS
      by_cases hz : m = 0
      · rw [if_pos hz] at hS
        have HR := Lib.hid hS
        have bz : (m == 0) = true := by simpa using hz
        clear hS hz S1 har
        generalize f[k] = x at *
        obtain ⟨x1, x2, x3, x4⟩ := x
        simp only at q1 q2 q3 q4
        go_wp2_with fail
        go_ret
        exact ⟨by rw [← HR.out]; rfl, HU.out.alloc _⟩
      · rw [if_neg hz] at hS
        have HR := Lib.hid hS
        have bz : (m == 0) = false := by simpa using hz
        clear hS hz
        generalize arI f[k].kd = ar at *
        generalize f[k] = x at *
        obtain ⟨x1, x2, x3, x4⟩ := x
        simp only at q1 q2 q3 q4 S1
        go_wp2_with fail
        refine (S1.out _).mono ?_
        rintro e w1 ⟨rfl, hu1⟩
        have HU1 := Lib.hid ((HU.out.alloc _).trans hu1)
        clear S1 hu1 HU q1 q2 q3 q4
        obtain ⟨m2, hm2⟩ : ∃ m2 : Int, m2 = m + ar - 1 := ⟨_, rfl⟩
        have hm3 : m + (ar - 1) = m2 := by omega
        have HM := Lib.hid hm2
        rw [← hm2] at HR
        have hm4 : 0 ≤ m2 := by
          have hmz : m ≠ 0 := by simpa using bz
          omega
        have hm5 : m2 ≤ 1 + 2 * (k + 1) := by omega
        clear hm2
        go_wp2_with fail
        go_roundw
        case rel => exact ⟨k + 1, m2, by omega, by go_num, rfl, hm4, by omega, HR, HU1⟩
        case measure => simp [intOf]; omega
    · obtain rfl : k = f.length := by omega
      have HR := Lib.hid (show (m == 0) = shapeF arI 1 f by rw [← HS.out, List.drop_length]; rfl)
      clear HS
      generalize hq : (m == 0) = q at *
      go_wp2_with fail
      go_ret
      exact ⟨by rw [← HR.out]; rfl, HU.out⟩

end Go.Proofs.YtdnjjanacbkijaaGreatDoor

/-
  Formulas as trees: the nodes of a tree in order; a tree out of nodes: what each call returns and makes.
-/
namespace Go.Proofs.YtdnjjanacbkijaaGreatDoor
open Go.RowKit

abbrev encN (t : Nd) : List Value := [ei t.kd, ei t.vr, es t.lb, .bool t.nt]
abbrev arN (t : Nd) : Int := arI t.kd
abbrev R_X : Rp (Tr Nd) := R_T encN
theorem R_Xk : Kept R_X := R_Tk _
theorem arN_nonneg (t : Nd) : 0 ≤ arN t := (arI_in t.kd).1
theorem shapeG_F : ∀ (l : List Nd) (m : Int), shapeG arN m l = shapeF arI m l
  | [], m => rfl
  | n :: l, m => by rw [shapeG, shapeF, shapeG_F l]

theorem Tryz.infoX : (Tryz.prog.info? 48).map (fun i => (i.zero, i.size, i.bytes)) = some (some (.pointer none), 1, 8) := by kernel_rfl

theorem R_X_open {fp : List Nat} {w : World} {v : Value} {t : Nd} {args : List (Tr Nd)} (h : R_X fp w [v] (.mk t args)) :
    ∃ b s fa, v = .pointer (some ⟨b, 0, none⟩) ∧ fp = b :: fa ∧ w.cell? ⟨b, 0, none⟩ = some (ei t.kd) ∧ w.cell? ⟨b, 1, none⟩ = some (ei t.vr) ∧ w.cell? ⟨b, 2, none⟩ = some (es t.lb) ∧ w.cell? ⟨b, 3, none⟩ = some (.bool t.nt) ∧ w.cell? ⟨b, 4, none⟩ = some s ∧ slP R_X fa w [s] args := by
  obtain ⟨b, s, fa, rfl, rfl, -, h1, h2⟩ := R_T_open h
  exact ⟨b, s, fa, rfl, rfl, h1 0 _ rfl, h1 1 _ rfl, h1 2 _ rfl, h1 3 _ rfl, h1 4 _ rfl, h2⟩
theorem R_X_mk {w : World} {t : Nd} {args : List (Tr Nd)} {b : Nat} {s : Value} {fa : List Nat} (c0 : w.cell? ⟨b, 0, none⟩ = some (ei t.kd)) (c1 : w.cell? ⟨b, 1, none⟩ = some (ei t.vr)) (c2 : w.cell? ⟨b, 2, none⟩ = some (es t.lb)) (c3 : w.cell? ⟨b, 3, none⟩ = some (.bool t.nt)) (c4 : w.cell? ⟨b, 4, none⟩ = some s)
    (h : slP R_X fa w [s] args) : R_X (b :: fa) w [.pointer (some ⟨b, 0, none⟩)] (.mk t args) := by
  refine R_T_mk (World.block_lt_of_cell? w _ c0) (fun j u hj => ?_) h
  match j, hj with
  | 0, hj => cases hj; exact c0
  | 1, hj => cases hj; exact c1
  | 2, hj => cases hj; exact c2
  | 3, hj => cases hj; exact c3
  | 4, hj => cases hj; exact c4
theorem Below.keepX {α : Type} {R : Rp α} (K : Kept R) {B : Nat} {w w' : World} {fp cs x} (h : R fp w cs x) (hb : Below B w w') (hf : ∀ b ∈ fp, b < B) : R fp w' cs x :=
  K.frame h hb.size fun b hm => hb.block b (hf b hm)

set_option maxRecDepth 20000 in
set_option maxHeartbeats 1000000 in
theorem nodesX (n : Nat) : ∀ (x : Tr Nd) (w : World) (v vo : Value) (fp : List Nat) (B : Nat) (out : List Nd), (flatT x).length ≤ n → out.length + (flatT x).length ≤ 1000000 →
    R_X fp w [v] x → (∀ b ∈ fp, b < B) → B ≤ w.heap.size → w.ownsRow B 53 4 vo out.length (out.flatMap encN) →
    Calls Tryz.prog 40 #[v, vo] w fun e w' => (∃ v', e = .returned v' ∧ w'.ownsRow B 53 4 v' (out ++ flatT x).length ((out ++ flatT x).flatMap encN)) ∧ Below B w w' := by
  induction n with
  | zero => intro x w v vo fp B out hn; have := flatT_pos x; omega
  | succ n ih =>
    intro x w v vo fp B out hn hlen hR hfp hB hown
    obtain ⟨i0, hi, hz0, hz1, hz2⟩ := info_parts Tryz.infoNd
    obtain ⟨t, args⟩ := x
    obtain ⟨b0, s, fa, rfl, rfl, c0, c1, c2, c3, c4, hargs⟩ := R_X_open hR
    obtain ⟨a, cap, rfl, h1, h2, hc⟩ := slP_open hargs
    unfold maxLen at h2
    simp only [flatT, List.length_cons] at hn hlen
    have hfx : ∀ k, (flatTs (args.take k)).length ≤ (flatTs args).length := flatTs_take_le args
    have HFX := Lib.hid hfx
    have HFP := Lib.hid hfp
    have HIH := Lib.hid ih
    have hb0 : b0 < B := hfp b0 (by simp)
    obtain ⟨t1, t2, t3, t4⟩ := t
    simp only at c0 c1 c2 c3
    clear hfx hfp ih hR
    go_enter Tryz.func40, Tryz.ntmps40
    go_wp2_with (first
      | (at_builtin; refine wpList_append_tight _ rfl _ _ 29 rfl B 53 i0 (.agg #[.int .i64 0, .int .i64 0, .string ⟨#[]⟩, .bool false]) 4 40 Tryz.underlying29 hi hz0 hz1 hz2 rfl (by decide) _ _ _ rfl (hown.alloc _) ⟨w.heap.size, 0, none⟩ 1 1 [ei t1, ei t2, es t3, .bool t4] rfl rfl (fun j u hj => by rw [addr_add]; exact cell_new w #[ei t1, ei t2, es t3, .bool t4] _ _ rfl _ _ (by simpa using hj)) (by intro u hu; simp at hu; rcases hu with rfl | rfl | rfl | rfl <;> rfl) (by unfold maxLen; omega) (by omega) (by simp; omega) ?_)
      | fail)
    intro v2 w2 hown2 hg2 ht2
    have hB2 : Below B w w2 := ((Below.refl B w).alloc hB _).grown hg2 (by simp; omega) (fun k hk => (hown.lt k hk).1)
    have hown3 : w2.ownsRow B 53 4 v2 (out ++ [(⟨t1, t2, t3, t4⟩ : Nd)]).length ((out ++ [(⟨t1, t2, t3, t4⟩ : Nd)]).flatMap encN) := by simpa using hown2
    have c4' : w2.cell? ⟨b0, 4, none⟩ = some (.slice a args.length cap) := (hB2.cell (p := ⟨b0, 4, none⟩) hb0).trans c4
    have hsz := hB2.size
    clear hown hown2 hg2 ht2 c0 c1 c2 c3 c4
    go_wp2_with fail
    go_loopw [1, 19] (fun vv i wr => ∃ k : Nat, k ≤ args.length ∧ i = .int .i64 k ∧ Below B w wr ∧ wr.ownsRow B 53 4 vv (out ++ (⟨t1, t2, t3, t4⟩ : Nd) :: flatTs (args.take k)).length ((out ++ (⟨t1, t2, t3, t4⟩ : Nd) :: flatTs (args.take k)).flatMap encN)) (fun _ i _ => args.length - (intOf i).toNat)
    case atStart => exact ⟨0, Nat.zero_le _, rfl, hB2, by simpa [flatTs] using hown3⟩
    case round =>
      clear hB2 hown3 c4' hsz
      obtain ⟨k, hk, rfl, hB2, hown⟩ := hrel
      by_cases hlt : k < args.length
      · obtain ⟨b, off, u, f, rfl, hbm, hbl, hcell, hsub, hr⟩ := hc k hlt
        have hbB : b < B := HFP.out b (by simp [hbm])
        have hcell' : wr.cell? ⟨b, off + k, none⟩ = some u := (hB2.cell (p := ⟨b, off + k, none⟩) hbB).trans hcell
        have hr' : R_X f wr [u] args[k] := Below.keepX R_Xk hr hB2 (fun b hb => HFP.out b (by simp [hsub b hb]))
        have hsz := hB2.size
        have hft := flatTs_take args k hlt
        have q1 := HFX.out (k + 1)
        rw [hft, List.length_append] at q1
        have S2 := Lib.hid (HIH.out args[k] wr u _ f B _ (by omega) (by simp only [List.length_append, List.length_cons]; omega) hr' (fun b hb => HFP.out b (by simp [hsub b hb])) (by omega) hown)
        have HFT := Lib.hid hft
        clear hft hc hown hr hr' hcell
        go_wp2_with fail
        refine S2.out.mono ?_
        rintro e w3 ⟨⟨v3, rfl, hown3⟩, hb3⟩
        have hB3 := hB2.trans hb3
        rw [List.append_assoc, List.cons_append, ← HFT.out] at hown3
        clear S2 hB2 hb3
        go_wp2_with fail
        go_roundw
        case rel => exact ⟨k + 1, by omega, by go_num, hB3, hown3⟩
        case measure => simp [intOf]; omega
      · obtain rfl : args.length = k := by omega
        rw [List.take_length] at hown
        clear hc
        go_wp2_with fail
        go_ret
        exact ⟨⟨_, rfl, hown⟩, hB2⟩

set_option maxHeartbeats 400000 in
theorem listX (x : Tr Nd) (w : World) (v : Value) (fp : List Nat) (hl : (flatT x).length ≤ 1000000) (hR : R_X fp w [v] x) :
    Calls Tryz.prog 21 #[v] w fun e w' => (∃ v', e = .returned v' ∧ New R_F1 w w' v' (flatT x)) ∧ Upd [] w w' := by
  have S2 := nodesX _ x w v (.slice none 0 0) fp w.heap.size [] (Nat.le_refl _) (by simpa using hl) hR (R_Xk.lt hR) (Nat.le_refl _) (World.ownsRow_nil _ _ _ _)
  go_enter Tryz.func21, Tryz.ntmps21
  go_wp2_with fail
  refine S2.mono ?_
  rintro e w1 ⟨⟨v1, rfl, hown⟩, hb⟩
  go_wp2_with fail
  go_ret
  obtain ⟨fp', g1, g2, g3, -⟩ := Flat.ofOwns hown
  exact ⟨⟨_, rfl, fp', ⟨_, rfl, by simpa using g1⟩, g2, g3⟩, Upd.ofBelow hb⟩

/-- a slice without its first element, whatever address its value bears. -/
theorem slF_tailX {α : Type} {n : Nat} {enc : α → List Value} (he : ∀ x, (enc x).length = n) {fp : List Nat} {w : World} {b off len cap : Nat} {x : α} {xs : List α}
    (h : slF n enc fp w [.slice (some ⟨b, off, none⟩) len cap] (x :: xs)) (o' : Nat) (ho : xs ≠ [] → o' = off + n) :
    ∃ fp', slF n enc fp' w [.slice (some ⟨b, o', none⟩) (len - 1) (cap - 1)] xs ∧ (∀ c ∈ fp', c ∈ fp) := by
  obtain ⟨v, hv, a, cap', hv2, h1, h2, h3, h4⟩ := h
  cases hv
  simp only [Value.slice.injEq] at hv2
  obtain ⟨rfl, rfl, rfl⟩ := hv2
  simp only [List.length_cons] at *
  have hl : (xs.flatMap enc).length = xs.length * n := by
    clear h3 h4 ho
    induction xs with
    | nil => simp
    | cons y ys ih => rw [List.flatMap_cons, List.length_append, he, ih (by simp at h1; omega), List.length_cons, Nat.add_mul]; omega
  rcases h4 with ⟨h0, -⟩ | ⟨b', off', hb', rfl, hbl, hc⟩
  · omega
  · simp only [Option.some.injEq, Addr.mk.injEq, and_true] at hb'
    obtain ⟨rfl, rfl⟩ := hb'
    by_cases hx : xs = []
    · subst hx
      exact ⟨[], ⟨_, rfl, some ⟨b, o', none⟩, cap - 1, by simp, by simp, by omega, by simp, Or.inl ⟨rfl, rfl⟩⟩, by simp⟩
    · refine ⟨[b], ⟨_, rfl, _, cap - 1, by simp, by omega, by omega, hl, Or.inr ⟨b, o', rfl, rfl, hbl, fun j u hu => ?_⟩⟩, by simp⟩
      have := hc (n + j) u (by rw [List.flatMap_cons, List.getElem?_append_right (by rw [he]; omega), he, Nat.add_sub_cancel_left]; exact hu)
      rw [ho hx, Nat.add_assoc]; exact this

set_option maxRecDepth 20000 in
set_option maxHeartbeats 2000000 in
theorem formFrom (n : Nat) : ∀ (x : Tr Nd) (rest : List Nd) (w : World) (v : Value) (fp : List Nat), (flatT x).length ≤ n → okT arN x = true → (flatT x).length ≤ 1000 → R_F1 fp w [v] (flatT x ++ rest) →
    Calls Tryz.prog 38 #[v] w fun e w' => (∃ v' vr fr, e = .returned (.tuple #[v', vr]) ∧ New R_X w w' v' x ∧ R_F1 fr w' [vr] rest ∧ ∀ b ∈ fr, b ∈ fp) ∧ Upd [] w w' := by
  induction n with
  | zero => intro x rest w v fp hn; have := flatT_pos x; omega
  | succ n ih =>
    intro x rest w v fp hn hok h100 hR
    obtain ⟨i0, hi, hz0, hz1, hz2⟩ := info_parts Tryz.infoX
    obtain ⟨⟨t1, t2, t3, t4⟩, args⟩ := x
    simp only [okT, Bool.and_eq_true, decide_eq_true_eq] at hok
    have hok : (args.length : Int) = arI t1 ∧ okTs arN args = true := hok
    simp only [flatT, List.cons_append] at hR hn h100
    have hR0 := hR
    obtain ⟨a, cap, rfl, h1, h2, hc⟩ := slF4_open hR
    obtain ⟨b, off, rfl, hfp, hbl, q1, q2, q3, q4⟩ := hc 0 (by simp)
    simp only [List.length_cons, List.getElem_cons_zero] at *
    unfold maxLen at h2
    have HIH := Lib.hid ih
    have HOK := Lib.hid hok
    have HR := Lib.hid hR0
    rw [Nat.zero_mul, Nat.add_zero] at q1 q2 q3 q4
    clear hc hR hR0
    generalize hL : (flatTs args ++ rest).length = L at *
    have HL := Lib.hid hL
    clear ih hok hL
    by_cases hcap : cap = 1
    · have hL0 : L = 0 := by omega
      have hnil : flatTs args ++ rest = [] := List.eq_nil_of_length_eq_zero (by rw [HL.out]; exact hL0)
      obtain ⟨hna, hnr⟩ := List.append_eq_nil_iff.1 hnil
      have hargs : args = [] := by
        match args, hna with
        | [], _ => rfl
        | y :: ys, h => exfalso; have := flatT_pos y; simp only [flatTs, List.append_eq_nil_iff] at h; rw [h.1] at this; simp at this
      subst hargs hnr hL0
      have hz : arI t1 = 0 := by have := HOK.out.1; simpa using this.symm
      subst hcap
      have HRS := Lib.hid (show ∀ w' : World, R_F1 [] w' [.slice (some ⟨b, off, none⟩) 0 0] ([] : List Nd) from fun w' => ⟨_, rfl, some ⟨b, off, none⟩, 0, rfl, Nat.le_refl _, by simp [maxLen], by simp, Or.inl ⟨rfl, rfl⟩⟩)
      have HZ := Lib.hid hz
      clear HR hz hnil hna
      go_enter Tryz.func38, Tryz.ntmps38
      go_wp2_with fail
      refine (operandsI t1 t2 t3 t4 _).mono ?_
      rintro e w1 ⟨rfl, hu1⟩
      rw [HZ.out]
      have hU1 : Upd [] w w1 := ((Upd.refl [] w).alloc _).trans hu1
      have c0 : w1.cell? ⟨w.heap.size, 0, none⟩ = some (ei t1) := hu1.keep (by simp)
      have c1 : w1.cell? ⟨w.heap.size, 1, none⟩ = some (ei t2) := hu1.keep (by simp)
      have c2 : w1.cell? ⟨w.heap.size, 2, none⟩ = some (es t3) := hu1.keep (by simp)
      have c3 : w1.cell? ⟨w.heap.size, 3, none⟩ = some (.bool t4) := hu1.keep (by simp)
      have c4 : w1.cell? ⟨w.heap.size, 4, none⟩ = some (.slice none 0 0) := hu1.keep (by simp)
      have hown0 : Own [w.heap.size] w1 := (own_new w #[ei t1, ei t2, es t3, .bool t4, .slice none 0 0] 76).upd hu1 (by simp)
      have HN := Lib.hid (show New R_X w w1 (.pointer (some ⟨w.heap.size, 0, none⟩)) (.mk ⟨t1, t2, t3, t4⟩ []) from
        ⟨[w.heap.size], R_X_mk c0 c1 c2 c3 c4 (slP_nilv _ _), hown0, by simp⟩)
      clear hu1 c0 c1 c2 c3 c4 hown0 q1 q2 q3 q4
      go_wp2_with fail
      go_loopw [5, 18] (fun rv i wr => rv = .slice (some ⟨b, off, none⟩) 0 0 ∧ i = .int .i64 0 ∧ wr = w1) (fun _ _ _ => 0)
      case atStart => exact ⟨rfl, rfl, rfl⟩
      case round =>
        obtain ⟨rfl, rfl, rfl⟩ := hrel
        go_wp2_with fail
        go_ret2
        exact ⟨⟨_, _, [], rfl, HN.out, HRS.out _, by simp⟩, hU1⟩
    · obtain ⟨fp1, htl, hfs⟩ := slF_tailX (n := 4) (by intro x; rfl) HR.out (off + 4) (fun _ => rfl)
      simp only [Nat.add_sub_cancel] at htl
      have HTL := Lib.hid htl
      have HFS := Lib.hid hfs
      clear htl hfs
      go_enter Tryz.func38, Tryz.ntmps38
      go_wp2_with fail
      refine (operandsI t1 t2 t3 t4 _).mono ?_
      rintro e w1 ⟨rfl, hu1⟩
      have hU1 : Upd [] w w1 := ((Upd.refl [] w).alloc _).trans hu1
      obtain ⟨m, hm⟩ : ∃ m : Nat, arI t1 = m := ⟨args.length, HOK.out.1.symm⟩
      have HM := Lib.hid (show m = args.length by have := HOK.out.1; omega)
      have hm2 : args.length ≤ 2 := by have := HOK.out.1; have := arI_in t1; omega
      rw [hm]
      have c0 : w1.cell? ⟨w.heap.size, 0, none⟩ = some (ei t1) := hu1.keep (by simp)
      have c1 : w1.cell? ⟨w.heap.size, 1, none⟩ = some (ei t2) := hu1.keep (by simp)
      have c2 : w1.cell? ⟨w.heap.size, 2, none⟩ = some (es t3) := hu1.keep (by simp)
      have c3 : w1.cell? ⟨w.heap.size, 3, none⟩ = some (.bool t4) := hu1.keep (by simp)
      have c4 : w1.cell? ⟨w.heap.size, 4, none⟩ = some (.slice none 0 0) := hu1.keep (by simp)
      have hown0 : Own [w.heap.size] w1 := (own_new w #[ei t1, ei t2, es t3, .bool t4, .slice none 0 0] 76).upd hu1 (by simp)
      have hT1 : ∀ b ∈ fp1, b < w.heap.size := fun b hb => by
        have := HFS.out b hb
        rw [hfp] at this
        simp at this; omega
      have hrest1 := R_F1k.upd HTL.out hU1 (by simp)
      have HT1 := Lib.hid hT1
      clear hm hu1 HTL HR hT1 q1 q2 q3 q4
      go_wp2_with fail
      go_loopw [5, 18] (fun rv i wr => ∃ (k : Nat) (vo : Value) (fr : List Nat), k ≤ args.length ∧ i = .int .i64 k ∧ Upd [] w wr ∧ wr.cell? ⟨w.heap.size, 0, none⟩ = some (ei t1) ∧ wr.cell? ⟨w.heap.size, 1, none⟩ = some (ei t2) ∧ wr.cell? ⟨w.heap.size, 2, none⟩ = some (es t3) ∧ wr.cell? ⟨w.heap.size, 3, none⟩ = some (.bool t4) ∧
          wr.cell? ⟨w.heap.size, 4, none⟩ = some vo ∧ Own [w.heap.size] wr ∧ Acc R_X (w.alloc (.cells #[ei t1, ei t2, es t3, .bool t4, .slice none 0 0] 76)) 48 wr vo (args.take k) ∧ R_F1 fr wr [rv] (flatTs (args.drop k) ++ rest) ∧ ∀ b ∈ fr, b ∈ fp1)
        (fun _ i _ => args.length - (intOf i).toNat)
      case atStart => exact ⟨0, _, fp1, Nat.zero_le _, rfl, hU1, c0, c1, c2, c3, c4, hown0, Acc.nil _ _ _ _, hrest1, fun b hb => hb⟩
      case round =>
        clear hU1 c0 c1 c2 c3 c4 hown0 hrest1
        obtain ⟨k, vo, fr, hk, rfl, hU, c0, c1, c2, c3, c4, hown0, hacc, hrest, hfr⟩ := hrel
        have HFR := Lib.hid hfr
        clear hfr
        by_cases hlt : k < args.length
        · have hmk : k < m := by rw [HM.out]; exact hlt
          have hfd : flatTs (args.drop k) = flatT args[k] ++ flatTs (args.drop (k + 1)) := by rw [List.drop_eq_getElem_cons hlt]; rfl
          have hlen1 : (flatT args[k]).length + (flatTs (args.drop (k + 1))).length ≤ (flatTs args).length := by
            have e1 : flatTs args = flatTs (args.take k) ++ flatTs (args.drop k) := by rw [← flatTs_append, List.take_append_drop]
            rw [e1, hfd, List.length_append, List.length_append]; omega
          have hoky : okT arN args[k] = true := by
            have h2 := HOK.out.2
            rw [okTs_all, List.all_eq_true] at h2
            exact h2 _ (List.getElem_mem hlt)
          rw [hfd, List.append_assoc] at hrest
          have S2 := Lib.hid (HIH.out args[k] (flatTs (args.drop (k + 1)) ++ rest) wr _ fr (by omega) hoky (by omega) hrest)
          have hts := List.take_succ_eq_append_getElem hlt
          have HTS := Lib.hid hts
          clear hfd hlen1 hoky hrest hts
          go_wp2_with fail
          refine S2.out.mono ?_
          rintro e w2 ⟨⟨v', vr, fr2, rfl, hnew, hrest2, hfr2⟩, hu2⟩
          have hU2 := hU.trans hu2
          have c0' := hu2.keep c0
          have c1' := hu2.keep c1
          have c2' := hu2.keep c2
          have c3' := hu2.keep c3
          have c4' := hu2.keep c4
          have hown0' := hown0.upd hu2 (by simp)
          obtain ⟨us, hou, hrows⟩ := hacc
          have hou2 := hou.kept (row := none) ⟨hu2.os, hu2.tape, hu2.output, hu2.size, fun k hk _ => hu2.block k hk (by simp)⟩ (by cases vo.ownBlock <;> simp)
          have hsz := hU.size
          have hsz0 : w.heap.size < wr.heap.size := World.block_lt_of_cell? wr _ c0
          have hsz2 := hu2.size
          have hform : ∃ b, v' = .pointer (some ⟨b, 0, none⟩) := by obtain ⟨f9, h9, -⟩ := hnew; exact R_T_form h9
          obtain ⟨pb, rfl⟩ := hform
          have hlk : (args.take k).length ≤ 100 := by
            have : (args.take k).length ≤ m := by rw [HM.out, List.length_take]; omega
            have h9 := arI_in t1
            have h10 := HOK.out.1
            rw [List.length_take]; omega
          have HFR2 := Lib.hid (fun b hb => HFR.out b (hfr2 b hb) : ∀ b ∈ fr2, b ∈ fp1)
          have hfz : w2.frozen? ⟨w.heap.size, 4, none⟩ = false := hown0'.frozen (by simp) _
          clear S2 hU c0 c1 c2 c3 c4 hown0 hfr2 HFR
          go_wp2_with (first
            | (at_builtin; refine wpList_append_tight _ rfl _ _ 74 rfl (w.alloc (.cells #[ei t1, ei t2, es t3, .bool t4, .slice none 0 0] 76)).heap.size 48 i0 (.pointer none) 1 8 Tryz.underlying74 hi hz0 hz1 hz2 rfl (by decide) _ _ _ rfl (hou2.alloc _) ⟨w2.heap.size, 0, none⟩ 1 1 [.pointer (some ⟨pb, 0, none⟩)] rfl rfl ?c1 ?c2 ?c3 ?c4 ?c5 ?_)
            | fail)
          case c1 => intro j u hj; match j, hj with | 0, hj => simp at hj; subst hj; simp [Addr.add]
          case c2 => intro u hu; simp at hu; subst hu; rfl
          case c3 => unfold maxLen; omega
          case c4 => omega
          case c5 => simp; omega
          intro v2 w3 hown3 hg3 ht3
          obtain ⟨a2, cc2, rfl⟩ := ownsRow_form hown3
          have hlus : us.length = k := by have := hrows.length; rw [this, List.length_take]; omega
          have hacc2 := Acc.push R_Xk hou hrows (by simp; omega) hu2 hnew _ (by simpa [Nat.min_eq_left hk] using hown3) hg3 (by simpa using ht3)
          have hu3 : Upd vo.ownBlock.toList (w2.alloc (.cells #[.pointer (some ⟨pb, 0, none⟩)] 48)) w3 := (Upd.refl _ _).grown hg3 (fun k hk => Or.inr (by simp [hk]))
          have hvo : ∀ b ∈ vo.ownBlock.toList, w.heap.size + 1 ≤ b := fun b hb => by have := (hou.lt b (by simpa using hb)).1; simpa using this
          have hne : ∀ b ∈ [w.heap.size], b ∉ vo.ownBlock.toList := fun b hb hm => by have := hvo b hm; simp at hb; omega
          have hU3 : Upd [] w w3 := (hU2.alloc _).fresh hu3 (fun b hb => Or.inl (by have := hvo b hb; omega))
          have hblk : w3.heap[w.heap.size]? = (w2.alloc (.cells #[.pointer (some ⟨pb, 0, none⟩)] 48)).heap[w.heap.size]? := hu3.block _ (by simp; omega) (hne _ (by simp))
          have hblk2 : w3.heap[w.heap.size]? = w2.heap[w.heap.size]? := by rw [hblk, Below.heap_alloc _ _ _ (by omega)]
          have d0 : w3.cell? ⟨w.heap.size, 0, none⟩ = some (ei t1) := (World.cell?_of_block (w := w2) hblk2).trans c0'
          have d1 : w3.cell? ⟨w.heap.size, 1, none⟩ = some (ei t2) := (World.cell?_of_block (w := w2) hblk2).trans c1'
          have d2 : w3.cell? ⟨w.heap.size, 2, none⟩ = some (es t3) := (World.cell?_of_block (w := w2) hblk2).trans c2'
          have d3 : w3.cell? ⟨w.heap.size, 3, none⟩ = some (.bool t4) := (World.cell?_of_block (w := w2) hblk2).trans c3'
          have d4 : w3.cell? ⟨w.heap.size, 4, none⟩ = some vo := (World.cell?_of_block (w := w2) hblk2).trans c4'
          have hown4 : Own [w.heap.size] w3 := hown0'.frame (by intro b hb; obtain rfl : b = w.heap.size := (by simpa using hb); exact hblk2)
          have hfz3 : w3.frozen? ⟨w.heap.size, 4, none⟩ = false := hown4.frozen (by simp) _
          have hrest3 : R_F1 fr2 (w3.setCell ⟨w.heap.size, 4, none⟩ (.slice a2 (k + 1) cc2)) [vr] (flatTs (args.drop (k + 1)) ++ rest) := by
            refine R_F1k.frame hrest2 (by have := hU3.size; have := hu3.size; simp [World.setCell] at *; omega) (fun b hb => ?_)
            have hb1 := HT1.out b (HFR2.out b hb)
            rw [Below.heap_setCell _ _ _ _ (by simp; omega), hu3.block b (by simp; omega) (fun hm => by have := hvo b hm; omega), Below.heap_alloc _ _ _ (by omega)]
          have hus4 : Upd [w.heap.size] w3 (w3.setCell ⟨w.heap.size, 4, none⟩ (.slice a2 (k + 1) cc2)) := (Upd.refl _ _).setCell (by simp) _
          have hacc4 := hacc2.other R_Xk hus4 (by simp)
          rw [← HTS.out] at hacc4
          have HP := Lib.hid (And.intro hrest3 (And.intro hacc4 (And.intro (hU3.setCell (p := ⟨w.heap.size, 4, none⟩) (Or.inl (Nat.le_refl _)) (.slice a2 (k + 1) cc2)) (hown4.setCell ⟨w.heap.size, 4, none⟩ (.slice a2 (k + 1) cc2)))))
          clear hrest3 hus4 hacc4 hown4 hblk hblk2 hne hvo hu3 hU3 hg3 ht3 hown3 hacc2 hou hou2 hrows hnew hrest2 c0' c1' c2' c3' c4' hown0' hu2 hU2 hfz HTS
          go_wp2
          go_roundw
          case rel =>
            refine ⟨k + 1, .slice a2 (k + 1) cc2, fr2, by omega, by go_num, HP.out.2.2.1, ?_, ?_, ?_, ?_, ?_, HP.out.2.2.2, HP.out.2.1, HP.out.1, HFR2.out⟩
            · exact (World.cell?_setCell_other _ _ _ _ (by simp)).trans d0
            · exact (World.cell?_setCell_other _ _ _ _ (by simp)).trans d1
            · exact (World.cell?_setCell_other _ _ _ _ (by simp)).trans d2
            · exact (World.cell?_setCell_other _ _ _ _ (by simp)).trans d3
            · exact World.cell?_setCell_same _ _ _ d4
          case measure => simp [intOf]; omega
        · have hkm : k = args.length := by omega
          subst hkm
          have hmk : ¬ args.length < m := by rw [HM.out]; omega
          rw [List.drop_length] at hrest
          rw [List.take_length] at hacc
          have hsz0 : w.heap.size < wr.heap.size := World.block_lt_of_cell? wr _ c0
          obtain ⟨fa, g1, g2, g3⟩ := hacc.new
          obtain ⟨vo', us', fb', fps', hv', h1', h2', h3', h4'⟩ := g1
          have HN := Lib.hid (show New R_X w wr (.pointer (some ⟨w.heap.size, 0, none⟩)) (.mk ⟨t1, t2, t3, t4⟩ args) from
            ⟨w.heap.size :: fa, R_X_mk c0 c1 c2 c3 c4 ⟨vo', us', fb', fps', hv', h1', h2', h3', h4'⟩, ⟨by rw [List.nodup_cons]; exact ⟨fun hm => by have := g3 _ hm; simp at this; omega, g2.1⟩, by
              intro b hb
              rcases List.mem_cons.1 hb with rfl | hb
              · exact hown0.2 _ (by simp)
              · exact g2.2 b hb⟩, by
              intro b hb
              rcases List.mem_cons.1 hb with rfl | hb
              · exact Nat.le_refl _
              · have := g3 b hb; simp at this; omega⟩)
          have HFE := Lib.hid (fun b hb => HFS.out b (HFR.out b hb) : ∀ b ∈ fr, b ∈ fp)
          clear hacc g2 g3 h1' h4' c0 c1 c2 c3 c4 hown0 HFR
          go_wp2_with fail
          go_ret2
          exact ⟨⟨_, _, fr, rfl, HN.out, by simpa [flatTs] using hrest, HFE.out⟩, hU⟩

/-- the tree of a formula. -/
theorem formOf (x : Tr Nd) (w : World) (v : Value) (fp : List Nat) (hok : okT arN x = true) (h100 : (flatT x).length ≤ 1000) (hR : R_F1 fp w [v] (flatT x)) :
    Calls Tryz.prog 19 #[v] w fun e w' => (∃ v', e = .returned v' ∧ New R_X w w' v' x) ∧ Upd [] w w' := by
  have S2 := Lib.hid (formFrom _ x [] w v fp (Nat.le_refl _) hok h100 (by simpa using hR))
  clear hok h100 hR
  go_enter Tryz.func19, Tryz.ntmps19
  go_wp2_with fail
  refine S2.out.mono ?_
  rintro e w1 ⟨⟨v', vr, fr, rfl, hn, -, -⟩, hu⟩
  have H1 := Lib.hid (And.intro hn hu)
  obtain ⟨fp9, h9, -⟩ := hn
  obtain ⟨pb, rfl⟩ := R_T_form h9
  clear S2 hu h9
  go_wp2_with fail
  go_ret
  exact ⟨⟨_, rfl, H1.out.1⟩, H1.out.2⟩

end Go.Proofs.YtdnjjanacbkijaaGreatDoor

/-
  Formulas simplified, plainly.
-/
namespace Go.Proofs.YtdnjjanacbkijaaGreatDoor
open Go.RowKit

def trX : Tr Nd := .mk nd0 []
/-- a node of two items: one kind decides, and the other one changes nothing. -/
def pairX (dc nn : Int) (t : Nd) (a b : Tr Nd) : Tr Nd :=
  if kdT a == dc then a else if kdT b == dc then b else if kdT a == nn then b else if kdT b == nn || flatT a == flatT b then a else .mk t [a, b]
/-- a node whose items are simple. -/
def nodeX (t : Nd) (args : List (Tr Nd)) : Tr Nd :=
  if t.kd = 2 then pairX 1 0 t (args.getD 0 trX) (args.getD 1 trX)
  else if t.kd = 3 then pairX 0 1 t (args.getD 0 trX) (args.getD 1 trX)
  else if t.kd = 4 ∧ kdT (args.getD 0 trX) = 1 then args.getD 0 trX
  else if t.kd = 5 ∧ kdT (args.getD 0 trX) = 0 then args.getD 0 trX
  else .mk t args
mutual
def simpX : Tr Nd → Tr Nd
  | .mk t args => nodeX t (simpXs args)
def simpXs : List (Tr Nd) → List (Tr Nd)
  | [] => []
  | x :: xs => simpX x :: simpXs xs
end
theorem simpXs_map (xs : List (Tr Nd)) : simpXs xs = xs.map simpX := by
  induction xs with
  | nil => rfl
  | cons x xs ih => simp [simpXs, ih]

theorem arN_two {t : Nd} (h : t.kd = 2 ∨ t.kd = 3) : arN t = 2 := by unfold arN arI; rw [if_pos h]
theorem arN_one {t : Nd} (h : t.kd = 4 ∨ t.kd = 5 ∨ t.kd = 7 ∨ t.kd = 8) : arN t = 1 := by unfold arN arI; rw [if_neg (by omega), if_pos h]
theorem pairX_good {Q : Nd → Prop} {dc nn : Int} {t : Nd} {a b : Tr Nd} (ht : arN t = 2) (hq : Q t) (ha : okT arN a = true ∧ ∀ n ∈ flatT a, Q n) (hb : okT arN b = true ∧ ∀ n ∈ flatT b, Q n) :
    okT arN (pairX dc nn t a b) = true ∧ (∀ n ∈ flatT (pairX dc nn t a b), Q n) ∧ (flatT (pairX dc nn t a b)).length ≤ 1 + (flatT a).length + (flatT b).length := by
  unfold pairX
  repeat' split
  · exact ⟨ha.1, ha.2, by omega⟩
  · exact ⟨hb.1, hb.2, by omega⟩
  · exact ⟨hb.1, hb.2, by omega⟩
  · exact ⟨ha.1, ha.2, by omega⟩
  · refine ⟨?_, ?_, ?_⟩
    · simp only [okT, okTs, ha.1, hb.1, Bool.and_true, decide_eq_true_eq, ht]; rfl
    · intro n hn
      simp only [flatT, flatTs, List.append_nil, List.mem_cons, List.mem_append] at hn
      rcases hn with rfl | h | h
      · exact hq
      · exact ha.2 n h
      · exact hb.2 n h
    · simp [flatT, flatTs]; omega
theorem goodTs_get {Q : Nd → Prop} {args : List (Tr Nd)} (h : okTs arN args = true) (hq : ∀ n ∈ flatTs args, Q n) (i : Nat) (hi : i < args.length) :
    okT arN (args.getD i trX) = true ∧ (∀ n ∈ flatT (args.getD i trX), Q n) ∧ (flatT (args.getD i trX)).length ≤ (flatTs args).length := by
  rw [List.getD_eq_getElem?_getD, List.getElem?_eq_getElem hi]
  rw [okTs_all, List.all_eq_true] at h
  exact ⟨h _ (List.getElem_mem hi), fun n hn => hq n (flatTs_mem (List.getElem_mem hi) n hn), flatT_arg_le args i hi⟩
theorem nodeX_good {Q : Nd → Prop} {t : Nd} {args : List (Tr Nd)} (hl : (args.length : Int) = arN t) (ho : okTs arN args = true) (hq : ∀ n ∈ flatT (.mk t args), Q n) :
    okT arN (nodeX t args) = true ∧ (∀ n ∈ flatT (nodeX t args), Q n) ∧ (flatT (nodeX t args)).length ≤ (flatT (.mk t args)).length := by
  have hqa : ∀ n ∈ flatTs args, Q n := fun n hn => hq n (by rw [flatT]; exact List.mem_cons_of_mem _ hn)
  have hqt : Q t := hq t (by simp [flatT])
  have two : arN t = 2 → ∀ dc nn, okT arN (pairX dc nn t (args.getD 0 trX) (args.getD 1 trX)) = true ∧ (∀ n ∈ flatT (pairX dc nn t (args.getD 0 trX) (args.getD 1 trX)), Q n) ∧ (flatT (pairX dc nn t (args.getD 0 trX) (args.getD 1 trX))).length ≤ (flatT (.mk t args)).length := by
    intro h2 dc nn
    match args, hl, ho, hqa with
    | [x, y], _, ho, hqa =>
      have g0 := goodTs_get ho hqa 0 (by simp)
      have g1 := goodTs_get ho hqa 1 (by simp)
      obtain ⟨p1, p2, p3⟩ := pairX_good (dc := dc) (nn := nn) h2 hqt ⟨g0.1, g0.2.1⟩ ⟨g1.1, g1.2.1⟩
      refine ⟨p1, p2, ?_⟩
      simp only [flatT, flatTs, List.length_cons, List.length_append, List.length_nil]
      simp only [List.getD_cons_zero, List.getD_cons_succ] at p3
      have e0 : ([x, y].getD 0 trX) = x := rfl
      have e1 : ([x, y].getD 1 trX) = y := rfl
      rw [e0, e1] at *
      omega
    | [], hl, _, _ => simp at hl; omega
    | [_], hl, _, _ => simp at hl; omega
    | _ :: _ :: _ :: _, hl, _, _ => simp at hl; omega
  have one : arN t = 1 → okT arN (args.getD 0 trX) = true ∧ (∀ n ∈ flatT (args.getD 0 trX), Q n) ∧ (flatT (args.getD 0 trX)).length ≤ (flatT (.mk t args)).length := by
    intro h1
    have g0 := goodTs_get ho hqa 0 (by omega)
    exact ⟨g0.1, g0.2.1, by rw [flatT, List.length_cons]; omega⟩
  unfold nodeX
  split
  · next h => exact two (arN_two (Or.inl h)) _ _
  · split
    · next h => exact two (arN_two (Or.inr h)) _ _
    · split
      · next h => exact one (arN_one (Or.inl h.1))
      · split
        · next h => exact one (arN_one (Or.inr (Or.inl h.1)))
        · exact ⟨by simp only [okT, ho, Bool.and_true, decide_eq_true_eq]; exact hl, hq, Nat.le_refl _⟩
mutual
theorem simpX_good {Q : Nd → Prop} : ∀ x : Tr Nd, okT arN x = true → (∀ n ∈ flatT x, Q n) → okT arN (simpX x) = true ∧ (∀ n ∈ flatT (simpX x), Q n) ∧ (flatT (simpX x)).length ≤ (flatT x).length
  | .mk t args, h, hq => by
    simp only [okT, Bool.and_eq_true, decide_eq_true_eq] at h
    obtain ⟨g1, g2, g3⟩ := simpXs_good (Q := Q) args h.2 (fun n hn => hq n (by rw [flatT]; exact List.mem_cons_of_mem _ hn))
    have hl : ((simpXs args).length : Int) = arN t := by rw [simpXs_map, List.length_map]; exact h.1
    obtain ⟨p1, p2, p3⟩ := nodeX_good (Q := Q) hl g1 (fun n hn => by
      rw [flatT] at hn
      rcases List.mem_cons.1 hn with rfl | hn
      · exact hq _ (by simp [flatT])
      · exact g2 n hn)
    refine ⟨p1, p2, ?_⟩
    rw [flatT, List.length_cons] at *
    rw [simpX]
    have : (flatT (Tr.mk t (simpXs args))).length = (flatTs (simpXs args)).length + 1 := by rw [flatT, List.length_cons]
    omega
theorem simpXs_good {Q : Nd → Prop} : ∀ xs : List (Tr Nd), okTs arN xs = true → (∀ n ∈ flatTs xs, Q n) → okTs arN (simpXs xs) = true ∧ (∀ n ∈ flatTs (simpXs xs), Q n) ∧ (flatTs (simpXs xs)).length ≤ (flatTs xs).length
  | [], _, _ => ⟨rfl, by simp [simpXs, flatTs], by simp [simpXs]⟩
  | x :: xs, h, hq => by
    simp only [okTs, Bool.and_eq_true] at h
    obtain ⟨a1, a2, a3⟩ := simpX_good (Q := Q) x h.1 (fun n hn => hq n (by rw [flatTs]; exact List.mem_append_left _ hn))
    obtain ⟨b1, b2, b3⟩ := simpXs_good (Q := Q) xs h.2 (fun n hn => hq n (by rw [flatTs]; exact List.mem_append_right _ hn))
    refine ⟨by simp only [simpXs, okTs, a1, b1, Bool.and_true], ?_, ?_⟩
    · intro n hn
      rw [simpXs, flatTs] at hn
      rcases List.mem_append.1 hn with h | h
      · exact a2 n h
      · exact b2 n h
    · rw [simpXs, flatTs, flatTs, List.length_append, List.length_append]; omega
end

end Go.Proofs.YtdnjjanacbkijaaGreatDoor

/-
  Modal formulas on systems, plainly: where they hold, the dual, the depth; the laws of the dual and of simplifying.
-/
namespace Go.Proofs.YtdnjjanacbkijaaGreatDoor
open Go.RowKit

/-- where a node holds, by where its items hold; 'sl' tells which labels a node selects. -/
def nodeH (sl : Nd → Int → Bool) (S : Sys) (t : Nd) (fs : List (Nat → Bool)) : Nat → Bool := fun s =>
  if t.kd = 4 then S.eds.any fun e => e.fr == (s : Int) && sl t e.lb && (fs.getD 0 fun _ => false) e.to.toNat
  else if t.kd = 5 then !(S.eds.any fun e => e.fr == (s : Int) && sl t e.lb && !((fs.getD 0 fun _ => false) e.to.toNat))
  else if t.kd = 2 then (fs.getD 0 fun _ => false) s && (fs.getD 1 fun _ => false) s
  else if t.kd = 3 then (fs.getD 0 fun _ => false) s || (fs.getD 1 fun _ => false) s
  else t.kd == 0
mutual
def hT (sl : Nd → Int → Bool) (S : Sys) : Tr Nd → Nat → Bool
  | .mk t args => nodeH sl S t (hTs sl S args)
def hTs (sl : Nd → Int → Bool) (S : Sys) : List (Tr Nd) → List (Nat → Bool)
  | [] => []
  | x :: xs => hT sl S x :: hTs sl S xs
end
/-- the kind in the dual formula. -/
def dkF (k : Int) : Int := if k = 0 ∨ k = 2 ∨ k = 4 ∨ k = 7 then k + 1 else if k = 1 ∨ k = 3 ∨ k = 5 ∨ k = 8 then k - 1 else k
def dualN (n : Nd) : Nd := { n with kd := dkF n.kd }
mutual
def dualX : Tr Nd → Tr Nd
  | .mk t args => .mk (dualN t) (dualXs args)
def dualXs : List (Tr Nd) → List (Tr Nd)
  | [] => []
  | x :: xs => dualX x :: dualXs xs
end
theorem dkF_in {k : Int} (h0 : 0 ≤ k) (h5 : k ≤ 5) : 0 ≤ dkF k ∧ dkF k ≤ 5 ∧ dkF (dkF k) = k ∧ arI (dkF k) = arI k ∧ modF (dkF k) = modF k := by
  rcases (by omega : k = 0 ∨ k = 1 ∨ k = 2 ∨ k = 3 ∨ k = 4 ∨ k = 5) with h | h | h | h | h | h <;> subst h <;> decide
mutual
theorem dual_flat : ∀ x : Tr Nd, flatT (dualX x) = (flatT x).map dualN
  | .mk t args => by rw [dualX, flatT, flatT, List.map_cons, duals_flat args]
theorem duals_flat : ∀ xs : List (Tr Nd), flatTs (dualXs xs) = (flatTs xs).map dualN
  | [] => rfl
  | x :: xs => by rw [dualXs, flatTs, flatTs, List.map_append, dual_flat x, duals_flat xs]
end
theorem dualXs_len (xs : List (Tr Nd)) : (dualXs xs).length = xs.length := by
  induction xs with
  | nil => rfl
  | cons x xs ih => simp [dualXs, ih]
/-- kinds of modal formulas. -/
def KdM (n : Nd) : Prop := 0 ≤ n.kd ∧ n.kd ≤ 5
mutual
theorem dual_ok : ∀ x : Tr Nd, okT arN x = true → (∀ n ∈ flatT x, KdM n) → okT arN (dualX x) = true
  | .mk t args, h, hk => by
    simp only [okT, Bool.and_eq_true, decide_eq_true_eq] at h
    have ht := hk t (by simp [flatT])
    rw [dualX]
    simp only [okT, Bool.and_eq_true, decide_eq_true_eq]
    refine ⟨?_, duals_ok args h.2 fun n hn => hk n (by rw [flatT]; exact List.mem_cons_of_mem _ hn)⟩
    rw [dualXs_len, h.1]
    show arI t.kd = arI (dkF t.kd)
    rw [(dkF_in ht.1 ht.2).2.2.2.1]
theorem duals_ok : ∀ xs : List (Tr Nd), okTs arN xs = true → (∀ n ∈ flatTs xs, KdM n) → okTs arN (dualXs xs) = true
  | [], _, _ => rfl
  | x :: xs, h, hk => by
    simp only [okTs, Bool.and_eq_true] at h
    rw [dualXs]
    simp only [okTs, Bool.and_eq_true]
    exact ⟨dual_ok x h.1 fun n hn => hk n (by rw [flatTs]; exact List.mem_append_left _ hn), duals_ok xs h.2 fun n hn => hk n (by rw [flatTs]; exact List.mem_append_right _ hn)⟩
end
theorem any_not {α : Type} (l : List α) (p q : α → Bool) (h : ∀ a ∈ l, p a = q a) : l.any p = l.any q := by
  induction l with
  | nil => rfl
  | cons a l ih => rw [List.any_cons, List.any_cons, h a (by simp), ih fun b hb => h b (by simp [hb])]
/-- the items of a node of one or two. -/
theorem args_one {args : List (Tr Nd)} (h : (args.length : Int) = 1) : ∃ a, args = [a] := by
  match args, h with
  | [a], _ => exact ⟨a, rfl⟩
  | [], h => simp at h
  | _ :: _ :: _, h => simp at h; omega
theorem args_two {args : List (Tr Nd)} (h : (args.length : Int) = 2) : ∃ a b, args = [a, b] := by
  match args, h with
  | [a, b], _ => exact ⟨a, b, rfl⟩
  | [], h => simp at h
  | [_], h => simp at h
  | _ :: _ :: _ :: _, h => simp at h; omega
theorem args_nil {args : List (Tr Nd)} (h : (args.length : Int) = 0) : args = [] := by
  have : args.length = 0 := by omega
  exact List.eq_nil_of_length_eq_zero this

/-- modal formulas as trees. -/
inductive MX : Tr Nd → Prop
  | leaf (t : Nd) : t.kd = 0 ∨ t.kd = 1 → MX (.mk t [])
  | two (t : Nd) {a b : Tr Nd} : t.kd = 2 ∨ t.kd = 3 → MX a → MX b → MX (.mk t [a, b])
  | one (t : Nd) {a : Tr Nd} : t.kd = 4 ∨ t.kd = 5 → MX a → MX (.mk t [a])
mutual
theorem mx_of : ∀ x : Tr Nd, okT arN x = true → (∀ n ∈ flatT x, KdM n) → MX x
  | .mk t args, h, hk => by
    simp only [okT, Bool.and_eq_true, decide_eq_true_eq] at h
    have ht := hk t (by simp [flatT])
    have ih := mxs_of args h.2 fun n hn => hk n (by rw [flatT]; exact List.mem_cons_of_mem _ hn)
    have hl : (args.length : Int) = arI t.kd := h.1
    rcases (by have := ht.1; have := ht.2; omega : t.kd = 0 ∨ t.kd = 1 ∨ t.kd = 2 ∨ t.kd = 3 ∨ t.kd = 4 ∨ t.kd = 5) with h | h | h | h | h | h
    · rw [h] at hl
      rw [args_nil hl]
      exact .leaf t (Or.inl h)
    · rw [h] at hl
      rw [args_nil hl]
      exact .leaf t (Or.inr h)
    · rw [h] at hl
      obtain ⟨a, b, e⟩ := args_two hl
      rw [e]
      exact .two t (Or.inl h) (ih a (by rw [e]; simp)) (ih b (by rw [e]; simp))
    · rw [h] at hl
      obtain ⟨a, b, e⟩ := args_two hl
      rw [e]
      exact .two t (Or.inr h) (ih a (by rw [e]; simp)) (ih b (by rw [e]; simp))
    · rw [h] at hl
      obtain ⟨a, e⟩ := args_one hl
      rw [e]
      exact .one t (Or.inl h) (ih a (by rw [e]; simp))
    · rw [h] at hl
      obtain ⟨a, e⟩ := args_one hl
      rw [e]
      exact .one t (Or.inr h) (ih a (by rw [e]; simp))
theorem mxs_of : ∀ xs : List (Tr Nd), okTs arN xs = true → (∀ n ∈ flatTs xs, KdM n) → ∀ x ∈ xs, MX x
  | [], _, _ => fun x h => by cases h
  | y :: ys, h, hk => fun x hx => by
    simp only [okTs, Bool.and_eq_true] at h
    rcases List.mem_cons.1 hx with h1 | hx
    · rw [h1]; exact mx_of y h.1 fun n hn => hk n (by rw [flatTs]; exact List.mem_append_left _ hn)
    · exact mxs_of ys h.2 (fun n hn => hk n (by rw [flatTs]; exact List.mem_append_right _ hn)) x hx
end

/-- what a node selects does not depend on its kind. -/
def SelOk (sl : Nd → Int → Bool) : Prop := ∀ (n : Nd) (k : Int), sl { n with kd := k } = sl n

theorem dual_h {sl : Nd → Int → Bool} (hs : SelOk sl) (S : Sys) {x : Tr Nd} (h : MX x) : ∀ s, hT sl S (dualX x) s = !(hT sl S x s) := by
  induction h with
  | leaf t ht => intro s; rcases ht with h | h <;> simp [dualX, dualXs, hT, hTs, nodeH, dualN, dkF, h]
  | two t ht _ _ ih1 ih2 => intro s; rcases ht with h | h <;> simp [dualX, dualXs, hT, hTs, nodeH, dualN, dkF, h, ih1, ih2]
  | one t ht _ ih =>
    intro s
    have e : sl (dualN t) = sl t := hs t _
    rcases ht with h | h
    · simp only [dualX, dualXs, hT, hTs, nodeH, e]
      simp [dualN, dkF, h, ih]
    · simp only [dualX, dualXs, hT, hTs, nodeH, e]
      simp [dualN, dkF, h, ih]

mutual
/-- the greatest number of modalities on a way down. -/
def dpT : Tr Nd → Nat
  | .mk t args => dpTs args + if modF t.kd then 1 else 0
def dpTs : List (Tr Nd) → Nat
  | [] => 0
  | x :: xs => max (dpT x) (dpTs xs)
end

mutual
theorem flat_inj : ∀ (a b : Tr Nd) (r r' : List Nd), okT arN a = true → okT arN b = true → flatT a ++ r = flatT b ++ r' → a = b ∧ r = r'
  | .mk t ps, .mk u qs, r, r', ha, hb, h => by
    simp only [okT, Bool.and_eq_true, decide_eq_true_eq] at ha hb
    rw [flatT, flatT, List.cons_append, List.cons_append] at h
    injection h with h1 h2
    subst h1
    obtain ⟨e1, e2⟩ := flats_inj ps qs r r' (by omega) ha.2 hb.2 h2
    exact ⟨by rw [e1], e2⟩
theorem flats_inj : ∀ (ps qs : List (Tr Nd)) (r r' : List Nd), ps.length = qs.length → okTs arN ps = true → okTs arN qs = true → flatTs ps ++ r = flatTs qs ++ r' → ps = qs ∧ r = r'
  | [], [], r, r', _, _, _, h => ⟨rfl, h⟩
  | a :: ps, b :: qs, r, r', hl, ha, hb, h => by
    simp only [okTs, Bool.and_eq_true] at ha hb
    rw [flatTs, flatTs, List.append_assoc, List.append_assoc] at h
    obtain ⟨e1, e2⟩ := flat_inj a b _ _ ha.1 hb.1 h
    obtain ⟨e3, e4⟩ := flats_inj ps qs r r' (by simpa using hl) ha.2 hb.2 e2
    exact ⟨by rw [e1, e3], e4⟩
  | [], _ :: _, _, _, hl, _, _, _ => by simp at hl
  | _ :: _, [], _, _, hl, _, _, _ => by simp at hl
end
theorem flatT_inj {a b : Tr Nd} (ha : okT arN a = true) (hb : okT arN b = true) (h : flatT a = flatT b) : a = b :=
  (flat_inj a b [] [] ha hb (by rw [h])).1

theorem kd_leaf {sl : Nd → Int → Bool} {S : Sys} {x : Tr Nd} (h : kdT x = 0 ∨ kdT x = 1) : ∀ s, hT sl S x s = (kdT x == 0) := by
  obtain ⟨t, args⟩ := x
  intro s
  simp only [kdT] at h ⊢
  rcases h with h | h <;> simp [hT, nodeH, h]

theorem pair_h {sl : Nd → Int → Bool} {S : Sys} {t : Nd} {a b : Tr Nd} (ha : okT arN a = true) (hb : okT arN b = true) (s : Nat) :
    (t.kd = 2 → hT sl S (pairX 1 0 t a b) s = (hT sl S a s && hT sl S b s)) ∧ (t.kd = 3 → hT sl S (pairX 0 1 t a b) s = (hT sl S a s || hT sl S b s)) := by
  have e0 : ∀ {x : Tr Nd}, (kdT x == 0) = true → hT sl S x s = true := fun {x} h => by rw [kd_leaf (Or.inl (by simpa using h)), h]
  have e1 : ∀ {x : Tr Nd}, (kdT x == 1) = true → hT sl S x s = false := fun {x} h => by
    have h' : kdT x = 1 := by simpa using h
    rw [kd_leaf (Or.inr h'), h']; rfl
  refine ⟨fun ht => ?_, fun ht => ?_⟩
  · unfold pairX
    repeat' split
    · rename_i h; rw [e1 h]; simp
    · rename_i h; rw [e1 h]; simp
    · rename_i h; rw [e0 h]; simp
    · rename_i h
      rw [Bool.or_eq_true] at h
      rcases h with h | h
      · rw [e0 h]; simp
      · rw [flatT_inj ha hb (by simpa using h)]; simp
    · simp [hT, hTs, nodeH, ht]
  · unfold pairX
    repeat' split
    · rename_i h; rw [e0 h]; simp
    · rename_i h; rw [e0 h]; simp
    · rename_i h; rw [e1 h]; simp
    · rename_i h
      rw [Bool.or_eq_true] at h
      rcases h with h | h
      · rw [e1 h]; simp
      · rw [flatT_inj ha hb (by simpa using h)]; simp
    · simp [hT, hTs, nodeH, ht]

theorem mx_ok {x : Tr Nd} (h : MX x) : okT arN x = true ∧ ∀ n ∈ flatT x, KdM n := by
  induction h with
  | leaf t ht =>
    refine ⟨?_, fun n hn => ?_⟩
    · simp only [okT, okTs, Bool.and_true, decide_eq_true_eq]
      show (0 : Int) = arI t.kd
      rcases ht with h | h <;> rw [h] <;> rfl
    · simp [flatT, flatTs] at hn; subst hn; unfold KdM; omega
  | two t ht _ _ ih1 ih2 =>
    refine ⟨?_, fun n hn => ?_⟩
    · simp only [okT, okTs, ih1.1, ih2.1, Bool.and_true, decide_eq_true_eq]
      show (2 : Int) = arI t.kd
      rcases ht with h | h <;> rw [h] <;> rfl
    · simp only [flatT, flatTs, List.append_nil, List.mem_cons, List.mem_append] at hn
      rcases hn with rfl | h | h
      · unfold KdM; omega
      · exact ih1.2 n h
      · exact ih2.2 n h
  | one t ht _ ih =>
    refine ⟨?_, fun n hn => ?_⟩
    · simp only [okT, okTs, ih.1, Bool.and_true, decide_eq_true_eq]
      show (1 : Int) = arI t.kd
      rcases ht with h | h <;> rw [h] <;> rfl
    · simp only [flatT, flatTs, List.append_nil, List.mem_cons] at hn
      rcases hn with rfl | h
      · unfold KdM; omega
      · exact ih.2 n h

theorem simp_mx {x : Tr Nd} (h : MX x) : MX (simpX x) := by
  obtain ⟨h1, h2⟩ := mx_ok h
  obtain ⟨g1, g2, -⟩ := simpX_good (Q := KdM) x h1 h2
  exact mx_of _ g1 g2

theorem simp_h {sl : Nd → Int → Bool} (S : Sys) {x : Tr Nd} (h : MX x) : ∀ s, hT sl S (simpX x) s = hT sl S x s := by
  induction h with
  | leaf t ht => intro s; rcases ht with h | h <;> simp [simpX, simpXs, nodeX, h]
  | @two t a b ht ha hb ih1 ih2 =>
    intro s
    have p := pair_h (sl := sl) (S := S) (t := t) (mx_ok (simp_mx ha)).1 (mx_ok (simp_mx hb)).1 s
    rcases ht with h | h
    · have := p.1 h
      simp only [simpX, simpXs, nodeX, h, if_true, List.getD_cons_zero, List.getD_cons_succ]
      rw [this, ih1, ih2]
      simp [hT, hTs, nodeH, h]
    · have := p.2 h
      simp only [simpX, simpXs, nodeX, h, if_true, show ¬ ((3 : Int) = 2) by decide, if_false, List.getD_cons_zero, List.getD_cons_succ]
      rw [this, ih1, ih2]
      simp [hT, hTs, nodeH, h]
  | @one t a ht ha ih =>
    intro s
    rcases ht with h | h
    · simp only [simpX, simpXs, nodeX, h, show ¬ ((4 : Int) = 2) by decide, show ¬ ((4 : Int) = 3) by decide, show ¬ ((4 : Int) = 5) by decide, if_false, true_and, false_and, List.getD_cons_zero]
      split
      · rename_i h1
        rw [kd_leaf (Or.inr h1), h1]
        have hf : ∀ s, hT sl S a s = false := fun s => by rw [← ih s, kd_leaf (Or.inr h1), h1]; rfl
        simp [hT, hTs, nodeH, h, hf]
      · simp [hT, hTs, nodeH, h, ih]
    · simp only [simpX, simpXs, nodeX, h, show ¬ ((5 : Int) = 2) by decide, show ¬ ((5 : Int) = 3) by decide, show ¬ ((5 : Int) = 4) by decide, if_false, true_and, false_and, List.getD_cons_zero]
      split
      · rename_i h1
        rw [kd_leaf (Or.inl h1), h1]
        have hf : ∀ s, hT sl S a s = true := fun s => by rw [← ih s, kd_leaf (Or.inl h1), h1]; rfl
        simp [hT, hTs, nodeH, h, hf]
      · simp [hT, hTs, nodeH, h, ih]

theorem pair_dp (dc nn : Int) (t : Nd) (a b : Tr Nd) (ht : modF t.kd = false) : dpT (pairX dc nn t a b) ≤ max (dpT a) (dpT b) := by
  unfold pairX
  repeat' split
  all_goals first | omega | skip
  simp [dpT, dpTs, ht]
theorem simp_dp {x : Tr Nd} (h : MX x) : dpT (simpX x) ≤ dpT x := by
  induction h with
  | leaf t ht => rcases ht with h | h <;> simp [simpX, simpXs, nodeX, h, dpT, dpTs, modF]
  | @two t a b ht ha hb ih1 ih2 =>
    have hm : modF t.kd = false := by rcases ht with h | h <;> rw [h] <;> rfl
    have hd : dpT (.mk t [a, b]) = max (dpT a) (dpT b) := by simp [dpT, dpTs, hm]
    rw [hd]
    rcases ht with h | h
    · simp only [simpX, simpXs, nodeX, h, if_true, List.getD_cons_zero, List.getD_cons_succ]
      have := pair_dp 1 0 t (simpX a) (simpX b) hm
      omega
    · simp only [simpX, simpXs, nodeX, h, if_true, show ¬ ((3 : Int) = 2) by decide, if_false, List.getD_cons_zero, List.getD_cons_succ]
      have := pair_dp 0 1 t (simpX a) (simpX b) hm
      omega
  | @one t a ht ha ih =>
    have hm : modF t.kd = true := by rcases ht with h | h <;> rw [h] <;> rfl
    have hd : ∀ y, dpT (.mk t [y]) = dpT y + 1 := fun y => by simp [dpT, dpTs, hm]
    rw [hd]
    rcases ht with h | h
    · simp only [simpX, simpXs, nodeX, h, show ¬ ((4 : Int) = 2) by decide, show ¬ ((4 : Int) = 3) by decide, show ¬ ((4 : Int) = 5) by decide, if_false, true_and, false_and, List.getD_cons_zero]
      split
      · omega
      · rw [hd]; omega
    · simp only [simpX, simpXs, nodeX, h, show ¬ ((5 : Int) = 2) by decide, show ¬ ((5 : Int) = 3) by decide, show ¬ ((5 : Int) = 4) by decide, if_false, true_and, false_and, List.getD_cons_zero]
      split
      · omega
      · rw [hd]; omega

/-- the states at which a formula holds, rising. -/
def tAt (f : Nat → Bool) (n : Nat) : List Int := ((List.range n).filter f).map fun s : Nat => (s : Int)
theorem tAt_mem {f : Nat → Bool} {n : Nat} {a : Int} : a ∈ tAt f n ↔ ∃ s : Nat, a = s ∧ s < n ∧ f s = true := by
  unfold tAt
  simp only [List.mem_map, List.mem_filter, List.mem_range]
  exact ⟨fun ⟨s, h, e⟩ => ⟨s, e.symm, h.1, h.2⟩, fun ⟨s, e, h1, h2⟩ => ⟨s, ⟨h1, h2⟩, e.symm⟩⟩
theorem tAt_len (f : Nat → Bool) (n : Nat) : (tAt f n).length + (tAt (fun s => !f s) n).length = n := by
  unfold tAt
  rw [List.length_map, List.length_map]
  induction n with
  | zero => rfl
  | succ n ih =>
    rw [List.range_succ, List.filter_append, List.filter_append, List.length_append, List.length_append]
    cases h : f n <;> simp [h] <;> omega

end Go.Proofs.YtdnjjanacbkijaaGreatDoor

/-
  Nodes compared as whole values.
-/
namespace Go.Proofs.YtdnjjanacbkijaaGreatDoor
open Go.RowKit

theorem ndFields : (Tryz.prog.fieldsOf 53).toList.map (fun f => (f.name, f.type, f.offset)) = [("Kind", 2, 0), ("Variable", 2, 1), ("Label", 9, 2), ("Not", 4, 3)] := by kernel_rfl
theorem ndStood : Tryz.prog.stoodInHeld 53 = false := by kernel_rfl
theorem ndGuard : Tryz.prog.eqGuardType Tryz.prog.depth 53 = false := by kernel_rfl
theorem ndUnder : Tryz.prog.underlying 53 = some (.struct (Tryz.prog.fieldsOf 53)) := by kernel_rfl

theorem eqFields_cons {P : Program} (w : World) (d : Nat) (xs ys : Array Value) (n : String) (T : TypeId) (o : Nat) (f : Field) (fs : List Field) (hf : (f.name, f.type, f.offset) = (n, T, o)) (hn : n ≠ "_") (a b : Value) (r : Bool)
    (h1 : (part T xs o).run P w = .ok a w) (h2 : (part T ys o).run P w = .ok b w) (h3 : (Op.equalIn d T a b).run P w = .ok r w) :
    (Op.eqFields d xs ys (f :: fs)).run P w = if r then (Op.eqFields d xs ys fs).run P w else .ok false w := by
  simp only [Prod.mk.injEq] at hf
  obtain ⟨rfl, rfl, rfl⟩ := hf
  simp only [Op.eqFields, Sem.run_bind, hn, ne_eq, not_false_eq_true, if_true, h1, h2, h3, Result.andThen_ok]
  cases r <;> simp

theorem neqN (x1 x2 y1 y2 : Int) (x3 y3 : List UInt8) (x4 y4 : Bool) (w : World) :
    (binOp .neq 53 (.agg #[ei x1, ei x2, es x3, .bool x4]) (.agg #[ei y1, ei y2, es y3, .bool y4])).run Tryz.prog w = .ok (.bool (!((⟨x1, x2, x3, x4⟩ : Nd) == ⟨y1, y2, y3, y4⟩))) w := by
  rw [run_neq_struct, run_equalIn_agg w 9999 _ _ _ ndUnder ndStood]
  obtain ⟨f1, f2, f3, f4, hf⟩ : ∃ f1 f2 f3 f4, (Tryz.prog.fieldsOf 53).toList = [f1, f2, f3, f4] := by
    have := congrArg List.length ndFields
    match h : (Tryz.prog.fieldsOf 53).toList with
    | [f1, f2, f3, f4] => exact ⟨f1, f2, f3, f4, rfl⟩
    | [] => rw [h] at this; simp at this
    | [_] => rw [h] at this; simp at this
    | [_, _] => rw [h] at this; simp at this
    | [_, _, _] => rw [h] at this; simp at this
    | _ :: _ :: _ :: _ :: _ :: _ => rw [h] at this; simp at this
  have hff := ndFields
  rw [hf] at hff ⊢
  simp only [List.map_cons, List.map_nil, List.cons.injEq, and_true] at hff
  obtain ⟨g1, g2, g3, g4⟩ := hff
  have e3 : ((⟨x3.toArray⟩ : ByteArray).toList == (⟨y3.toArray⟩ : ByteArray).toList) = (x3 == y3) := by simp [ByteArray.toList_eq]
  rw [eqFields_cons w 9999 _ _ _ _ _ f1 _ g1 (by decide) (ei x1) (ei y1) (x1 == y1) (by go_simp) (by go_simp) (run_equalIn_int w 9998 _ _ .i64 _ _ Tryz.underlying2),
    eqFields_cons w 9999 _ _ _ _ _ f2 _ g2 (by decide) (ei x2) (ei y2) (x2 == y2) (by go_simp) (by go_simp) (run_equalIn_int w 9998 _ _ .i64 _ _ Tryz.underlying2),
    eqFields_cons w 9999 _ _ _ _ _ f3 _ g3 (by decide) (es x3) (es y3) (x3 == y3) (by go_simp) (by go_simp) (by rw [← e3]; exact run_equalIn_string w 9998 _ _ _ Tryz.underlying9),
    eqFields_cons w 9999 _ _ _ _ _ f4 _ g4 (by decide) (.bool x4) (.bool y4) (x4 == y4) (by go_simp) (by go_simp) (run_equalIn_bool' w 9998 _ _ _ Tryz.underlying4)]
  have key : ((⟨x1, x2, x3, x4⟩ : Nd) == ⟨y1, y2, y3, y4⟩) = (x1 == y1 && (x2 == y2 && (x3 == y3 && x4 == y4))) := by
    rw [Bool.eq_iff_iff]
    simp only [beq_iff_eq, Bool.and_eq_true, Nd.mk.injEq]
  rw [key]
  cases h1 : (x1 == y1)
  · simp [Result.andThen]
  cases h2 : (x2 == y2)
  · simp [Result.andThen]
  cases h3 : (x3 == y3)
  · simp [Result.andThen]
  cases h4 : (x4 == y4)
  · simp [Result.andThen]
  simp [Result.andThen, Op.eqFields]

end Go.Proofs.YtdnjjanacbkijaaGreatDoor

/-
  Formulas simplified: what the program's calls return (comparing lists of nodes; one node).
-/
namespace Go.Proofs.YtdnjjanacbkijaaGreatDoor
open Go.RowKit

theorem drop_eqN (xs ys : List Nd) (k : Nat) (h1 : k < xs.length) (h2 : k < ys.length) : (xs.drop k == ys.drop k) = (xs[k] == ys[k] && (xs.drop (k + 1) == ys.drop (k + 1))) := by
  rw [List.drop_eq_getElem_cons h1, List.drop_eq_getElem_cons h2]; rfl

set_option maxRecDepth 20000 in
set_option maxHeartbeats 1000000 in
theorem equalN (v1 v2 : Value) (xs ys : List Nd) (w : World) (f1 f2 : List Nat) (h1 : R_F1 f1 w [v1] xs) (h2 : R_F1 f2 w [v2] ys) :
    Calls Tryz.prog 71 #[v1, v2] w fun e w' => e = .returned (.bool (xs == ys)) ∧ ∃ n, w' = w.drewN n := by
  obtain ⟨a1, c1, rfl, hl1, hm1, hc1⟩ := slF4_open h1
  obtain ⟨a2, c2, rfl, hl2, hm2, hc2⟩ := slF4_open h2
  unfold maxLen at hm1 hm2
  clear h1 h2
  by_cases hlen : xs.length = ys.length
  · have hbe : ((xs.length : Int) != (ys.length : Int)) = false := by simp [hlen]
    have HL := Lib.hid hlen
    have HC1 := Lib.hid hc1
    have HC2 := Lib.hid hc2
    clear hlen hc1 hc2
    go_enter Tryz.func71, Tryz.ntmps71
    go_wp2_with fail
    go_loopw [13] (fun i wr => ∃ k : Nat, k ≤ xs.length ∧ i = .int .i64 k ∧ Hid ((xs.drop k == ys.drop k) = (xs == ys)) ∧ ∃ n, wr = w.drewN n) (fun i _ => xs.length - (intOf i).toNat)
    case atStart => exact ⟨0, Nat.zero_le _, rfl, Lib.hid rfl, 0, rfl⟩
    case round =>
      obtain ⟨k, hk, rfl, HF, n, rfl⟩ := hrel
      by_cases hlt : k < xs.length
      · have hlt2 : k < ys.length := by have := HL.out; omega
        obtain ⟨b1, o1, rfl, -, hb1, p1, p2, p3, p4⟩ := HC1.out k hlt
        obtain ⟨b2, o2, rfl, -, hb2, p5, p6, p7, p8⟩ := HC2.out k hlt2
        have HF2 := Lib.hid ((drop_eqN xs ys k hlt hlt2).symm.trans HF.out)
        clear HF
        generalize xs[k] = x at *
        generalize ys[k] = y at *
        obtain ⟨x1, x2, x3, x4⟩ := x
        obtain ⟨y1, y2, y3, y4⟩ := y
        simp only at p1 p2 p3 p4 p5 p6 p7 p8
        have hne := fun W => neqN x1 x2 y1 y2 x3 y3 x4 y4 W
        have hgd := ndGuard
        cases hq : ((⟨x1, x2, x3, x4⟩ : Nd) == ⟨y1, y2, y3, y4⟩) with
        | false =>
          rw [hq] at hne HF2
          clear hq
          go_wp2_with fail
          go_quiet (fail)
          clear hne hgd
          go_wp2_with fail
          go_ret
          exact ⟨by rw [← HF2.out]; rfl, _, by rw [drewN_add]⟩
        | true =>
          rw [hq] at hne HF2
          clear hq
          go_wp2_with fail
          go_quiet (fail)
          clear hne hgd
          go_wp2_with fail
          go_roundw
          case rel => exact ⟨k + 1, by omega, by go_num, Lib.hid (by rw [← HF2.out]; rfl), _, rfl⟩
          case measure => simp [intOf]; omega
      · have hd : (xs == ys) = true := by
          rw [← HF.out, List.drop_of_length_le (by omega), List.drop_of_length_le (by have := HL.out; omega)]; rfl
        have HD := Lib.hid hd
        clear HF hd
        go_wp2_with fail
        go_ret
        exact ⟨by rw [HD.out]; rfl, n, rfl⟩
  · have hbe : ((xs.length : Int) != (ys.length : Int)) = true := by simpa using fun h => hlen (by omega)
    have HD := Lib.hid (show (xs == ys) = false by
      rw [beq_eq_false_iff_ne]; intro h; exact hlen (by rw [h]))
    clear hlen hc1 hc2
    go_enter Tryz.func71, Tryz.ntmps71
    go_wp2_with fail
    go_ret
    exact ⟨by rw [HD.out]; rfl, 0, rfl⟩

theorem isX (x : Tr Nd) (k : Int) (w : World) (v : Value) (fp : List Nat) (hR : R_X fp w [v] x) : Calls Tryz.prog 60 #[v, .int .i64 k] w fun e w' => e = .returned (.bool (kdT x == k)) ∧ w = w' := by
  obtain ⟨n, args⟩ := x
  obtain ⟨b0, s, fa, rfl, rfl, c0, -⟩ := R_X_open hR
  rw [show kdT (.mk n args) = n.kd from rfl]
  generalize n.kd = kd at *
  clear hR
  cases hb : (kd == k)
  all_goals
    go_enter Tryz.func60, Tryz.ntmps60
    go_wp2_with fail
    go_ret
    exact ⟨rfl, rfl⟩

def FoX (w : World) (fp : List Nat) (x : Tr Nd) (e : Ending) (w' : World) : Prop := (∃ v' fp', e = .returned v' ∧ R_X fp' w' [v'] x ∧ ∀ b ∈ fp', b ∈ fp ∨ w.heap.size ≤ b) ∧ Upd [] w w'

set_option maxRecDepth 20000 in
set_option maxHeartbeats 2000000 in
theorem simpPairI (dc nn : Int) (t : Nd) (a b : Tr Nd) (w : World) (v : Value) (fp : List Nat) (hla : (flatT a).length ≤ 1000) (hlb : (flatT b).length ≤ 1000) (hR : R_X fp w [v] (.mk t [a, b])) :
    Calls Tryz.prog 59 #[v, .int .i64 dc, .int .i64 nn] w (FoX w fp (pairX dc nn t a b)) := by
  have HR := Lib.hid (fun W (hu : Upd [] w W) => R_Xk.upd hR hu (by simp))
  obtain ⟨b0, s, fa, rfl, rfl, c0, c1, c2, c3, c4, hargs⟩ := R_X_open hR
  obtain ⟨ar, cap, rfl, g1, g2, hc⟩ := slP_open hargs
  obtain ⟨ba, oa, u0, f0, rfl, -, -, p0, s0, r0⟩ := hc 0 (by simp)
  obtain ⟨ba', oa', u1, f1, hb', -, -, p1, s1, r1⟩ := hc 1 (by simp)
  simp only [Option.some.injEq, Addr.mk.injEq, and_true] at hb'
  obtain ⟨rfl, rfl⟩ := hb'
  have p0 : w.cell? ⟨ba, oa, none⟩ = some u0 := p0
  unfold maxLen at g2
  have hr0 : R_X f0 w [u0] a := r0
  have hr1 : R_X f1 w [u1] b := r1
  have I0 := Lib.hid (fun k q => isX a k (w.drewN q) u0 f0 (R_Xk.drewN hr0 q))
  have I1 := Lib.hid (fun k q => isX b k (w.drewN q) u1 f1 (R_Xk.drewN hr1 q))
  have L0 := Lib.hid (fun q => listX a (w.drewN q) u0 f0 (by omega) (R_Xk.drewN hr0 q))
  have L1 := Lib.hid (fun W (hu : Upd [] w W) => listX b W u1 f1 (by omega) (R_Xk.upd hr1 hu (by simp)))
  have HA := Lib.hid (fun W (hu : Upd [] w W) => And.intro (R_Xk.upd hr0 hu (by simp)) (fun b hb => Or.inl (List.mem_cons_of_mem _ (s0 b hb)) : ∀ b ∈ f0, b ∈ b0 :: fa ∨ w.heap.size ≤ b))
  have HB := Lib.hid (fun W (hu : Upd [] w W) => And.intro (R_Xk.upd hr1 hu (by simp)) (fun b hb => Or.inl (List.mem_cons_of_mem _ (s1 b hb)) : ∀ b ∈ f1, b ∈ b0 :: fa ∨ w.heap.size ≤ b))
  obtain ⟨bx, rfl⟩ := R_T_form hr0
  obtain ⟨by', rfl⟩ := R_T_form hr1
  have HP := Lib.hid (show pairX dc nn t a b = if kdT a == dc then a else if kdT b == dc then b else if kdT a == nn then b else if kdT b == nn || flatT a == flatT b then a else .mk t [a, b] from rfl)
  generalize pairX dc nn t a b = Z at *
  clear hc r0 r1 hr0 hr1 hargs hR s0 s1 hla hlb
  obtain ⟨q1, h1⟩ : ∃ q, q = (kdT a == dc) := ⟨_, rfl⟩
  obtain ⟨q2, h2⟩ : ∃ q, q = (kdT b == dc) := ⟨_, rfl⟩
  obtain ⟨q3, h3⟩ : ∃ q, q = (kdT a == nn) := ⟨_, rfl⟩
  obtain ⟨q4, h4⟩ : ∃ q, q = (kdT b == nn) := ⟨_, rfl⟩
  have J1 := Lib.hid (fun q => I0.out dc q)
  have J2 := Lib.hid (fun q => I1.out dc q)
  have J3 := Lib.hid (fun q => I0.out nn q)
  have J4 := Lib.hid (fun q => I1.out nn q)
  rw [← h1] at J1
  rw [← h2] at J2
  rw [← h3] at J3
  rw [← h4] at J4
  rw [← h1, ← h2, ← h3, ← h4] at HP
  clear I0 I1 h1 h2 h3 h4
  go_enter Tryz.func59, Tryz.ntmps59
  go_wp2_with fail
  go_quiet (fail)
  go_wp2_with fail
  refine (J1.out _).mono ?_
  rintro e w1 ⟨rfl, rfl⟩
  clear J1
  cases q1 with
  | true =>
    have HE := Lib.hid (show Z = a by rw [HP.out]; rfl)
    clear HP
    go_wp2_with fail
    go_ret
    exact ⟨⟨_, f0, rfl, by rw [HE.out]; exact (HA.out _ ((Upd.refl _ _).drewN _)).1, (HA.out _ (Upd.refl _ _)).2⟩, (Upd.refl _ _).drewN _⟩
  | false =>
    go_wp2_with fail
    refine (J2.out _).mono ?_
    rintro e w1 ⟨rfl, rfl⟩
    clear J2
    cases q2 with
    | true =>
      have HE := Lib.hid (show Z = b by rw [HP.out]; rfl)
      clear HP
      go_wp2_with fail
      go_ret
      exact ⟨⟨_, f1, rfl, by rw [HE.out]; exact (HB.out _ ((Upd.refl _ _).drewN _)).1, (HB.out _ (Upd.refl _ _)).2⟩, (Upd.refl _ _).drewN _⟩
    | false =>
      go_wp2_with fail
      refine (J3.out _).mono ?_
      rintro e w1 ⟨rfl, rfl⟩
      clear J3
      cases q3 with
      | true =>
        have HE := Lib.hid (show Z = b by rw [HP.out]; rfl)
        clear HP
        go_wp2_with fail
        go_ret
        exact ⟨⟨_, f1, rfl, by rw [HE.out]; exact (HB.out _ ((Upd.refl _ _).drewN _)).1, (HB.out _ (Upd.refl _ _)).2⟩, (Upd.refl _ _).drewN _⟩
      | false =>
        go_wp2_with fail
        refine (J4.out _).mono ?_
        rintro e w1 ⟨rfl, rfl⟩
        clear J4
        cases q4 with
        | true =>
          have HE := Lib.hid (show Z = a by rw [HP.out]; rfl)
          clear HP
          go_wp2_with fail
          go_ret
          exact ⟨⟨_, f0, rfl, by rw [HE.out]; exact (HA.out _ ((Upd.refl _ _).drewN _)).1, (HA.out _ (Upd.refl _ _)).2⟩, (Upd.refl _ _).drewN _⟩
        | false =>
          go_wp2_with fail
          refine (L0.out _).mono ?_
          rintro e w2 ⟨⟨v2, rfl, g2', r2, -, -⟩, hu2⟩
          have HU2 := Lib.hid (((Upd.refl [] w).drewN _).trans hu2)
          have M1 := Lib.hid (L1.out w2 HU2.out)
          have HR2 := Lib.hid (fun W (hu : Upd [] w2 W) => R_F1k.upd r2 hu (by simp))
          obtain ⟨a2, c2', rfl, -, -, -⟩ := slF4_open r2
          clear L0 L1 r2 hu2
          go_wp2_with fail
          refine M1.out.mono ?_
          rintro e w3 ⟨⟨v3, rfl, g3', r3, -, -⟩, hu3⟩
          have HU3 := Lib.hid (HU2.out.trans hu3)
          have E1 := Lib.hid (equalN _ _ _ _ w3 _ _ (HR2.out w3 hu3) r3)
          obtain ⟨a3, c3', rfl, -, -, -⟩ := slF4_open r3
          obtain ⟨q5, h5⟩ : ∃ q, q = (flatT a == flatT b) := ⟨_, rfl⟩
          rw [← h5] at E1 HP
          clear M1 HR2 r3 hu3 h5
          go_wp2_with fail
          refine E1.out.mono ?_
          rintro e w4 ⟨rfl, n4, rfl⟩
          clear E1
          have HU4 := Lib.hid (HU3.out.drewN n4)
          cases q5 with
          | true =>
            have HE := Lib.hid (show Z = a by rw [HP.out]; rfl)
            clear HP
            go_wp2_with fail
            go_ret
            exact ⟨⟨_, f0, rfl, by rw [HE.out]; exact (HA.out _ HU4.out).1, (HA.out _ (Upd.refl _ _)).2⟩, HU4.out⟩
          | false =>
            have HE := Lib.hid (show Z = .mk t [a, b] by rw [HP.out]; rfl)
            clear HP
            go_wp2_with fail
            go_ret
            exact ⟨⟨_, b0 :: fa, rfl, by rw [HE.out]; exact HR.out _ HU4.out, fun b hb => Or.inl hb⟩, HU4.out⟩

set_option maxRecDepth 20000 in
set_option maxHeartbeats 2000000 in
theorem simpNodeI (t : Nd) (args : List (Tr Nd)) (w : World) (v : Value) (fp : List Nat) (hlen : (args.length : Int) = arN t) (hl : (flatT (.mk t args)).length ≤ 1000) (hR : R_X fp w [v] (.mk t args)) :
    Calls Tryz.prog 39 #[v] w (FoX w fp (nodeX t args)) := by
  have HR := Lib.hid (fun W (hu : Upd [] w W) => R_Xk.upd hR hu (by simp))
  obtain ⟨t1, t2, t3, t4⟩ := t
  have hR0 := hR
  obtain ⟨b0, s, fa, rfl, rfl, c0, c1, c2, c3, c4, hargs⟩ := R_X_open hR
  have hlen : (args.length : Int) = arI t1 := hlen
  simp only at c0
  rw [flatT, List.length_cons] at hl
  have two : ∀ x y, args = [x, y] → (flatT x).length ≤ 1000 ∧ (flatT y).length ≤ 1000 := by
    intro x y h
    subst h
    simp only [flatTs, List.length_append, List.length_nil] at hl
    omega
  by_cases h2 : t1 = 2
  · subst h2
    match args, hlen with
    | [x, y], _ =>
      obtain ⟨lx, ly⟩ := two x y rfl
      have S1 := Lib.hid (simpPairI 1 0 ⟨2, t2, t3, t4⟩ x y w _ _ lx ly hR0)
      have HE := Lib.hid (show nodeX ⟨2, t2, t3, t4⟩ [x, y] = pairX 1 0 ⟨2, t2, t3, t4⟩ x y by simp [nodeX])
      clear hR hR0 hargs two
      go_enter Tryz.func39, Tryz.ntmps39
      go_wp2_with fail
      refine S1.out.mono ?_
      rintro e w1 ⟨⟨v', fp', rfl, hr, hs⟩, hu⟩
      have H1 := Lib.hid (And.intro hr (And.intro hs hu))
      obtain ⟨pb, rfl⟩ := R_T_form hr
      clear S1 hr hs hu
      go_wp2_with fail
      go_ret
      exact ⟨⟨_, fp', rfl, by rw [HE.out]; exact H1.out.1, H1.out.2.1⟩, H1.out.2.2⟩
  by_cases h3 : t1 = 3
  · subst h3
    match args, hlen with
    | [x, y], _ =>
      obtain ⟨lx, ly⟩ := two x y rfl
      have S1 := Lib.hid (simpPairI 0 1 ⟨3, t2, t3, t4⟩ x y w _ _ lx ly hR0)
      have HE := Lib.hid (show nodeX ⟨3, t2, t3, t4⟩ [x, y] = pairX 0 1 ⟨3, t2, t3, t4⟩ x y by simp [nodeX])
      clear hR hR0 hargs two h2
      go_enter Tryz.func39, Tryz.ntmps39
      go_wp2_with fail
      refine S1.out.mono ?_
      rintro e w1 ⟨⟨v', fp', rfl, hr, hs⟩, hu⟩
      have H1 := Lib.hid (And.intro hr (And.intro hs hu))
      obtain ⟨pb, rfl⟩ := R_T_form hr
      clear S1 hr hs hu
      go_wp2_with fail
      go_ret
      exact ⟨⟨_, fp', rfl, by rw [HE.out]; exact H1.out.1, H1.out.2.1⟩, H1.out.2.2⟩
  have hb2 : (t1 == 2) = false := by simpa using h2
  have hb3 : (t1 == 3) = false := by simpa using h3
  by_cases h45 : t1 = 4 ∨ t1 = 5
  · have ha1 : arI t1 = 1 := by unfold arI; rw [if_neg (by omega), if_pos (by omega)]
    match args, hlen.trans ha1 with
    | [x], _ =>
      obtain ⟨ar, cap, rfl, g1, g2, hc⟩ := slP_open hargs
      obtain ⟨ba, oa, u0, f0, rfl, -, -, p0, s0, r0⟩ := hc 0 (by simp)
      have p0 : w.cell? ⟨ba, oa, none⟩ = some u0 := p0
      unfold maxLen at g2
      have hr0 : R_X f0 w [u0] x := r0
      have I0 := Lib.hid (fun k => isX x k w u0 f0 hr0)
      have HA := Lib.hid (And.intro hr0 (fun b hb => Or.inl (List.mem_cons_of_mem _ (s0 b hb)) : ∀ b ∈ f0, b ∈ b0 :: fa ∨ w.heap.size ≤ b))
      obtain ⟨bx, rfl⟩ := R_T_form hr0
      rcases h45 with rfl | rfl
      · have J := Lib.hid (I0.out 1)
        cases hq : (kdT x == 1) with
        | true =>
          rw [hq] at J
          have HE := Lib.hid (show nodeX ⟨4, t2, t3, t4⟩ [x] = x by simp [nodeX, show kdT x = 1 by simpa using hq])
          clear hc r0 hr0 hR hR0 hargs two h2 h3 hb2 hb3 hq I0 s0
          go_enter Tryz.func39, Tryz.ntmps39
          go_wp2_with fail
          refine J.out.mono ?_
          rintro e w1 ⟨rfl, rfl⟩
          go_wp2_with fail
          go_ret
          exact ⟨⟨_, f0, rfl, by rw [HE.out]; exact HA.out.1, HA.out.2⟩, Upd.refl _ _⟩
        | false =>
          rw [hq] at J
          have HE := Lib.hid (show nodeX ⟨4, t2, t3, t4⟩ [x] = .mk ⟨4, t2, t3, t4⟩ [x] by simp [nodeX, show kdT x ≠ 1 by simpa using hq])
          clear hc r0 hr0 hR hR0 hargs two h2 h3 hb2 hb3 hq I0 s0
          go_enter Tryz.func39, Tryz.ntmps39
          go_wp2_with fail
          refine J.out.mono ?_
          rintro e w1 ⟨rfl, rfl⟩
          go_wp2_with fail
          go_ret
          exact ⟨⟨_, b0 :: fa, rfl, by rw [HE.out]; exact HR.out _ (Upd.refl _ _), fun b hb => Or.inl hb⟩, Upd.refl _ _⟩
      · have J := Lib.hid (I0.out 0)
        cases hq : (kdT x == 0) with
        | true =>
          rw [hq] at J
          have HE := Lib.hid (show nodeX ⟨5, t2, t3, t4⟩ [x] = x by simp [nodeX, show kdT x = 0 by simpa using hq])
          clear hc r0 hr0 hR hR0 hargs two h2 h3 hb2 hb3 hq I0 s0
          go_enter Tryz.func39, Tryz.ntmps39
          go_wp2_with fail
          refine J.out.mono ?_
          rintro e w1 ⟨rfl, rfl⟩
          go_wp2_with fail
          go_ret
          exact ⟨⟨_, f0, rfl, by rw [HE.out]; exact HA.out.1, HA.out.2⟩, Upd.refl _ _⟩
        | false =>
          rw [hq] at J
          have HE := Lib.hid (show nodeX ⟨5, t2, t3, t4⟩ [x] = .mk ⟨5, t2, t3, t4⟩ [x] by simp [nodeX, show kdT x ≠ 0 by simpa using hq])
          clear hc r0 hr0 hR hR0 hargs two h2 h3 hb2 hb3 hq I0 s0
          go_enter Tryz.func39, Tryz.ntmps39
          go_wp2_with fail
          refine J.out.mono ?_
          rintro e w1 ⟨rfl, rfl⟩
          go_wp2_with fail
          go_ret
          exact ⟨⟨_, b0 :: fa, rfl, by rw [HE.out]; exact HR.out _ (Upd.refl _ _), fun b hb => Or.inl hb⟩, Upd.refl _ _⟩
  · have hb4 : (t1 == 4) = false := by simp; omega
    have hb5 : (t1 == 5) = false := by simp; omega
    have HE := Lib.hid (show nodeX ⟨t1, t2, t3, t4⟩ args = .mk ⟨t1, t2, t3, t4⟩ args by
      simp only [nodeX, h2, h3, if_false, show ¬ t1 = 4 by omega, show ¬ t1 = 5 by omega, false_and])
    clear hR hR0 hargs two h2 h3 h45 hlen
    go_enter Tryz.func39, Tryz.ntmps39
    go_wp2_with fail
    go_ret
    exact ⟨⟨_, b0 :: fa, rfl, by rw [HE.out]; exact HR.out _ (Upd.refl _ _), fun b hb => Or.inl hb⟩, Upd.refl _ _⟩

end Go.Proofs.YtdnjjanacbkijaaGreatDoor

/-
  Formulas simplified: what the program's call returns. (Printed by tools/gensiml.py.)
-/
namespace Go.Proofs.YtdnjjanacbkijaaGreatDoor
open Go.RowKit

set_option maxRecDepth 20000 in
set_option maxHeartbeats 4000000 in
theorem simpILoop (n : Nat) (t1 t2 : Int) (t3 : List UInt8) (t4 : Bool) (args : List (Tr Nd)) (w : World) (b0 : Nat) (fa : List Nat) (hn : (flatTs args).length ≤ n) (h100 : (flatTs args).length ≤ 900) (hl2 : args.length ≤ 2)
    (ih : ∀ (x : Tr Nd) (w : World) (v : Value) (fp : List Nat), (flatT x).length ≤ n → (flatT x).length ≤ 900 → okT arN x = true → R_X fp w [v] x → Calls Tryz.prog 20 #[v] w (FoX w fp (simpX x)))
    (hok : okT arN (.mk ⟨t1, t2, t3, t4⟩ args) = true) (hR : R_X (b0 :: fa) w [.pointer (some ⟨b0, 0, none⟩)] (.mk ⟨t1, t2, t3, t4⟩ args)) :
    Calls Tryz.prog 20 #[.pointer (some ⟨b0, 0, none⟩)] w (FoX w (b0 :: fa) (simpX (.mk ⟨t1, t2, t3, t4⟩ args))) := by
  obtain ⟨i0, hi, hz0, hz1, hz2⟩ := info_parts Tryz.infoX
  have HR0 := Lib.hid hR
  obtain ⟨_, s, _, hv, hfp, c0, c1, c2, c3, c4, hargs⟩ := R_X_open hR
  cases hv
  simp only [List.cons.injEq, true_and] at hfp
  subst hfp
  obtain ⟨a, cap, rfl, h1, h2, hc⟩ := slP_open hargs
  have hlta := (slP_kept R_Xk).lt hargs
  unfold maxLen at h2
  simp only [okT, Bool.and_eq_true, decide_eq_true_eq] at hok
  have HIH := Lib.hid ih
  have HOKS := Lib.hid hok.2
  have HLEN := Lib.hid hok.1
  have HLT := Lib.hid hlta
  have hltb : b0 < w.heap.size := World.block_lt_of_cell? w _ c0
  clear ih hR hok hargs hlta
  have hst : Upd [] w (w.alloc (.cells #[ei t1, ei t2, es t3, .bool t4, .slice none 0 0] 76)) := (Upd.refl _ _).alloc _
  have hst1 := own_new w #[ei t1, ei t2, es t3, .bool t4, .slice none 0 0] 76
  have HST := Lib.hid (And.intro hst hst1)
  have HG := Lib.hid (show ∀ b ∈ b0 :: fa, b < w.heap.size from fun b hb => by
    rcases List.mem_cons.1 hb with rfl | hb
    · exact hltb
    · exact HLT.out b hb)
  have hft : ∀ k, (hk : k < args.length) → simpXs (args.take (k + 1)) = simpXs (args.take k) ++ [simpX args[k]] := by
    intro k hk; rw [simpXs_map, simpXs_map, List.take_succ_eq_append_getElem hk, List.map_append]; rfl
  have HFT := Lib.hid hft
  clear hst hst1 hft
  simp only at c0 c1 c2 c3
  go_enter Tryz.func20, Tryz.ntmps20
  go_wp2_with fail
  go_loopw [17] (fun i wr => ∃ (k : Nat) (vo : Value), k ≤ args.length ∧ i = .int .i64 k ∧ Upd [] w wr ∧ wr.cell? ⟨w.heap.size, 0, none⟩ = some (ei t1) ∧ wr.cell? ⟨w.heap.size, 1, none⟩ = some (ei t2) ∧ wr.cell? ⟨w.heap.size, 2, none⟩ = some (es t3) ∧ wr.cell? ⟨w.heap.size, 3, none⟩ = some (.bool t4) ∧
      wr.cell? ⟨w.heap.size, 4, none⟩ = some vo ∧ Own [w.heap.size] wr ∧ Got R_X (w.heap.size + 1) (fun b => b ∈ b0 :: fa ∨ w.heap.size + 1 ≤ b) 48 wr vo (simpXs (args.take k)))
    (fun i _ => args.length - (intOf i).toNat)
  case atStart => exact ⟨0, _, Nat.zero_le _, rfl, HST.out.1, by simp, by simp, by simp, by simp, by simp, HST.out.2, Got.nil _ _ _ _ _⟩
  case round =>
    clear HST
    obtain ⟨k, vo, hk, rfl, hU, d0, d1, d2, d3, d4, hown0, hgot⟩ := hrel
    by_cases hlt : k < args.length
    · obtain ⟨b, off, u, f, rfl, hbm, hbl, hcell, hsub, hr⟩ := hc k hlt
      have hcell' := hU.keep hcell
      have hr' := R_Xk.upd hr hU (by simp)
      have hgk : okT arN args[k] = true := by
        have := HOKS.out; rw [okTs_all, List.all_eq_true] at this; exact this _ (by simp)
      have hlk : (flatT args[k]).length ≤ (flatTs args).length := flatT_arg_le args k hlt
      have hts := HFT.out k hlt
      have S2 := HIH.out args[k] wr.drew u f (by omega) (by omega) hgk (R_Xk.drew hr')
      unfold FoX at S2
      have HTS := Lib.hid hts
      have HSUB := Lib.hid hsub
      generalize simpX args[k] = y at *
      have HS2 := Lib.hid S2
      have hsz := hU.size
      have hN0 : w.heap.size < wr.heap.size := World.block_lt_of_cell? wr _ d0
      have HOB := Lib.hid (show ∀ b, vo.ownBlock = some b → w.heap.size + 1 ≤ b ∧ b < wr.heap.size from fun b hb => by
        obtain ⟨us', h9⟩ := hgot.own; exact h9.lt b hb)
      have hlk2 : (simpXs (args.take k)).length ≤ 2 := by rw [simpXs_map, List.length_map, List.length_take]; omega
      have HGOT := Lib.hid hgot
      have HU := Lib.hid hU
      have HOWN := Lib.hid hown0
      have hfz : wr.frozen? ⟨w.heap.size, 4, none⟩ = false := hown0.frozen (by simp) _
      generalize hLN : (simpXs (args.take k)).length = LN at *
      have HLN := Lib.hid hLN
      obtain ⟨us, hou⟩ := HGOT.out.own
      rw [HLN.out] at hou
      have HOU := Lib.hid hou
      clear hcell hr hr' hgk hlk hts hc hsub S2 hgot hU hown0 hLN hou
      go_wp2_with fail
      go_region_law ((first
        | (refine step_call (by rfl) 20 #[u] (by go_simp) ?_; refine HS2.out.mono ?_; rintro e w3 ⟨⟨v3, fp3, rfl, hR3, hfp3⟩, hu3⟩; obtain ⟨pb, rfl⟩ := R_T_form hR3; have hu13 : Upd [] wr w3 := (Upd.refl [] wr).drew.trans hu3; have d4' := hu13.keep d4; have hfz3 : w3.frozen? ⟨w.heap.size, 4, none⟩ = false := (HOWN.out.upd hu13 (by simp)).frozen (by simp) _; have hou3 := ownsRow_upd HOU.out hu13; have hN3 : w.heap.size < w3.heap.size := Nat.lt_of_lt_of_le hN0 hu13.size; refine ⟨_, rfl, ?_⟩)
        | (refine step_append_lies _ (by rfl) _ _ 74 (by rfl) (w.heap.size + 1) 48 i0 (.pointer none) 1 8 Tryz.underlying74 hi hz0 hz1 hz2 rfl (by decide) vo LN us (by rfl) (hou3.alloc _) ⟨w3.heap.size, 0, none⟩ 1 1 [.pointer (some ⟨pb, 0, none⟩)] (by rfl) (by rfl) (by intro j u hj; match j, hj with | 0, hj => simp at hj; subst hj; simp [Addr.add]) (by simp [Value.oneCell']) (by decide) (by unfold maxLen; omega) (by omega) (by have := hu13.size; simp; omega) (w3.heap.size + 1) (by simp) ?_; intro g gcap w4 hown4 hg4 hat4 hlt4; have hvo : some w.heap.size ≠ vo.ownBlock := (fun h => by have := HOB.out _ h.symm; omega); have hsz3 := hu13.size; have f4 : w4.cell? ⟨w.heap.size, 4, none⟩ = some vo := ((hg4.cell_far _ (by simp; omega) hvo).trans (((Upd.refl [] w3).alloc _).keep d4')); have hfz4 : w4.frozen? ⟨w.heap.size, 4, none⟩ = false := (by rw [hg4.frozen_far _ (by simp; omega) hvo]; exact (((HOWN.out.upd hu13 (by simp)).upd ((Upd.refl [] w3).alloc _) (by simp)).frozen (by simp) _)))))
      all_goals
        have hgot3 := HGOT.out.upd R_Xk hu13 (by simp)
        have hgb : ∀ b ∈ fp3, vo.ownBlock ≠ some b ∧ (b ∈ b0 :: fa ∨ w.heap.size + 1 ≤ b) := by
          intro b hb
          rcases hfp3 b hb with h | h
          · have hm : b ∈ b0 :: fa := List.mem_cons_of_mem _ (HSUB.out b h)
            exact ⟨fun he => by have := HOB.out b he; have := HG.out b hm; omega, Or.inl hm⟩
          · have h' : wr.heap.size ≤ b := by simpa using h
            exact ⟨fun he => by have := HOB.out b he; omega, Or.inr (by omega)⟩
        have hgot4 := hgot3.push R_Xk (by rw [HLN.out]; exact hou3) hR3 hgb _ (by rw [HLN.out]; exact hown4) hg4 (by
          intro b hb
          simp only [Value.ownBlock, Option.some.injEq] at hb
          subst hb
          rcases hat4 with h | h
          · exact Or.inl h
          · right; simp; omega)
        have hu4 : Upd vo.ownBlock.toList w3 w4 := ((Upd.refl _ _).alloc _).grown hg4 (fun k hk => Or.inr (by simp [hk]))
        have hNob : w.heap.size ∉ vo.ownBlock.toList := fun hm => by have := HOB.out _ (by simpa using hm); omega
        have hU4 : Upd [] w w4 := (HU.out.trans hu13).fresh hu4 (fun b hb => Or.inl (by have := HOB.out b (by simpa using hb); omega))
        have hbN : w4.heap[w.heap.size]? = w3.heap[w.heap.size]? := hu4.block _ hN3 hNob
        have f0 : w4.cell? ⟨w.heap.size, 0, none⟩ = some (ei t1) := (World.cell?_of_block (w := w3) hbN).trans (hu13.keep d0)
        have f1 : w4.cell? ⟨w.heap.size, 1, none⟩ = some (ei t2) := (World.cell?_of_block (w := w3) hbN).trans (hu13.keep d1)
        have f2 : w4.cell? ⟨w.heap.size, 2, none⟩ = some (es t3) := (World.cell?_of_block (w := w3) hbN).trans (hu13.keep d2)
        have f3 : w4.cell? ⟨w.heap.size, 3, none⟩ = some (.bool t4) := (World.cell?_of_block (w := w3) hbN).trans (hu13.keep d3)
        have hown5 : Own [w.heap.size] w4 := (HOWN.out.upd hu13 (by simp)).frame (by intro b hb; obtain rfl : b = w.heap.size := (by simpa using hb); exact hbN)
        have hNG : ∀ b ∈ [w.heap.size], b < w.heap.size + 1 ∧ ¬ (b ∈ b0 :: fa ∨ w.heap.size + 1 ≤ b) := by
          intro b hb
          obtain rfl : b = w.heap.size := by simpa using hb
          refine ⟨by omega, fun hG => ?_⟩
          rcases hG with h | h
          · have := HG.out _ h; omega
          · omega
        have hus4 : Upd [w.heap.size] w4 (w4.setCell ⟨w.heap.size, 4, none⟩ (.slice (some ⟨g, 0, none⟩) (LN + 1) gcap)) := (Upd.refl _ _).setCell (by simp) _
        have hgot5 := hgot4.upd R_Xk hus4 hNG
        rw [← HTS.out] at hgot5
        have HP := Lib.hid (And.intro hgot5 (And.intro (hU4.setCell (p := ⟨w.heap.size, 4, none⟩) (Or.inl (Nat.le_refl _)) (.slice (some ⟨g, 0, none⟩) (LN + 1) gcap)) (hown5.setCell ⟨w.heap.size, 4, none⟩ (.slice (some ⟨g, 0, none⟩) (LN + 1) gcap))))
        clear hgot5 hgot4 hgot3 hus4 hNG hown5 hbN hNob hu4 hU4 hg4 hat4 hown4 hgb hfz4 hfz3 d4' hu3 hu13 hR3 hfp3 hou3
        go_wp2_with fail
        go_roundw
        case rel =>
          refine ⟨k + 1, .slice (some ⟨g, 0, none⟩) (LN + 1) gcap, by omega, by go_num, HP.out.2.1, ?_, ?_, ?_, ?_, ?_, HP.out.2.2, HP.out.1⟩
          · exact (World.cell?_setCell_other _ _ _ _ (by simp)).trans f0
          · exact (World.cell?_setCell_other _ _ _ _ (by simp)).trans f1
          · exact (World.cell?_setCell_other _ _ _ _ (by simp)).trans f2
          · exact (World.cell?_setCell_other _ _ _ _ (by simp)).trans f3
          · exact World.cell?_setCell_same _ _ _ f4
        case measure => simp [intOf]; omega
    · obtain rfl : k = args.length := by omega
      rw [List.take_length] at hgot
      obtain ⟨fs, hsl, hfs⟩ := hgot.slP
      have hnode := R_X_mk (t := ⟨t1, t2, t3, t4⟩) d0 d1 d2 d3 d4 hsl
      have hfsub : ∀ b ∈ w.heap.size :: fs, b ∈ b0 :: fa ∨ w.heap.size ≤ b := by
        intro b hb
        rcases List.mem_cons.1 hb with rfl | hb
        · exact Or.inr (Nat.le_refl _)
        · rcases hfs b hb with h | h | h
          · exact Or.inr (by omega)
          · exact Or.inl h
          · exact Or.inr (by omega)
      have HND := Lib.hid (And.intro hnode hfsub)
      have HU := Lib.hid hU
      have hsz := hU.size
      have hlm : ((simpXs args).length : Int) = arN ⟨t1, t2, t3, t4⟩ := by rw [simpXs_map, List.length_map]; exact HLEN.out
      obtain ⟨p1, -, p3⟩ := simpXs_good (Q := fun _ => True) args HOKS.out (fun _ _ => trivial)
      have HN := Lib.hid (fun W (hu : Upd [] wr W) => simpNodeI ⟨t1, t2, t3, t4⟩ (simpXs args) W _ _ hlm (by rw [flatT, List.length_cons]; omega) (R_Xk.upd hnode hu (by simp)))
      have HE := Lib.hid (show simpX (.mk ⟨t1, t2, t3, t4⟩ args) = nodeX ⟨t1, t2, t3, t4⟩ (simpXs args) by rw [simpX])
      have T1 := Lib.hid (HN.out wr (Upd.refl _ _))
      clear hgot hsl hfs hnode hfsub hc d0 d1 d2 d3 d4 hown0 HFT hU HN hlm p1 p3
      go_wp2_with fail
      refine T1.out.mono ?_
      rintro e w1 ⟨⟨v', fp', rfl, hr, hs⟩, hu⟩
      have H1 := Lib.hid (And.intro hr (And.intro hs hu))
      obtain ⟨pb, rfl⟩ := R_T_form hr
      clear T1 hr hs hu
      go_wp2_with fail
      go_ret
      refine ⟨⟨_, fp', rfl, by rw [HE.out]; exact H1.out.1, fun b hb => ?_⟩, HU.out.trans H1.out.2.2⟩
      rcases H1.out.2.1 b hb with h | h
      · exact HND.out.2 b h
      · exact Or.inr (by omega)

set_option maxRecDepth 20000 in
theorem simpI (n : Nat) : ∀ (x : Tr Nd) (w : World) (v : Value) (fp : List Nat), (flatT x).length ≤ n → (flatT x).length ≤ 900 → okT arN x = true → R_X fp w [v] x → Calls Tryz.prog 20 #[v] w (FoX w fp (simpX x)) := by
  induction n with
  | zero => intro x w v fp hn; have := flatT_pos x; omega
  | succ n ih =>
    intro x w v fp hn h100 hok hR
    obtain ⟨⟨t1, t2, t3, t4⟩, args⟩ := x
    obtain ⟨b0, s, fa, rfl, rfl, -⟩ := R_X_open hR
    simp only [flatT, List.length_cons] at hn h100
    have hl2 : args.length ≤ 2 := by
      have h' := hok
      simp only [okT, Bool.and_eq_true, decide_eq_true_eq] at h'
      have h9 : (args.length : Int) = arI t1 := h'.1
      have := arI_in t1; omega
    exact simpILoop n t1 t2 t3 t4 args w b0 fa (by omega) (by omega) hl2 ih hok hR

end Go.Proofs.YtdnjjanacbkijaaGreatDoor

/-
  Formulas simplified, plainly: the reference's lists are the trees' nodes.
-/
namespace Go.Proofs.YtdnjjanacbkijaaGreatDoor
open Go.RowKit

/-- a node of a modal formula. -/
def modN (n : Nd) : Prop := (0 ≤ n.kd ∧ n.kd ≤ 5) ∧ n.vr = 0 ∧ (¬ (n.kd = 4 ∨ n.kd = 5) → n.lb = [] ∧ n.nt = false) ∧ n.lb.length ≤ 100
end Go.Proofs.YtdnjjanacbkijaaGreatDoor

/-
  Formulas simplified: what the reference's small calls return.
-/
namespace Go.Proofs.YtdnjjanacbkijaaGreatDoor
open Go.RowKit

end Go.Proofs.YtdnjjanacbkijaaGreatDoor

/-
  The reference's checks of nodes and of a formula's shape: what the calls return.
-/
namespace Go.Proofs.YtdnjjanacbkijaaGreatDoor
open Go.RowKit

set_option maxRecDepth 20000 in
set_option maxHeartbeats 800000 in
theorem arityS (a : Int) (w : World) : Calls Tryz.prog 55 #[ei a] w fun e w' => e = .returned (.int .i64 (arS a)) ∧ w = w' := by
  by_cases h0 : a = 0
  · have HI := Lib.hid (show arS a = 0 by subst h0; rfl)
    have b0 : (a == 0) = true := by simpa using h0
    clear h0
    go_enter Tryz.func55, Tryz.ntmps55
    go_wp2_with fail
    go_ret
    exact ⟨by rw [HI.out]; rfl, rfl⟩
  · have b0 : (a == 0) = false := by simpa using h0
    by_cases h1 : a = 1
    · have HI := Lib.hid (show arS a = 0 by subst h1; rfl)
      have b1 : (a == 1) = true := by simpa using h1
      clear h1 h0
      go_enter Tryz.func55, Tryz.ntmps55
      go_wp2_with fail
      go_ret
      exact ⟨by rw [HI.out]; rfl, rfl⟩
    · have b1 : (a == 1) = false := by simpa using h1
      by_cases h6 : a = 6
      · have HI := Lib.hid (show arS a = 0 by subst h6; rfl)
        have b6 : (a == 6) = true := by simpa using h6
        clear h6 h0 h1
        go_enter Tryz.func55, Tryz.ntmps55
        go_wp2_with fail
        go_ret
        exact ⟨by rw [HI.out]; rfl, rfl⟩
      · have b6 : (a == 6) = false := by simpa using h6
        by_cases h2 : a = 2
        · have HI := Lib.hid (show arS a = 2 by subst h2; rfl)
          have b2 : (a == 2) = true := by simpa using h2
          clear h2 h0 h1 h6
          go_enter Tryz.func55, Tryz.ntmps55
          go_wp2_with fail
          go_ret
          exact ⟨by rw [HI.out]; rfl, rfl⟩
        · have b2 : (a == 2) = false := by simpa using h2
          by_cases h3 : a = 3
          · have HI := Lib.hid (show arS a = 2 by subst h3; rfl)
            have b3 : (a == 3) = true := by simpa using h3
            clear h3 h0 h1 h6 h2
            go_enter Tryz.func55, Tryz.ntmps55
            go_wp2_with fail
            go_ret
            exact ⟨by rw [HI.out]; rfl, rfl⟩
          · have b3 : (a == 3) = false := by simpa using h3
            have HI := Lib.hid (show arS a = 1 by unfold arS; rw [if_neg (by omega), if_neg (by omega)])
            clear h0 h1 h6 h2 h3
            go_enter Tryz.func55, Tryz.ntmps55
            go_wp2_with fail
            go_ret
            exact ⟨by rw [HI.out]; rfl, rfl⟩

end Go.Proofs.YtdnjjanacbkijaaGreatDoor

/-
  The program's search for what binds a variable, and its check of a formula: what the calls return. (The drawn region's ways are printed by tools/genforb.py.)
-/
namespace Go.Proofs.YtdnjjanacbkijaaGreatDoor
open Go.RowKit

end Go.Proofs.YtdnjjanacbkijaaGreatDoor

/-
  The program's check of a formula: what the call returns.
-/
namespace Go.Proofs.YtdnjjanacbkijaaGreatDoor
open Go.RowKit

end Go.Proofs.YtdnjjanacbkijaaGreatDoor

/-
  The writer of images: what its calls leave.
-/
namespace Go.Proofs.YtdnjjanacbkijaaGreatDoor
open Go.RowKit

/-- nothing older than base is written. -/
def Fresh (base : Nat) (w w' : World) : Prop := ∀ w0 : World, w0.heap.size ≤ base → Upd [] w0 w → Upd [] w0 w'
theorem Fresh.refl (base : Nat) (w : World) : Fresh base w w := fun _ _ h => h
theorem Fresh.trans {base : Nat} {w w1 w2 : World} (h : Fresh base w w1) (k : Fresh base w1 w2) : Fresh base w w2 := fun w0 h0 hu => k w0 h0 (h w0 h0 hu)
theorem Fresh.of {base : Nat} {w w1 : World} (h : Upd [] w w1) : Fresh base w w1 := fun _ _ hu => hu.trans h

end Go.Proofs.YtdnjjanacbkijaaGreatDoor

/-
  Texts and whole images written, by the program and by the reference.
-/
namespace Go.Proofs.YtdnjjanacbkijaaGreatDoor
open Go.RowKit

end Go.Proofs.YtdnjjanacbkijaaGreatDoor

/-
  The image of a formula: what the program's call returns.
-/
namespace Go.Proofs.YtdnjjanacbkijaaGreatDoor
open Go.RowKit

/-- a node's four cells in a block of their own. -/
def NdAt (Q : Nat) (W : World) (n : Nd) : Prop := W.heap[Q]? = some (.cells #[ei n.kd, ei n.vr, es n.lb, .bool n.nt] 53 (0, 0))
theorem NdAt.upd {Q : Nat} {w w1 : World} {n : Nd} (h : NdAt Q w n) {f : List Nat} (hu : Upd f w w1) (hf : Q ∉ f) : NdAt Q w1 n := by
  unfold NdAt at *
  rw [hu.block Q (Array.getElem?_eq_some_iff.1 h).1 hf]; exact h
end Go.Proofs.YtdnjjanacbkijaaGreatDoor

/-
  Formulas simplified: what the reference's SimplifyModal returns of a valid formula.
-/
namespace Go.Proofs.YtdnjjanacbkijaaGreatDoor
open Go.RowKit

section
variable {α : Type} {R : Rp α} {base : Nat} {G : Nat → Prop} {e : TypeId} {w : World} {g n cap : Nat} {xs : List α}
theorem Got.room (h : Got R base G e w (.slice (some ⟨g, 0, none⟩) n cap) xs) : n = xs.length ∧ n ≤ cap ∧ cap ≤ maxLen ∧ base ≤ g ∧ g < w.heap.size := by
  obtain ⟨us, fps, h1, -⟩ := h
  generalize hx : xs.length = m at h1
  rcases h1.2 with ⟨h0, -⟩ | ⟨g', cap', cur, hv, hb, hh, h3, h4, -⟩
  · cases h0
  · cases hv; exact ⟨rfl, h3, h4, hb, (Array.getElem?_eq_some_iff.1 hh).1⟩
theorem Got.at' (h : Got R base G e w (.slice (some ⟨g, 0, none⟩) n cap) xs) (i : Nat) (hi : i < xs.length) :
    ∃ u f, w.cell? ⟨g, i, none⟩ = some u ∧ R f w [u] xs[i] ∧ ∀ b ∈ f, b ≠ g ∧ G b := by
  obtain ⟨hn, -⟩ := h.room
  subst hn
  obtain ⟨us, fps, h1, h2, h3, h4⟩ := h
  have hl : us.length = xs.length := by rw [h1.1, Nat.mul_one]
  have hu : us[i]? = some us[i] := by simp
  have hf : fps[i]? = some fps[i] := by simp
  refine ⟨us[i], fps[i], by rw [h1.cellAt i (by omega), hu], h4 i hi _ _ hu hf, fun b hb => ?_⟩
  obtain ⟨p1, p2⟩ := h3 b (List.mem_flatten.2 ⟨_, List.mem_of_getElem? hf, hb⟩)
  exact ⟨fun he => p1 (by rw [he]; rfl), p2⟩
theorem Got.take (h : Got R base G e w (.slice (some ⟨g, 0, none⟩) n cap) xs) (m : Nat) (hm : m ≤ xs.length) : Got R base G e w (.slice (some ⟨g, 0, none⟩) m cap) (xs.take m) := by
  obtain ⟨hn, -⟩ := h.room
  subst hn
  obtain ⟨us, fps, h1, h2, h3, h4⟩ := h
  have hs : (fps.take m).flatten.Sublist fps.flatten := by
    conv => rhs; rw [← List.take_append_drop m fps, List.flatten_append]
    exact List.sublist_append_left _ _
  have ht := ownsRow_take h1 m hm
  rw [Nat.mul_one] at ht
  refine ⟨us.take m, fps.take m, by rw [List.length_take, Nat.min_eq_left hm]; exact ht, by simp [h2], fun b hb => ?_, fun i hi u f hu hf => ?_⟩
  · have := h3 b (hs.subset hb)
    simpa [Value.ownBlock] using this
  · simp at hi
    rw [List.getElem?_take, if_pos (by omega)] at hu hf
    simpa using h4 i (by omega) u f hu hf
end

end Go.Proofs.YtdnjjanacbkijaaGreatDoor

/-
  The reference's check of a formula: what the calls return.
-/
namespace Go.Proofs.YtdnjjanacbkijaaGreatDoor
open Go.RowKit

end Go.Proofs.YtdnjjanacbkijaaGreatDoor

/-
  The reference's check of a modal formula's shape: what the call returns.
-/
namespace Go.Proofs.YtdnjjanacbkijaaGreatDoor
open Go.RowKit

end Go.Proofs.YtdnjjanacbkijaaGreatDoor

/-
  The checks of a modal formula: what the program's call and the reference's call return.
-/
namespace Go.Proofs.YtdnjjanacbkijaaGreatDoor
open Go.RowKit

def IdxNd (P : Nd → Bool) (xs : List Nd) (w : World) (e : Ending) (w' : World) : Prop := (∃ q : Int, e = .returned (.int .i64 q) ∧ -1 ≤ q ∧ q ≤ 9223372036854775807 ∧ decide (0 ≤ q) = xs.any P) ∧ Upd [] w w'

set_option maxRecDepth 20000 in
set_option maxHeartbeats 1000000 in
theorem indexFuncNd (P : Nd → Bool) (fn : FuncId) (caps : Array Value) (v : Value) (xs : List Nd) (w : World) (fp : List Nat) (hR : R_F1 fp w [v] xs)
    (hent : ∀ args w, Sem.run Tryz.prog (callFunc fn args) w = .ok (.enter fn args) w)
    (hby : ∀ wr x, x ∈ xs → Upd [] w wr → Calls Tryz.prog fn (#[.agg #[ei x.kd, ei x.vr, es x.lb, .bool x.nt]] ++ caps) wr fun e w' => e = .returned (.bool (P x)) ∧ Upd [] wr w') :
    Calls Tryz.prog 57 #[v, .func (.func fn) #[] caps] w (IdxNd P xs w) := by
  obtain ⟨a1, c1, rfl, hl1, hm1, hc1⟩ := slF4_open hR
  unfold maxLen at hm1
  have HBY := Lib.hid hby
  clear hR hby
  go_enter Tryz.func57, Tryz.ntmps57
  go_wp2_with fail
  go_loopw [8] (fun i wr => ∃ k : Nat, k ≤ xs.length ∧ i = .int .i64 k ∧ Upd [] w wr ∧ (xs.drop k).any P = xs.any P) (fun i _ => xs.length - (intOf i).toNat)
  case atStart => exact ⟨0, Nat.zero_le _, rfl, Upd.refl _ _, rfl⟩
  case round =>
    obtain ⟨k, hk, rfl, hU, hF⟩ := hrel
    by_cases hlt : k < xs.length
    · obtain ⟨b1, o1, rfl, -, -, p1, p2, p3, p4⟩ := hc1 k hlt
      have p1 := hU.keep p1
      have p2 := hU.keep p2
      have p3 := hU.keep p3
      have p4 := hU.keep p4
      rw [List.drop_eq_getElem_cons hlt, List.any_cons] at hF
      have HF := Lib.hid hF
      have HU := Lib.hid hU
      have S1 := Lib.hid (HBY.out wr xs[k] (List.getElem_mem hlt) hU)
      generalize xs[k] = x at *
      generalize P x = bb at *
      obtain ⟨x1, x2, x3, x4⟩ := x
      simp only at p1 p2 p3 p4
      clear hF hc1 hU
      go_wp2_with fail
      refine S1.out.mono ?_
      rintro e w1 ⟨rfl, hu1⟩
      have HU1 := Lib.hid (HU.out.trans hu1)
      clear S1 hu1
      cases bb
      · go_wp2_with fail
        go_roundw
        case rel => exact ⟨k + 1, by omega, by go_num, HU1.out, by rw [← HF.out]; rfl⟩
        case measure => simp [intOf]; omega
      · go_wp2_with fail
        go_ret
        exact ⟨⟨k, rfl, by omega, by omega, by rw [← HF.out]; simp⟩, HU1.out⟩
    · rw [List.drop_of_length_le (by omega)] at hF
      have HF := Lib.hid hF
      clear hF hc1
      go_wp2_with fail
      go_ret
      exact ⟨⟨-1, rfl, by omega, by omega, by rw [← HF.out]; rfl⟩, hU⟩

set_option maxRecDepth 20000 in
theorem containsFuncNd (P : Nd → Bool) (fn : FuncId) (caps : Array Value) (v : Value) (xs : List Nd) (w : World) (fp : List Nat) (hR : R_F1 fp w [v] xs)
    (hent : ∀ args w, Sem.run Tryz.prog (callFunc fn args) w = .ok (.enter fn args) w)
    (hby : ∀ wr x, x ∈ xs → Upd [] w wr → Calls Tryz.prog fn (#[.agg #[ei x.kd, ei x.vr, es x.lb, .bool x.nt]] ++ caps) wr fun e w' => e = .returned (.bool (P x)) ∧ Upd [] wr w') :
    Calls Tryz.prog 33 #[v, .func (.func fn) #[] caps] w fun e w' => e = .returned (.bool (xs.any P)) ∧ Upd [] w w' := by
  have S2 := Lib.hid (indexFuncNd P fn caps v xs w fp hR hent hby)
  clear hby hent hR
  go_enter Tryz.func33, Tryz.ntmps33
  go_wp2_with fail
  refine S2.out.mono ?_
  rintro e w1 ⟨⟨q, rfl, h1, h2, h3⟩, hu⟩
  have H3 := Lib.hid (And.intro h3 hu)
  clear h3 hu
  go_wp2_with fail
  go_ret
  exact ⟨by rw [← H3.out.1]; rfl, H3.out.2⟩

def modB (n : Nd) : Bool := !inB n.kd 0 5 || n.vr != 0 || !fieldsF n
/-- a modal formula is valid. -/
def modOk (f : List Nd) : Bool := inB f.length 1 200 && shapeF arI 1 f && !(f.any modB)

set_option maxRecDepth 20000 in
set_option maxHeartbeats 2000000 in
theorem modBI (x : Nd) (w : World) (hl : x.lb.length ≤ 2000000) (he : Env w) :
    Calls Tryz.prog 34 #[.agg #[ei x.kd, ei x.vr, es x.lb, .bool x.nt]] w fun e w' => e = .returned (.bool (modB x)) ∧ Upd [] w w' := by
  obtain ⟨x1, x2, x3, x4⟩ := x
  simp only at hl
  obtain ⟨wA, hwA⟩ : ∃ wA, wA = w.alloc (.cells #[ei x1, ei x2, es x3, .bool x4] 53) := ⟨_, rfl⟩
  have uA : Upd [] w wA := by rw [hwA]; exact (Upd.refl _ _).alloc _
  obtain ⟨TN, hTN⟩ : ∃ TN, TN = w.heap.size := ⟨_, rfl⟩
  have e0 : wA.cell? ⟨TN, 0, none⟩ = some (ei x1) := by rw [hwA]; exact cell_new _ _ _ _ hTN.symm 0 _ rfl
  have e1 : wA.cell? ⟨TN, 1, none⟩ = some (ei x2) := by rw [hwA]; exact cell_new _ _ _ _ hTN.symm 1 _ rfl
  have e2 : wA.cell? ⟨TN, 2, none⟩ = some (es x3) := by rw [hwA]; exact cell_new _ _ _ _ hTN.symm 2 _ rfl
  have e3 : wA.cell? ⟨TN, 3, none⟩ = some (.bool x4) := by rw [hwA]; exact cell_new _ _ _ _ hTN.symm 3 _ rfl
  have W1 := Lib.hid (fun W : World => within x1 0 5 W)
  have F1 := Lib.hid (fieldsI x1 x2 x3 x4 wA hl (he.upd uA))
  have HM := Lib.hid (show modB ⟨x1, x2, x3, x4⟩ = (!inB x1 0 5 || x2 != 0 || !fieldsF ⟨x1, x2, x3, x4⟩) from rfl)
  have HU := Lib.hid uA
  generalize modB ⟨x1, x2, x3, x4⟩ = Z at *
  generalize fieldsF ⟨x1, x2, x3, x4⟩ = q at *
  generalize inB x1 0 5 = p at *
  clear uA he
  cases p with
  | false =>
    have HE := Lib.hid (show Z = true by rw [HM.out]; rfl)
    clear HM F1
    go_enter Tryz.func34, Tryz.ntmps34
    go_upto_region 1 with (fail)
    rw [← hwA, ← hTN]
    clear hwA hTN
    go_wp2_with fail
    refine (W1.out _).mono ?_
    rintro e w1 ⟨rfl, rfl⟩
    go_wp2_with fail
    go_ret
    exact ⟨by rw [HE.out]; rfl, HU.out⟩
  | true =>
    by_cases h2 : x2 = 0
    · subst h2
      have HE := Lib.hid (show Z = !q by rw [HM.out]; simp)
      clear HM
      go_enter Tryz.func34, Tryz.ntmps34
      go_upto_region 1 with (fail)
      rw [← hwA, ← hTN]
      clear hwA hTN
      go_wp2_with fail
      refine (W1.out _).mono ?_
      rintro e w1 ⟨rfl, rfl⟩
      go_wp2_with fail
      refine F1.out.mono ?_
      rintro e w1 ⟨rfl, hu⟩
      have HU2 := Lib.hid (HU.out.trans hu)
      clear F1 hu
      go_wp2_with fail
      go_ret
      exact ⟨by rw [HE.out]; rfl, HU2.out⟩
    · have b2 : (x2 != 0) = true := by simpa using h2
      have HE := Lib.hid (show Z = true by rw [HM.out, b2]; rfl)
      clear HM F1
      go_enter Tryz.func34, Tryz.ntmps34
      go_upto_region 1 with (fail)
      rw [← hwA, ← hTN]
      clear hwA hTN
      go_wp2_with fail
      refine (W1.out _).mono ?_
      rintro e w1 ⟨rfl, rfl⟩
      go_wp2_with fail
      go_ret
      exact ⟨by rw [HE.out]; rfl, HU.out⟩

theorem enter_modB (args : Array Value) (w : World) : Sem.run Tryz.prog (callFunc 34 args) w = .ok (.enter 34 args) w := by go_simp

set_option maxRecDepth 20000 in
set_option maxHeartbeats 2000000 in
theorem validMI (v : Value) (f : List Nd) (w : World) (fp : List Nat) (hR : R_F1 fp w [v] f) (hlen : f.length ≤ 2000000) (hl : ∀ n ∈ f, n.lb.length ≤ 2000000) (he : Env w) :
    Calls Tryz.prog 17 #[v] w fun e w' => e = .returned (.bool (modOk f)) ∧ Upd [] w w' := by
  have W1 := Lib.hid (fun W : World => within (f.length : Int) 1 200 W)
  have S2 := Lib.hid (shapeI v f w fp hR hlen)
  have S3 := Lib.hid (fun W (hu : Upd [] w W) => containsFuncNd modB 34 #[] v f W fp (R_F1k.upd hR hu (by simp)) enter_modB (fun wr x hx hu2 => modBI x wr (hl x hx) (he.upd (hu.trans hu2))))
  have HM := Lib.hid (show modOk f = (inB f.length 1 200 && shapeF arI 1 f && !(f.any modB)) from rfl)
  obtain ⟨a, cap, rfl, -, h2, -⟩ := slF4_open hR
  unfold maxLen at h2
  have hent := enter_modB
  generalize modOk f = Z at *
  clear hR hl he
  cases hin : inB (f.length : Int) 1 200 with
  | false =>
    rw [hin] at W1
    have HE := Lib.hid (show Z = false by rw [HM.out, hin]; rfl)
    clear HM S2 S3 hin
    go_enter Tryz.func17, Tryz.ntmps17
    go_wp2_with fail
    refine (W1.out _).mono ?_
    rintro e w1 ⟨rfl, rfl⟩
    go_wp2_with fail
    go_ret
    exact ⟨by rw [HE.out]; rfl, Upd.refl _ _⟩
  | true =>
    rw [hin] at W1
    cases hs : shapeF arI 1 f with
    | false =>
      rw [hs] at S2
      have HE := Lib.hid (show Z = false by rw [HM.out, hs, hin]; rfl)
      clear HM S3 hin hs
      go_enter Tryz.func17, Tryz.ntmps17
      go_wp2_with fail
      refine (W1.out _).mono ?_
      rintro e w1 ⟨rfl, rfl⟩
      go_wp2_with fail
      refine S2.out.mono ?_
      rintro e w1 ⟨rfl, hu⟩
      have HU := Lib.hid hu
      clear S2 hu
      go_wp2_with fail
      go_ret
      exact ⟨by rw [HE.out]; rfl, HU.out⟩
    | true =>
      rw [hs] at S2
      have HE := Lib.hid (show Z = !(f.any modB) by rw [HM.out, hs, hin]; rfl)
      clear HM hin hs
      generalize f.any modB = q at *
      go_enter Tryz.func17, Tryz.ntmps17
      go_wp2_with fail
      refine (W1.out _).mono ?_
      rintro e w1 ⟨rfl, rfl⟩
      go_wp2_with fail
      refine S2.out.mono ?_
      rintro e w1 ⟨rfl, hu⟩
      have HU := Lib.hid hu
      have T3 := Lib.hid (S3.out w1 hu)
      clear S2 hu S3
      go_wp2_with fail
      refine T3.out.mono ?_
      rintro e w2 ⟨rfl, hu2⟩
      have HU2 := Lib.hid (HU.out.trans hu2)
      clear T3 hu2
      go_wp2_with fail
      go_ret
      exact ⟨by rw [HE.out]; rfl, HU2.out⟩

end Go.Proofs.YtdnjjanacbkijaaGreatDoor

/-
  SimplifyModal: what the program's call and the reference's call return.
-/
namespace Go.Proofs.YtdnjjanacbkijaaGreatDoor
open Go.RowKit

/-- what SimplifyModal returns. -/
def smF (f : List Nd) : List Nd × Int := if modOk f then (((forestT arN f).map fun x => flatT (simpX x)).headD [], 0) else ([], 1)
theorem mod_parts {f : List Nd} (h : modOk f = true) : f.length ≤ 200 ∧ shapeF arI 1 f = true ∧ ∀ n ∈ f, modN n := by
  unfold modOk at h
  simp only [Bool.and_eq_true, Bool.not_eq_true'] at h
  obtain ⟨⟨h1, h2⟩, h3⟩ := h
  have := inB_true h1
  refine ⟨by omega, h2, fun n hn => ?_⟩
  have h4 := List.any_eq_false.1 h3 n hn
  unfold modB at h4
  cases hk : inB n.kd 0 5 with
  | false => rw [hk] at h4; simp at h4
  | true =>
    have hk2 := inB_true hk
    cases hf : fieldsF n with
    | false => rw [hf] at h4; simp at h4
    | true =>
      rw [hk, hf] at h4
      have hv : n.vr = 0 := by simpa using h4
      unfold fieldsF at hf
      refine ⟨hk2, hv, fun hn4 => ?_, ?_⟩
      · have hm : modF n.kd = false := by unfold modF; simp; omega
        rw [hm] at hf
        simpa using hf
      · cases hm : modF n.kd with
        | true => rw [hm] at hf; exact patF_len (by simpa using hf)
        | false =>
          rw [hm] at hf
          have : n.lb = [] := by simp at hf; exact hf.1
          rw [this]; simp
theorem mod_tree {f : List Nd} (h : modOk f = true) : ∃ x : Tr Nd, forestT arN f = [x] ∧ okT arN x = true ∧ flatT x = f := by
  refine forestT_one arN_nonneg ?_
  rw [shapeG_F]; exact (mod_parts h).2.1
set_option maxRecDepth 20000 in
set_option maxHeartbeats 4000000 in
theorem smI (v : Value) (f : List Nd) (w : World) (fp : List Nat) (hR : R_F1 fp w [v] f) (hlen : f.length ≤ 2000000) (hl : ∀ n ∈ f, n.lb.length ≤ 2000000) (he : Env w) :
    Calls Tryz.prog 8 #[v] w fun e w' => (∃ v', e = .returned (.tuple #[v', .int .i64 (smF f).2]) ∧ New R_F1 w w' v' (smF f).1) ∧ Upd [] w w' := by
  have S1 := Lib.hid (validMI v f w fp hR hlen hl he)
  have HR := Lib.hid (fun W (hu : Upd [] w W) => R_F1k.upd hR hu (by simp))
  clear hR hl he
  cases hok : modOk f with
  | false =>
    rw [hok] at S1
    have HE := Lib.hid (show smF f = ([], 1) by unfold smF; rw [hok]; rfl)
    rw [HE.out]
    clear hok HR HE
    go_enter Tryz.func8, Tryz.ntmps8
    go_wp2_with fail
    refine S1.out.mono ?_
    rintro e w1 ⟨rfl, hu⟩
    have HU := Lib.hid hu
    clear S1 hu
    go_wp2_with fail
    go_ret2
    exact ⟨⟨_, rfl, New.nilF _ _ _ _⟩, HU.out⟩
  | true =>
    obtain ⟨x, hx, hokx, hfx⟩ := mod_tree hok
    have hln := (mod_parts hok).1
    rw [hok] at S1
    have HE := Lib.hid (show smF f = (flatT (simpX x), 0) by unfold smF; rw [hok, hx]; rfl)
    rw [HE.out]
    have hsl := (simpX_good (Q := fun _ => True) x hokx (fun _ _ => trivial)).2.2
    rw [hfx] at hsl
    have S2 := Lib.hid (fun W (hu : Upd [] w W) => formOf x W v fp hokx (by rw [hfx]; omega) (by rw [hfx]; exact HR.out W hu))
    have S3 := Lib.hid (fun W v' fp' (hr : R_X fp' W [v'] x) => simpI _ x W v' fp' (Nat.le_refl _) (by rw [hfx]; omega) hokx hr)
    have S4 := Lib.hid (fun W v' fp' (hr : R_X fp' W [v'] (simpX x)) => listX (simpX x) W v' fp' (by omega) hr)
    clear hok hx hokx hfx HR HE hsl
    go_enter Tryz.func8, Tryz.ntmps8
    go_wp2_with fail
    refine S1.out.mono ?_
    rintro e w1 ⟨rfl, hu⟩
    have T2 := Lib.hid (S2.out w1 hu)
    have HU := Lib.hid hu
    clear S1 S2 hu
    go_wp2_with fail
    refine T2.out.mono ?_
    rintro e w2 ⟨⟨v', rfl, fp', hr, -, -⟩, hu2⟩
    have T3 := Lib.hid (S3.out w2 v' fp' hr)
    have HU2 := Lib.hid (HU.out.trans hu2)
    obtain ⟨pb, rfl⟩ := R_T_form hr
    clear T2 S3 hu2 hr HU
    go_wp2_with fail
    refine T3.out.mono ?_
    rintro e w3 ⟨⟨v3, fp3, rfl, hr3, -⟩, hu3⟩
    have T4 := Lib.hid (S4.out w3 v3 fp3 hr3)
    have HU3 := Lib.hid (HU2.out.trans hu3)
    obtain ⟨pb3, rfl⟩ := R_T_form hr3
    clear T3 S4 hu3 hr3 HU2
    go_wp2_with fail
    refine T4.out.mono ?_
    rintro e w4 ⟨⟨v4, rfl, hn4⟩, hu4⟩
    have HU4 := Lib.hid (HU3.out.trans hu4)
    have HN := Lib.hid (hn4.mono (w0 := w) HU3.out.size)
    obtain ⟨a4, c4, rfl⟩ := New.form hn4
    clear T4 hu4 hn4 HU3
    go_wp2_with fail
    go_ret2
    exact ⟨⟨_, rfl, HN.out⟩, HU4.out⟩

end Go.Proofs.YtdnjjanacbkijaaGreatDoor

/-
  Modal formulas, the program: what a modality selects, the dual, the depth.
-/
namespace Go.Proofs.YtdnjjanacbkijaaGreatDoor
open Go.RowKit

/-- the name of a label. -/
def nmLab (l : List UInt8) : List UInt8 := ((readF l).getD ([], [])).1
/-- whether a modality selects a label. -/
def selF (n : Nd) (l : List UInt8) : Bool := (n.lb == [] || (n.lb == l || (Lib.hasSuffix n.lb [42] && nmLab l == Lib.trimSuffix n.lb [42]))) != n.nt
/-- .. the label with a number. -/
def selS (S : Sys) (n : Nd) (i : Int) : Bool := selF n (S.labs.getD i.toNat [])
theorem selS_ok (S : Sys) : SelOk (selS S) := fun _ _ => rfl

set_option maxRecDepth 20000 in
set_option maxHeartbeats 4000000 in
theorem selectsI (n : Nd) (l : List UInt8) (w : World) (hn : n.lb.length ≤ 2000000) (hl : l.length ≤ 2000000) (he : Env w) :
    Calls Tryz.prog 64 #[.agg #[ei n.kd, ei n.vr, es n.lb, .bool n.nt], es l] w fun e w' => e = .returned (.bool (selF n l)) ∧ Upd [] w w' := by
  obtain ⟨k, v, s, nt⟩ := n
  simp only at hn
  have S0 := Lib.hid (fun W => Tryz.strings_CutSuffix ⟨s.toArray⟩ ⟨#[42]⟩ W (by have : (⟨s.toArray⟩ : ByteArray).size = s.length := rfl; omega))
  have S1 := Lib.hid (fun W (hu : Upd [] w W) => labelNameI l W hl (he.upd hu))
  have HR := Lib.hid (show selF ⟨k, v, s, nt⟩ l = ((s == [] || (s == l || (Lib.hasSuffix s [42] && nmLab l == Lib.trimSuffix s [42]))) != nt) from rfl)
  have HNM := Lib.hid (show ((readF l).getD ([], [])).1 = nmLab l from rfl)
  obtain ⟨p1, hp1⟩ : ∃ q, (s == []) = q := ⟨_, rfl⟩
  obtain ⟨p2, hp2⟩ : ∃ q, (s == l) = q := ⟨_, rfl⟩
  generalize Lib.hasSuffix s [42] = p3 at *
  generalize Lib.trimSuffix s [42] = T at *
  rw [hp1, hp2] at HR
  clear he
  go_enter Tryz.func64, Tryz.ntmps64
  go_wp2_with fail
  refine (S0.out _).mono ?_
  rintro _ w1 ⟨rfl, rfl⟩
  clear S0
  cases p1 with
  | true =>
    go_wp2_with fail
    go_ret
    exact ⟨by rw [HR.out]; cases nt <;> rfl, (Upd.refl _ _).alloc _⟩
  | false =>
    cases p2 with
    | true =>
      go_wp2_with fail
      go_ret
      exact ⟨by rw [HR.out]; cases nt <;> rfl, (Upd.refl _ _).alloc _⟩
    | false =>
      cases p3 with
      | false =>
        go_wp2_with fail
        go_ret
        exact ⟨by rw [HR.out]; cases nt <;> rfl, (Upd.refl _ _).alloc _⟩
      | true =>
        have S2 := Lib.hid (S1.out _ ((Upd.refl [] w).alloc (.cells #[ei k, ei v, es s, .bool nt] 53)))
        rw [HNM.out] at S2
        have u0 : Upd [] w (w.alloc (.cells #[ei k, ei v, es s, .bool nt] 53)) := (Upd.refl _ _).alloc _
        have y3 := cell_new w #[ei k, ei v, es s, .bool nt] 53 w.heap.size rfl 3 _ rfl
        obtain ⟨p4, hp4⟩ : ∃ q, (nmLab l == T) = q := ⟨_, rfl⟩
        rw [hp4] at HR
        clear S1
        go_wp2_with fail
        refine S2.out.mono ?_
        rintro _ w2 ⟨rfl, hu2⟩
        have z3 := hu2.keep y3
        have HU2 := Lib.hid (u0.trans hu2)
        clear S2 hu2 u0
        go_wp2_with fail
        go_ret
        exact ⟨by rw [HR.out]; cases nt <;> cases p4 <;> rfl, HU2.out⟩

theorem Flat.ofF1 {fp : List Nat} {w : World} {v : Value} {xs : List Nd} (h : R_F1 fp w [v] xs) : Flat fp w v 4 xs.length (xs.flatMap encN) := by
  obtain ⟨v', hv, hF⟩ := h
  cases hv
  exact hF
theorem one_F1 (xs : List Nd) : ∀ u ∈ xs.flatMap encN, u.oneCell' = true := by
  intro u hu
  obtain ⟨t, -, h⟩ := List.mem_flatMap.1 hu
  simp at h
  rcases h with rfl | rfl | rfl | rfl <;> rfl

set_option maxRecDepth 20000 in
set_option maxHeartbeats 1000000 in
theorem cloneNI (v : Value) (xs : List Nd) (w : World) (fp : List Nat) (hl : xs.length ≤ 1000000) (h0 : 0 < xs.length) (hR : R_F1 fp w [v] xs) :
    Calls Tryz.prog 36 #[v] w fun r w' => (∃ v', r = .returned v' ∧ w'.ownsRow w.heap.size 53 4 v' xs.length (xs.flatMap encN)) ∧ Upd [] w w' := by
  obtain ⟨i0, hi, hz0, hz1, hz2⟩ := info_parts Tryz.infoNd
  have hown : (w.alloc (.cells #[] 53)).ownsRow w.heap.size 53 4 (.slice (some ⟨w.heap.size, 0, none⟩) 0 0) 0 [] := by
    simpa using World.ownsRow_lit (base := w.heap.size) (e := 53) (size := 4) w #[] 0 (Nat.le_refl _) (by simp [maxLen]) (by simp)
  have HF := Lib.hid (Flat.ofF1 (R_F1k.upd hR ((Upd.refl [] w).alloc (.cells #[] 53)) (by simp)))
  obtain ⟨a, cap, rfl, hcl, hcm, hce⟩ := slF4_open hR
  clear hR
  obtain ⟨b, off, rfl, -⟩ := hce 0 h0
  clear hce
  have hq := fun (w : World) (a : Option Addr) (n c : Nat) => Lib.run_eql_slice_nil (P := Tryz.prog) w 29 53 a n c 0 0 Tryz.underlying29
  go_enter Tryz.func36, Tryz.ntmps36
  go_wp2_with (first
    | (at_builtin; refine wpList_append_flat rfl _ _ 29 rfl w.heap.size 53 i0 (.agg #[.int .i64 0, .int .i64 0, .string ⟨#[]⟩, .bool false]) 4 40 Tryz.underlying29 hi hz0 hz1 hz2 rfl (by decide) _ _ _ rfl hown _ xs.length _ rfl _ HF.out (one_F1 xs) (by unfold maxLen; omega) (by omega) (by simp) ?_)
    | fail)
  intro v2 w2 hown2 hg2 ht2
  have hU : Upd [] w w2 := ((Upd.refl [] w).alloc _).grown hg2 (fun k hk => Or.inl (hown.lt k hk).1)
  have HE := Lib.hid (And.intro (show w2.ownsRow w.heap.size 53 4 v2 xs.length (xs.flatMap encN) by simpa using hown2) hU)
  clear hown2 hg2 ht2 hown hU
  go_wp2_with fail
  go_ret
  exact ⟨⟨_, rfl, HE.out.1⟩, HE.out.2⟩

set_option maxRecDepth 20000 in
set_option maxHeartbeats 1000000 in
theorem dualKindI (k : Int) (w : World) (h0 : 0 ≤ k) (h5 : k ≤ 5) : Calls Tryz.prog 37 #[.int .i64 k] w fun e w' => e = .returned (.int .i64 (dkF k)) ∧ w = w' := by
  rcases (by omega : k = 0 ∨ k = 1 ∨ k = 2 ∨ k = 3 ∨ k = 4 ∨ k = 5) with h | h | h | h | h | h <;> subst h
  all_goals
    go_enter Tryz.func37, Tryz.ntmps37
    go_wp2_with fail
    go_ret
    exact ⟨rfl, rfl⟩

theorem dpTs_take (xs : List (Tr Nd)) (k : Nat) (h : k < xs.length) : dpTs (xs.take (k + 1)) = max (dpTs (xs.take k)) (dpT xs[k]) := by
  induction xs generalizing k with
  | nil => simp at h
  | cons x xs ih =>
    cases k with
    | zero => simp [dpTs]
    | succ k =>
      simp only [List.length_cons] at h
      rw [List.take_succ_cons, List.take_succ_cons, dpTs, dpTs, ih k (by omega), List.getElem_cons_succ]
      omega
mutual
theorem dpT_le : ∀ x : Tr Nd, dpT x ≤ (flatT x).length
  | .mk t args => by
    have := dpTs_le args
    rw [dpT, flatT, List.length_cons]
    split <;> omega
theorem dpTs_le : ∀ xs : List (Tr Nd), dpTs xs ≤ (flatTs xs).length
  | [] => Nat.le_refl _
  | x :: xs => by
    have h1 := dpT_le x
    have h2 := dpTs_le xs
    rw [dpTs, flatTs, List.length_append]
    omega
end

set_option maxRecDepth 20000 in
set_option maxHeartbeats 4000000 in
theorem depthI (n : Nat) : ∀ (x : Tr Nd) (w : World) (v : Value) (fp : List Nat), (flatT x).length ≤ n → (flatT x).length ≤ 1000 → R_X fp w [v] x →
    Calls Tryz.prog 25 #[v] w fun e w' => e = .returned (.int .i64 (dpT x)) ∧ Upd [] w w' := by
  induction n with
  | zero => intro x w v fp hn; have := flatT_pos x; omega
  | succ n ih =>
    intro x w v fp hn h1000 hR
    obtain ⟨t, args⟩ := x
    obtain ⟨b0, s, fa, rfl, rfl, c0, c1, c2, c3, c4, hargs⟩ := R_X_open hR
    obtain ⟨a, cap, rfl, h1, h2, hc⟩ := slP_open hargs
    unfold maxLen at h2
    simp only [flatT, List.length_cons] at hn h1000
    have HDP := Lib.hid (show dpT (.mk t args) = dpTs args + if modF t.kd then 1 else 0 from rfl)
    have HLE := Lib.hid (fun k => show dpTs (args.take k) ≤ 1000 from by
      have h3 := dpTs_le (args.take k)
      have h4 := flatTs_take_le args k
      omega)
    have HTK := Lib.hid (fun k (h : k < args.length) => dpTs_take args k h)
    have HIH := Lib.hid ih
    have HC := Lib.hid (fun W (hu : Upd [] w W) k (h : k < args.length) => show ∃ b off u f, a = some ⟨b, off, none⟩ ∧ W.cell? ⟨b, off + k, none⟩ = some u ∧ R_X f W [u] args[k] ∧ (flatT args[k]).length ≤ n ∧ (flatT args[k]).length ≤ 1000 from by
      obtain ⟨b, off, u, f, e, -, -, hcell, -, hr⟩ := hc k h
      have h5 := flatTs_take args k h
      have h6 := flatTs_take_le args (k + 1)
      rw [h5, List.length_append] at h6
      exact ⟨b, off, u, f, e, hu.keep hcell, R_Xk.upd hr hu (by simp), by omega, by omega⟩)
    obtain ⟨t1, t2, t3, t4⟩ := t
    simp only at c0 c1 c2 c3 HDP
    have MO := Lib.hid (fun W => isModI t1 t2 t3 t4 W)
    have HK := Lib.hid (fun W (hu : Upd [] w W) => And.intro (hu.keep c0) (And.intro (hu.keep c1) (And.intro (hu.keep c2) (hu.keep c3))))
    clear hR ih hc hargs c0 c1 c2 c3
    go_enter Tryz.func25, Tryz.ntmps25
    go_wp2_with fail
    go_loopw [3, 11] (fun dv iv wr => ∃ (k d : Nat), k ≤ args.length ∧ iv = .int .i64 k ∧ dv = .int .i64 d ∧ Hid (d = dpTs (args.take k)) ∧ Hid (Upd [] w wr)) (fun _ iv _ => args.length - (intOf iv).toNat)
    case atStart => exact ⟨0, 0, Nat.zero_le _, rfl, rfl, Lib.hid (by simp [dpTs]), Lib.hid (Upd.refl _ _)⟩
    case round =>
      obtain ⟨wo, rfl⟩ : ∃ wo : World, wo = wr := ⟨_, rfl⟩
      obtain ⟨k, d, hk, rfl, rfl, HD, HU⟩ := hrel
      have hd1 : d ≤ 1000 := by rw [HD.out]; exact HLE.out k
      by_cases hlt : k < args.length
      · obtain ⟨b, off, u, f, rfl, hcell, hr, hfl, hfk⟩ := HC.out wo HU.out k hlt
        have S1 := Lib.hid (HIH.out args[k] wo u f hfl hfk hr)
        have HT := Lib.hid (HTK.out k hlt)
        generalize args[k] = y at *
        obtain ⟨⟨q1, q2, q3, q4⟩, qa⟩ := y
        obtain ⟨ub, us, uf, rfl, -⟩ := R_X_open hr
        clear hr
        go_wp2_with fail
        refine S1.out.mono ?_
        rintro _ w1 ⟨rfl, hu1⟩
        have HU1 := Lib.hid (HU.out.trans hu1)
        obtain ⟨D, hD⟩ : ∃ D : Nat, dpT (.mk ⟨q1, q2, q3, q4⟩ qa) = D := ⟨_, rfl⟩
        rw [hD] at HT ⊢
        clear S1 hu1 HU hD
        by_cases hle : (d : Int) ≤ (D : Int)
        · go_wp2_with fail
          go_roundw
          case rel => exact ⟨k + 1, D, by omega, by go_num, by first | rfl | (go_num), Lib.hid (by rw [HT.out, ← HD.out]; omega), HU1⟩
          case measure => simp [intOf]; omega
        · go_wp2_with fail
          go_roundw
          case rel => exact ⟨k + 1, d, by omega, by go_num, by first | rfl | (go_num), Lib.hid (by rw [HT.out, ← HD.out]; omega), HU1⟩
          case measure => simp [intOf]; omega
      · have HDD := Lib.hid (show d = dpTs args from by rw [HD.out, List.take_of_length_le (by omega)])
        obtain ⟨e0, e1, e2, e3⟩ := HK.out wo HU.out
        obtain ⟨mq, hmq⟩ : ∃ q, modF t1 = q := ⟨_, rfl⟩
        have hki : ¬ (k : Int) < (args.length : Int) := by omega
        clear HD
        go_wp2_with fail
        refine (MO.out _).mono ?_
        rintro _ w1 ⟨rfl, hu1⟩
        rw [hmq]
        rw [hmq] at HDP
        have HU1 := Lib.hid (HU.out.trans hu1)
        clear MO hu1 HU hmq
        cases mq with
        | true =>
          go_wp2_with fail
          go_ret
          exact ⟨by rw [HDP.out, ← HDD.out]; rfl, HU1.out⟩
        | false =>
          go_wp2_with fail
          go_ret
          exact ⟨by rw [HDP.out, ← HDD.out]; rfl, HU1.out⟩

end Go.Proofs.YtdnjjanacbkijaaGreatDoor

/-
  slices.Repeat of one truth.
-/
namespace Go.Proofs.YtdnjjanacbkijaaGreatDoor
open Go.RowKit

theorem Tryz.infoBo : (Tryz.prog.info? 4).map (fun i => (i.zero, i.size, i.bytes)) = some (some (.bool false), 1, 1) := by kernel_rfl
/-- a row of truths whose first k are q. -/
def mixB (q : Bool) (m k : Nat) : List Value := List.replicate k (Value.bool q) ++ List.replicate (m - k) (Value.bool false)
theorem mixB_len (q : Bool) (m k : Nat) (h : k ≤ m) : (mixB q m k).length = m := by unfold mixB; simp; omega
theorem mixB_get (q : Bool) (m k j : Nat) (h : j < k) : (mixB q m k)[j]? = some (.bool q) := by
  unfold mixB
  rw [List.getElem?_append_left (by simpa using h), List.getElem?_replicate, if_pos h]
theorem mixB_splice (q : Bool) (m k c : Nat) (h : k + c ≤ m) : splice (mixB q m k) k (List.replicate c (Value.bool q)) = mixB q m (k + c) := by
  unfold splice mixB
  rw [List.length_replicate, List.take_append_of_le_length (by simp), List.take_replicate, List.drop_append, List.drop_replicate, List.drop_replicate, List.length_replicate, Nat.min_self]
  rw [show k - (k + c) = 0 by omega, show k + c - k = c by omega, List.replicate_zero, List.nil_append]
  rw [← List.append_assoc, List.replicate_append_replicate, Nat.sub_sub]
theorem mixB_zero (q : Bool) (m : Nat) : List.replicate m (Value.bool false) = mixB q m 0 := by unfold mixB; simp
theorem mixB_all (q : Bool) (m : Nat) : mixB q m m = List.replicate m (Value.bool q) := by unfold mixB; simp

set_option maxRecDepth 20000 in
set_option maxHeartbeats 4000000 in
theorem repeatB (q : Bool) (m : Nat) (b1 : Nat) (w : World) (hm1 : 1 ≤ m) (hm : m ≤ 40) (h : w.cell? ⟨b1, 0, none⟩ = some (.bool q)) :
    Calls Tryz.prog 47 #[.slice (some ⟨b1, 0, none⟩) 1 1, .int .i64 m] w fun e w' => (∃ r, e = .returned (.slice (some ⟨r, 0, none⟩) m m) ∧ BlkB r w' (List.replicate m q) ∧ w.heap.size ≤ r) ∧ Upd [] w w' := by
  obtain ⟨i1, ki, kz0, kz1, kz2⟩ := info_parts Tryz.infoBo
  have hm2 : i1.bytes * m ≤ 281474976710656 := by rw [kz2]; omega
  have S1 := Lib.hid (fun W => Tryz.bits_Mul 1 m (by omega) (by omega) W)
  rw [Nat.one_mul, Nat.div_eq_of_lt (by omega), Nat.mod_eq_of_lt (by omega)] at S1
  have hmi : ¬ ((m : Int) < 0) := by omega
  have hml : ¬ (9223372036854775807 < (m : Int)) := by omega
  have hw1 : IntKind.u64.wrap (m : Int) = (m : Int) := by rw [IntKind.wrap_u64]; omega
  have hw2 : IntKind.i64.wrap (m : Int) = (m : Int) := by rw [IntKind.wrap_i64]; omega
  go_enter Tryz.func47, Tryz.ntmps47
  go_wp2_with fail
  refine (S1.out _).mono ?_
  rintro e w1 ⟨rfl, rfl⟩
  clear S1
  go_upto_region 7 with (first
    | (at_make; refine wpList_make_full _ rfl _ _ 56 rfl w1.heap.size 4 i1 (.bool false) 1 Tryz.underlying56 ki kz0 kz1 .i64 .i64 _ _ m rfl rfl rfl rfl hm2 (by unfold maxLen; omega) (Nat.le_refl _) ?_; intro w2 hrow hgrow)
    | fail)
  rw [made_one _ rfl] at hrow
  have hbk := BlkB.ofRow hrow
  have hU : Upd [] w1 w2 := (Upd.refl _ _).grown hgrow (by simp)
  have hcp := hU.keep h
  have hsz : (Tryz.prog.info? 4).map (·.size) = some 1 := by kernel_rfl
  obtain ⟨r, hr⟩ : ∃ r, r = w1.heap.size := ⟨_, rfl⟩
  have hrB := Lib.hid (show w1.heap.size ≤ r by omega)
  rw [← hr] at hbk ⊢
  have HB := Lib.hid hbk
  have HBL := Lib.hid hU.below
  have HSP := Lib.hid (fun k c (h : k + c ≤ m) => mixB_splice q m k c h)
  have hg2 : w2.heap[r]? = some (.cells (mixB q m 0).toArray 4 (0, 0)) := by
    have := HB.out
    unfold BlkB at this
    rw [this, List.map_replicate, mixB_zero q]
  have hml0 := mixB_len q m 0 (by omega)
  clear hrow hgrow hbk hU hr h
  go_wp2_with (first
    | (refine wpList_copy_splice rfl _ _ 56 56 rfl 4 Tryz.underlying56 hsz _ _ m m 1 1 rfl rfl r 0 (mixB q m 0) 4 hg2 [.bool q] (show 1 = min 1 m by omega) (fun _ => ⟨rfl, _, rfl, fun j v hj => by
        cases j with
        | zero => simp at hj; subst hj; exact hcp
        | succ j => simp at hj⟩) (by rw [hml0]; simp; omega) (by simp [Value.oneCell']) w1.heap.size w1 HBL.out hrB.out ?_; intro w3 hg3 hb3)
    | fail)
  have HB3 := Lib.hid (show w3.heap[r]? = some (.cells (mixB q m 1).toArray 4 (0, 0)) by
    have h1 := hg3.out
    have h2 := HSP.out 0 1 (by omega)
    simp only [List.replicate_one] at h2
    rw [h2] at h1
    exact h1)
  have HU3 := Lib.hid hb3
  clear hg3 hb3 hg2 hcp HB HBL hml0
  go_wp2_with fail
  go_loopw [8] (fun kv wr => ∃ k : Nat, 1 ≤ k ∧ k ≤ m ∧ kv = .int .i64 k ∧ Hid (wr.heap[r]? = some (.cells (mixB q m k).toArray 4 (0, 0))) ∧ Hid (Below w1.heap.size w1 wr)) (fun kv _ => m - (intOf kv).toNat)
  case atStart => exact ⟨1, Nat.le_refl _, hm1, rfl, HB3, HU3⟩
  case round =>
    clear HB3 HU3
    obtain ⟨wo, rfl⟩ : ∃ wo : World, wo = wr := ⟨_, rfl⟩
    obtain ⟨k, hk1, hk2, rfl, HB, HU⟩ := hrel
    by_cases hlt : k < m
    · have hki : (k : Int) < (m : Int) := by omega
      have hk0 : (0 : Int) ≤ (k : Int) := by omega
      have hkm : (k : Int) ≤ (m : Int) := by omega
      obtain ⟨c, hc⟩ : ∃ c, c = min k (m - k) := ⟨_, rfl⟩
      have hne : ¬ (m = k) := by omega
      have hck : c ≤ k := by omega
      have HSRC := Lib.hid (show ∀ j v, (List.replicate c (Value.bool q))[j]? = some v → wo.drew.cell? (Addr.add ⟨r, 0, none⟩ j) = some v by
        intro j v hj
        rw [List.getElem?_replicate] at hj
        split at hj
        · cases hj
          rename_i hjc
          have hl : j < k := by omega
          have hg := mixB_get q m k j hl
          show wo.cell? (Addr.add ⟨r, 0, none⟩ j) = _
          rw [addr_add, Nat.zero_add]
          simp only [World.cell?, HB.out]
          simpa using hg
        · cases hj)
      have HBW := Lib.hid (show Below w1.heap.size w1 wo.drew from ⟨HU.out.os, HU.out.tape, HU.out.output, HU.out.size, HU.out.block⟩)
      have HGW := Lib.hid (show wo.drew.heap[r]? = some (.cells (mixB q m k).toArray 4 (0, 0)) from HB.out)
      have HML := Lib.hid (mixB_len q m k hk2)
      have HC := Lib.hid hc
      have hc1 : c ≤ m - k := by omega
      have hc2 : k + c ≤ m := by omega
      have hc3 : 1 ≤ c := by omega
      clear hc
      go_wp2_with fail
      go_region_law ((refine step_copy_splice rfl (.tmp 41) (.tmp 44) 56 56 rfl 4 Tryz.underlying56 hsz (some ⟨r, k, none⟩) (some ⟨r, 0, none⟩) (m - k) (m - k) k m (by go_simp) (by go_simp) r k (mixB q m k) 4 HGW.out (List.replicate c (Value.bool q)) (by rw [List.length_replicate]; exact HC.out) (fun _ => ⟨rfl, _, rfl, HSRC.out⟩) (by rw [HML.out]; simp; omega) (by simp [Value.oneCell']) w1.heap.size w1 HBW.out hrB.out ?_; intro w4 hg4 hb4))
      all_goals
        have HB4 := Lib.hid (show w4.heap[r]? = some (.cells (mixB q m (k + c)).toArray 4 (0, 0)) by
          have h1 := hg4.out
          rw [HSP.out k c hc2] at h1
          exact h1)
        have HU4 := Lib.hid hb4
        clear hg4 hb4 HSRC HBW HGW HC HB HU
        have hkc : IntKind.i64.wrap ((k : Int) + (c : Int)) = ((k + c : Nat) : Int) := by rw [IntKind.wrap_i64]; omega
        rw [hkc]
        go_simp
        go_roundw
        case rel => exact ⟨_, _, _, _, _, _, _, _, _, _, _, _, _, _, ⟨k + c, by omega, by omega, rfl, HB4, HU4⟩, rfl⟩
        case measure => simp [intOf]; omega
    · obtain rfl : k = m := by omega
      have hkk : ¬ ((k : Int) < (k : Int)) := by omega
      go_wp2_with fail
      go_ret
      exact ⟨⟨r, rfl, by have := HB.out; rw [mixB_all q] at this; unfold BlkB; rw [this, List.map_replicate], hrB.out⟩, Upd.ofBelow HU.out⟩


end Go.Proofs.YtdnjjanacbkijaaGreatDoor

/-
  Modal formulas, the program: where a modality holds.
-/
namespace Go.Proofs.YtdnjjanacbkijaaGreatDoor
open Go.RowKit

/-- the truths of states: b where an edge that counts leaves, else not b. -/
def stL (m : Nat) (b : Bool) (P : Ed → Bool) (l : List Ed) : List Bool := (List.range m).map fun s : Nat => if l.any (fun e => e.fr == (s : Int) && P e) then b else !b
theorem stL_len (m : Nat) (b : Bool) (P : Ed → Bool) (l : List Ed) : (stL m b P l).length = m := by simp [stL]
theorem stL_nil (m : Nat) (b : Bool) (P : Ed → Bool) : stL m b P [] = List.replicate m (!b) := by
  unfold stL
  apply List.ext_getElem (by simp)
  intro i h1 h2
  simp
theorem stL_step (m : Nat) (b : Bool) (P : Ed → Bool) (l : List Ed) (e : Ed) (h0 : 0 ≤ e.fr) : stL m b P (l ++ [e]) = if P e then (stL m b P l).set e.fr.toNat b else stL m b P l := by
  have h : ∀ s : Nat, (l ++ [e]).any (fun e => e.fr == (s : Int) && P e) = (l.any (fun e => e.fr == (s : Int) && P e) || (e.fr == (s : Int) && P e)) := fun s => by simp [List.any_append]
  split
  · rename_i hp
    apply List.ext_getElem (by simp [stL])
    intro i h1 h2
    simp only [stL, List.getElem_map, List.getElem_range, h, hp, Bool.and_true]
    by_cases hi : e.fr.toNat = i
    · subst hi
      have : (e.fr == ((e.fr.toNat : Nat) : Int)) = true := by simp; omega
      rw [this]
      simp
    · have : (e.fr == (i : Int)) = false := beq_eq_false_iff_ne.2 (by omega)
      rw [this, List.getElem_set_ne hi]
      simp
  · rename_i hp
    have hp' : P e = false := by simpa using hp
    unfold stL
    apply List.map_congr_left
    intro s _
    rw [h s, hp']
    simp

/-- which edges count for a modality, by where its item holds. -/
def cntE (S : Sys) (n : Nd) (L : List Bool) (e : Ed) : Bool := selS S n e.lb && (L.getD e.to.toNat false == (n.kd == 4))

set_option maxRecDepth 20000 in
set_option maxHeartbeats 8000000 in
theorem modalityI (S : Sys) (n : Nd) (L : List Bool) (m bo : Nat) (v1 v2 : Value) (w : World) (f1 f2 : List Nat) (h1 : R_S1 f1 w [v1] S.labs) (h2 : R_E1 f2 w [v2] S.eds) (hst : S.st = m) (hm : 1 ≤ m ∧ m ≤ 40)
    (hE : S.eds.length ≤ 300) (hin : ∀ e ∈ S.eds, (0 ≤ e.fr ∧ e.fr < m) ∧ (0 ≤ e.to ∧ e.to < m) ∧ 0 ≤ e.lb ∧ e.lb < S.labs.length) (hlab : ∀ l ∈ S.labs, l.length ≤ 1000) (hn : n.lb.length ≤ 1000) (hk : n.kd = 4 ∨ n.kd = 5)
    (hB : BlkB bo w L) (hL : L.length = m) (he : Env w) :
    Calls Tryz.prog 46 #[.agg #[ei S.st, ei S.ini, v1, v2], .agg #[ei n.kd, ei n.vr, es n.lb, .bool n.nt], .slice (some ⟨bo, 0, none⟩) m m] w fun e w' =>
      (∃ r, e = .returned (.slice (some ⟨r, 0, none⟩) m m) ∧ BlkB r w' (stL m (n.kd == 4) (cntE S n L) S.eds) ∧ w.heap.size ≤ r) ∧ Upd [] w w' := by
  obtain ⟨a1, c1, rfl, l11, l12, hc1⟩ := slF1_open h1
  obtain ⟨a2, c2, rfl, l21, l22, hc2⟩ := slF3_open h2
  unfold maxLen at l12 l22
  obtain ⟨b, hb4, hb5⟩ : ∃ b, (n.kd == 4) = b ∧ (n.kd == 5) = !b := by
    rcases hk with h | h <;> rw [h]
    · exact ⟨true, rfl, rfl⟩
    · exact ⟨false, rfl, rfl⟩
  have HR := Lib.hid (fun W c (h : W.cell? ⟨w.heap.size + 2, 0, none⟩ = some (.bool c)) => repeatB c m (w.heap.size + 2) W hm.1 hm.2 h)
  have HC := Lib.hid (fun i (hi : i < S.eds.length) => show ∃ (b3 o3 b1 o1 : Nat) (x1 x3 : Int) (k : Nat) (l : List UInt8) (T : Nat) (q : Bool), S.eds[i] = ⟨x1, k, x3⟩ ∧ a2 = some ⟨b3, o3, none⟩ ∧ w.cell? ⟨b3, o3 + i * 3, none⟩ = some (ei x1) ∧ w.cell? ⟨b3, o3 + i * 3 + 1, none⟩ = some (ei (k : Int)) ∧ w.cell? ⟨b3, o3 + i * 3 + 2, none⟩ = some (ei x3) ∧
      a1 = some ⟨b1, o1, none⟩ ∧ w.cell? ⟨b1, o1 + k, none⟩ = some (es l) ∧ k < S.labs.length ∧ l.length ≤ 1000 ∧ 0 ≤ x1 ∧ x1 < m ∧ x3 = (T : Int) ∧ T < m ∧ w.cell? ⟨bo, T, none⟩ = some (.bool q) ∧ cntE S n L S.eds[i] = (selF n l && (q == b)) from by
    obtain ⟨p1, p2, p3⟩ := hin _ (List.getElem_mem hi)
    obtain ⟨b3, o3, e3, -, -, q1, q2, q3⟩ := hc2 i hi
    obtain ⟨k, hkk⟩ : ∃ k : Nat, S.eds[i].lb = k := ⟨S.eds[i].lb.toNat, by omega⟩
    have hkl : k < S.labs.length := by omega
    obtain ⟨b1, o1, e1, -, -, q4⟩ := hc1 k hkl
    obtain ⟨T, hT⟩ : ∃ T : Nat, S.eds[i].to = T := ⟨S.eds[i].to.toNat, by omega⟩
    have hTm : T < L.length := by omega
    refine ⟨b3, o3, b1, o1, S.eds[i].fr, S.eds[i].to, k, S.labs[k], T, L[T], ?_, e3, q1, by rw [← hkk]; exact q2, q3, e1, q4, hkl, hlab _ (List.getElem_mem hkl), p1.1, p1.2, hT, by omega, hB.cell T hTm, ?_⟩
    · rw [← hkk]
    · unfold cntE selS
      rw [hkk, hT, hb4, Int.toNat_natCast, Int.toNat_natCast, List.getD_eq_getElem?_getD, List.getElem?_eq_getElem hkl, List.getD_eq_getElem?_getD, List.getElem?_eq_getElem hTm]
      rfl)
  have HSL := Lib.hid (fun (l : List UInt8) W (hl : l.length ≤ 1000) (hu : Upd [] w W) => selectsI n l W (by omega) (by omega) (he.upd hu))
  have HTK := Lib.hid (fun i (hi : i < S.eds.length) => show stL m b (cntE S n L) (S.eds.take (i + 1)) = if cntE S n L S.eds[i] then (stL m b (cntE S n L) (S.eds.take i)).set S.eds[i].fr.toNat b else stL m b (cntE S n L) (S.eds.take i) from by
    rw [List.take_succ_eq_append_getElem hi]
    exact stL_step _ _ _ _ _ (hin _ (List.getElem_mem hi)).1.1)
  have HW0 := Lib.hid (show ∀ W T1 T2 T3, ((w.alloc (.cells #[ei S.st, ei S.ini, .slice a1 S.labs.length c1, .slice a2 S.eds.length c2] T1)).alloc (.cells #[ei n.kd, ei n.vr, es n.lb, .bool n.nt] T2)).alloc (.cells #[.bool !b] T3) = W → Upd [] w W ∧
      RowAt W w.heap.size T1 [ei S.st, ei S.ini, .slice a1 S.labs.length c1, .slice a2 S.eds.length c2] ∧ RowAt W (w.heap.size + 1) T2 [ei n.kd, ei n.vr, es n.lb, .bool n.nt] ∧ W.cell? ⟨w.heap.size + 2, 0, none⟩ = some (.bool !b) ∧ W.heap.size = w.heap.size + 3 from fun W T1 T2 T3 hW => by
    subst hW
    refine ⟨(((Upd.refl _ _).alloc _).alloc _).alloc _, ((RowAt.new w T1 [ei S.st, ei S.ini, .slice a1 S.labs.length c1, .slice a2 S.eds.length c2]).upd ((Upd.refl [] _).alloc _) (by simp)).upd ((Upd.refl [] _).alloc _) (by simp), ?_, cell_new _ _ _ _ (by simp) 0 _ rfl, by simp⟩
    have := (RowAt.new (w.alloc (.cells #[ei S.st, ei S.ini, .slice a1 S.labs.length c1, .slice a2 S.eds.length c2] T1)) T2 [ei n.kd, ei n.vr, es n.lb, .bool n.nt]).upd ((Upd.refl [] _).alloc (.cells #[.bool !b] T3)) (by simp)
    simpa using this)
  have HN := Lib.hid (stL_nil m b (cntE S n L))
  clear h1 h2 hc1 hc2 hin hlab hB he hL
  rw [hb4]
  obtain ⟨n1, n2, n3, n4⟩ := n
  simp only at hb4 hb5 hn HW0 HSL hk
  clear hk
  obtain ⟨st, ini, labs, eds⟩ := S
  simp only at hst HW0 hE HC HTK l11 l21
  subst hst
  obtain ⟨PC, hPC⟩ : ∃ P, cntE ⟨(m : Int), ini, labs, eds⟩ ⟨n1, n2, n3, n4⟩ L = P := ⟨_, rfl⟩
  rw [hPC] at HC HTK HN
  go_enter Tryz.func46, Tryz.ntmps46
  go_wp2_with fail
  obtain ⟨wA, hwA⟩ : ∃ wA, ((w.alloc (.cells #[ei (m : Int), ei ini, .slice a1 labs.length c1, .slice a2 eds.length c2] 27)).alloc (.cells #[ei n1, ei n2, es n3, .bool n4] 53)).alloc (.cells #[.bool !b] 4) = wA := ⟨_, rfl⟩
  obtain ⟨uA, rA, qA, cA, zA⟩ := HW0.out wA _ _ _ hwA
  rw [hwA]
  refine (HR.out wA (!b) cA).mono ?_
  rintro _ w1 ⟨⟨r, rfl, hbr, hr9⟩, hu1⟩
  have HA := Lib.hid (show Upd [] w w1 ∧ RowAt w1 w.heap.size 27 [ei (m : Int), ei ini, .slice a1 labs.length c1, .slice a2 eds.length c2] ∧ RowAt w1 (w.heap.size + 1) 53 [ei n1, ei n2, es n3, .bool n4] ∧ w.heap.size + 3 ≤ r ∧ BlkB r w1 (stL m b PC (eds.take 0)) from
    ⟨uA.trans hu1, rA.upd hu1 (by simp), qA.upd hu1 (by simp), by omega, by
      have := HN.out
      rw [List.take_zero, this]
      exact hbr⟩)
  have s3 := HA.out.2.1.cell 3 _ rfl
  have HPC := Lib.hid hPC
  clear hwA uA rA qA cA zA hbr hr9 hu1 HW0 HR HN hPC
  go_wp2_with fail
  clear s3
  go_loopw [20] (fun iv wr => ∃ i : Nat, i ≤ eds.length ∧ iv = .int .i64 i ∧ Hid (Upd [] w wr ∧ RowAt wr w.heap.size 27 [ei (m : Int), ei ini, .slice a1 labs.length c1, .slice a2 eds.length c2] ∧ RowAt wr (w.heap.size + 1) 53 [ei n1, ei n2, es n3, .bool n4] ∧ w.heap.size + 3 ≤ r ∧ BlkB r wr (stL m b PC (eds.take i)))) (fun iv _ => eds.length - (intOf iv).toNat)
  case atStart => exact ⟨0, Nat.zero_le _, rfl, HA⟩
  case round =>
    clear HA
    obtain ⟨wo, rfl⟩ : ∃ wo : World, wo = wr := ⟨_, rfl⟩
    obtain ⟨i, hi, rfl, HS⟩ := hrel
    by_cases hlt : i < eds.length
    · obtain ⟨b3, o3, b1, o1, x1, x3, k, l, T, q, hx, hae, e1, e2, e3, hbe, e4, hkl, hll, hx0, hx1, hxT, hTm, e5, hcnt⟩ := HC.out i hlt
      subst hae hbe hxT
      obtain ⟨f9, rfl⟩ : ∃ f : Nat, x1 = f := ⟨x1.toNat, by omega⟩
      have hfm : f9 < m := by omega
      clear hx0 hx1
      have e1 := HS.out.1.keep e1
      have e2 := HS.out.1.keep e2
      have e3 := HS.out.1.keep e3
      have hki : (k : Int) < (labs.length : Int) := by omega
      have hTi : (T : Int) < (m : Int) := by omega
      have HTI := Lib.hid (HTK.out i hlt)
      rw [hcnt, hx] at HTI
      simp only at HTI
      have HB := Lib.hid (show ∀ TY, ∃ wB, wo.alloc (.cells #[ei (f9 : Int), ei (k : Int), ei (T : Int)] TY) = wB ∧ Upd [] wo wB ∧ wB.cell? ⟨wo.heap.size, 0, none⟩ = some (ei (f9 : Int)) ∧ wB.cell? ⟨wo.heap.size, 1, none⟩ = some (ei (k : Int)) ∧ wB.cell? ⟨wo.heap.size, 2, none⟩ = some (ei (T : Int)) from fun TY =>
        ⟨_, rfl, (Upd.refl _ _).alloc _, cell_new _ _ _ _ rfl 0 _ rfl, cell_new _ _ _ _ rfl 1 _ rfl, cell_new _ _ _ _ rfl 2 _ rfl⟩)
      clear hx hcnt
      go_upto_region 5 with (fail)
      obtain ⟨wB, hwB, uB, y0, y1, y2⟩ := HB.out _
      rw [hwB]
      have q0 := (HS.out.2.2.1.upd uB (by simp)).cell 0 _ rfl
      have q1 := (HS.out.2.2.1.upd uB (by simp)).cell 1 _ rfl
      have q2 := (HS.out.2.2.1.upd uB (by simp)).cell 2 _ rfl
      have q3 := (HS.out.2.2.1.upd uB (by simp)).cell 3 _ rfl
      have s2 := (HS.out.2.1.upd uB (by simp)).cell 2 _ rfl
      have e4 := uB.keep (HS.out.1.keep e4)
      have e5 := uB.keep (HS.out.1.keep e5)
      have HUB := Lib.hid (HS.out.1.trans uB)
      have HSB := Lib.hid (show Upd [] w wB ∧ RowAt wB w.heap.size 27 [ei (m : Int), ei ini, .slice (some ⟨b1, o1, none⟩) labs.length c1, .slice (some ⟨b3, o3, none⟩) eds.length c2] ∧ RowAt wB (w.heap.size + 1) 53 [ei n1, ei n2, es n3, .bool n4] ∧ w.heap.size + 3 ≤ r ∧ BlkB r wB (stL m b PC (eds.take i)) from
        ⟨HUB.out, HS.out.2.1.upd uB (by simp), HS.out.2.2.1.upd uB (by simp), HS.out.2.2.2.1, HS.out.2.2.2.2.upd uB (by simp)⟩)
      have S1 := Lib.hid (HSL.out l wB.drew hll HUB.out.drew)
      obtain ⟨sel, hsel⟩ : ∃ z, selF ⟨n1, n2, n3, n4⟩ l = z := ⟨_, rfl⟩
      rw [hsel] at S1 HTI
      clear hwB uB HB HS e1 e2 e3 hsel
      cases sel with
      | true =>
        go_region_held3 (fun w' => w'.cell? ⟨wo.heap.size, 1, none⟩ = some (ei (k : Int)) ∧ w'.cell? ⟨wo.heap.size, 2, none⟩ = some (ei (T : Int)) ∧ w'.cell? ⟨w.heap.size, 2, none⟩ = some (.slice (some ⟨b1, o1, none⟩) labs.length c1) ∧ w'.cell? ⟨w.heap.size + 1, 0, none⟩ = some (ei n1) ∧ w'.cell? ⟨w.heap.size + 1, 1, none⟩ = some (ei n2) ∧ w'.cell? ⟨w.heap.size + 1, 2, none⟩ = some (es n3) ∧ w'.cell? ⟨w.heap.size + 1, 3, none⟩ = some (.bool n4) ∧ w'.cell? ⟨b1, o1 + k, none⟩ = some (es l) ∧ w'.cell? ⟨bo, T, none⟩ = some (.bool q)) (go_keep)
          (((with_reducible refine S1.out.mono ?_); rintro e w5 ⟨rfl, hu5⟩; have t1 := hu5.keep y1; have t2 := hu5.keep y2; have t3 := hu5.keep s2; have t4 := hu5.keep q0; have t5 := hu5.keep q1; have t6 := hu5.keep q2; have t7 := hu5.keep q3; have t8 := hu5.keep e4; have t9 := hu5.keep e5))
        all_goals
          have t0 := hu5.keep y0
          have HS5 := Lib.hid (show Upd [] w w5 ∧ RowAt w5 w.heap.size 27 [ei (m : Int), ei ini, .slice (some ⟨b1, o1, none⟩) labs.length c1, .slice (some ⟨b3, o3, none⟩) eds.length c2] ∧ RowAt w5 (w.heap.size + 1) 53 [ei n1, ei n2, es n3, .bool n4] ∧ w.heap.size + 3 ≤ r ∧ BlkB r w5 (stL m b PC (eds.take i)) from
            ⟨HUB.out.drew.trans hu5, HSB.out.2.1.upd ((Upd.refl [] wB).drew.trans hu5) (by simp), HSB.out.2.2.1.upd ((Upd.refl [] wB).drew.trans hu5) (by simp), HSB.out.2.2.2.1, HSB.out.2.2.2.2.upd ((Upd.refl [] wB).drew.trans hu5) (by simp)⟩)
          have hfi : (f9 : Int) < (m : Int) := by omega
          have rc := HS5.out.2.2.2.2.cell f9 (by rw [stL_len]; exact hfm)
          have rz := HS5.out.2.2.2.2.frozen f9
          generalize (stL m b PC (eds.take i))[f9]'_ = old at rc
          clear S1 t1 t2 t3 t6 t7 t8 t9 hu5 y0 y1 y2 q0 q1 q2 q3 s2 e4 e5 HSB HUB
          have hqb : q = b ∨ q = !b := by cases q <;> cases b <;> simp
          rcases hqb with rfl | rfl
          ·
            have HS6 := Lib.hid (show Upd [] w (w5.setCell ⟨r, f9, none⟩ (.bool q)) ∧ RowAt (w5.setCell ⟨r, f9, none⟩ (.bool q)) w.heap.size 27 [ei (m : Int), ei ini, .slice (some ⟨b1, o1, none⟩) labs.length c1, .slice (some ⟨b3, o3, none⟩) eds.length c2] ∧ RowAt (w5.setCell ⟨r, f9, none⟩ (.bool q)) (w.heap.size + 1) 53 [ei n1, ei n2, es n3, .bool n4] ∧ w.heap.size + 3 ≤ r ∧ BlkB r (w5.setCell ⟨r, f9, none⟩ (.bool q)) (stL m q PC (eds.take (i + 1))) from by
              have h := HS5.out
              refine ⟨h.1.setCell (Or.inl (by simp only; omega)) _, h.2.1.other _ _ _ (by omega), h.2.2.1.other _ _ _ (by omega), h.2.2.2.1, ?_⟩
              rw [HTI.out, if_pos (by simp), Int.toNat_natCast]
              exact h.2.2.2.2.set f9 _)
            clear HS5 HTI
            cases q
            all_goals
              go_wp2_with fail
              go_roundw
              case rel => exact ⟨i + 1, by omega, by go_num, HS6⟩
              case measure => simp [intOf]; omega
          ·
            have HS6 := Lib.hid (show Upd [] w w5 ∧ RowAt w5 w.heap.size 27 [ei (m : Int), ei ini, .slice (some ⟨b1, o1, none⟩) labs.length c1, .slice (some ⟨b3, o3, none⟩) eds.length c2] ∧ RowAt w5 (w.heap.size + 1) 53 [ei n1, ei n2, es n3, .bool n4] ∧ w.heap.size + 3 ≤ r ∧ BlkB r w5 (stL m b PC (eds.take (i + 1))) from by
              rw [HTI.out, if_neg (by simp)]
              exact HS5.out)
            clear HS5 HTI
            cases b
            all_goals
              go_wp2_with fail
              go_roundw
              case rel => exact ⟨i + 1, by omega, by go_num, HS6⟩
              case measure => simp [intOf]; omega
      | false =>
        have HTI2 := Lib.hid (HTI.out.trans (if_neg (by simp)))
        clear HTI
        refine wp_region_held_drew (S := fun w' => w'.cell? ⟨wo.heap.size, 1, none⟩ = some (ei (k : Int)) ∧ w'.cell? ⟨w.heap.size, 2, none⟩ = some (.slice (some ⟨b1, o1, none⟩) labs.length c1) ∧ w'.cell? ⟨w.heap.size + 1, 0, none⟩ = some (ei n1) ∧ w'.cell? ⟨w.heap.size + 1, 1, none⟩ = some (ei n2) ∧ w'.cell? ⟨w.heap.size + 1, 2, none⟩ = some (es n3) ∧ w'.cell? ⟨w.heap.size + 1, 3, none⟩ = some (.bool n4) ∧ w'.cell? ⟨b1, o1 + k, none⟩ = some (es l)) (by kernel_rfl) ?_ (fun hHeld => ?_)
        · exact ⟨y1, s2, q0, q1, q2, q3, e4⟩
        refine wpAnyH_take (i := 0) (v := ?_) rfl (by kernel_rfl) (by kernel_rfl) (by kernel_rfl) (fun _ _ _ h => h) (Or.inl ⟨by rfl, ?_⟩) (by assumption) ?_
        rotate_left
        · (intro w hSw; (try dsimp only at hSw); go_simp)
          first | done | with_reducible rfl
        simp only [Act.put, List.getElem_toArray, List.getElem_cons_zero, List.getElem_cons_succ, List.setIfInBounds_toArray, List.set_cons_zero, List.set_cons_succ]
        refine wpAnyH_take (i := 1) (v := ?_) rfl (by kernel_rfl) (by kernel_rfl) (by kernel_rfl) (fun _ _ _ h => h) (Or.inl ⟨by rfl, ?_⟩) (by assumption) ?_
        rotate_left
        · (intro w hSw; (try dsimp only at hSw); go_simp)
          first | done | with_reducible rfl
        simp only [Act.put, List.getElem_toArray, List.getElem_cons_zero, List.getElem_cons_succ, List.setIfInBounds_toArray, List.set_cons_zero, List.set_cons_succ]
        refine wpAnyH_take (i := 2) (v := ?_) rfl (by kernel_rfl) (by kernel_rfl) (by kernel_rfl) (fun _ _ _ h => h) (Or.inl ⟨by rfl, ?_⟩) (by assumption) ?_
        rotate_left
        · (intro w hSw; (try dsimp only at hSw); go_simp)
          first | done | with_reducible rfl
        simp only [Act.put, List.getElem_toArray, List.getElem_cons_zero, List.getElem_cons_succ, List.setIfInBounds_toArray, List.set_cons_zero, List.set_cons_succ]
        refine wpAnyH_take (i := 3) (v := ?_) rfl (by kernel_rfl) (by kernel_rfl) (by kernel_rfl) (fun _ _ _ h => h) (Or.inl ⟨by rfl, ?_⟩) (by assumption) ?_
        rotate_left
        · (intro w hSw; (try dsimp only at hSw); go_simp)
          first | done | with_reducible rfl
        simp only [Act.put, List.getElem_toArray, List.getElem_cons_zero, List.getElem_cons_succ, List.setIfInBounds_toArray, List.set_cons_zero, List.set_cons_succ]
        refine wpAnyH_take (i := 4) (v := ?_) rfl (by kernel_rfl) (by kernel_rfl) (by kernel_rfl) (fun _ _ _ h => h) (Or.inl ⟨by rfl, ?_⟩) (by assumption) ?_
        rotate_left
        · (intro w hSw; (try dsimp only at hSw); go_simp)
          first | done | with_reducible rfl
        simp only [Act.put, List.getElem_toArray, List.getElem_cons_zero, List.getElem_cons_succ, List.setIfInBounds_toArray, List.set_cons_zero, List.set_cons_succ]
        refine wpAnyH_take (i := 5) (v := ?_) rfl (by kernel_rfl) (by kernel_rfl) (by kernel_rfl) (fun _ _ _ h => h) (Or.inl ⟨by rfl, ?_⟩) (by assumption) ?_
        rotate_left
        · (intro w hSw; (try dsimp only at hSw); go_simp)
          first | done | with_reducible rfl
        simp only [Act.put, List.getElem_toArray, List.getElem_cons_zero, List.getElem_cons_succ, List.setIfInBounds_toArray, List.set_cons_zero, List.set_cons_succ]
        refine wpAnyH_take (i := 6) (v := ?_) rfl (by kernel_rfl) (by kernel_rfl) (by kernel_rfl) (fun _ _ _ h => h) (Or.inl ⟨by rfl, ?_⟩) (by assumption) ?_
        rotate_left
        · (intro w hSw; (try dsimp only at hSw); go_simp)
          first | done | with_reducible rfl
        simp only [Act.put, List.getElem_toArray, List.getElem_cons_zero, List.getElem_cons_succ, List.setIfInBounds_toArray, List.set_cons_zero, List.set_cons_succ]
        refine wpAnyH_ready (rs := [7]) (by kernel_rfl) (by simp) ?_
        refine AllReadyH.cons rfl (fun K hK => ?_) AllReadyH.nil
        go_simp
        refine (S1.out).mono ?_
        rintro e w5 ⟨rfl, hu5⟩
        have t1 := hu5.keep y1
        have t3 := hu5.keep s2
        have t4 := hu5.keep q0
        have t5 := hu5.keep q1
        have t6 := hu5.keep q2
        have t7 := hu5.keep q3
        have t8 := hu5.keep e4
        refine hK.out _ _ ?_ (fun hHeld => ?_)
        · exact ⟨t1, t3, t4, t5, t6, t7, t8⟩
        clear hK K
        try simp only [Act.put, List.getElem_toArray, List.getElem_cons_zero, List.getElem_cons_succ, List.setIfInBounds_toArray, List.set_cons_zero, List.set_cons_succ]
        refine wpAnyH_take (i := 8) (v := ?_) rfl (by kernel_rfl) (by kernel_rfl) (by kernel_rfl) (fun _ _ _ h => h) (Or.inl ⟨by rfl, ?_⟩) (by assumption) ?_
        rotate_left
        · (intro w hSw; (try dsimp only at hSw); go_simp)
          first | done | with_reducible rfl
        simp only [Act.put, List.getElem_toArray, List.getElem_cons_zero, List.getElem_cons_succ, List.setIfInBounds_toArray, List.set_cons_zero, List.set_cons_succ]
        refine wpAnyH_take (i := 9) rfl (by kernel_rfl) (by kernel_rfl) (by kernel_rfl) (fun _ _ _ h => h) (Or.inr ⟨by rfl, rfl⟩) (by assumption) ?_
        simp only [Act.put, List.getElem_toArray, List.getElem_cons_zero, List.getElem_cons_succ, List.setIfInBounds_toArray, List.set_cons_zero, List.set_cons_succ]
        refine wpAnyH_take (i := 10) rfl (by kernel_rfl) (by kernel_rfl) (by kernel_rfl) (fun _ _ _ h => h) (Or.inr ⟨by rfl, rfl⟩) (by assumption) ?_
        simp only [Act.put, List.getElem_toArray, List.getElem_cons_zero, List.getElem_cons_succ, List.setIfInBounds_toArray, List.set_cons_zero, List.set_cons_succ]
        refine wpAnyH_take (i := 11) rfl (by kernel_rfl) (by kernel_rfl) (by kernel_rfl) (fun _ _ _ h => h) (Or.inr ⟨by rfl, rfl⟩) (by assumption) ?_
        simp only [Act.put, List.getElem_toArray, List.getElem_cons_zero, List.getElem_cons_succ, List.setIfInBounds_toArray, List.set_cons_zero, List.set_cons_succ]
        refine wpAnyH_take (i := 12) rfl (by kernel_rfl) (by kernel_rfl) (by kernel_rfl) (fun _ _ _ h => h) (Or.inr ⟨by rfl, rfl⟩) (by assumption) ?_
        simp only [Act.put, List.getElem_toArray, List.getElem_cons_zero, List.getElem_cons_succ, List.setIfInBounds_toArray, List.set_cons_zero, List.set_cons_succ]
        refine wpAnyH_take (i := 13) rfl (by kernel_rfl) (by kernel_rfl) (by kernel_rfl) (fun _ _ _ h => h) (Or.inr ⟨by rfl, rfl⟩) (by assumption) ?_
        simp only [Act.put, List.getElem_toArray, List.getElem_cons_zero, List.getElem_cons_succ, List.setIfInBounds_toArray, List.set_cons_zero, List.set_cons_succ]
        refine wpAnyH_take (i := 14) rfl (by kernel_rfl) (by kernel_rfl) (by kernel_rfl) (fun _ _ _ h => h) (Or.inr ⟨by rfl, rfl⟩) (by assumption) ?_
        simp only [Act.put, List.getElem_toArray, List.getElem_cons_zero, List.getElem_cons_succ, List.setIfInBounds_toArray, List.set_cons_zero, List.set_cons_succ]
        refine wpAnyH_take (i := 15) rfl (by kernel_rfl) (by kernel_rfl) (by kernel_rfl) (fun _ _ _ h => h) (Or.inr ⟨by rfl, rfl⟩) (by assumption) ?_
        simp only [Act.put, List.getElem_toArray, List.getElem_cons_zero, List.getElem_cons_succ, List.setIfInBounds_toArray, List.set_cons_zero, List.set_cons_succ]
        refine wpAnyH_take (i := 16) rfl (by kernel_rfl) (by kernel_rfl) (by kernel_rfl) (fun _ _ _ h => h) (Or.inr ⟨by rfl, rfl⟩) (by assumption) ?_
        simp only [Act.put, List.getElem_toArray, List.getElem_cons_zero, List.getElem_cons_succ, List.setIfInBounds_toArray, List.set_cons_zero, List.set_cons_succ]
        refine wpAnyH_take (i := 17) rfl (by kernel_rfl) (by kernel_rfl) (by kernel_rfl) (fun _ _ _ h => h) (Or.inr ⟨by rfl, rfl⟩) (by assumption) ?_
        simp only [Act.put, List.getElem_toArray, List.getElem_cons_zero, List.getElem_cons_succ, List.setIfInBounds_toArray, List.set_cons_zero, List.set_cons_succ]
        refine wpAnyH_take (i := 18) (v := ?_) rfl (by kernel_rfl) (by kernel_rfl) (by kernel_rfl) (fun _ _ _ h => h) (Or.inl ⟨by rfl, ?_⟩) (by assumption) ?_
        rotate_left
        · (intro w hSw; (try dsimp only at hSw); go_simp)
          first | done | with_reducible rfl
        simp only [Act.put, List.getElem_toArray, List.getElem_cons_zero, List.getElem_cons_succ, List.setIfInBounds_toArray, List.set_cons_zero, List.set_cons_succ]
        refine wpAnyH_done (by kernel_rfl) ?_ _
        have t0 := hu5.keep y0
        have HS5 := Lib.hid (show Upd [] w w5 ∧ RowAt w5 w.heap.size 27 [ei (m : Int), ei ini, .slice (some ⟨b1, o1, none⟩) labs.length c1, .slice (some ⟨b3, o3, none⟩) eds.length c2] ∧ RowAt w5 (w.heap.size + 1) 53 [ei n1, ei n2, es n3, .bool n4] ∧ w.heap.size + 3 ≤ r ∧ BlkB r w5 (stL m b PC (eds.take (i + 1))) from
          ⟨HUB.out.drew.trans hu5, HSB.out.2.1.upd ((Upd.refl [] wB).drew.trans hu5) (by simp), HSB.out.2.2.1.upd ((Upd.refl [] wB).drew.trans hu5) (by simp), HSB.out.2.2.2.1, by
            rw [HTI2.out]
            exact HSB.out.2.2.2.2.upd ((Upd.refl [] wB).drew.trans hu5) (by simp)⟩)
        clear S1 t0 t1 t3 t4 t5 t6 t7 t8 hu5 y0 y1 y2 q0 q1 q2 q3 s2 e4 e5 HSB HUB HTI2
        go_wp2_with fail
        go_roundw
        case rel => exact ⟨i + 1, by omega, by go_num, HS5⟩
        case measure => simp [intOf]; omega
    · have hil : i = eds.length := by omega
      clear HTK HC HSL
      go_wp2_with fail
      subst hil
      have h5 := HS.out.2.2.2.2
      rw [List.take_length] at h5
      have hp := HPC.out
      rw [hp]
      refine bodyPost_ret (by simp [results, Tryz.results46, go_sem]) rfl ⟨⟨r, rfl, h5, by have := HS.out.2.2.2.1; omega⟩, HS.out.1⟩

end Go.Proofs.YtdnjjanacbkijaaGreatDoor

/-
  Modal formulas, the program: where a formula holds, plainly.
-/
namespace Go.Proofs.YtdnjjanacbkijaaGreatDoor
open Go.RowKit

theorem Tryz.infoSB : (Tryz.prog.info? 56).map (fun i => (i.zero, i.size, i.bytes)) = some (some (.slice none 0 0), 1, 24) := by kernel_rfl
/-- where a formula holds, state by state. -/
def HL (S : Sys) (m : Nat) (x : Tr Nd) : List Bool := (List.range m).map (hT (selS S) S x)
theorem HL_len (S : Sys) (m : Nat) (x : Tr Nd) : (HL S m x).length = m := by simp [HL]
theorem HL_get (S : Sys) (m : Nat) (x : Tr Nd) (s : Nat) (h : s < m) : (HL S m x).getD s false = hT (selS S) S x s := by
  unfold HL
  rw [List.getD_eq_getElem?_getD, List.getElem?_map, List.getElem?_range h]
  rfl
/-- the formula of a modality. -/
theorem HL_mod (S : Sys) (m : Nat) (t : Nd) (a : Tr Nd) (hk : t.kd = 4 ∨ t.kd = 5) (hin : ∀ e ∈ S.eds, 0 ≤ e.to ∧ e.to < m) : HL S m (.mk t [a]) = stL m (t.kd == 4) (cntE S t (HL S m a)) S.eds := by
  show (List.range m).map (hT (selS S) S (.mk t [a])) = (List.range m).map _
  apply List.map_congr_left
  intro s _
  rw [hT, hTs, hTs]
  unfold nodeH
  rcases hk with h | h
  · rw [h, if_pos rfl]
    have e : S.eds.any (fun e => e.fr == (s : Int) && cntE S t (HL S m a) e) = S.eds.any (fun e => e.fr == (s : Int) && selS S t e.lb && hT (selS S) S a e.to.toNat) := any_not _ _ _ fun e he => by
      unfold cntE
      rw [HL_get S m a _ (by have := hin e he; omega), h]
      simp [Bool.and_assoc]
    show _ = (if _ then ((4 : Int) == 4) else !((4 : Int) == 4))
    rw [e]
    simp only [List.getD_cons_zero]
    cases S.eds.any (fun e => e.fr == (s : Int) && selS S t e.lb && hT (selS S) S a e.to.toNat) <;> rfl
  · rw [h, if_neg (by decide), if_pos rfl]
    have e : S.eds.any (fun e => e.fr == (s : Int) && cntE S t (HL S m a) e) = S.eds.any (fun e => e.fr == (s : Int) && selS S t e.lb && !(hT (selS S) S a e.to.toNat)) := any_not _ _ _ fun e he => by
      unfold cntE
      rw [HL_get S m a _ (by have := hin e he; omega), h]
      simp [Bool.and_assoc]
    show _ = (if _ then ((5 : Int) == 4) else !((5 : Int) == 4))
    rw [e]
    simp only [List.getD_cons_zero]
    cases S.eds.any (fun e => e.fr == (s : Int) && selS S t e.lb && !(hT (selS S) S a e.to.toNat)) <;> rfl
/-- a row of truths that is filled up to a place. -/
def upB (m : Nat) (g : Nat → Bool) (c : Bool) (i : Nat) : List Bool := (List.range m).map fun s => if s < i then g s else c
theorem upB_len (m : Nat) (g : Nat → Bool) (c : Bool) (i : Nat) : (upB m g c i).length = m := by simp [upB]
theorem upB_zero (m : Nat) (g : Nat → Bool) (c : Bool) : upB m g c 0 = List.replicate m c := by
  unfold upB
  apply List.ext_getElem (by simp)
  intro i h1 h2
  simp
theorem upB_all (m : Nat) (g : Nat → Bool) (c : Bool) : upB m g c m = (List.range m).map g := by
  unfold upB
  apply List.map_congr_left
  intro s hs
  rw [if_pos (List.mem_range.1 hs)]
theorem upB_set (m : Nat) (g : Nat → Bool) (c : Bool) (i : Nat) (_h : i < m) : (upB m g c i).set i (g i) = upB m g c (i + 1) := by
  apply List.ext_getElem (by simp [upB])
  intro j h1 h2
  rw [List.getElem_set]
  simp only [upB, List.getElem_map, List.getElem_range]
  by_cases hj : i = j
  · subst hj; simp
  · rw [if_neg hj]
    by_cases h3 : j < i
    · rw [if_pos h3, if_pos (by omega)]
    · rw [if_neg h3, if_neg (by omega)]

/-- a block of truths as what a slice shows. -/
def RB : Rp (List Bool) := fun fp w cs L => ∃ r, cs = [.slice (some ⟨r, 0, none⟩) L.length L.length] ∧ fp = [r] ∧ BlkB r w L
theorem RBk : Kept RB := ⟨fun ⟨r, _, hf, h⟩ b hb => by
    subst hf
    obtain rfl : b = r := by simpa using hb
    exact h.lt,
  fun ⟨r, hc, hf, h⟩ _ hb => ⟨r, hc, hf, by
    unfold BlkB at *
    rw [hb r (by rw [hf]; simp)]; exact h⟩⟩
theorem RB_new {w w1 : World} {r : Nat} {L : List Bool} {m : Nat} (h : BlkB r w1 L) (hr : w.heap.size ≤ r) (hL : L.length = m) : New RB w w1 (.slice (some ⟨r, 0, none⟩) m m) L :=
  ⟨[r], ⟨r, by rw [hL], rfl, h⟩, ⟨by simp, fun b hb => by
    obtain rfl : b = r := by simpa using hb
    exact ⟨_, _, h⟩⟩, fun b hb => by
    obtain rfl : b = r := by simpa using hb
    exact hr⟩

theorem mx_one {t : Nd} {args : List (Tr Nd)} (h : MX (.mk t args)) (hk : t.kd = 4 ∨ t.kd = 5) : ∃ y, args = [y] := by
  cases h with
  | leaf _ ht => exfalso; omega
  | two _ ht _ _ => exfalso; omega
  | one _ ht _ => exact ⟨_, rfl⟩
theorem mx_two {t : Nd} {args : List (Tr Nd)} (h : MX (.mk t args)) (hk : t.kd = 2 ∨ t.kd = 3) : ∃ y z, args = [y, z] := by
  cases h with
  | leaf _ ht => exfalso; omega
  | two _ ht _ _ => exact ⟨_, _, rfl⟩
  | one _ ht _ => exfalso; omega
theorem mx_kd {t : Nd} {args : List (Tr Nd)} (h : MX (.mk t args)) : t.kd = 0 ∨ t.kd = 1 ∨ t.kd = 2 ∨ t.kd = 3 ∨ t.kd = 4 ∨ t.kd = 5 := by
  cases h with
  | leaf _ ht => omega
  | two _ ht _ _ => omega
  | one _ ht _ => omega
theorem HL_leaf (S : Sys) (m : Nat) (t : Nd) (args : List (Tr Nd)) (hk : t.kd = 0 ∨ t.kd = 1) : HL S m (.mk t args) = List.replicate m (t.kd == 0) := by
  unfold HL
  apply List.ext_getElem (by simp)
  intro i h1 h2
  simp only [List.getElem_map, List.getElem_range, List.getElem_replicate]
  rw [hT]
  unfold nodeH
  rcases hk with h | h <;> simp [h]
/-- what a pair of rows says at a place. -/
def twoB (k : Int) (A B : List Bool) (s : Nat) : Bool := if k = 2 then A.getD s false && B.getD s false else A.getD s false || B.getD s false
theorem HL_two (S : Sys) (m : Nat) (t : Nd) (y z : Tr Nd) (hk : t.kd = 2 ∨ t.kd = 3) : HL S m (.mk t [y, z]) = (List.range m).map (twoB t.kd (HL S m y) (HL S m z)) := by
  show (List.range m).map _ = _
  apply List.map_congr_left
  intro s hs
  have hs' := List.mem_range.1 hs
  unfold twoB
  rw [HL_get S m y s hs', HL_get S m z s hs', hT, hTs, hTs, hTs]
  unfold nodeH
  rcases hk with h | h <;> simp [h]

end Go.Proofs.YtdnjjanacbkijaaGreatDoor

/-
  Modal formulas, the program: where a formula holds.
-/
namespace Go.Proofs.YtdnjjanacbkijaaGreatDoor
open Go.RowKit

set_option maxRecDepth 20000 in
set_option maxHeartbeats 8000000 in
theorem whereI (S : Sys) (m : Nat) (v1 v2 : Value) (f1 f2 : List Nat) (hst : S.st = m) (hm : 1 ≤ m ∧ m ≤ 40)
    (hE : S.eds.length ≤ 300) (hin : ∀ e ∈ S.eds, (0 ≤ e.fr ∧ e.fr < m) ∧ (0 ≤ e.to ∧ e.to < m) ∧ 0 ≤ e.lb ∧ e.lb < S.labs.length) (hlab : ∀ l ∈ S.labs, l.length ≤ 1000) (n : Nat) :
    ∀ (x : Tr Nd) (w : World) (v : Value) (fp : List Nat), (flatT x).length ≤ n → MX x → (∀ nd ∈ flatT x, nd.lb.length ≤ 1000) → R_X fp w [v] x → R_S1 f1 w [v1] S.labs → R_E1 f2 w [v2] S.eds → Env w →
    Calls Tryz.prog 24 #[v, .agg #[ei (m : Int), ei S.ini, v1, v2]] w fun e w' =>
      (∃ r, e = .returned (.slice (some ⟨r, 0, none⟩) m m) ∧ BlkB r w' (HL S m x) ∧ w.heap.size ≤ r) ∧ Upd [] w w' := by
  induction n with
  | zero => intro x w v fp hn; have := flatT_pos x; omega
  | succ n ih =>
    intro x w v fp hn hMX hsl hR h1 h2 he
    obtain ⟨i0, hi, hz0, hz1, hz2⟩ := info_parts Tryz.infoSB
    obtain ⟨t, args⟩ := x
    obtain ⟨b0, s, fa, rfl, rfl, c0, c1, c2, c3, c4, hargs⟩ := R_X_open hR
    obtain ⟨a, cap, rfl, hl1, hl2, hc⟩ := slP_open hargs
    unfold maxLen at hl2
    simp only [flatT, List.length_cons] at hn
    have hA2 : args.length ≤ 2 := by cases hMX <;> simp
    have HTO := Lib.hid (fun (tt : Nd) (y : Tr Nd) (h : tt.kd = 4 ∨ tt.kd = 5) => HL_mod S m tt y h (fun e he => (hin e he).2.1))
    have HAM := Lib.hid (show ∀ y ∈ args, MX y from by cases hMX <;> simp_all)
    have HMX := Lib.hid hMX
    have HARG := Lib.hid (fun k (h : k < args.length) W (hu : Upd [] w W) => show ∃ b off u, a = some ⟨b, off, none⟩ ∧ W.cell? ⟨b, off + k, none⟩ = some (.pointer (some ⟨u, 0, none⟩)) ∧ Calls Tryz.prog 24 #[.pointer (some ⟨u, 0, none⟩), .agg #[ei (m : Int), ei S.ini, v1, v2]] W fun e w' =>
      (∃ r, e = .returned (.slice (some ⟨r, 0, none⟩) m m) ∧ BlkB r w' (HL S m args[k]) ∧ W.heap.size ≤ r) ∧ Upd [] W w' from by
      obtain ⟨b, off, u, f, e, -, -, hcell, -, hr⟩ := hc k h
      have h5 := flatTs_take args k h
      have h6 := flatTs_take_le args (k + 1)
      rw [h5, List.length_append] at h6
      obtain ⟨pb, hu9⟩ := R_T_form hr
      cases hu9
      refine ⟨b, off, pb, e, hu.keep hcell, ?_⟩
      refine ih args[k] W _ f (by omega) (HAM.out _ (List.getElem_mem h)) (fun nd hnd => hsl nd ?_) (R_Xk.upd hr hu (by simp)) (RSk.upd h1 hu (by simp)) (R_E1k.upd h2 hu (by simp)) (he.upd hu)
      rw [flatT]
      refine List.mem_cons_of_mem _ ?_
      exact flatTs_mem (List.getElem_mem h) _ hnd)
    have HM := Lib.hid (fun W (hu : Upd [] w W) bo L (hk : t.kd = 4 ∨ t.kd = 5) (hB : BlkB bo W L) (hL : L.length = m) => have h := modalityI S t L m bo v1 v2 W f1 f2 (RSk.upd h1 hu (by simp)) (R_E1k.upd h2 hu (by simp)) hst hm hE hin hlab (hsl t (by simp [flatT])) hk hB hL (he.upd hu); show Calls Tryz.prog 46 #[.agg #[ei (m : Int), ei S.ini, v1, v2], .agg #[ei t.kd, ei t.vr, es t.lb, .bool t.nt], .slice (some ⟨bo, 0, none⟩) m m] W fun e w' => (∃ r, e = .returned (.slice (some ⟨r, 0, none⟩) m m) ∧ BlkB r w' (stL m (t.kd == 4) (cntE S t L) S.eds) ∧ W.heap.size ≤ r) ∧ Upd [] W w' from by rw [hst] at h; exact h)
    have HRP := Lib.hid (fun q b1 W (h : W.cell? ⟨b1, 0, none⟩ = some (.bool q)) => show Calls Tryz.prog 47 #[.slice (some ⟨b1, 0, none⟩) 1 1, ei (m : Int)] W fun e w' => (∃ r, e = .returned (.slice (some ⟨r, 0, none⟩) m m) ∧ BlkB r w' (List.replicate m q) ∧ W.heap.size ≤ r) ∧ Upd [] W w' from repeatB q m b1 W hm.1 hm.2 h)
    have HTK := Lib.hid (fun k (h : k < args.length) => show (args.take (k + 1)).map (HL S m) = (args.take k).map (HL S m) ++ [HL S m args[k]] from by rw [List.take_succ_eq_append_getElem h, List.map_append]; rfl)
    have HLL := Lib.hid (fun y => HL_len S m y)
    have HMO := Lib.hid (fun W => isModI t.kd t.vr t.lb t.nt W)
    have HC := Lib.hid (fun W (hu : Upd [] w W) => And.intro (hu.keep c0) (And.intro (hu.keep c1) (And.intro (hu.keep c2) (hu.keep c3))))
    have HB0 := Lib.hid (fun W T (hW : w.alloc (.cells #[ei (m : Int), ei S.ini, v1, v2] T) = W) => show Upd [] w W ∧ RowAt W w.heap.size T [ei (m : Int), ei S.ini, v1, v2] ∧ W.heap.size = w.heap.size + 1 from by
      subst hW
      exact ⟨(Upd.refl _ _).alloc _, RowAt.new w T _, by simp⟩)
    obtain ⟨n1, n2, n3, n4⟩ := t
    clear hR hc hargs h1 h2 he hin hlab hsl ih c0 c1 c2 c3 hE
    go_enter Tryz.func24, Tryz.ntmps24
    go_upto_region 1 with (fail)
    obtain ⟨wA, hwA⟩ : ∃ wA, w.alloc (.cells #[ei (m : Int), ei S.ini, v1, v2] 27) = wA := ⟨_, rfl⟩
    obtain ⟨uA, rA, zA⟩ := HB0.out wA _ hwA
    rw [hwA]
    have c4 := uA.keep c4
    have HUA := Lib.hid uA
    have HRA := Lib.hid rA
    have HZA := Lib.hid zA
    clear hwA uA rA HB0 zA
    go_wp2_with fail
    go_loopw [5, 15] (fun vo iv wr => ∃ k : Nat, k ≤ args.length ∧ iv = .int .i64 k ∧ Hid (Upd [] wA wr) ∧ Hid (Acc RB wA 56 wr vo ((args.take k).map (HL S m)))) (fun _ iv _ => args.length - (intOf iv).toNat)
    case atStart => exact ⟨0, Nat.zero_le _, rfl, Lib.hid (Upd.refl _ _), Lib.hid (Acc.nil _ _ _ _)⟩
    case round =>
      obtain ⟨wo, rfl⟩ : ∃ wo : World, wo = wr := ⟨_, rfl⟩
      obtain ⟨k, hk, rfl, HU, HA⟩ := hrel
      have c4 := HU.out.keep c4
      by_cases hlt : k < args.length
      · obtain ⟨b, off, u, rfl, hcell, hcall⟩ := HARG.out k hlt wo (HUA.out.trans HU.out)
        have S1 := Lib.hid hcall
        have HT := Lib.hid (HTK.out k hlt)
        have HLk := Lib.hid (HLL.out args[k])
        have hki : (k : Int) < (args.length : Int) := by omega
        obtain ⟨us, hown, hrows⟩ := HA.out
        have hNk : ((args.take k).map (HL S m)).length = k := by rw [List.length_map, List.length_take]; omega
        rw [hNk] at hown
        obtain ⟨oa, oc, hov⟩ := ownsRow_form hown
        subst hov
        have HOW := Lib.hid hown
        have HRW := Lib.hid hrows
        have HNK := Lib.hid hNk
        have e0 := (HRA.out.upd HU.out (by simp)).cell 0 _ rfl
        have e1 := (HRA.out.upd HU.out (by simp)).cell 1 _ rfl
        have e2 := (HRA.out.upd HU.out (by simp)).cell 2 _ rfl
        have e3 := (HRA.out.upd HU.out (by simp)).cell 3 _ rfl
        clear hcall hown hrows HA hNk
        go_wp2_with fail
        refine S1.out.mono ?_
        rintro _ w1 ⟨⟨r, rfl, hbr, hr9⟩, hu1⟩
        have hown1 := ownsRow_upd HOW.out hu1
        have hszo := HU.out.size
        have hsz1 := hu1.size
        have HSZ := Lib.hid (HU.out.trans hu1)
        have HHu := Lib.hid hu1
        have HNW := Lib.hid (RB_new (m := m) hbr hr9 HLk.out)
        clear S1 hbr hr9 hu1 e0 e1 e2 e3
        go_wp2_with (first
          | (at_builtin; refine wpList_append_lies _ rfl _ _ 80 rfl wA.heap.size 56 i0 (.slice none 0 0) 1 24 Tryz.underlying80 hi hz0 hz1 hz2 rfl (by decide) (.slice oa k oc) k us rfl (ownsRow_upd hown1 ((Upd.refl [] w1).alloc (.cells #[.slice (some ⟨r, 0, none⟩) m m] 56))) ⟨w1.heap.size, 0, none⟩ 1 1 [.slice (some ⟨r, 0, none⟩) m m] rfl rfl (fun j u hj => by rw [addr_add]; exact cell_new w1 #[.slice (some ⟨r, 0, none⟩) m m] _ _ rfl _ _ (by simpa using hj)) (by simp [Value.oneCell']) (by decide) (by unfold maxLen; omega) (by omega) (by simp; omega) (w1.heap.size + 1) (by simp) ?_)
          | fail)
        intro g4 cap4 w4 hown4 hg4 hat4 hlt4
        have hacc := Acc.push RBk (w0 := wA) (by rw [HNK.out]; exact HOW.out) HRW.out hszo HHu.out HNW.out (.cells #[.slice (some ⟨r, 0, none⟩) m m] 56) (v2 := .slice (some ⟨g4, 0, none⟩) (k + 1) cap4) (w2 := w4) (by rw [HNK.out]; exact hown4) hg4 (by
          intro b hb
          simp only [Value.ownBlock, Option.some.injEq] at hb
          subst hb
          rcases hat4 with h | h
          · exact Or.inl h
          · right; rw [h]; simp)
        have HA4 := Lib.hid (show Acc RB wA 56 w4 (.slice (some ⟨g4, 0, none⟩) (k + 1) cap4) ((args.take (k + 1)).map (HL S m)) by rw [HT.out]; exact hacc)
        have HU4 := Lib.hid ((HSZ.out.alloc (.cells #[.slice (some ⟨r, 0, none⟩) m m] 56)).grown hg4 (fun b hb => Or.inl ((hown1.lt b hb).1)))
        clear hacc hown4 hg4 hat4 hlt4 hown1 HOW HRW HNW HHu HSZ HNK HT HLk HU
        go_wp2_with fail
        go_roundw
        case rel => exact ⟨k + 1, by omega, by go_num, HU4, HA4⟩
        case measure => simp [intOf]; omega
      · have HAF := Lib.hid (show Acc RB wA 56 wo _ (args.map (HL S m)) from by
          have h := HA.out
          rw [List.take_of_length_le (by omega)] at h
          exact h)
        have hki : ¬ (k : Int) < (args.length : Int) := by omega
        obtain ⟨d0, d1, d2, d3⟩ := HC.out wo (HUA.out.trans HU.out)
        obtain ⟨mq, hmq⟩ : ∃ q, modF n1 = q := ⟨_, rfl⟩
        clear HA HARG HTK
        go_wp2_with fail
        refine (HMO.out _).mono ?_
        rintro _ w1 ⟨rfl, hu1⟩
        simp only [hmq]
        have HU1 := Lib.hid (HU.out.trans hu1)
        obtain ⟨fpA, hsA, -, -⟩ := (HAF.out.upd RBk hu1).new
        have d0 := hu1.keep d0
        have d1 := hu1.keep d1
        have d2 := hu1.keep d2
        have d3 := hu1.keep d3
        have e0 := (HRA.out.upd HU1.out (by simp)).cell 0 _ rfl
        have e1 := (HRA.out.upd HU1.out (by simp)).cell 1 _ rfl
        have e2 := (HRA.out.upd HU1.out (by simp)).cell 2 _ rfl
        have e3 := (HRA.out.upd HU1.out (by simp)).cell 3 _ rfl
        obtain ⟨aA, cA, rfl, hcA1, hcA2, hcAc⟩ := slP_open hsA
        unfold maxLen at hcA2
        clear HMO HAF hu1 HU hsA
        cases mq with
        | true =>
          have hk45 : n1 = 4 ∨ n1 = 5 := by
            simp only [modF, Bool.or_eq_true, beq_iff_eq, decide_eq_true_eq] at hmq
            omega
          obtain ⟨y, rfl⟩ := mx_one HMX.out hk45
          obtain ⟨b5, o5, u5, f5, rfl, -, -, hcl, -, hr5⟩ := hcAc 0 (by simp)
          obtain ⟨r5, hu5, hf5, hb5⟩ := hr5
          simp only [List.map_cons, List.map_nil, List.getElem_cons_zero, HLL.out, List.cons.injEq, and_true] at hu5 hb5 hcl
          subst hu5
          simp only [Nat.add_zero] at hcl
          have hb5' : BlkB r5 w1.drew (HL S m y) := hb5.upd ((Upd.refl [] w1).drew) (by simp)
          have S8 := Lib.hid (HM.out w1.drew ((HUA.out.trans HU1.out).drew) r5 (HL S m y) hk45 hb5' (HLL.out y))
          have HR := Lib.hid (HTO.out ⟨n1, n2, n3, n4⟩ y hk45)
          have HUW := Lib.hid (HUA.out.trans HU1.out)
          clear HMX HAM HTO HRP HM HLL hk45 hb5 hb5' hf5 hcAc hmq HU1 HUA HRA HC HZA hn hA2
          simp only [List.length_map, List.length_cons, List.length_nil, Nat.zero_add] at *
          go_upto_region 8 with (fail)
          go_region_held3 (fun w' => w'.cell? ⟨w.heap.size, 0, none⟩ = some (ei (m : Int)) ∧ w'.cell? ⟨w.heap.size, 1, none⟩ = some (ei S.ini) ∧ w'.cell? ⟨w.heap.size, 2, none⟩ = some v1 ∧ w'.cell? ⟨w.heap.size, 3, none⟩ = some v2 ∧ w'.cell? ⟨b0, 0, none⟩ = some (ei n1) ∧ w'.cell? ⟨b0, 1, none⟩ = some (ei n2) ∧ w'.cell? ⟨b0, 2, none⟩ = some (es n3) ∧ w'.cell? ⟨b0, 3, none⟩ = some (.bool n4) ∧ w'.cell? ⟨b5, o5, none⟩ = some (.slice (some ⟨r5, 0, none⟩) m m)) (go_keep)
            (((with_reducible refine S8.out.mono ?_); rintro e w2 ⟨⟨r, rfl, hbr, hr9⟩, hu2⟩; have t1 := hu2.keep e0; have t2 := hu2.keep e1; have t3 := hu2.keep e2; have t4 := hu2.keep e3; have t5 := hu2.keep d0; have t6 := hu2.keep d1; have t7 := hu2.keep d2; have t8 := hu2.keep d3; have t9 := hu2.keep hcl))
          all_goals
            have HE := Lib.hid (And.intro hbr (And.intro hr9 (HUW.out.drew.trans hu2)))
            clear S8 t1 t2 t3 t4 t5 t6 t7 t8 t9 hbr hr9 hu2
            go_wp2_with fail
            go_ret
            exact ⟨⟨_, rfl, by rw [HR.out]; exact HE.out.1, Nat.le_trans HUW.out.size HE.out.2.1⟩, HE.out.2.2⟩
        | false =>
          have hk03 : (n1 = 0 ∨ n1 = 1) ∨ (n1 = 2 ∨ n1 = 3) := by
            have h : n1 = 0 ∨ n1 = 1 ∨ n1 = 2 ∨ n1 = 3 ∨ n1 = 4 ∨ n1 = 5 := mx_kd HMX.out
            simp only [modF, Bool.or_eq_false_iff, beq_eq_false_iff_ne] at hmq
            omega
          obtain ⟨q0, hq0⟩ : ∃ q, (n1 == 0) = q := ⟨_, rfl⟩
          have S9 := Lib.hid (HRP.out q0 w1.heap.size ((w1.alloc (.cells #[.bool q0] 4)).drew) (cell_new w1 _ _ _ rfl 0 _ rfl))
          have HU9 := Lib.hid (show Upd [] w1 ((w1.alloc (.cells #[.bool q0] 4)).drew) ∧ ((w1.alloc (.cells #[.bool q0] 4)).drew).heap.size = w1.heap.size + 1 from ⟨((Upd.refl _ _).alloc _).drew, by show (w1.alloc _).heap.size = _; simp⟩)
          have HCA := Lib.hid hcAc
          clear HM HRP HTO hcAc hmq
          go_upto_region 9 with (fail)
          go_region_held3 (fun w' => w'.cell? ⟨w.heap.size, 0, none⟩ = some (ei (m : Int)) ∧ w'.cell? ⟨b0, 0, none⟩ = some (ei n1)) (go_keep)
            (((with_reducible refine S9.out.mono ?_); rintro e w2 ⟨⟨r, rfl, hbr, hr9⟩, hu2⟩; have t1 := hu2.keep (HU9.out.1.keep e0); have t5 := hu2.keep (HU9.out.1.keep d0)))
          all_goals
            have HU2 := Lib.hid ((HU1.out.trans HU9.out.1).trans hu2)
            have HU12 := Lib.hid (HU9.out.1.trans hu2)
            have hrw : w1.heap.size + 1 ≤ r := by have := HU9.out.2; omega
            have HBR := Lib.hid hbr
            clear S9 HU9 hbr hr9 hu2 e0 e1 e2 e3 d1 d2 d3 t1
            rcases hk03 with hkk | hkk
            · have a2 : (n1 == 2) = false := beq_eq_false_iff_ne.2 (by omega)
              have a3 : (n1 == 3) = false := beq_eq_false_iff_ne.2 (by omega)
              have HR := Lib.hid (show HL S m (.mk ⟨n1, n2, n3, n4⟩ args) = List.replicate m q0 from by rw [HL_leaf S m _ _ hkk]; simp only [hq0])
              clear HMX HAM HLL HCA hkk hcA1 hcA2
              go_wp2_with fail
              go_loopw [52] (fun iv wr => ∃ i : Nat, i ≤ m ∧ iv = .int .i64 i ∧ Hid (Upd [] w2 wr)) (fun iv _ => m - (intOf iv).toNat)
              case atStart => exact ⟨0, Nat.zero_le _, rfl, Lib.hid (Upd.refl _ _)⟩
              case round =>
                obtain ⟨wo2, rfl⟩ : ∃ wo2 : World, wo2 = wr := ⟨_, rfl⟩
                obtain ⟨i, hi9, rfl, HUr⟩ := hrel
                have t5 := HUr.out.keep t5
                by_cases hlt2 : i < m
                · have hii : (i : Int) < (m : Int) := by omega
                  go_wp2_with fail
                  go_roundw
                  case rel => exact ⟨i + 1, by omega, by go_num, HUr⟩
                  case measure => simp [intOf]; omega
                · have hii : ¬ (i : Int) < (m : Int) := by omega
                  have HF := Lib.hid (show BlkB r wo2 (HL S m (.mk ⟨n1, n2, n3, n4⟩ args)) from by rw [HR.out]; exact HBR.out.upd HUr.out (by simp))
                  clear HR HBR
                  go_wp2_with fail
                  go_ret
                  exact ⟨⟨_, rfl, HF.out, by have := (HUA.out.trans HU1.out).size; omega⟩, HUA.out.trans (HU2.out.trans HUr.out)⟩
            · obtain ⟨y, z, rfl⟩ := mx_two HMX.out hkk
              have hq9 : q0 = false := by rw [← hq0]; exact beq_eq_false_iff_ne.2 (by omega)
              subst hq9
              have HR := Lib.hid (HL_two S m ⟨n1, n2, n3, n4⟩ y z hkk)
              simp only at HR
              obtain ⟨b5, o5, u5, f5, rfl, -, -, hcl5, -, hr5⟩ := HCA.out 0 (by simp)
              obtain ⟨b6, o6, u6, f6, hbe, -, -, hcl6, -, hr6⟩ := HCA.out 1 (by simp)
              cases hbe
              obtain ⟨r5, hu5, hf5, hb5⟩ := hr5
              obtain ⟨r6, hu6, hf6, hb6⟩ := hr6
              simp only [List.map_cons, List.map_nil, List.getElem_cons_zero, List.getElem_cons_succ, HLL.out, List.cons.injEq, and_true] at hu5 hb5 hcl5 hu6 hb6 hcl6
              subst hu5 hu6
              simp only [Nat.add_zero] at hcl5
              have hA5 := HLL.out y
              have hA6 := HLL.out z
              generalize HL S m y = A at *
              generalize HL S m z = C at *
              have HB5 := Lib.hid (fun i (hi : i < m) => show ∃ p, A.getD i false = p ∧ w1.cell? ⟨r5, i, none⟩ = some (.bool p) from ⟨A[i]'(by omega), by rw [List.getD_eq_getElem?_getD, List.getElem?_eq_getElem (by omega)]; rfl, hb5.cell i (by omega)⟩)
              have HB6 := Lib.hid (fun i (hi : i < m) => show ∃ p, C.getD i false = p ∧ w1.cell? ⟨r6, i, none⟩ = some (.bool p) from ⟨C[i]'(by omega), by rw [List.getD_eq_getElem?_getD, List.getElem?_eq_getElem (by omega)]; rfl, hb6.cell i (by omega)⟩)
              have HU0 := Lib.hid (upB_zero m (twoB n1 A C) false)
              have HUN := Lib.hid (upB_all m (twoB n1 A C) false)
              have HUS := Lib.hid (fun i (hi : i < m) => upB_set m (twoB n1 A C) false i hi)
              have HT2 := Lib.hid (fun i => show twoB n1 A C i = if n1 = 2 then A.getD i false && C.getD i false else A.getD i false || C.getD i false from rfl)
              have hzw := HUA.out.trans HU1.out |>.size
              clear HMX HAM HLL HCA hcA1 hcA2 hA5 hA6 hb5 hb6 hf5 hf6
              simp only [List.length_map, List.length_cons, List.length_nil, Nat.zero_add, Nat.reduceAdd] at *
              rcases hkk with rfl | rfl
              · have HBZ := Lib.hid (show BlkB r w2 (upB m (twoB 2 A C) false 0) from by rw [HU0.out]; exact HBR.out)
                clear HBR HU0 t5 HU2
                go_wp2_with fail
                go_loopw [52] (fun iv wr => ∃ i : Nat, i ≤ m ∧ iv = .int .i64 i ∧ Hid (Upd [] w1 wr) ∧ Hid (BlkB r wr (upB m (twoB 2 A C) false i))) (fun iv _ => m - (intOf iv).toNat)
                case atStart => exact ⟨0, Nat.zero_le _, rfl, HU12, HBZ⟩
                case round =>
                  clear HBZ HU12
                  obtain ⟨wo2, rfl⟩ : ∃ wo2 : World, wo2 = wr := ⟨_, rfl⟩
                  obtain ⟨i, hi9, rfl, HUr, HBr⟩ := hrel
                  by_cases hlt2 : i < m
                  · have hii : (i : Int) < (m : Int) := by omega
                    obtain ⟨p, hp, hcp⟩ := HB5.out i hlt2
                    obtain ⟨q, hq, hcq⟩ := HB6.out i hlt2
                    have hcp := HUr.out.keep hcp
                    have hcq := HUr.out.keep hcq
                    have hc5 := HUr.out.keep hcl5
                    have hc6 := HUr.out.keep hcl6
                    have d0 := HUr.out.keep d0
                    have hV : twoB 2 A C i = (p && q) := by rw [HT2.out, hp, hq]; simp
                    have HN := Lib.hid (show Upd [] w1 (wo2.setCell ⟨r, i, none⟩ (.bool (p && q))) ∧ BlkB r (wo2.setCell ⟨r, i, none⟩ (.bool (p && q))) (upB m (twoB 2 A C) false (i + 1)) from ⟨HUr.out.setCell (Or.inl (by simp only; omega)) _, by rw [← HUS.out i hlt2, hV]; exact HBr.out.set i _⟩)
                    have hold := HBr.out.cell i (by rw [upB_len]; exact hlt2)
                    have hfz := HBr.out.frozen i
                    generalize (upB m (twoB 2 A C) false i)[i]'_ = old at hold
                    clear hV hp hq HB5 HB6 HUS HT2 HBr HUr
                    cases p <;> cases q
                    all_goals
                      go_wp2_with fail
                      go_roundw
                      case rel => exact ⟨i + 1, by omega, by go_num, Lib.hid HN.out.1, Lib.hid HN.out.2⟩
                      case measure => simp [intOf]; omega
                  · have hii : ¬ (i : Int) < (m : Int) := by omega
                    have HF := Lib.hid (show BlkB r wo2 (HL S m (.mk ⟨2, n2, n3, n4⟩ [y, z])) from by
                      have h := HBr.out
                      rw [show i = m by omega, HUN.out] at h
                      rw [HR.out]; exact h)
                    clear HR HBr HB5 HB6 HUS HT2 HUN
                    go_wp2_with fail
                    go_ret
                    exact ⟨⟨_, rfl, HF.out, by omega⟩, HUA.out.trans (HU1.out.trans HUr.out)⟩
              · have HBZ := Lib.hid (show BlkB r w2 (upB m (twoB 3 A C) false 0) from by rw [HU0.out]; exact HBR.out)
                clear HBR HU0 t5 HU2
                go_wp2_with fail
                go_loopw [52] (fun iv wr => ∃ i : Nat, i ≤ m ∧ iv = .int .i64 i ∧ Hid (Upd [] w1 wr) ∧ Hid (BlkB r wr (upB m (twoB 3 A C) false i))) (fun iv _ => m - (intOf iv).toNat)
                case atStart => exact ⟨0, Nat.zero_le _, rfl, HU12, HBZ⟩
                case round =>
                  clear HBZ HU12
                  obtain ⟨wo2, rfl⟩ : ∃ wo2 : World, wo2 = wr := ⟨_, rfl⟩
                  obtain ⟨i, hi9, rfl, HUr, HBr⟩ := hrel
                  by_cases hlt2 : i < m
                  · have hii : (i : Int) < (m : Int) := by omega
                    obtain ⟨p, hp, hcp⟩ := HB5.out i hlt2
                    obtain ⟨q, hq, hcq⟩ := HB6.out i hlt2
                    have hcp := HUr.out.keep hcp
                    have hcq := HUr.out.keep hcq
                    have hc5 := HUr.out.keep hcl5
                    have hc6 := HUr.out.keep hcl6
                    have d0 := HUr.out.keep d0
                    have hV : twoB 3 A C i = (p || q) := by rw [HT2.out, hp, hq]; simp
                    have HN := Lib.hid (show Upd [] w1 (wo2.setCell ⟨r, i, none⟩ (.bool (p || q))) ∧ BlkB r (wo2.setCell ⟨r, i, none⟩ (.bool (p || q))) (upB m (twoB 3 A C) false (i + 1)) from ⟨HUr.out.setCell (Or.inl (by simp only; omega)) _, by rw [← HUS.out i hlt2, hV]; exact HBr.out.set i _⟩)
                    have hold := HBr.out.cell i (by rw [upB_len]; exact hlt2)
                    have hfz := HBr.out.frozen i
                    generalize (upB m (twoB 3 A C) false i)[i]'_ = old at hold
                    clear hV hp hq HB5 HB6 HUS HT2 HBr HUr
                    cases p <;> cases q
                    all_goals
                      go_wp2_with fail
                      go_roundw
                      case rel => exact ⟨i + 1, by omega, by go_num, Lib.hid HN.out.1, Lib.hid HN.out.2⟩
                      case measure => simp [intOf]; omega
                  · have hii : ¬ (i : Int) < (m : Int) := by omega
                    have HF := Lib.hid (show BlkB r wo2 (HL S m (.mk ⟨3, n2, n3, n4⟩ [y, z])) from by
                      have h := HBr.out
                      rw [show i = m by omega, HUN.out] at h
                      rw [HR.out]; exact h)
                    clear HR HBr HB5 HB6 HUS HT2 HUN
                    go_wp2_with fail
                    go_ret
                    exact ⟨⟨_, rfl, HF.out, by omega⟩, HUA.out.trans (HU1.out.trans HUr.out)⟩

end Go.Proofs.YtdnjjanacbkijaaGreatDoor
