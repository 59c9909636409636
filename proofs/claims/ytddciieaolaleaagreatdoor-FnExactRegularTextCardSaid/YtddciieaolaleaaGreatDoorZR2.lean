/-
  Texts joined in one file: LabE, LabJ, LabN, LabL, LabM, TrT, EncP, ForP, DecU, EncC, DecK, DecK2, ForQ, FxP, RegP, RegX, HarnR, RegW, HarnF, ForI, FxW, FxI, ForB, ForV, EncW, EncX, ForE, FxJ, RegJ, ForS, FxS, RegV, RegS, RegE, LawRegularText, OpenR, LabZ.
-/
import Derived.Test.YtddciieaolaleaaGreatDoorZR1
import Derived.Test.YtddciieaolaleaaGreatDoorShelf
import Derived.IntWalk
import Derived.Laws.Bits64b
import Derived.Deep.RegionHeld3
import Derived.Deep.DeepCutAuto
import Derived.Deep.QuietTactic
import Derived.BigQuiet
import Derived.Deep.RegionLaw
import Derived.Lib.AppendStr
import Derived.Deep.AppendLies
import Derived.Lib.SmallJoins
import Derived.Deep.Strs
import Derived.Lib.LaidTab
import Derived.Stop.LaidErr
import Derived.HandedShaped
import Derived.Handed
import Derived.Shelf.Vars
/-
  Numbers in decimal: what the program's calls return.
-/
namespace Go.Proofs.YtddciieaolaleaaGreatDoor
open Go.RowKit

/-- what the calls of the library read of the package's variables. -/
structure Env (w : World) : Prop where
  m : ∃ m : Int, w.cell? ⟨1, 0, none⟩ = some (.int .i64 m)
  tab : Lib.TabIs Tryz.prog w "internal/strconv.uint64pow10" .u64 Lib.pow10Tab
  syn : ∃ tp p, w.var? Tryz.prog "strconv.ErrSyntax" = some #[.iface tp p]
  rng : ∃ tp p, w.var? Tryz.prog "strconv.ErrRange" = some #[.iface tp p]

theorem Upd.var {P : Program} {w w1 : World} {n : String} {cs : Array Value} (hu : Upd [] w w1) (h : w.var? P n = some cs) : w1.var? P n = some cs := by
  unfold World.var? at h ⊢
  cases hg : P.globalNamed n with
  | none => rw [hg] at h; cases h
  | some g =>
    rw [hg] at h
    simp only [Option.bind_some] at h ⊢
    have hlt : g < w.heap.size := by
      rcases Nat.lt_or_ge g w.heap.size with h1 | h1
      · exact h1
      · rw [Array.getElem?_eq_none h1] at h; cases h
    rw [hu.block g hlt (by simp)]
    exact h

theorem Env.upd {w w1 : World} (h : Env w) (hu : Upd [] w w1) : Env w1 :=
  ⟨h.m.imp fun _ hm => hu.keep hm, hu.var h.tab, h.syn.imp fun _ hs => hs.imp fun _ hs => hu.var hs, h.rng.imp fun _ hs => hs.imp fun _ hs => hu.var hs⟩

theorem Upd.grow (w : World) (k : Nat) (os : Array Obj) : Upd [] w (Sort.grow (w.drewN k) os) := by
  refine ⟨rfl, rfl, rfl, ?_, fun i hi _ => ?_⟩
  · show w.heap.size ≤ (w.heap ++ os).size
    rw [Array.size_append]; omega
  · show (w.heap ++ os)[i]? = w.heap[i]?
    rw [Array.getElem?_append_left hi]

theorem decimal (n : Int) (w : World) (h0 : -9223372036854775808 ≤ n) (h1 : n ≤ 9223372036854775807) (he : Env w) :
    Calls Tryz.prog 76 #[.int .i64 n] w fun e w' => e = .returned (es (Lib.itoa n)) ∧ Upd [] w w' := by
  have S1 := Lib.hid (Tryz.strconv_FormatInt_10 n h0 h1 w he.tab)
  clear he h0 h1
  go_enter Tryz.func76, Tryz.ntmps76
  go_wp2_with fail
  refine S1.out.mono ?_
  rintro e w1 ⟨rfl, k, os, rfl⟩
  have HU := Lib.hid (Upd.grow w k os)
  generalize Sort.grow (w.drewN k) os = w1 at *
  clear S1
  go_wp2_with fail
  go_ret
  exact ⟨rfl, HU.out⟩

theorem isActionI (l : List UInt8) (w : World) (hl : l.length ≤ 2000000) :
    Calls Tryz.prog 87 #[es l] w fun e w' => e = .returned (.bool (actF l)) ∧ w = w' := by
  have S1 := Lib.hid (isNameI l w hl)
  cases hn : nameF l with
  | false =>
    have HR := Lib.hid (show actF l = false by simp [actF, hn])
    rw [hn] at S1
    clear hn
    go_enter Tryz.func87, Tryz.ntmps87
    go_wp2_with fail
    refine S1.out.mono ?_
    rintro e w1 ⟨rfl, rfl⟩
    clear S1
    go_wp2_with fail
    go_ret
    exact ⟨by rw [HR.out]; rfl, rfl⟩
  | true =>
    have HR := Lib.hid (show actF l = (l != tauL) by simp [actF, hn])
    rw [hn] at S1
    clear hn
    go_enter Tryz.func87, Tryz.ntmps87
    go_wp2_with fail
    refine S1.out.mono ?_
    rintro e w1 ⟨rfl, rfl⟩
    clear S1
    go_wp2_with fail
    go_ret
    refine ⟨?_, rfl⟩
    rw [HR.out]
    simp [tauL, bne]

theorem parse_range {l : List UInt8} {v : Int} (h : Lib.parseIntB 64 l = .ok v) : -9223372036854775808 ≤ v ∧ v ≤ 9223372036854775807 := by
  unfold Lib.parseIntB at h
  cases l with
  | nil => cases h
  | cons c r =>
    simp only at h
    split at h
    · cases h
    · cases h
    · split at h
      · cases h
      · split at h
        · cases h
        · rename_i h1 h2
          simp only [Lib.NumEnd.ok.injEq] at h
          subst h
          by_cases hc : c.toNat = 45
          · simp only [hc, not_true_eq_false, true_and, false_and, not_false_eq_true] at h1 h2
            simp only [hc, if_true]; omega
          · simp only [hc, not_false_eq_true, true_and, false_and] at h1 h2
            simp only [hc, if_false]; omega

theorem digL_trim (s : List UInt8) : Lib.trimPrefix s [45] = digL s := by
  cases s with
  | nil => rfl
  | cons b r =>
    by_cases hb : b = 45
    · subst hb; simp [Lib.trimPrefix, Lib.hasPrefix, digL, negL, List.isPrefixOf]
    · have h1 : (b == 45) = false := by simpa using hb
      have h2 : ((45 : UInt8) == b) = false := by simpa using fun e => hb e.symm
      simp [Lib.trimPrefix, Lib.hasPrefix, digL, negL, List.isPrefixOf, h1, h2]

def NumV (s : List UInt8) (w : World) (e : Ending) (w' : World) : Prop := e = .returned (.tuple #[.int .i64 ((numF s).getD 0), .bool (numF s).isSome]) ∧ Upd [] w w'

set_option maxRecDepth 20000 in
set_option maxHeartbeats 2000000 in
theorem readDecimalI (s : List UInt8) (w : World) (hl : s.length ≤ 2000000) (he : Env w) : Calls Tryz.prog 120 #[es s] w (NumV s w) := by
  have S1 := Lib.hid (Tryz.strings_TrimPrefix ⟨s.toArray⟩ ⟨#[45]⟩ w)
  have e1 : Lib.trimPrefix (⟨s.toArray⟩ : ByteArray).data.toList (⟨#[45]⟩ : ByteArray).data.toList = digL s := digL_trim s
  rw [e1] at S1
  clear e1
  have hdl : (digL s).length ≤ s.length := by
    unfold digL; split <;> simp
  by_cases hlen : 18 < (digL s).length
  · have HR := Lib.hid (show numF s = none by unfold numF; rw [if_pos (Or.inr (Or.inl hlen))])
    generalize digL s = d at *
    have g1 : (18 : Int) < (d.length : Int) := by omega
    clear hlen he
    go_enter Tryz.func120, Tryz.ntmps120
    go_wp2_with fail
    refine S1.out.mono ?_
    rintro e w1 ⟨rfl, rfl⟩
    clear S1
    go_wp2_with fail
    go_ret2
    exact ⟨by rw [HR.out]; rfl, Upd.refl _ _⟩
  · have hsz : (⟨s.toArray⟩ : ByteArray).size = s.length := rfl
    rcases hp : Lib.parseIntB 64 s with v | _ | _
    rotate_left
    · skip
      have HR := Lib.hid (show numF s = none by
        cases hn : numF s with
        | none => rfl
        | some n =>
          obtain ⟨a, -, b⟩ := numF_some hn
          rw [a, parse_itoa n b] at hp; cases hp)
      obtain ⟨tp, p, hsyn⟩ := he.syn
      have S2 := Lib.hid (Tryz.strconv_ParseInt_10_at64_syntax_var ⟨s.toArray⟩ (by rw [hsz]; omega) hp tp p w hsyn)
      clear hsyn hp hsz he
      generalize digL s = d at *
      have g1 : ¬ (18 : Int) < (d.length : Int) := by omega
      clear hlen
      go_enter Tryz.func120, Tryz.ntmps120
      go_wp2_with fail
      refine S1.out.mono ?_
      rintro e w1 ⟨rfl, rfl⟩
      clear S1
      go_wp2_with fail
      refine S2.out.mono ?_
      rintro e w1 ⟨N, rfl, -, -, hb⟩
      have HU := Lib.hid (Upd.ofBelow hb)
      clear S2 hb
      go_wp2_with fail
      go_ret2
      exact ⟨by rw [HR.out]; rfl, HU.out⟩
    · skip
      have HR := Lib.hid (show numF s = none by
        cases hn : numF s with
        | none => rfl
        | some n =>
          obtain ⟨a, -, b⟩ := numF_some hn
          rw [a, parse_itoa n b] at hp; cases hp)
      obtain ⟨tp, p, hsyn⟩ := he.rng
      have S2 := Lib.hid (Tryz.strconv_ParseInt_10_at64_range_var ⟨s.toArray⟩ (by rw [hsz]; omega) hp tp p w hsyn)
      clear hsyn hp hsz he
      generalize digL s = d at *
      have g1 : ¬ (18 : Int) < (d.length : Int) := by omega
      clear hlen
      go_enter Tryz.func120, Tryz.ntmps120
      go_wp2_with fail
      refine S1.out.mono ?_
      rintro e w1 ⟨rfl, rfl⟩
      clear S1
      go_wp2_with fail
      refine S2.out.mono ?_
      rintro e w1 ⟨N, rfl, -, -, hb⟩
      have HU := Lib.hid (Upd.ofBelow hb)
      clear S2 hb
      go_wp2_with fail
      go_ret2
      exact ⟨by rw [HR.out]; rfl, HU.out⟩
    · skip
      obtain ⟨v0, v1⟩ := parse_range hp
      have S2 := Lib.hid (Tryz.strconv_ParseInt_10_at64_ok ⟨s.toArray⟩ (by rw [hsz]; omega) v hp w)
      have HR := Lib.hid (show numF s = if Lib.itoa v = s then some v else none by
        split
        · rename_i h
          rw [← h]; exact numF_itoa v (by rw [h]; omega)
        · rename_i h
          cases hn : numF s with
          | none => rfl
          | some n =>
            exfalso
            obtain ⟨a, -, b⟩ := numF_some hn
            rw [a, parse_itoa n b] at hp
            cases hp
            exact h a.symm)
      have S3 := Lib.hid (fun w1 (hu : Upd [] w w1) => decimal v w1 v0 v1 (he.upd hu))
      clear hp hsz he
      generalize digL s = d at *
      have g1 : ¬ (18 : Int) < (d.length : Int) := by omega
      clear hlen
      go_enter Tryz.func120, Tryz.ntmps120
      go_wp2_with fail
      refine S1.out.mono ?_
      rintro e wa ⟨rfl, rfl⟩
      clear S1
      go_wp2_with fail
      refine S2.out.mono ?_
      rintro e w1 ⟨rfl, hw⟩
      have hu : Upd [] wa w1 := by
        rcases hw with rfl | ⟨t, rfl⟩
        · exact Upd.refl _ _
        · exact Upd.ofBelow (Lib.bytesWorld_below _ _ _)
      have S4 := Lib.hid (S3.out w1 hu)
      have HU := Lib.hid hu
      clear S2 S3 hw hu
      go_wp2_with fail
      refine S4.out.mono ?_
      rintro e w2 ⟨rfl, hu2⟩
      have HU2 := Lib.hid (HU.out.trans hu2)
      clear S4 HU hu2
      by_cases heq : Lib.itoa v = s
      · have HR2 := Lib.hid (HR.out.trans (if_pos heq))
        rw [heq]
        clear HR heq
        go_wp2_with fail
        go_ret2
        exact ⟨by rw [HR2.out]; rfl, HU2.out⟩
      · have HR2 := Lib.hid (HR.out.trans (if_neg heq))
        clear HR
        generalize Lib.itoa v = A at *
        have hne : (A == s) = false := by simpa using heq
        go_wp2_with fail
        go_ret2
        exact ⟨by rw [HR2.out]; rfl, HU2.out⟩

end Go.Proofs.YtddciieaolaleaaGreatDoor

/-
  Labels made: what the program's calls return.
-/
namespace Go.Proofs.YtddciieaolaleaaGreatDoor
open Go.RowKit

set_option maxRecDepth 20000 in
set_option maxHeartbeats 4000000 in
theorem joinedI (v : Value) (xs : List Int) (w : World) (fp : List Nat) (hR : R1 fp w [v] xs) (h0 : 0 < xs.length) (hl : xs.length ≤ 1000000)
    (hv : ∀ x ∈ xs, (-9223372036854775808 ≤ x ∧ x ≤ 9223372036854775807) ∧ (Lib.itoa x).length ≤ 30) (he : Env w) :
    Calls Tryz.prog 124 #[v, es [44]] w fun e w' => e = .returned (es (txtV xs)) ∧ Upd [] w w' := by
  obtain ⟨i0, hi, hz0, hz1, hz2⟩ := info_parts Tryz.info9
  obtain ⟨a, cap, rfl, h1, h2, -⟩ := slF1_open hR
  unfold maxLen at h2
  have HR := Lib.hid hR
  have HV := Lib.hid hv
  have HE := Lib.hid he
  have hm2 : i0.bytes * xs.length ≤ 281474976710656 := by rw [hz2]; omega
  clear hR hv he
  go_enter Tryz.func124, Tryz.ntmps124
  go_wp2_with (first
    | (at_make; refine wpList_make_full _ rfl _ _ 68 rfl w.heap.size 9 i0 (es []) 1 Tryz.underlying68 hi hz0 hz1 .i64 .i64 _ _ xs.length rfl rfl rfl rfl hm2 (by unfold maxLen; omega) (Nat.le_refl _) ?_; intro w2 hrow hgrow)
    | fail)
  rw [made_one _ rfl] at hrow
  have hU : Upd [] w w2 := (Upd.refl _ _).grown hgrow (by simp)
  obtain ⟨fo, ho1, ho2, ho3⟩ := New.ofOwns (w := w) (e := 9) (enc := es) (xs := List.replicate xs.length ([] : List UInt8)) (by simpa using hrow)
  have HST := Lib.hid (And.intro (show RS fo w2 [.slice (some ⟨w.heap.size, 0, none⟩) xs.length xs.length] ((xs.take 0).map Lib.itoa ++ List.replicate (xs.length - 0) []) from by simpa using ho1) ho2)
  clear hrow hgrow ho1 ho2 ho3 hm2
  go_wp2_with fail
  go_loopw [13] (fun i wr => ∃ k : Nat, k ≤ xs.length ∧ i = .int .i64 k ∧ Upd [] w wr ∧ RS fo wr [.slice (some ⟨w.heap.size, 0, none⟩) xs.length xs.length] ((xs.take k).map Lib.itoa ++ List.replicate (xs.length - k) []) ∧ Own fo wr) (fun i _ => xs.length - (intOf i).toNat)
  case atStart => exact ⟨0, Nat.zero_le _, rfl, hU, HST.out.1, HST.out.2⟩
  case round =>
    clear HST hU
    obtain ⟨k, hk, rfl, hU, ho1, ho2⟩ := hrel
    by_cases hlt : k < xs.length
    · obtain ⟨a', cap', hv, -, -, hc⟩ := slF1_open (R1k.upd HR.out hU (by simp))
      cases hv
      obtain ⟨b1, o1, rfl, -, -, p1⟩ := hc k hlt
      have hset := set_fill Lib.itoa [] xs k hlt
      obtain ⟨⟨x0, x1⟩, -⟩ := HV.out xs[k] (List.getElem_mem hlt)
      have hlen : ((xs.take k).map Lib.itoa ++ List.replicate (xs.length - k) ([] : List UInt8)).length = xs.length := by simp; omega
      have HL := Lib.hid hlen
      have HS := Lib.hid hset
      have HU := Lib.hid hU
      have HO := Lib.hid (And.intro ho1 ho2)
      generalize xs[k] = x at *
      have S1 := Lib.hid (decimal x wr x0 x1 (HE.out.upd hU))
      clear hc hset hlen hU ho1 ho2
      go_wp2_with fail
      refine S1.out.mono ?_
      rintro e w3 ⟨rfl, hu3⟩
      obtain ⟨hbl, hcl0, hfz, hos⟩ := rowCellS (RSk.upd HO.out.1 hu3 (by simp)) (HO.out.2.upd hu3 (by simp)) HL.out k hlt
      have hos := hos (Lib.itoa x)
      rw [HS.out] at hos
      obtain ⟨z0, hz0'⟩ : ∃ z0 : List UInt8, w3.cell? ⟨w.heap.size, k, none⟩ = some (es z0) := ⟨_, hcl0⟩
      clear hcl0
      have HP := Lib.hid (And.intro hos (HU.out.trans hu3))
      clear S1 hos HO HU hu3 HS HL
      generalize Lib.itoa x = A at *
      go_wp2_with fail
      go_roundw
      case rel => exact ⟨k + 1, by omega, by go_num, HP.out.2.setCell (Or.inl (Nat.le_refl _)) _, HP.out.1.1, HP.out.1.2⟩
      case measure => simp [intOf]; omega
    · obtain rfl : k = xs.length := by omega
      obtain ⟨ps, hps⟩ : ∃ ps, ps = xs.map Lib.itoa := ⟨_, rfl⟩
      have hpl : ps.length = xs.length := by rw [hps]; simp
      have ho3 : RS fo wr [.slice (some ⟨w.heap.size, 0, none⟩) xs.length xs.length] ps := by rw [hps]; simpa using ho1
      obtain ⟨a', cap', hv, -, hc2, hc⟩ := slF1_open ho3
      simp only [Value.slice.injEq] at hv
      obtain ⟨rfl, -, rfl⟩ := hv
      have hle : (joinC 44 ps).length ≤ ps.length * (30 + 1) := joinC_le 44 30 ps (fun p hp => by
        rw [hps] at hp
        obtain ⟨x, hx, rfl⟩ := List.mem_map.1 hp
        exact (HV.out x hx).2)
      have hbk : w.heap.size < wr.heap.size := by
        obtain ⟨b, off, hb, -, hbl, -⟩ := hc 0 (by omega)
        cases hb; exact hbl
      have hmm : (ps.map (fun p => (⟨p.toArray⟩ : ByteArray))).map (fun b => b.data.toList) = ps := by
        rw [List.map_map]; exact (List.map_congr_left (fun p _ => rfl)).trans (List.map_id _)
      have hj : Lib.join ((ps.map (fun p => (⟨p.toArray⟩ : ByteArray))).map (fun b => b.data.toList)) (⟨#[44]⟩ : ByteArray).data.toList = joinC 44 ps := by
        rw [hmm]; exact join_lib 44 ps
      have S0 := Tryz.strings_Join w.heap.size 0 xs.length (ps.map (fun p => (⟨p.toArray⟩ : ByteArray))) ⟨#[44]⟩ wr (fun j x hx => by
        obtain ⟨hj1, rfl⟩ := List.getElem?_eq_some_iff.1 hx
        have hj2 : j < ps.length := by simpa using hj1
        obtain ⟨b, off, hb, -, -, hcl⟩ := hc j hj2
        cases hb
        rw [hcl]
        simp [es]) hbk (by simp; omega) (by simp; omega) (by rw [hj]; omega)
      rw [hj] at S0
      simp only [List.length_map, hpl] at S0
      have S1 := Lib.hid S0
      have HX := Lib.hid (show joinC 44 ps = txtV xs by rw [hps, txtV])
      have HU := Lib.hid hU
      clear hj hmm hle hc hc2 ho3 ho1 ho2 hps hU S0 HV HE HR
      generalize joinC 44 ps = J at *
      go_wp2_with fail
      refine S1.out.mono ?_
      rintro e w3 ⟨rfl, hb3⟩
      have HP := Lib.hid (HU.out.trans (Upd.ofBelow hb3))
      clear S1 hb3 HU
      go_wp2_with fail
      go_ret
      exact ⟨by rw [← HX.out]; rfl, HP.out⟩

end Go.Proofs.YtddciieaolaleaaGreatDoor

/-
  Words read as numbers.
-/
namespace Go.Proofs.YtddciieaolaleaaGreatDoor
open Go.RowKit

def NumsV (ps : List (List UInt8)) (w : World) (e : Ending) (w' : World) : Prop :=
  (∃ v', e = .returned (.tuple #[v', .bool (numsF ps).isSome]) ∧ New R1 w w' v' ((numsF ps).getD [])) ∧ Upd [] w w'

set_option maxRecDepth 20000 in
set_option maxHeartbeats 4000000 in
theorem readNumbersI (v : Value) (ps : List (List UInt8)) (w : World) (fp : List Nat) (hR : slF 1 (fun s => [es s]) fp w [v] ps) (hl : ps.length ≤ 2000001) (hp : ∀ p ∈ ps, p.length ≤ 2000000) (he : Env w) :
    Calls Tryz.prog 110 #[v] w (NumsV ps w) := by
  obtain ⟨i1, ki, kz0, kz1, kz2⟩ := info_parts Tryz.info2
  obtain ⟨a, cap, rfl, h1, h2, -⟩ := slF1_open hR
  unfold maxLen at h2
  have hlit := World.ownsRow_nil w w.heap.size 2 1
  have HLIT := Lib.hid hlit
  have HR := Lib.hid hR
  have HP := Lib.hid hp
  have HE := Lib.hid he
  clear hR hp he hlit
  go_enter Tryz.func110, Tryz.ntmps110
  go_wp2_with fail
  go_loopw [4, 11] (fun ov i wr => ∃ (k : Nat) (ns : List Int), k ≤ ps.length ∧ i = .int .i64 k ∧ ns.length = k ∧ Hid (numsF ps = (numsF (ps.drop k)).map (ns ++ ·)) ∧ Hid (wr.ownsRow w.heap.size 2 1 ov k (ns.map ei)) ∧ Upd [] w wr) (fun _ i _ => ps.length - (intOf i).toNat)
  case atStart => exact ⟨0, [], by omega, rfl, rfl, Lib.hid (by simp), HLIT, Upd.refl _ _⟩
  case round =>
    clear HLIT
    obtain ⟨k, ns, hk, rfl, hnl, hF, hown, hU⟩ := hrel
    have HNL := Lib.hid hnl
    clear hnl
    by_cases hlt : k < ps.length
    · obtain ⟨a', cap', hv, -, -, hc⟩ := slF1_open ((slF_kept _ _).upd HR.out hU (by simp))
      cases hv
      obtain ⟨b1, o1, rfl, -, -, p1⟩ := hc k hlt
      have hF1 := hF.out
      rw [List.drop_eq_getElem_cons hlt, numsF_cons] at hF1
      have hpk := HP.out ps[k] (List.getElem_mem hlt)
      have HF := Lib.hid hF1
      have HU := Lib.hid hU
      clear hF1 hF hc
      generalize ps[k] = s at *
      have S1 := Lib.hid (readDecimalI s wr hpk (HE.out.upd hU))
      clear hU
      go_wp2_with fail
      refine S1.out.mono ?_
      rintro e w3 ⟨rfl, hu3⟩
      have HU3 := Lib.hid (HU.out.trans hu3)
      have hown3 := ownsRow_upd hown.out hu3
      have hsz3 := HU3.out.size
      clear S1 HU hu3 hown
      cases hn : numF s with
      | none =>
        rw [hn] at HF
        have HN := Lib.hid (show numsF ps = none from HF.out)
        clear HF hown3
        go_wp2_with fail
        go_ret2
        exact ⟨⟨_, by rw [HN.out]; rfl, by rw [HN.out]; exact new_nil _ _⟩, HU3.out⟩
      | some x =>
        rw [hn] at HF
        have HN := Lib.hid (show numsF ps = (numsF (ps.drop (k + 1))).map ((ns ++ [x]) ++ ·) by
          rw [HF.out]
          simp [Function.comp_def])
        clear HF
        simp only [Option.getD_some, Option.isSome_some]
        go_wp2_with (first
          | (at_builtin; refine wpList_append_tight _ rfl _ _ 69 rfl w.heap.size 2 i1 (.int .i64 0) 1 8 Tryz.underlying69 ki kz0 kz1 kz2 rfl (by decide) _ _ _ rfl (hown3.alloc _) ⟨w3.heap.size, 0, none⟩ 1 1 [ei x] rfl rfl (fun j u hj => by rw [addr_add]; exact cell_new w3 #[ei x] _ _ rfl _ _ (by simpa using hj)) (by simp [Value.oneCell']) (by unfold maxLen; omega) (by omega) (by simp; omega) ?_)
          | fail)
        intro v4 w4 hown4 hg4 ht4
        have hu4 : Upd [] w w4 := (HU3.out.alloc _).grown hg4 (fun b hb => Or.inl (by have := (hown3.lt b hb).1; omega))
        have HQ := Lib.hid (And.intro hown4 hu4)
        clear hown4 hg4 ht4 hu4 hown3
        go_wp2_with fail
        go_roundw
        case rel => exact ⟨k + 1, ns ++ [x], by omega, by go_num, by simp [HNL.out], HN, Lib.hid (by simpa using HQ.out.1), HQ.out.2⟩
        case measure => simp [intOf]; omega
    · obtain rfl : k = ps.length := by omega
      have hF1 := hF.out
      rw [List.drop_of_length_le (Nat.le_refl _)] at hF1
      have HN := Lib.hid (show numsF ps = some ns by rw [hF1]; simp [numsF])
      have HQ := Lib.hid (And.intro (New.ofOwns (w := w) (e := 2) (enc := ei) (xs := ns) (by rw [HNL.out]; exact hown.out)) hU)
      clear hown hU hF hF1
      go_wp2_with fail
      go_ret2
      exact ⟨⟨_, by rw [HN.out]; rfl, by rw [HN.out]; exact HQ.out.1⟩, HQ.out.2⟩

end Go.Proofs.YtddciieaolaleaaGreatDoor

/-
  Labels made and read: what the program's calls return.
-/
namespace Go.Proofs.YtddciieaolaleaaGreatDoor
open Go.RowKit

def LabV (name : List UInt8) (xs : List Int) (w : World) (e : Ending) (w' : World) : Prop :=
  (∃ t : List UInt8, e = .returned (.tuple #[es t, .bool (labT name xs).isSome]) ∧ Hid (∀ s, labT name xs = some s → t = s)) ∧ Upd [] w w'

theorem isV_itoa {x : Int} (h : isV x = true) : (-9223372036854775808 ≤ x ∧ x ≤ 9223372036854775807) ∧ (Lib.itoa x).length ≤ 30 := by
  have hb := inB_true h
  have h1 := itoa_len64 h
  have h2 : (Lib.itoa x).length ≤ (digL (Lib.itoa x)).length + 1 := by unfold digL; split <;> simp <;> omega
  omega

theorem labT_no {name : List UInt8} {xs : List Int} (ht : name ≠ tauL) (h : (actF name && decide (xs.length ≤ 2) && xs.all isV) = false) : labT name xs = none := by
  unfold labT; rw [if_neg ht, h]; rfl
theorem labT_yes {name : List UInt8} {xs : List Int} (ht : name ≠ tauL) (h : (actF name && decide (xs.length ≤ 2) && xs.all isV) = true) : labT name xs = some (if xs = [] then name else ((name ++ [40]) ++ txtV xs) ++ [41]) := by
  unfold labT; rw [if_neg ht, if_pos h]

set_option maxRecDepth 20000 in
set_option maxHeartbeats 4000000 in
theorem labelOfI (name : List UInt8) (v : Value) (xs : List Int) (w : World) (fp : List Nat) (hn : name.length ≤ 2000000) (hR : R1 fp w [v] xs) (he : Env w) :
    Calls Tryz.prog 113 #[es name, v] w (LabV name xs w) := by
  obtain ⟨a, cap, rfl, h1, h2, -⟩ := slF1_open hR
  unfold maxLen at h2
  by_cases htau : name = tauL
  · have HT := Lib.hid (show labT name xs = if xs = [] then some tauL else none by unfold labT; rw [if_pos htau])
    have e1 : es name = .string ⟨#[116, 97, 117]⟩ := by rw [htau]; rfl
    rw [e1]
    clear hR he e1 htau
    cases xs with
    | nil =>
      go_enter Tryz.func113, Tryz.ntmps113
      go_wp2_with fail
      go_ret2
      exact ⟨⟨tauL, by rw [HT.out]; rfl, Lib.hid (fun s hs => by rw [HT.out] at hs; simpa using hs)⟩, Upd.refl _ _⟩
    | cons x xs =>
      have g0 : ¬ (((x :: xs).length : Int) = 0) := by simp; omega
      have HT2 := Lib.hid (show labT name (x :: xs) = none by rw [HT.out]; rfl)
      clear HT
      generalize x :: xs = ys at *
      have g1 : ((ys.length : Int) == 0) = false := by simpa using g0
      go_enter Tryz.func113, Tryz.ntmps113
      go_wp2_with fail
      go_ret2
      exact ⟨⟨tauL, by rw [HT2.out]; first | rfl | (simp [tauL, g1, es]), Lib.hid (fun s hs => by rw [HT2.out] at hs; cases hs)⟩, Upd.refl _ _⟩
  · have g0 : (name == [116, 97, 117]) = false := by simpa [tauL] using htau
    have HTAU := Lib.hid htau
    have S1 := Lib.hid (isActionI name w hn)
    cases ha : actF name with
    | false =>
      have HT := Lib.hid (labT_no (xs := xs) htau (by rw [ha]; rfl))
      rw [ha] at S1
      clear hR he htau ha
      go_enter Tryz.func113, Tryz.ntmps113
      go_wp2_with fail
      refine S1.out.mono ?_
      rintro e w1 ⟨rfl, rfl⟩
      clear S1
      go_wp2_with fail
      go_ret2
      exact ⟨⟨[], by rw [HT.out]; rfl, Lib.hid (fun s hs => by rw [HT.out] at hs; cases hs)⟩, Upd.refl _ _⟩
    | true =>
      rw [ha] at S1
      by_cases hlen : xs.length ≤ 2
      · have g3 : ¬ ((2 : Int) < (xs.length : Int)) := by omega
        have S2 := Lib.hid (areValues _ xs w fp hR)
        cases hv : xs.all isV with
        | false =>
          have HT := Lib.hid (labT_no (xs := xs) htau (by rw [hv]; simp))
          rw [hv] at S2
          clear hR he htau ha hv hlen
          go_enter Tryz.func113, Tryz.ntmps113
          go_wp2_with fail
          refine S1.out.mono ?_
          rintro e w1 ⟨rfl, rfl⟩
          clear S1
          go_wp2_with fail
          refine S2.out.mono ?_
          rintro e w1 ⟨rfl, rfl⟩
          clear S2
          go_wp2_with fail
          go_ret2
          exact ⟨⟨[], by rw [HT.out]; rfl, Lib.hid (fun s hs => by rw [HT.out] at hs; cases hs)⟩, Upd.refl _ _⟩
        | true =>
          have HT := Lib.hid (labT_yes (xs := xs) htau (by rw [ha, hv, decide_eq_true hlen]; rfl))
          rw [hv] at S2
          by_cases h0 : xs = []
          · have HT2 := Lib.hid (HT.out.trans (by rw [if_pos h0]))
            have g4 : ((xs.length : Int) == 0) = true := by rw [h0]; rfl
            clear hR he htau ha hv hlen h0 HT
            go_enter Tryz.func113, Tryz.ntmps113
            go_wp2_with fail
            refine S1.out.mono ?_
            rintro e w1 ⟨rfl, rfl⟩
            clear S1
            go_wp2_with fail
            refine S2.out.mono ?_
            rintro e w1 ⟨rfl, rfl⟩
            clear S2
            go_wp2_with fail
            go_ret2
            exact ⟨⟨name, by rw [HT2.out]; rfl, Lib.hid (fun s hs => by rw [HT2.out] at hs; simpa using hs)⟩, Upd.refl _ _⟩
          · have HT2 := Lib.hid (HT.out.trans (by rw [if_neg h0]))
            have hpos : 0 < xs.length := List.length_pos_iff.2 h0
            have g4 : ((xs.length : Int) == 0) = false := by simp; omega
            have S3 := Lib.hid (joinedI _ xs w fp hR hpos (by omega) (fun x hx => isV_itoa (List.all_eq_true.1 hv x hx)) he)
            have hjl : (txtV xs).length ≤ 2 * 31 := by
              refine Nat.le_trans (joinC_le 44 30 (xs.map Lib.itoa) (fun p hp => ?_)) ?_
              · obtain ⟨x, hx, rfl⟩ := List.mem_map.1 hp
                exact (isV_itoa (List.all_eq_true.1 hv x hx)).2
              · rw [List.length_map]; omega
            clear hR he htau ha hv hlen h0 HT
            generalize txtV xs = J at *
            go_enter Tryz.func113, Tryz.ntmps113
            go_wp2_with fail
            refine S1.out.mono ?_
            rintro e w1 ⟨rfl, rfl⟩
            clear S1
            go_wp2_with fail
            refine S2.out.mono ?_
            rintro e w1 ⟨rfl, rfl⟩
            clear S2
            go_wp2_with fail
            refine S3.out.mono ?_
            rintro e w3 ⟨rfl, hu3⟩
            have HU := Lib.hid hu3
            clear S3 hu3
            go_wp2_with fail
            go_ret2
            exact ⟨⟨_, by rw [HT2.out]; rfl, Lib.hid (fun s hs => by rw [HT2.out] at hs; simpa using hs)⟩, HU.out⟩
      · have g3 : (2 : Int) < (xs.length : Int) := by omega
        have HT := Lib.hid (labT_no (xs := xs) htau (by rw [decide_eq_false hlen]; simp))
        clear hR he htau ha hlen
        go_enter Tryz.func113, Tryz.ntmps113
        go_wp2_with fail
        refine S1.out.mono ?_
        rintro e w1 ⟨rfl, rfl⟩
        clear S1
        go_wp2_with fail
        go_ret2
        exact ⟨⟨[], by rw [HT.out]; rfl, Lib.hid (fun s hs => by rw [HT.out] at hs; cases hs)⟩, Upd.refl _ _⟩

end Go.Proofs.YtddciieaolaleaaGreatDoor

/-
  Labels read: what the program's calls return.
-/
namespace Go.Proofs.YtddciieaolaleaaGreatDoor
open Go.RowKit

theorem es_bytes (b : ByteArray) : es b.data.toList = .string b := by simp [es]

theorem splitC_len (c : UInt8) : ∀ l : List UInt8, (splitC c l).length ≤ l.length + 1 ∧ ∀ p ∈ splitC c l, p.length ≤ l.length
  | [] => by simp [splitC]
  | b :: l => by
    obtain ⟨h1, h2⟩ := splitC_len c l
    by_cases hb : b = c
    · subst hb
      have e : splitC b (b :: l) = [] :: splitC b l := by rw [splitC, if_pos rfl]
      rw [e]
      refine ⟨by simp; omega, fun p hp => ?_⟩
      rcases List.mem_cons.1 hp with rfl | hp
      · simp
      · have := h2 p hp; simp; omega
    · obtain ⟨p, ps, e1, e2⟩ := splitC_cons c b l hb
      rw [e2]
      rw [e1] at h1 h2
      refine ⟨by simp at h1 ⊢; omega, fun q hq => ?_⟩
      rcases List.mem_cons.1 hq with rfl | hq
      · have := h2 p (by simp); simp; omega
      · have := h2 q (by simp [hq]); simp; omega

theorem cut_len (s sep : List UInt8) : (Lib.cut s sep).1.length ≤ s.length ∧ (Lib.cut s sep).2.1.length ≤ s.length := by
  unfold Lib.cut
  split <;> simp <;> omega
theorem trim_len (s p : List UInt8) : (Lib.trimSuffix s p).length ≤ s.length := by
  unfold Lib.trimSuffix
  split <;> simp <;> omega
theorem cut_false {s : List UInt8} (h : (Lib.cut s [40]).2.2 = false) : Lib.cut s [40] = (s, [], false) := by
  unfold Lib.cut at h ⊢
  split at h
  · cases h
  · rename_i h1; rw [if_neg h1]

theorem cutI (l : List UInt8) (w : World) (hl : l.length ≤ 2000000) (he : Env w) :
    Calls Tryz.prog 109 #[es l, .string ⟨#[40]⟩] w fun e w' => e = .returned (.tuple #[es (Lib.cut l [40]).1, es (Lib.cut l [40]).2.1, .bool (Lib.cut l [40]).2.2]) ∧ Upd [] w w' := by
  obtain ⟨m, hm⟩ := he.m
  have hsz : (⟨l.toArray⟩ : ByteArray).size = l.length := rfl
  refine (Tryz.strings_Cut ⟨l.toArray⟩ ⟨#[40]⟩ m w (by rw [hsz]; omega) hm).mono ?_
  rintro e w1 ⟨rfl, n, rfl⟩
  exact ⟨rfl, (Upd.refl _ _).drewN n⟩

theorem trimI (l : List UInt8) (w : World) (hl : l.length ≤ 2000000) :
    Calls Tryz.prog 112 #[es l, .string ⟨#[41]⟩] w fun e w' => e = .returned (es (Lib.trimSuffix l [41])) ∧ w' = w := by
  have hsz : (⟨l.toArray⟩ : ByteArray).size = l.length := rfl
  exact (Tryz.strings_TrimSuffix ⟨l.toArray⟩ ⟨#[41]⟩ w (by rw [hsz]; omega)).mono (fun e w1 h => h)

theorem splitI (l : List UInt8) (w : World) (hl : l.length ≤ 2000000) (he : Env w) :
    Calls Tryz.prog 111 #[es l, .string ⟨#[44]⟩] w fun e w' => (∃ v', e = .returned v' ∧ New RS w w' v' (splitC 44 l)) ∧ Upd [] w w' := by
  obtain ⟨m, hm⟩ := he.m
  have hsz : (⟨l.toArray⟩ : ByteArray).size = l.length := rfl
  have hlen := Lib.splitB_all ⟨#[44]⟩ (by decide) 0 (Lib.countB ⟨l.toArray⟩ ⟨#[44]⟩) ⟨l.toArray⟩ rfl
  have hdat : (Lib.splitB ⟨#[44]⟩ 0 (Lib.countB ⟨l.toArray⟩ ⟨#[44]⟩) ⟨l.toArray⟩).map (·.data.toList) = splitC 44 l := by
    rw [Lib.splitB_data]; exact split_lib 44 l
  refine (Tryz.strings_Split ⟨l.toArray⟩ ⟨#[44]⟩ m w (by rw [hsz]; omega) hm (by decide)).mono ?_
  rintro e w1 ⟨rfl, rfl⟩
  generalize Lib.splitB ⟨#[44]⟩ 0 (Lib.countB ⟨l.toArray⟩ ⟨#[44]⟩) ⟨l.toArray⟩ = bs at *
  generalize Lib.countB ⟨l.toArray⟩ ⟨#[44]⟩ = n at *
  have hsp := (splitC_len 44 l).1
  have hmap : bs.map Value.string = (splitC 44 l).map es := by
    rw [← hdat, List.map_map]
    exact List.map_congr_left (fun b _ => (es_bytes b).symm)
  have hn : n + 1 = (splitC 44 l).length := by rw [← hdat, List.length_map, hlen]
  rw [hmap, hn]
  exact ⟨⟨_, rfl, new_lit (enc := es) w 9 (splitC 44 l) (by unfold maxLen; omega)⟩, (Upd.refl _ _).alloc _⟩

def ReadV (s : List UInt8) (w : World) (e : Ending) (w' : World) : Prop :=
  (∃ (n : List UInt8) (v' : Value) (vs : List Int), e = .returned (.tuple #[es n, v', .bool (readF s).isSome]) ∧ New R1 w w' v' vs ∧ (readF s).getD ([], []) = (n, vs)) ∧ Upd [] w w'

set_option maxRecDepth 20000 in
set_option maxHeartbeats 4000000 in
theorem readLabelI (s : List UInt8) (w : World) (hl : s.length ≤ 2000000) (he : Env w) : Calls Tryz.prog 99 #[es s] w (ReadV s w) := by
  have S1 := Lib.hid (cutI s w hl he)
  obtain ⟨hc1, hc2⟩ := cut_len s [40]
  have HE := Lib.hid he
  clear he
  cases hm : (Lib.cut s [40]).2.2 with
  | false =>
    have hcf := cut_false hm
    have HF := Lib.hid (show readF s = if labT s [] = some s then some (s, []) else none by unfold readF; rw [hm]; rfl)
    rw [hcf] at S1
    clear hm hcf hc1 hc2
    go_enter Tryz.func99, Tryz.ntmps99
    go_wp2_with fail
    refine S1.out.mono ?_
    rintro e w1 ⟨rfl, hu1⟩
    obtain ⟨f0, hR0, hO0, hG0⟩ := new_nil w w1
    have S4 := Lib.hid (labelOfI s (.slice none 0 0) [] w1 f0 hl hR0 (HE.out.upd hu1))
    have HU1 := Lib.hid hu1
    have HN := Lib.hid (show New R1 w w1 (.slice none 0 0) [] from ⟨f0, hR0, hO0, hG0⟩)
    clear S1 hu1 hR0 hO0 hG0
    go_wp2_with fail
    refine S4.out.mono ?_
    rintro e w4 ⟨⟨t, rfl, ht⟩, hu4⟩
    have HU := Lib.hid (HU1.out.trans hu4)
    have HN4 := Lib.hid (R1k.new HN.out hu4 (by simp))
    clear S4 HU1 HN hu4
    cases hL : labT s [] with
    | none =>
      have HR := Lib.hid (show readF s = none by rw [HF.out, hL]; rfl)
      clear HF ht hL
      go_wp2_with fail
      go_ret3
      exact ⟨⟨[], _, [], by rw [HR.out]; rfl, new_nil _ _, by rw [HR.out]; rfl⟩, HU.out⟩
    | some s' =>
      obtain rfl := ht.out s' hL
      by_cases heq : t = s
      · have HR := Lib.hid (show readF s = some (s, []) by rw [HF.out, hL, if_pos (by rw [heq])])
        clear HF hL
        subst heq
        clear ht
        go_wp2_with fail
        go_ret3
        exact ⟨⟨t, _, [], by rw [HR.out]; rfl, HN4.out, by rw [HR.out]; rfl⟩, HU.out⟩
      · have HR := Lib.hid (show readF s = none by rw [HF.out, hL, if_neg (by simpa using heq)])
        have hne : (t == s) = false := by simpa using heq
        clear HF ht hL
        go_wp2_with fail
        go_ret3
        exact ⟨⟨[], _, [], by rw [HR.out]; rfl, new_nil _ _, by rw [HR.out]; rfl⟩, HU.out⟩
  | true =>
    have HF := Lib.hid (show readF s = match numsF (splitC 44 (Lib.trimSuffix (Lib.cut s [40]).2.1 [41])) with
      | none => none
      | some vs => if labT (Lib.cut s [40]).1 vs = some s then some ((Lib.cut s [40]).1, vs) else none by unfold readF; rw [hm]; rfl)
    rw [hm] at S1
    clear hm
    generalize (Lib.cut s [40]).1 = nm at *
    generalize (Lib.cut s [40]).2.1 = rest at *
    have htl := trim_len rest [41]
    have hnm : nm.length ≤ 2000000 := by omega
    have S2 := Lib.hid (fun w1 : World => trimI rest w1 (by omega))
    generalize Lib.trimSuffix rest [41] = r2 at *
    obtain ⟨hp1, hp2⟩ := splitC_len 44 r2
    have S3 := Lib.hid (fun (w1 : World) (hu : Upd [] w w1) => splitI r2 w1 (by omega) (HE.out.upd hu))
    generalize splitC 44 r2 = ps at *
    have HPL := Lib.hid (show ∀ p ∈ ps, p.length ≤ 2000000 from fun p hp => by have := hp2 p hp; omega)
    have hpl : ps.length ≤ 2000001 := by omega
    clear hp1 hp2 htl hc1 hc2
    go_enter Tryz.func99, Tryz.ntmps99
    go_wp2_with fail
    refine S1.out.mono ?_
    rintro e w1 ⟨rfl, hu1⟩
    have S2 := Lib.hid (S2.out w1)
    have S3 := Lib.hid (S3.out w1 hu1)
    have HU1 := Lib.hid hu1
    clear S1 hu1
    go_wp2_with fail
    refine S2.out.mono ?_
    rintro e w2 ⟨rfl, rfl⟩
    clear S2
    go_wp2_with fail
    refine S3.out.mono ?_
    rintro e w3 ⟨⟨v3, rfl, fq, hq1, hq2, hq3⟩, hu3⟩
    have HU3 := Lib.hid (HU1.out.trans hu3)
    have S4 := Lib.hid (readNumbersI v3 ps w3 fq hq1 (by omega) HPL.out (HE.out.upd HU3.out))
    have hsz3 := HU3.out.size
    clear S3 HU1 hu3 hq1 hq2 hq3
    go_wp2_with fail
    refine S4.out.mono ?_
    rintro e w4 ⟨⟨v4, rfl, hn4⟩, hu4⟩
    have HU4 := Lib.hid (HU3.out.trans hu4)
    clear S4 HU3 hu4
    cases hN : numsF ps with
    | none =>
      have HR := Lib.hid (show readF s = none by rw [HF.out, hN])
      clear HF hN hn4
      go_wp2_with fail
      go_ret3
      exact ⟨⟨[], _, [], by rw [HR.out]; rfl, new_nil _ _, by rw [HR.out]; rfl⟩, HU4.out⟩
    | some vs =>
      rw [hN] at hn4 HF
      have HF2 := Lib.hid (show readF s = if labT nm vs = some s then some (nm, vs) else none from HF.out)
      obtain ⟨f4, hr4, -, -⟩ := id hn4
      have S5 := Lib.hid (labelOfI nm v4 vs w4 f4 hnm hr4 (HE.out.upd HU4.out))
      have HN := Lib.hid (show New R1 w w4 v4 vs from hn4.mono hsz3)
      clear HF hN hn4 hr4
      go_wp2_with fail
      refine S5.out.mono ?_
      rintro e w5 ⟨⟨t, rfl, ht⟩, hu5⟩
      have HU := Lib.hid (HU4.out.trans hu5)
      have HN5 := Lib.hid (R1k.new HN.out hu5 (by simp))
      clear S5 HU4 HN hu5
      cases hL : labT nm vs with
      | none =>
        have HR := Lib.hid (show readF s = none by rw [HF2.out, hL]; rfl)
        clear HF2 ht hL
        go_wp2_with fail
        go_ret3
        exact ⟨⟨[], _, [], by rw [HR.out]; rfl, new_nil _ _, by rw [HR.out]; rfl⟩, HU.out⟩
      | some s' =>
        obtain rfl := ht.out s' hL
        by_cases heq : t = s
        · have HR := Lib.hid (show readF s = some (nm, vs) by rw [HF2.out, hL, if_pos (by rw [heq])])
          clear HF2 hL
          subst heq
          clear ht
          go_wp2_with fail
          go_ret3
          exact ⟨⟨nm, _, vs, by rw [HR.out]; rfl, HN5.out, by rw [HR.out]; rfl⟩, HU.out⟩
        · have HR := Lib.hid (show readF s = none by rw [HF2.out, hL, if_neg (by simpa using heq)])
          have hne : (t == s) = false := by simpa using heq
          clear HF2 ht hL
          go_wp2_with fail
          go_ret3
          exact ⟨⟨[], _, [], by rw [HR.out]; rfl, new_nil _ _, by rw [HR.out]; rfl⟩, HU.out⟩

set_option maxRecDepth 20000 in
theorem isLabelI (s : List UInt8) (w : World) (hl : s.length ≤ 2000000) (he : Env w) : Calls Tryz.prog 86 #[es s] w fun e w' => e = .returned (.bool (readF s).isSome) ∧ Upd [] w w' := by
  have S1 := Lib.hid (readLabelI s w hl he)
  clear he
  go_enter Tryz.func86, Tryz.ntmps86
  go_wp2_with fail
  refine S1.out.mono ?_
  rintro e w1 ⟨⟨n, v, vs, rfl, hn, hr⟩, hu⟩
  have HU := Lib.hid hu
  clear S1 hn hr hu
  go_wp2_with fail
  go_ret
  exact ⟨rfl, HU.out⟩

end Go.Proofs.YtddciieaolaleaaGreatDoor

/-
  Lists of labels: what the program's and the reference's calls return.
-/
namespace Go.Proofs.YtddciieaolaleaaGreatDoor
open Go.RowKit

/-- whether a text is a label. -/
def isLab (s : List UInt8) : Bool := (readF s).isSome

set_option maxRecDepth 20000 in
theorem labelS (s : List UInt8) (w : World) (hl : s.length ≤ 2000000) : Calls Tryz.prog 83 #[es s] w fun e w' => e = .returned (.bool (isLab s)) ∧ Upd [] w w' := by
  have S1 := Lib.hid (valuesS s w hl)
  go_enter Tryz.func83, Tryz.ntmps83
  go_wp2_with fail
  refine S1.out.mono ?_
  rintro e w1 ⟨⟨v, vs, rfl, hn, -⟩, hu⟩
  have HU := Lib.hid hu
  clear S1 hn hu
  go_wp2_with fail
  go_ret
  exact ⟨rfl, HU.out⟩

end Go.Proofs.YtddciieaolaleaaGreatDoor

/-
  Binary images, plainly: numbers, texts, the check value, the seal.
-/
namespace Go.Proofs.YtddciieaolaleaaGreatDoor
open Go.RowKit

end Go.Proofs.YtddciieaolaleaaGreatDoor

/-
  Formulas, plainly: their shape, their fields, what binds a variable; validity as the program and as the reference reckon it.
-/
namespace Go.Proofs.YtddciieaolaleaaGreatDoor
open Go.RowKit

/-- a node: kind, variable, label, and whether the label is negated. -/
structure Nd where
  kd : Int
  vr : Int
  lb : List UInt8
  nt : Bool
deriving DecidableEq

/-- a pattern: nothing, a label, or a name before a star. -/
def patF (s : List UInt8) : Bool := s == [] || isLab s || (s.getLast? == some 42 && actF s.dropLast)
end Go.Proofs.YtddciieaolaleaaGreatDoor

/-
  The kind of an image and its contents, plainly.
-/
namespace Go.Proofs.YtddciieaolaleaaGreatDoor
open Go.RowKit

end Go.Proofs.YtddciieaolaleaaGreatDoor

/-
  The check value: what both sides' calls return.
-/
namespace Go.Proofs.YtddciieaolaleaaGreatDoor
open Go.RowKit

end Go.Proofs.YtddciieaolaleaaGreatDoor

/-
  The kind of an image, and the reader of its contents: what both sides' calls return.
-/
namespace Go.Proofs.YtddciieaolaleaaGreatDoor
open Go.RowKit

end Go.Proofs.YtddciieaolaleaaGreatDoor

/-
  The reader of the contents of a formula's image: what both sides' calls return.
-/
namespace Go.Proofs.YtddciieaolaleaaGreatDoor
open Go.RowKit

end Go.Proofs.YtddciieaolaleaaGreatDoor

/-
  Images of formulas read back, plainly.
-/
namespace Go.Proofs.YtddciieaolaleaaGreatDoor
open Go.RowKit

theorem isLab_len {s : List UInt8} (h : isLab s = true) : s.length ≤ 100 := by
  obtain ⟨nm, vs, hl⟩ : ∃ nm vs, labT nm vs = some s := by
    unfold isLab readF at h
    split at h
    · split at h
      · simp at h
      · split at h
        · next hq => exact ⟨_, _, hq⟩
        · simp at h
    · split at h
      · next hq => exact ⟨_, _, hq⟩
      · simp at h
  unfold labT at hl
  split at hl
  · split at hl
    · cases hl; simp [tauL]
    · simp at hl
  · split at hl
    · next hc =>
      simp only [Bool.and_eq_true, decide_eq_true_eq] at hc
      obtain ⟨⟨ha, h2⟩, hv⟩ := hc
      have hn : nm.length ≤ 10 := by unfold actF nameF at ha; simp only [Bool.and_eq_true, decide_eq_true_eq] at ha; omega
      split at hl
      · cases hl; omega
      · cases hl
        have := joinC_le 44 30 (vs.map Lib.itoa) (by
          intro p hp
          obtain ⟨x, hx, rfl⟩ := List.mem_map.1 hp
          exact (isV_itoa (List.all_eq_true.1 hv x hx)).2)
        have h3 : (vs.map Lib.itoa).length * (30 + 1) ≤ 2 * 31 := Nat.mul_le_mul (by simpa using h2) (by omega)
        simp only [List.length_append, List.length_cons, List.length_nil, txtV]
        omega
    · simp at hl
theorem patF_len {s : List UInt8} (h : patF s = true) : s.length ≤ 100 := by
  unfold patF at h
  simp only [Bool.or_eq_true, Bool.and_eq_true, beq_iff_eq] at h
  rcases h with (h | h) | ⟨-, h⟩
  · rw [h]; simp
  · exact isLab_len h
  · unfold actF nameF at h; simp only [Bool.and_eq_true, decide_eq_true_eq, List.length_dropLast] at h; omega
end Go.Proofs.YtddciieaolaleaaGreatDoor

/-
  The text of a formula, plainly.
-/
namespace Go.Proofs.YtddciieaolaleaaGreatDoor
open Go.RowKit

def parX (b : Bool) (l : List UInt8) : List UInt8 := if b then ([40] ++ l) ++ [41] else l
/-- the text of a test. -/
def testF (s : List UInt8) (nt : Bool) : List UInt8 :=
  let t := if s = [] then [95] else if Lib.hasSuffix s [42] then s.dropLast ++ [40, 42, 41] else s
  if nt then [33] ++ t else t
theorem parX_len (b : Bool) (l : List UInt8) : (parX b l).length ≤ l.length + 2 := by cases b <;> simp [parX]
theorem testF_len (s : List UInt8) (nt : Bool) : (testF s nt).length ≤ s.length + 4 := by
  have key : (if s = [] then [95] else if Lib.hasSuffix s [42] then s.dropLast ++ [40, 42, 41] else s : List UInt8).length ≤ s.length + 3 := by
    split
    · simp
    · split
      · simp only [List.length_append, List.length_dropLast, List.length_cons, List.length_nil]; omega
      · omega
  unfold testF
  cases nt
  · simpa using Nat.le_succ_of_le key
  · simp only [if_true, List.length_append, List.length_cons, List.length_nil]; omega
end Go.Proofs.YtddciieaolaleaaGreatDoor

/-
  Regular expressions, plainly: their elements.
-/
namespace Go.Proofs.YtddciieaolaleaaGreatDoor
open Go.RowKit

/-- an element: kind, label, and whether the label is negated. -/
structure Rg where
  kd : Int
  lb : List UInt8
  nt : Bool
deriving DecidableEq
def rg0 : Rg := ⟨0, [], false⟩

end Go.Proofs.YtddciieaolaleaaGreatDoor

/-
  The text of a regular expression, plainly.
-/
namespace Go.Proofs.YtddciieaolaleaaGreatDoor
open Go.RowKit

def isCA (k : Int) : Bool := k == 1 || k == 2
def isA2 (k : Int) : Bool := k == 2
def kdY : Tr Rg → Int | .mk n _ => n.kd
/-- the text of an element over its items' kinds and texts. -/
def nodeY (n : Rg) (k0 k1 : Int) (t0 t1 : List UInt8) : List UInt8 :=
  if n.kd = 1 then (parX (isCA k0) t0 ++ [46]) ++ parX (isA2 k1) t1
  else if n.kd = 2 then (parX (isA2 k0) t0 ++ [43]) ++ t1
  else if n.kd = 3 then parX (isCA k0) t0 ++ [42]
  else testF n.lb n.nt
mutual
def textY : Tr Rg → List UInt8
  | .mk n args => nodeY n ((args.map kdY).getD 0 0) ((args.map kdY).getD 1 0) ((textYs args).getD 0 []) ((textYs args).getD 1 [])
def textYs : List (Tr Rg) → List (List UInt8)
  | [] => []
  | x :: xs => textY x :: textYs xs
end
def rgFit (n : Rg) : Prop := (0 ≤ n.kd ∧ n.kd ≤ 3) ∧ n.lb.length ≤ 100
theorem nodeY_len (n : Rg) (h : rgFit n) (k0 k1 : Int) (t0 t1 : List UInt8) : (nodeY n k0 k1 t0 t1).length ≤ 120 + t0.length + t1.length := by
  obtain ⟨hk, hl⟩ := h
  have p1 := parX_len (isCA k0) t0
  have p2 := parX_len (isA2 k1) t1
  have p3 := parX_len (isA2 k0) t0
  have p4 := testF_len n.lb n.nt
  unfold nodeY
  repeat' split
  all_goals try simp only [List.length_append, List.length_cons, List.length_nil]
  all_goals omega
mutual
theorem textY_len : ∀ x : Tr Rg, (∀ n ∈ flatT x, rgFit n) → (textY x).length ≤ 120 * (flatT x).length
  | .mk t args, h => by
    have ih := textYs_len args (fun n hn => h n (by rw [flatT]; exact List.mem_cons_of_mem _ hn))
    have h1 := nodeY_len t (h t (by simp [flatT])) ((args.map kdY).getD 0 0) ((args.map kdY).getD 1 0) ((textYs args).getD 0 []) ((textYs args).getD 1 [])
    rw [textY, flatT, List.length_cons]
    omega
theorem textYs_len : ∀ xs : List (Tr Rg), (∀ n ∈ flatTs xs, rgFit n) → ((textYs xs).getD 0 []).length + ((textYs xs).getD 1 []).length ≤ 120 * (flatTs xs).length
  | [], _ => by simp [textYs, flatTs]
  | [x], h => by
    have := textY_len x (fun n hn => h n (by simp [flatTs, hn]))
    simp [textYs, flatTs]; omega
  | x :: y :: xs, h => by
    have h1 := textY_len x (fun n hn => h n (by simp [flatTs, hn]))
    have h2 := textY_len y (fun n hn => h n (by simp [flatTs, hn]))
    simp [textYs, flatTs]; omega
end
theorem textYs_map (xs : List (Tr Rg)) : textYs xs = xs.map textY := by
  induction xs with
  | nil => rfl
  | cons x xs ih => simp [textYs, ih]

end Go.Proofs.YtddciieaolaleaaGreatDoor

/-
  The laws' helper functions over lists of elements of regular expressions.
-/
namespace Go.Proofs.YtddciieaolaleaaGreatDoor
open Go.RowKit Go.ChangeShapes

abbrev R_G1 : Rp (List Rg) := slF 3 (fun t => [ei t.kd, es t.lb, .bool t.nt])
theorem R_G1k : Kept R_G1 := slF_kept _ _
def szF_G1 (x : List Rg) : Int := x.length + totS (x.map Rg.lb)
def rgsOk (x : List Rg) : Prop := ∀ n ∈ x, n.lb.length ≤ 9223372036854775807

theorem Tryz.infoRg : (Tryz.prog.info? 43).map (fun i => (i.zero, i.size, i.bytes)) = some (some (.agg #[.int .i64 0, .string ⟨#[]⟩, .bool false]), 3, 32) := by kernel_rfl

set_option maxRecDepth 20000 in
set_option maxHeartbeats 400000 in
theorem szReg (a : Int) (c : List UInt8) (d : Bool) (left : Int) (w : World) (hl : 0 ≤ left) (hl2 : left ≤ 1048576) (hc : c.length ≤ 9223372036854775807) :
    Calls Tryz.prog 23 #[.agg #[ei a, es c, .bool d], .int .i64 left] w fun e w' => e = .returned (.int .i64 (if left - (c.length : Int) < 0 then -1 else left - c.length)) ∧ Upd [] w w' := by
  by_cases h : left - (c.length : Int) < 0
  · rw [if_pos h]
    go_enter Tryz.func23, Tryz.ntmps23
    go_wp2_with fail
    go_ret
    exact ⟨rfl, (Upd.refl _ _).alloc _⟩
  · rw [if_neg h]
    go_enter Tryz.func23, Tryz.ntmps23
    go_wp2_with fail
    go_ret
    exact ⟨rfl, (Upd.refl _ _).alloc _⟩

set_option maxRecDepth 20000 in
set_option maxHeartbeats 800000 in
theorem sz_G1 (v : Value) (xs : List Rg) (left : Int) (w : World) (fp : List Nat) (hl : 0 ≤ left) (hl2 : left ≤ 1048576) (hR : R_G1 fp w [v] xs) (hS : rgsOk xs) :
    Calls Tryz.prog 7 #[v, .int .i64 left] w fun e w' => (∃ r : Int, e = .returned (.int .i64 r) ∧ (r = -1 ∨ (0 ≤ r ∧ r + szF_G1 xs = left))) ∧ Upd [] w w' := by
  obtain ⟨a, cap, rfl, h1, h2, hc⟩ := slF3_open hR
  unfold maxLen at h2
  unfold szF_G1
  have HS := Lib.hid hS
  have HC := Lib.hid hc
  clear hR hS hc
  by_cases hlt : left - (xs.length : Int) < 0
  · go_enter Tryz.func7, Tryz.ntmps7
    go_wp2_with fail
    go_ret
    exact ⟨⟨-1, rfl, Or.inl rfl⟩, Upd.refl _ _⟩
  · have hge : 0 ≤ left - (xs.length : Int) := by omega
    clear hlt
    go_enter Tryz.func7, Tryz.ntmps7
    go_wp2_with fail
    go_loopw [1, 5] (fun kk i wr => ∃ (k : Nat) (l : Int), k ≤ xs.length ∧ i = .int .i64 k ∧ kk = .int .i64 l ∧ 0 ≤ l ∧ Hid (l + xs.length + totS ((xs.take k).map Rg.lb) = left) ∧ Upd [] w wr) (fun _ i _ => xs.length - (intOf i).toNat)
    case atStart => exact ⟨0, _, Nat.zero_le _, rfl, rfl, hge, Lib.hid (by simp [totS]), Upd.refl _ _⟩
    case round =>
      obtain ⟨wo, rfl⟩ : ∃ wo : World, wo = wr := ⟨_, rfl⟩
      obtain ⟨k, l, hk, rfl, rfl, hl0, HL, hU⟩ := hrel
      by_cases hlt : k < xs.length
      · obtain ⟨b, off, rfl, -, -, p1, p3, p4⟩ := HC.out k hlt
        have q1 := hU.keep p1
        have q3 := hU.keep p3
        have q4 := hU.keep p4
        have ht := totS_nonneg ((xs.take k).map Rg.lb)
        have HT := Lib.hid (show totS ((xs.take (k + 1)).map Rg.lb) = totS ((xs.take k).map Rg.lb) + xs[k].lb.length by
          have := totS_snoc (xs.map Rg.lb) k (by simpa using hlt)
          rw [← List.map_take, ← List.map_take] at this
          simpa using this)
        have hb2 : l ≤ 1048576 := by have := HL.out; omega
        have HU := Lib.hid hU
        have S1 := Lib.hid (szReg xs[k].kd xs[k].lb xs[k].nt l wo hl0 hb2 (HS.out xs[k] (List.getElem_mem hlt)))
        clear ht p1 p3 p4 hU
        generalize xs[k] = x at *
        obtain ⟨x1, x3, x4⟩ := x
        simp only at *
        by_cases hneg : l - (x3.length : Int) < 0
        · rw [if_pos hneg] at S1
          go_wp2_with fail
          refine S1.out.mono ?_
          rintro e w1 ⟨rfl, hu1⟩
          have HU1 := Lib.hid (HU.out.trans hu1)
          clear S1 hu1
          go_wp2_with fail
          go_ret
          exact ⟨⟨-1, rfl, Or.inl rfl⟩, HU1.out⟩
        · rw [if_neg hneg] at S1
          have HN := Lib.hid hneg
          obtain ⟨l2, hl2e⟩ : ∃ l2, l2 = l - (x3.length : Int) := ⟨_, rfl⟩
          have hl20 : 0 ≤ l2 := by omega
          have hl21 : l2 ≤ 1048576 := by omega
          rw [← hl2e] at S1
          have HL2 := Lib.hid hl2e
          clear hneg hl2e
          go_wp2_with fail
          refine S1.out.mono ?_
          rintro e w1 ⟨rfl, hu1⟩
          have HU1 := Lib.hid (HU.out.trans hu1)
          clear S1 hu1
          go_wp2_with fail
          go_roundw
          case rel => exact ⟨k + 1, l2, by omega, by go_num, rfl, hl20, Lib.hid (by have := HL.out; have := HL2.out; rw [HT.out]; omega), HU1.out⟩
          case measure => simp [intOf]; omega
      · obtain rfl : k = xs.length := by omega
        have HU := Lib.hid hU
        have HZ := Lib.hid (show l + (xs.length + totS (xs.map Rg.lb)) = left by have := HL.out; rw [List.take_length] at this; omega)
        clear hU HL
        go_wp2_with fail
        go_ret
        exact ⟨⟨l, rfl, Or.inr ⟨hl0, HZ.out⟩⟩, HU.out⟩

set_option maxRecDepth 20000 in
set_option maxHeartbeats 400000 in
theorem toReg (a : Int) (c : List UInt8) (d : Bool) (w : World) : Calls Tryz.prog 26 #[.agg #[ei a, es c, .bool d]] w fun e w' => e = .returned (.agg #[ei a, es c, .bool d]) ∧ Upd [] w w' := by
  go_enter Tryz.func26, Tryz.ntmps26
  go_wp2
  refine bodyPost_ret (v := .agg #[ei a, es c, .bool d]) (by simp [results, Tryz.results26, go_sem]) rfl ⟨rfl, ?_⟩
  exact (((Upd.refl _ _).alloc _).alloc _).alloc _

set_option maxRecDepth 20000 in
set_option maxHeartbeats 800000 in
theorem eqReg (a : Int) (c : List UInt8) (d : Bool) (w : World) : Calls Tryz.prog 30 #[.agg #[ei a, es c, .bool d], .agg #[ei a, es c, .bool d]] w fun e w' => e = .returned (.bool true) ∧ Upd [] w w' := by
  have h1 : (a != a) = false := by simp
  have h3 : (c != c) = false := by simp
  have h3' : (c == c) = true := by simp
  have h4 : (d != d) = false := by simp
  have h4' : (d == d) = true := by simp
  go_enter Tryz.func30, Tryz.ntmps30
  go_wp2
  go_ret
  exact ⟨rfl, ((Upd.refl _ _).alloc _).alloc _⟩

set_option maxRecDepth 20000 in
set_option maxHeartbeats 800000 in
theorem eq_G1 (v1 v2 : Value) (xs : List Rg) (w : World) (f1 f2 : List Nat) (h1 : R_G1 f1 w [v1] xs) (h2 : R_G1 f2 w [v2] xs) :
    Calls Tryz.prog 11 #[v1, v2] w fun e w' => e = .returned (.bool true) ∧ Upd [] w w' := by
  obtain ⟨a1, c1, rfl, hl1, hm1, hc1⟩ := slF3_open h1
  obtain ⟨a2, c2, rfl, hl2, hm2, hc2⟩ := slF3_open h2
  unfold maxLen at hm1 hm2
  have HC1 := Lib.hid hc1
  have HC2 := Lib.hid hc2
  have hbe : ((xs.length : Int) != (xs.length : Int)) = false := by simp
  clear h1 h2 hc1 hc2
  go_enter Tryz.func11, Tryz.ntmps11
  go_wp2
  go_loopw [5] (fun i wr => ∃ k : Nat, k ≤ xs.length ∧ i = .int .i64 k ∧ Upd [] w wr) (fun i _ => xs.length - (intOf i).toNat)
  case atStart => exact ⟨0, Nat.zero_le _, rfl, Upd.refl _ _⟩
  case round =>
    obtain ⟨k, hk, rfl, hU⟩ := hrel
    by_cases hlt : k < xs.length
    · obtain ⟨b1, o1, rfl, -, hb1, p1, p3, p4⟩ := HC1.out k hlt
      obtain ⟨b2, o2, rfl, -, hb2, p5, p7, p8⟩ := HC2.out k hlt
      have q1 := hU.keep p1
      have q3 := hU.keep p3
      have q4 := hU.keep p4
      have q5 := hU.keep p5
      have q7 := hU.keep p7
      have q8 := hU.keep p8
      have HU := Lib.hid hU
      clear p1 p3 p4 p5 p7 p8 hU
      generalize xs[k] = x at *
      obtain ⟨x1, x3, x4⟩ := x
      simp only at q1 q3 q4 q5 q7 q8
      have S1 := Lib.hid (fun W => eqReg x1 x3 x4 W)
      go_wp2
      go_region_held3 (fun w' => w'.cell? ⟨b1, o1 + k * 3, none⟩ = some (ei x1) ∧ w'.cell? ⟨b1, o1 + k * 3 + 1, none⟩ = some (es x3) ∧ w'.cell? ⟨b1, o1 + k * 3 + 2, none⟩ = some (.bool x4) ∧ w'.cell? ⟨b2, o2 + k * 3, none⟩ = some (ei x1) ∧ w'.cell? ⟨b2, o2 + k * 3 + 1, none⟩ = some (es x3) ∧ w'.cell? ⟨b2, o2 + k * 3 + 2, none⟩ = some (.bool x4)) (go_keep) (((with_reducible refine (S1.out _).mono ?_); rintro e w1 ⟨rfl, hu1⟩; have t1 := hu1.keep q1; have t3 := hu1.keep q3; have t4 := hu1.keep q4; have t5 := hu1.keep q5; have t7 := hu1.keep q7; have t8 := hu1.keep q8))
      have HU1 := Lib.hid (HU.out.drew.trans hu1)
      clear hu1 HU
      go_wp2_with fail
      go_roundw
      case rel => exact ⟨k + 1, by omega, by go_num, HU1.out⟩
      case measure => simp [intOf]; omega
    · have hge : xs.length ≤ k := by omega
      go_wp2
      go_ret
      exact ⟨rfl, hU⟩

theorem fillG_set (xs : List Rg) (k : Nat) (hk : k < xs.length) : (xs.take k ++ List.replicate (xs.length - k) rg0).set k xs[k] = xs.take (k + 1) ++ List.replicate (xs.length - (k + 1)) rg0 := by
  have hl : (xs.take k).length = k := by simp; omega
  rw [List.set_append_right _ _ (by omega), hl, Nat.sub_self, show xs.length - k = (xs.length - (k + 1)) + 1 from by omega, List.replicate_succ, List.set_cons_zero, List.take_succ_eq_append_getElem hk, List.append_assoc, List.singleton_append]

set_option maxRecDepth 20000 in
set_option maxHeartbeats 800000 in
theorem to_G1 (v : Value) (xs : List Rg) (w : World) (fp : List Nat) (hl : szF_G1 xs ≤ 1048576) (hR : R_G1 fp w [v] xs) :
    Calls Tryz.prog 9 #[v] w fun e w' => (∃ v', e = .returned v' ∧ New R_G1 w w' v' xs) ∧ Upd [] w w' := by
  obtain ⟨i0, hi, hz0, hz1, hz2⟩ := info_parts Tryz.infoRg
  obtain ⟨a, cap, rfl, h1, h2, hc⟩ := slF3_open hR
  unfold maxLen at h2
  have htt := totS_nonneg (xs.map Rg.lb)
  unfold szF_G1 at hl
  clear hR
  have hm1 : i0.bytes * xs.length ≤ 281474976710656 := by rw [hz2]; omega
  go_enter Tryz.func9, Tryz.ntmps9
  go_wp2_with (first
    | (at_make; refine wpList_make_full _ rfl _ _ 25 rfl w.heap.size 43 i0 (.agg #[.int .i64 0, .string ⟨#[]⟩, .bool false]) 3 Tryz.underlying25 hi hz0 hz1 .i64 .i64 _ _ xs.length rfl rfl rfl rfl hm1 (by unfold maxLen; omega) (Nat.le_refl _) ?_; intro w1 hown hgrow)
    | fail)
  rw [made_three] at hown
  obtain ⟨fo, hT, hO, hb0⟩ := New.ofOwns3 (w := w) (e := 43) (xs := List.replicate xs.length rg0) (e1 := fun t => ei t.kd) (e2 := fun t => es t.lb) (e3 := fun t => .bool t.nt) (by
    have e : ((List.replicate xs.length ()).flatMap fun _ => [Value.int .i64 0, Value.string ⟨#[]⟩, Value.bool false]) = (List.replicate xs.length rg0).flatMap fun t => [ei t.kd, es t.lb, .bool t.nt] := by
      generalize xs.length = n
      induction n with
      | zero => rfl
      | succ n ih => simp only [List.replicate_succ, List.flatMap_cons, ih]; rfl
    rw [← e]; simpa using hown)
  have hU : Upd [] w w1 := (Upd.refl _ _).grown hgrow (by simp)
  have HB := Lib.hid hb0
  clear hgrow hm1 hown hb0
  go_loopw [4] (fun i wr => ∃ k : Nat, k ≤ xs.length ∧ i = .int .i64 k ∧ Upd [] w wr ∧ Own fo wr ∧
      R_G1 fo wr [.slice (some ⟨w.heap.size, 0, none⟩) xs.length xs.length] (xs.take k ++ List.replicate (xs.length - k) rg0))
    (fun i _ => xs.length - (intOf i).toNat)
  case atStart => exact ⟨0, Nat.zero_le _, rfl, hU, hO, by simpa using hT⟩
  case round =>
    clear hT hO hU
    obtain ⟨k, hk, rfl, hU, hO, hT⟩ := hrel
    have hlen : (xs.take k ++ List.replicate (xs.length - k) rg0).length = xs.length := by simp; omega
    by_cases hlt : k < xs.length
    · obtain ⟨b, off, rfl, -, hb, p1, p3, p4⟩ := hc k hlt
      have q1 := hU.keep p1
      have q3 := hU.keep p3
      have q4 := hU.keep p4
      have HF2 := Lib.hid (fillG_set xs k hlt)
      have HLEN := Lib.hid hlen
      have HT := Lib.hid (And.intro hT (And.intro hO hU))
      have S1 := Lib.hid (toReg xs[k].kd xs[k].lb xs[k].nt wr)
      clear p1 p3 p4 hc hlen hT hO hU
      go_wp2_with fail
      refine S1.out.mono ?_
      rintro e w2 ⟨rfl, hu2⟩
      have hT2 := R_G1k.upd HT.out.1 hu2 (by simp)
      have hO2 := HT.out.2.1.upd hu2 (by simp)
      have HU2 := Lib.hid (HT.out.2.2.trans hu2)
      obtain ⟨a', cap', hv, -, -, hcell⟩ := slF3_open hT2
      obtain ⟨b', off', rfl, hfo, hb', r1, r3, r4⟩ := hcell k (by rw [HLEN.out]; exact hlt)
      simp only [Value.slice.injEq, Option.some.injEq, Addr.mk.injEq, and_true] at hv
      obtain ⟨⟨rfl, rfl⟩, -, rfl⟩ := hv
      rw [Nat.zero_add] at r1 r3 r4
      have hfr1 : w2.frozen? ⟨w.heap.size, k * 3, none⟩ = false := hO2.frozen (by rw [hfo]; simp) _
      have hfr3 : w2.frozen? ⟨w.heap.size, k * 3 + 1, none⟩ = false := hO2.frozen (by rw [hfo]; simp) _
      have hfr4 : w2.frozen? ⟨w.heap.size, k * 3 + 2, none⟩ = false := hO2.frozen (by rw [hfo]; simp) _
      have hset := slF3_set (b := w.heap.size) (off := 0) (cap := xs.length) (by rw [HLEN.out]; exact hT2) k (by rw [HLEN.out]; exact hlt) xs[k]
      rw [HLEN.out, HF2.out, Nat.zero_add] at hset
      have HS := Lib.hid (And.intro hset (((hO2.setCell ⟨w.heap.size, k * 3, none⟩ (ei xs[k].kd)).setCell ⟨w.heap.size, k * 3 + 1, none⟩ (es xs[k].lb)).setCell ⟨w.heap.size, k * 3 + 2, none⟩ (.bool xs[k].nt)))
      generalize (List.take k xs ++ List.replicate (xs.length - k) rg0)[k]'_ = el at r1 r3 r4
      clear hset hT2 hO2 hu2 hcell hfo q1 q3 q4 HF2 HLEN HT S1
      go_wp2_with fail
      go_roundw
      case rel => exact ⟨k + 1, by omega, by go_num, ((HU2.out.setCell (Or.inl (Nat.le_refl _)) _).setCell (Or.inl (Nat.le_refl _)) _).setCell (Or.inl (Nat.le_refl _)) _, HS.out.2, HS.out.1⟩
      case measure => simp [intOf]; omega
    · obtain rfl : k = xs.length := by omega
      clear hc
      go_wp2
      go_ret
      exact ⟨⟨_, rfl, fo, by simpa using hT, hO, HB.out⟩, hU⟩

end Go.Proofs.YtddciieaolaleaaGreatDoor

/-
  Regular expressions as trees: a tree out of elements: what each call returns and makes.
-/
namespace Go.Proofs.YtddciieaolaleaaGreatDoor
open Go.RowKit

/-- how many expressions an element of a kind wants behind it. -/
def arRg (k : Int) : Int := if k = 1 ∨ k = 2 then 2 else if k = 3 then 1 else 0
theorem arRg_in (k : Int) : 0 ≤ arRg k ∧ arRg k ≤ 2 := by unfold arRg; split <;> (try split) <;> omega
abbrev encR (t : Rg) : List Value := [ei t.kd, es t.lb, .bool t.nt]
abbrev arR (t : Rg) : Int := arRg t.kd
abbrev R_Y : Rp (Tr Rg) := R_T encR
theorem R_Yk : Kept R_Y := R_Tk _
theorem arR_nonneg (t : Rg) : 0 ≤ arR t := (arRg_in t.kd).1
theorem Tryz.infoY : (Tryz.prog.info? 45).map (fun i => (i.zero, i.size, i.bytes)) = some (some (.pointer none), 1, 8) := by kernel_rfl

set_option maxRecDepth 20000 in
set_option maxHeartbeats 800000 in
theorem operandsR (a : Int) (c : List UInt8) (d : Bool) (w : World) : Calls Tryz.prog 56 #[.agg #[ei a, es c, .bool d]] w fun e w' => e = .returned (.int .i64 (arRg a)) ∧ Upd [] w w' := by
  rcases (by omega : a = 1 ∨ a = 2 ∨ a = 3 ∨ (a ≠ 1 ∧ a ≠ 2 ∧ a ≠ 3)) with rfl | rfl | rfl | ⟨h1, h2, h3⟩
  · go_enter Tryz.func56, Tryz.ntmps56
    go_wp2_with fail
    go_ret
    exact ⟨rfl, (Upd.refl _ _).alloc _⟩
  · go_enter Tryz.func56, Tryz.ntmps56
    go_wp2_with fail
    go_ret
    exact ⟨rfl, (Upd.refl _ _).alloc _⟩
  · go_enter Tryz.func56, Tryz.ntmps56
    go_wp2_with fail
    go_ret
    exact ⟨rfl, (Upd.refl _ _).alloc _⟩
  · have HI := Lib.hid (show arRg a = 0 by unfold arRg; rw [if_neg (by omega), if_neg (by omega)])
    have b1 : (a == 1) = false := by simpa using h1
    have b2 : (a == 2) = false := by simpa using h2
    have b3 : (a == 3) = false := by simpa using h3
    clear h1 h2 h3
    go_enter Tryz.func56, Tryz.ntmps56
    go_wp2_with fail
    go_ret
    exact ⟨by rw [HI.out]; rfl, (Upd.refl _ _).alloc _⟩

theorem R_Y_open {fp : List Nat} {w : World} {v : Value} {t : Rg} {args : List (Tr Rg)} (h : R_Y fp w [v] (.mk t args)) :
    ∃ b s fa, v = .pointer (some ⟨b, 0, none⟩) ∧ fp = b :: fa ∧ w.cell? ⟨b, 0, none⟩ = some (ei t.kd) ∧ w.cell? ⟨b, 1, none⟩ = some (es t.lb) ∧ w.cell? ⟨b, 2, none⟩ = some (.bool t.nt) ∧ w.cell? ⟨b, 3, none⟩ = some s ∧ slP R_Y fa w [s] args := by
  obtain ⟨b, s, fa, rfl, rfl, -, h1, h2⟩ := R_T_open h
  exact ⟨b, s, fa, rfl, rfl, h1 0 _ rfl, h1 1 _ rfl, h1 2 _ rfl, h1 3 _ rfl, h2⟩
theorem R_Y_mk {w : World} {t : Rg} {args : List (Tr Rg)} {b : Nat} {s : Value} {fa : List Nat} (c0 : w.cell? ⟨b, 0, none⟩ = some (ei t.kd)) (c2 : w.cell? ⟨b, 1, none⟩ = some (es t.lb)) (c3 : w.cell? ⟨b, 2, none⟩ = some (.bool t.nt)) (c4 : w.cell? ⟨b, 3, none⟩ = some s)
    (h : slP R_Y fa w [s] args) : R_Y (b :: fa) w [.pointer (some ⟨b, 0, none⟩)] (.mk t args) := by
  refine R_T_mk (World.block_lt_of_cell? w _ c0) (fun j u hj => ?_) h
  match j, hj with
  | 0, hj => cases hj; exact c0
  | 1, hj => cases hj; exact c2
  | 2, hj => cases hj; exact c3
  | 3, hj => cases hj; exact c4

/-- a slice without its first element, whatever address its value bears. -/
theorem slF_tailY {α : Type} {n : Nat} {enc : α → List Value} (he : ∀ x, (enc x).length = n) {fp : List Nat} {w : World} {b off len cap : Nat} {x : α} {xs : List α}
    (h : slF n enc fp w [.slice (some ⟨b, off, none⟩) len cap] (x :: xs)) (o' : Nat) (ho : xs ≠ [] → o' = off + n) :
    ∃ fp', slF n enc fp' w [.slice (some ⟨b, o', none⟩) (len - 1) (cap - 1)] xs ∧ (∀ c ∈ fp', c ∈ fp) := by
  obtain ⟨v, hv, a, cap', hv2, h1, h2, h3, h4⟩ := h
  cases hv
  simp only [Value.slice.injEq] at hv2
  obtain ⟨rfl, rfl, rfl⟩ := hv2
  simp only [List.length_cons] at *
  have hl : (xs.flatMap enc).length = xs.length * n := by
    clear h3 h4 ho
    induction xs with
    | nil => simp
    | cons y ys ih => rw [List.flatMap_cons, List.length_append, he, ih (by simp at h1; omega), List.length_cons, Nat.add_mul]; omega
  rcases h4 with ⟨h0, -⟩ | ⟨b', off', hb', rfl, hbl, hc⟩
  · omega
  · simp only [Option.some.injEq, Addr.mk.injEq, and_true] at hb'
    obtain ⟨rfl, rfl⟩ := hb'
    by_cases hx : xs = []
    · subst hx
      exact ⟨[], ⟨_, rfl, some ⟨b, o', none⟩, cap - 1, by simp, by simp, by omega, by simp, Or.inl ⟨rfl, rfl⟩⟩, by simp⟩
    · refine ⟨[b], ⟨_, rfl, _, cap - 1, by simp, by omega, by omega, hl, Or.inr ⟨b, o', rfl, rfl, hbl, fun j u hu => ?_⟩⟩, by simp⟩
      have := hc (n + j) u (by rw [List.flatMap_cons, List.getElem?_append_right (by rw [he]; omega), he, Nat.add_sub_cancel_left]; exact hu)
      rw [ho hx, Nat.add_assoc]; exact this

set_option maxRecDepth 20000 in
set_option maxHeartbeats 2000000 in
theorem regFrom (n : Nat) : ∀ (x : Tr Rg) (rest : List Rg) (w : World) (v : Value) (fp : List Nat), (flatT x).length ≤ n → okT arR x = true → (flatT x).length ≤ 1000 → R_G1 fp w [v] (flatT x ++ rest) →
    Calls Tryz.prog 57 #[v] w fun e w' => (∃ v' vr fr, e = .returned (.tuple #[v', vr]) ∧ New R_Y w w' v' x ∧ R_G1 fr w' [vr] rest ∧ ∀ b ∈ fr, b ∈ fp) ∧ Upd [] w w' := by
  induction n with
  | zero => intro x rest w v fp hn; have := flatT_pos x; omega
  | succ n ih =>
    intro x rest w v fp hn hok h100 hR
    obtain ⟨i0, hi, hz0, hz1, hz2⟩ := info_parts Tryz.infoY
    obtain ⟨⟨t1, t3, t4⟩, args⟩ := x
    simp only [okT, Bool.and_eq_true, decide_eq_true_eq] at hok
    have hok : (args.length : Int) = arRg t1 ∧ okTs arR args = true := hok
    simp only [flatT, List.cons_append] at hR hn h100
    have hR0 := hR
    obtain ⟨a, cap, rfl, h1, h2, hc⟩ := slF3_open hR
    obtain ⟨b, off, rfl, hfp, hbl, q1, q3, q4⟩ := hc 0 (by simp)
    simp only [List.length_cons, List.getElem_cons_zero] at *
    unfold maxLen at h2
    have HIH := Lib.hid ih
    have HOK := Lib.hid hok
    have HR := Lib.hid hR0
    rw [Nat.zero_mul, Nat.add_zero] at q1 q3 q4
    clear hc hR hR0
    generalize hL : (flatTs args ++ rest).length = L at *
    have HL := Lib.hid hL
    clear ih hok hL
    by_cases hcap : cap = 1
    · have hL0 : L = 0 := by omega
      have hnil : flatTs args ++ rest = [] := List.eq_nil_of_length_eq_zero (by rw [HL.out]; exact hL0)
      obtain ⟨hna, hnr⟩ := List.append_eq_nil_iff.1 hnil
      have hargs : args = [] := by
        match args, hna with
        | [], _ => rfl
        | y :: ys, h => exfalso; have := flatT_pos y; simp only [flatTs, List.append_eq_nil_iff] at h; rw [h.1] at this; simp at this
      subst hargs hnr hL0
      have hz : arRg t1 = 0 := by have := HOK.out.1; simpa using this.symm
      subst hcap
      have HRS := Lib.hid (show ∀ w' : World, R_G1 [] w' [.slice (some ⟨b, off, none⟩) 0 0] ([] : List Rg) from fun w' => ⟨_, rfl, some ⟨b, off, none⟩, 0, rfl, Nat.le_refl _, by simp [maxLen], by simp, Or.inl ⟨rfl, rfl⟩⟩)
      have HZ := Lib.hid hz
      clear HR hz hnil hna
      go_enter Tryz.func57, Tryz.ntmps57
      go_wp2_with fail
      refine (operandsR t1 t3 t4 _).mono ?_
      rintro e w1 ⟨rfl, hu1⟩
      rw [HZ.out]
      have hU1 : Upd [] w w1 := ((Upd.refl [] w).alloc _).trans hu1
      have c0 : w1.cell? ⟨w.heap.size, 0, none⟩ = some (ei t1) := hu1.keep (by simp)
      have c2 : w1.cell? ⟨w.heap.size, 1, none⟩ = some (es t3) := hu1.keep (by simp)
      have c3 : w1.cell? ⟨w.heap.size, 2, none⟩ = some (.bool t4) := hu1.keep (by simp)
      have c4 : w1.cell? ⟨w.heap.size, 3, none⟩ = some (.slice none 0 0) := hu1.keep (by simp)
      have hown0 : Own [w.heap.size] w1 := (own_new w #[ei t1, es t3, .bool t4, .slice none 0 0] 77).upd hu1 (by simp)
      have HN := Lib.hid (show New R_Y w w1 (.pointer (some ⟨w.heap.size, 0, none⟩)) (.mk ⟨t1, t3, t4⟩ []) from
        ⟨[w.heap.size], R_Y_mk c0 c2 c3 c4 (slP_nilv _ _), hown0, by simp⟩)
      clear hu1 c0 c2 c3 c4 hown0 q1 q3 q4
      go_wp2_with fail
      go_loopw [5, 18] (fun rv i wr => rv = .slice (some ⟨b, off, none⟩) 0 0 ∧ i = .int .i64 0 ∧ wr = w1) (fun _ _ _ => 0)
      case atStart => exact ⟨rfl, rfl, rfl⟩
      case round =>
        obtain ⟨rfl, rfl, rfl⟩ := hrel
        go_wp2_with fail
        go_ret2
        exact ⟨⟨_, _, [], rfl, HN.out, HRS.out _, by simp⟩, hU1⟩
    · obtain ⟨fp1, htl, hfs⟩ := slF_tailY (n := 3) (by intro x; rfl) HR.out (off + 3) (fun _ => rfl)
      simp only [Nat.add_sub_cancel] at htl
      have HTL := Lib.hid htl
      have HFS := Lib.hid hfs
      clear htl hfs
      go_enter Tryz.func57, Tryz.ntmps57
      go_wp2_with fail
      refine (operandsR t1 t3 t4 _).mono ?_
      rintro e w1 ⟨rfl, hu1⟩
      have hU1 : Upd [] w w1 := ((Upd.refl [] w).alloc _).trans hu1
      obtain ⟨m, hm⟩ : ∃ m : Nat, arRg t1 = m := ⟨args.length, HOK.out.1.symm⟩
      have HM := Lib.hid (show m = args.length by have := HOK.out.1; omega)
      have hm2 : args.length ≤ 2 := by have := HOK.out.1; have := arRg_in t1; omega
      rw [hm]
      have c0 : w1.cell? ⟨w.heap.size, 0, none⟩ = some (ei t1) := hu1.keep (by simp)
      have c2 : w1.cell? ⟨w.heap.size, 1, none⟩ = some (es t3) := hu1.keep (by simp)
      have c3 : w1.cell? ⟨w.heap.size, 2, none⟩ = some (.bool t4) := hu1.keep (by simp)
      have c4 : w1.cell? ⟨w.heap.size, 3, none⟩ = some (.slice none 0 0) := hu1.keep (by simp)
      have hown0 : Own [w.heap.size] w1 := (own_new w #[ei t1, es t3, .bool t4, .slice none 0 0] 77).upd hu1 (by simp)
      have hT1 : ∀ b ∈ fp1, b < w.heap.size := fun b hb => by
        have := HFS.out b hb
        rw [hfp] at this
        simp at this; omega
      have hrest1 := R_G1k.upd HTL.out hU1 (by simp)
      have HT1 := Lib.hid hT1
      clear hm hu1 HTL HR hT1 q1 q3 q4
      go_wp2_with fail
      go_loopw [5, 18] (fun rv i wr => ∃ (k : Nat) (vo : Value) (fr : List Nat), k ≤ args.length ∧ i = .int .i64 k ∧ Upd [] w wr ∧ wr.cell? ⟨w.heap.size, 0, none⟩ = some (ei t1) ∧ wr.cell? ⟨w.heap.size, 1, none⟩ = some (es t3) ∧ wr.cell? ⟨w.heap.size, 2, none⟩ = some (.bool t4) ∧
          wr.cell? ⟨w.heap.size, 3, none⟩ = some vo ∧ Own [w.heap.size] wr ∧ Acc R_Y (w.alloc (.cells #[ei t1, es t3, .bool t4, .slice none 0 0] 77)) 45 wr vo (args.take k) ∧ R_G1 fr wr [rv] (flatTs (args.drop k) ++ rest) ∧ ∀ b ∈ fr, b ∈ fp1)
        (fun _ i _ => args.length - (intOf i).toNat)
      case atStart => exact ⟨0, _, fp1, Nat.zero_le _, rfl, hU1, c0, c2, c3, c4, hown0, Acc.nil _ _ _ _, hrest1, fun b hb => hb⟩
      case round =>
        clear hU1 c0 c2 c3 c4 hown0 hrest1
        obtain ⟨k, vo, fr, hk, rfl, hU, c0, c2, c3, c4, hown0, hacc, hrest, hfr⟩ := hrel
        have HFR := Lib.hid hfr
        clear hfr
        by_cases hlt : k < args.length
        · have hmk : k < m := by rw [HM.out]; exact hlt
          have hfd : flatTs (args.drop k) = flatT args[k] ++ flatTs (args.drop (k + 1)) := by rw [List.drop_eq_getElem_cons hlt]; rfl
          have hlen1 : (flatT args[k]).length + (flatTs (args.drop (k + 1))).length ≤ (flatTs args).length := by
            have e1 : flatTs args = flatTs (args.take k) ++ flatTs (args.drop k) := by rw [← flatTs_append, List.take_append_drop]
            rw [e1, hfd, List.length_append, List.length_append]; omega
          have hoky : okT arR args[k] = true := by
            have h2 := HOK.out.2
            rw [okTs_all, List.all_eq_true] at h2
            exact h2 _ (List.getElem_mem hlt)
          rw [hfd, List.append_assoc] at hrest
          have S2 := Lib.hid (HIH.out args[k] (flatTs (args.drop (k + 1)) ++ rest) wr _ fr (by omega) hoky (by omega) hrest)
          have hts := List.take_succ_eq_append_getElem hlt
          have HTS := Lib.hid hts
          clear hfd hlen1 hoky hrest hts
          go_wp2_with fail
          refine S2.out.mono ?_
          rintro e w2 ⟨⟨v', vr, fr2, rfl, hnew, hrest2, hfr2⟩, hu2⟩
          have hU2 := hU.trans hu2
          have c0' := hu2.keep c0
          have c2' := hu2.keep c2
          have c3' := hu2.keep c3
          have c4' := hu2.keep c4
          have hown0' := hown0.upd hu2 (by simp)
          obtain ⟨us, hou, hrows⟩ := hacc
          have hou2 := hou.kept (row := none) ⟨hu2.os, hu2.tape, hu2.output, hu2.size, fun k hk _ => hu2.block k hk (by simp)⟩ (by cases vo.ownBlock <;> simp)
          have hsz := hU.size
          have hsz0 : w.heap.size < wr.heap.size := World.block_lt_of_cell? wr _ c0
          have hsz2 := hu2.size
          have hform : ∃ b, v' = .pointer (some ⟨b, 0, none⟩) := by obtain ⟨f9, h9, -⟩ := hnew; exact R_T_form h9
          obtain ⟨pb, rfl⟩ := hform
          have hlk : (args.take k).length ≤ 100 := by
            have : (args.take k).length ≤ m := by rw [HM.out, List.length_take]; omega
            have h9 := arRg_in t1
            have h10 := HOK.out.1
            rw [List.length_take]; omega
          have HFR2 := Lib.hid (fun b hb => HFR.out b (hfr2 b hb) : ∀ b ∈ fr2, b ∈ fp1)
          have hfz : w2.frozen? ⟨w.heap.size, 3, none⟩ = false := hown0'.frozen (by simp) _
          clear S2 hU c0 c2 c3 c4 hown0 hfr2 HFR
          go_wp2_with (first
            | (at_builtin; refine wpList_append_tight _ rfl _ _ 75 rfl (w.alloc (.cells #[ei t1, es t3, .bool t4, .slice none 0 0] 77)).heap.size 45 i0 (.pointer none) 1 8 Tryz.underlying75 hi hz0 hz1 hz2 rfl (by decide) _ _ _ rfl (hou2.alloc _) ⟨w2.heap.size, 0, none⟩ 1 1 [.pointer (some ⟨pb, 0, none⟩)] rfl rfl ?c1 ?c2 ?c3 ?c4 ?c5 ?_)
            | fail)
          case c1 => intro j u hj; match j, hj with | 0, hj => simp at hj; subst hj; simp [Addr.add]
          case c2 => intro u hu; simp at hu; subst hu; rfl
          case c3 => unfold maxLen; omega
          case c4 => omega
          case c5 => simp; omega
          intro v2 w3 hown3 hg3 ht3
          obtain ⟨a2, cc2, rfl⟩ := ownsRow_form hown3
          have hlus : us.length = k := by have := hrows.length; rw [this, List.length_take]; omega
          have hacc2 := Acc.push R_Yk hou hrows (by simp; omega) hu2 hnew _ (by simpa [Nat.min_eq_left hk] using hown3) hg3 (by simpa using ht3)
          have hu3 : Upd vo.ownBlock.toList (w2.alloc (.cells #[.pointer (some ⟨pb, 0, none⟩)] 45)) w3 := (Upd.refl _ _).grown hg3 (fun k hk => Or.inr (by simp [hk]))
          have hvo : ∀ b ∈ vo.ownBlock.toList, w.heap.size + 1 ≤ b := fun b hb => by have := (hou.lt b (by simpa using hb)).1; simpa using this
          have hne : ∀ b ∈ [w.heap.size], b ∉ vo.ownBlock.toList := fun b hb hm => by have := hvo b hm; simp at hb; omega
          have hU3 : Upd [] w w3 := (hU2.alloc _).fresh hu3 (fun b hb => Or.inl (by have := hvo b hb; omega))
          have hblk : w3.heap[w.heap.size]? = (w2.alloc (.cells #[.pointer (some ⟨pb, 0, none⟩)] 45)).heap[w.heap.size]? := hu3.block _ (by simp; omega) (hne _ (by simp))
          have hblk2 : w3.heap[w.heap.size]? = w2.heap[w.heap.size]? := by rw [hblk, Below.heap_alloc _ _ _ (by omega)]
          have d0 : w3.cell? ⟨w.heap.size, 0, none⟩ = some (ei t1) := (World.cell?_of_block (w := w2) hblk2).trans c0'
          have d2 : w3.cell? ⟨w.heap.size, 1, none⟩ = some (es t3) := (World.cell?_of_block (w := w2) hblk2).trans c2'
          have d3 : w3.cell? ⟨w.heap.size, 2, none⟩ = some (.bool t4) := (World.cell?_of_block (w := w2) hblk2).trans c3'
          have d4 : w3.cell? ⟨w.heap.size, 3, none⟩ = some vo := (World.cell?_of_block (w := w2) hblk2).trans c4'
          have hown4 : Own [w.heap.size] w3 := hown0'.frame (by intro b hb; obtain rfl : b = w.heap.size := (by simpa using hb); exact hblk2)
          have hfz3 : w3.frozen? ⟨w.heap.size, 3, none⟩ = false := hown4.frozen (by simp) _
          have hrest3 : R_G1 fr2 (w3.setCell ⟨w.heap.size, 3, none⟩ (.slice a2 (k + 1) cc2)) [vr] (flatTs (args.drop (k + 1)) ++ rest) := by
            refine R_G1k.frame hrest2 (by have := hU3.size; have := hu3.size; simp [World.setCell] at *; omega) (fun b hb => ?_)
            have hb1 := HT1.out b (HFR2.out b hb)
            rw [Below.heap_setCell _ _ _ _ (by simp; omega), hu3.block b (by simp; omega) (fun hm => by have := hvo b hm; omega), Below.heap_alloc _ _ _ (by omega)]
          have hus4 : Upd [w.heap.size] w3 (w3.setCell ⟨w.heap.size, 3, none⟩ (.slice a2 (k + 1) cc2)) := (Upd.refl _ _).setCell (by simp) _
          have hacc4 := hacc2.other R_Yk hus4 (by simp)
          rw [← HTS.out] at hacc4
          have HP := Lib.hid (And.intro hrest3 (And.intro hacc4 (And.intro (hU3.setCell (p := ⟨w.heap.size, 3, none⟩) (Or.inl (Nat.le_refl _)) (.slice a2 (k + 1) cc2)) (hown4.setCell ⟨w.heap.size, 3, none⟩ (.slice a2 (k + 1) cc2)))))
          clear hrest3 hus4 hacc4 hown4 hblk hblk2 hne hvo hu3 hU3 hg3 ht3 hown3 hacc2 hou hou2 hrows hnew hrest2 c0' c2' c3' c4' hown0' hu2 hU2 hfz HTS
          go_wp2
          go_roundw
          case rel =>
            refine ⟨k + 1, .slice a2 (k + 1) cc2, fr2, by omega, by go_num, HP.out.2.2.1, ?_, ?_, ?_, ?_, HP.out.2.2.2, HP.out.2.1, HP.out.1, HFR2.out⟩
            · exact (World.cell?_setCell_other _ _ _ _ (by simp)).trans d0
            · exact (World.cell?_setCell_other _ _ _ _ (by simp)).trans d2
            · exact (World.cell?_setCell_other _ _ _ _ (by simp)).trans d3
            · exact World.cell?_setCell_same _ _ _ d4
          case measure => simp [intOf]; omega
        · have hkm : k = args.length := by omega
          subst hkm
          have hmk : ¬ args.length < m := by rw [HM.out]; omega
          rw [List.drop_length] at hrest
          rw [List.take_length] at hacc
          have hsz0 : w.heap.size < wr.heap.size := World.block_lt_of_cell? wr _ c0
          obtain ⟨fa, g1, g2, g3⟩ := hacc.new
          obtain ⟨vo', us', fb', fps', hv', h1', h2', h3', h4'⟩ := g1
          have HN := Lib.hid (show New R_Y w wr (.pointer (some ⟨w.heap.size, 0, none⟩)) (.mk ⟨t1, t3, t4⟩ args) from
            ⟨w.heap.size :: fa, R_Y_mk c0 c2 c3 c4 ⟨vo', us', fb', fps', hv', h1', h2', h3', h4'⟩, ⟨by rw [List.nodup_cons]; exact ⟨fun hm => by have := g3 _ hm; simp at this; omega, g2.1⟩, by
              intro b hb
              rcases List.mem_cons.1 hb with rfl | hb
              · exact hown0.2 _ (by simp)
              · exact g2.2 b hb⟩, by
              intro b hb
              rcases List.mem_cons.1 hb with rfl | hb
              · exact Nat.le_refl _
              · have := g3 b hb; simp at this; omega⟩)
          have HFE := Lib.hid (fun b hb => HFS.out b (HFR.out b hb) : ∀ b ∈ fr, b ∈ fp)
          clear hacc g2 g3 h1' h4' c0 c2 c3 c4 hown0 HFR
          go_wp2_with fail
          go_ret2
          exact ⟨⟨_, _, fr, rfl, HN.out, by simpa [flatTs] using hrest, HFE.out⟩, hU⟩

/-- the tree of a formula. -/
theorem regOf (x : Tr Rg) (w : World) (v : Value) (fp : List Nat) (hok : okT arR x = true) (h100 : (flatT x).length ≤ 1000) (hR : R_G1 fp w [v] (flatT x)) :
    Calls Tryz.prog 28 #[v] w fun e w' => (∃ v', e = .returned v' ∧ New R_Y w w' v' x) ∧ Upd [] w w' := by
  have S2 := Lib.hid (regFrom _ x [] w v fp (Nat.le_refl _) hok h100 (by simpa using hR))
  clear hok h100 hR
  go_enter Tryz.func28, Tryz.ntmps28
  go_wp2_with fail
  refine S2.out.mono ?_
  rintro e w1 ⟨⟨v', vr, fr, rfl, hn, -, -⟩, hu⟩
  have H1 := Lib.hid (And.intro hn hu)
  obtain ⟨fp9, h9, -⟩ := hn
  obtain ⟨pb, rfl⟩ := R_T_form h9
  clear S2 hu h9
  go_wp2_with fail
  go_ret
  exact ⟨⟨_, rfl, H1.out.1⟩, H1.out.2⟩

end Go.Proofs.YtddciieaolaleaaGreatDoor

/-
  The laws' helper functions over lists of nodes.
-/
namespace Go.Proofs.YtddciieaolaleaaGreatDoor
open Go.RowKit Go.ChangeShapes

end Go.Proofs.YtddciieaolaleaaGreatDoor

/-
  The program's checks of a node and of a formula's shape: what the calls return.
-/
namespace Go.Proofs.YtddciieaolaleaaGreatDoor
open Go.RowKit

theorem suf_last (s : List UInt8) : Lib.hasSuffix s [42] = (s.getLast? == some 42) := by
  rcases List.eq_nil_or_concat s with rfl | ⟨l, x, rfl⟩
  · rfl
  · have h1 : Lib.hasSuffix (l.concat x) [42] = (42 == x) := by
      simp only [Lib.hasSuffix, List.isSuffixOf, List.concat_eq_append, List.reverse_append, List.reverse_cons, List.reverse_nil, List.nil_append, List.singleton_append]
      exact Bool.and_true _
    have h2 : (l.concat x).getLast? = some x := by simp
    rw [h1, h2, Bool.eq_iff_iff, beq_iff_eq, beq_iff_eq, Option.some.injEq]
    exact ⟨Eq.symm, Eq.symm⟩
theorem trim_last (s : List UInt8) (h : Lib.hasSuffix s [42] = true) : Lib.trimSuffix s [42] = s.dropLast := by
  unfold Lib.trimSuffix
  rw [if_pos h, List.dropLast_eq_take]; rfl

set_option maxRecDepth 20000 in
set_option maxHeartbeats 2000000 in
theorem isPatI (s : List UInt8) (w : World) (hl : s.length ≤ 2000000) (he : Env w) : Calls Tryz.prog 55 #[es s] w fun e w' => e = .returned (.bool (patF s)) ∧ Upd [] w w' := by
  have S0 := Tryz.strings_CutSuffix ⟨s.toArray⟩ ⟨#[42]⟩ w (by have : (⟨s.toArray⟩ : ByteArray).size = s.length := rfl; omega)
  have e0 : (⟨#[42]⟩ : ByteArray).data.toList = [42] := rfl
  have e1 : (⟨s.toArray⟩ : ByteArray).data.toList = s := by simp
  rw [e0, e1] at S0
  have S1 := Lib.hid (isLabelI s w hl he)
  have HP := Lib.hid (show patF s = (s == [] || isLab s || (s.getLast? == some 42 && actF s.dropLast)) from rfl)
  have HL := Lib.hid (show isLab s = (readF s).isSome from rfl)
  rw [← suf_last] at HP
  by_cases h0 : s = []
  · subst h0
    have HS := Lib.hid S0
    clear S0 S1 HP HL
    go_enter Tryz.func55, Tryz.ntmps55
    go_wp2_with fail
    refine HS.out.mono ?_
    rintro e w1 ⟨rfl, rfl⟩
    go_wp2_with fail
    go_ret
    exact ⟨rfl, Upd.refl _ _⟩
  · have b0 : (s == ([] : List UInt8)) = false := by simpa using h0
    cases hlab : (readF s).isSome with
    | true =>
      have HR := Lib.hid (show patF s = true by rw [HP.out, HL.out, hlab]; simp)
      rw [hlab] at S1
      have HS := Lib.hid S0
      clear S0 HP HL hlab h0
      generalize Lib.trimSuffix s [42] = tr at *
      generalize Lib.hasSuffix s [42] = hs at *
      go_enter Tryz.func55, Tryz.ntmps55
      go_wp2_with fail
      refine HS.out.mono ?_
      rintro e w1 ⟨rfl, rfl⟩
      clear HS
      go_wp2_with fail
      refine S1.out.mono ?_
      rintro e w1 ⟨rfl, hu⟩
      have HU := Lib.hid hu
      clear S1 hu
      go_wp2_with fail
      go_ret
      exact ⟨by rw [HR.out]; rfl, HU.out⟩
    | false =>
      rw [hlab] at S1
      cases hhs : Lib.hasSuffix s [42] with
      | false =>
        have HR := Lib.hid (show patF s = false by rw [HP.out, HL.out, hlab, hhs, b0]; rfl)
        rw [hhs] at S0
        have HS := Lib.hid S0
        clear S0 HP HL hlab h0 hhs
        generalize Lib.trimSuffix s [42] = tr at *
        go_enter Tryz.func55, Tryz.ntmps55
        go_wp2_with fail
        refine HS.out.mono ?_
        rintro e w1 ⟨rfl, rfl⟩
        clear HS
        go_wp2_with fail
        refine S1.out.mono ?_
        rintro e w1 ⟨rfl, hu⟩
        have HU := Lib.hid hu
        clear S1 hu
        go_wp2_with fail
        go_ret
        exact ⟨by rw [HR.out]; rfl, HU.out⟩
      | true =>
        have HR := Lib.hid (show patF s = actF s.dropLast by rw [HP.out, HL.out, hlab, hhs, b0]; rfl)
        have S2 := Lib.hid (fun W => isActionI s.dropLast W (by simp; omega))
        rw [trim_last s hhs, hhs] at S0
        have HS := Lib.hid S0
        clear S0 HP HL hlab h0 hhs
        generalize s.dropLast = tr at *
        generalize actF tr = q at *
        go_enter Tryz.func55, Tryz.ntmps55
        go_wp2_with fail
        refine HS.out.mono ?_
        rintro e w1 ⟨rfl, rfl⟩
        clear HS
        go_wp2_with fail
        refine S1.out.mono ?_
        rintro e w1 ⟨rfl, hu⟩
        have HU := Lib.hid hu
        clear S1 hu
        go_wp2_with fail
        refine (S2.out _).mono ?_
        rintro e w2 ⟨rfl, rfl⟩
        clear S2
        go_wp2_with fail
        go_ret
        exact ⟨by rw [HR.out]; rfl, HU.out⟩

end Go.Proofs.YtddciieaolaleaaGreatDoor

/-
  Formulas as trees: the nodes of a tree in order; a tree out of nodes: what each call returns and makes.
-/
namespace Go.Proofs.YtddciieaolaleaaGreatDoor
open Go.RowKit

end Go.Proofs.YtddciieaolaleaaGreatDoor

/-
  The text of a formula: what the program's calls return.
-/
namespace Go.Proofs.YtddciieaolaleaaGreatDoor
open Go.RowKit

theorem es_catX (a b : List UInt8) : (ByteArray.mk a.toArray ++ ByteArray.mk b.toArray) = ByteArray.mk (a ++ b).toArray := ByteArray.mk_append_mk a b

set_option maxRecDepth 20000 in
set_option maxHeartbeats 2000000 in
theorem testTextI (s : List UInt8) (nt : Bool) (w : World) (hl : s.length ≤ 2000000) : Calls Tryz.prog 60 #[es s, .bool nt] w fun e w' => e = .returned (es (testF s nt)) ∧ w = w' := by
  have S0 := Tryz.strings_CutSuffix ⟨s.toArray⟩ ⟨#[42]⟩ w (by have : (⟨s.toArray⟩ : ByteArray).size = s.length := rfl; omega)
  have e0 : (⟨#[42]⟩ : ByteArray).data.toList = [42] := rfl
  have e1 : (⟨s.toArray⟩ : ByteArray).data.toList = s := by simp
  rw [e0, e1] at S0
  have hT := Lib.hid (show testF s nt = if nt then [33] ++ (if s = [] then [95] else if Lib.hasSuffix s [42] then s.dropLast ++ [40, 42, 41] else s) else (if s = [] then [95] else if Lib.hasSuffix s [42] then s.dropLast ++ [40, 42, 41] else s) from rfl)
  by_cases h0 : s = []
  · subst h0
    have HS := Lib.hid S0
    clear S0
    cases nt
    all_goals
      go_enter Tryz.func60, Tryz.ntmps60
      go_wp2_with fail
      refine HS.out.mono ?_
      rintro e w1 ⟨rfl, rfl⟩
      go_wp2_with fail
      go_ret
      exact ⟨rfl, rfl⟩
  · rw [if_neg h0] at hT
    have b0 : (s == ([] : List UInt8)) = false := by simpa using h0
    cases hhs : Lib.hasSuffix s [42] with
    | false =>
      rw [hhs] at S0 hT
      have HS := Lib.hid S0
      clear S0 hhs h0
      generalize Lib.trimSuffix s [42] = tr at *
      cases nt
      · have HR := Lib.hid (show testF s false = s by rw [hT.out]; simp)
        clear hT
        go_enter Tryz.func60, Tryz.ntmps60
        go_wp2_with fail
        refine HS.out.mono ?_
        rintro e w1 ⟨rfl, rfl⟩
        go_wp2_with fail
        go_ret
        exact ⟨by rw [HR.out]; rfl, rfl⟩
      · have HR := Lib.hid (show testF s true = [33] ++ s by rw [hT.out]; simp)
        clear hT
        go_enter Tryz.func60, Tryz.ntmps60
        go_wp2_with fail
        refine HS.out.mono ?_
        rintro e w1 ⟨rfl, rfl⟩
        go_wp2_with fail
        go_ret
        exact ⟨by rw [HR.out, es_catX]; rfl, rfl⟩
    | true =>
      rw [trim_last s hhs, hhs] at S0
      rw [hhs] at hT
      have HS := Lib.hid S0
      have hdl : s.dropLast.length ≤ 2000000 := by simp; omega
      clear S0 hhs h0
      generalize s.dropLast = tr at *
      cases nt
      · have HR := Lib.hid (show testF s false = tr ++ [40, 42, 41] by rw [hT.out]; simp)
        clear hT
        go_enter Tryz.func60, Tryz.ntmps60
        go_wp2_with fail
        refine HS.out.mono ?_
        rintro e w1 ⟨rfl, rfl⟩
        go_wp2_with fail
        go_ret
        exact ⟨by rw [HR.out, es_catX]; rfl, rfl⟩
      · have HR := Lib.hid (show testF s true = [33] ++ (tr ++ [40, 42, 41]) by rw [hT.out]; simp)
        clear hT
        go_enter Tryz.func60, Tryz.ntmps60
        go_wp2_with fail
        refine HS.out.mono ?_
        rintro e w1 ⟨rfl, rfl⟩
        go_wp2_with fail
        go_ret
        exact ⟨by rw [HR.out, es_catX, es_catX]; rfl, rfl⟩

end Go.Proofs.YtddciieaolaleaaGreatDoor

/-
  The program's search for what binds a variable, and its check of a formula: what the calls return. (The drawn region's ways are printed by tools/genforb.py.)
-/
namespace Go.Proofs.YtddciieaolaleaaGreatDoor
open Go.RowKit

end Go.Proofs.YtddciieaolaleaaGreatDoor

/-
  The program's check of a formula: what the call returns.
-/
namespace Go.Proofs.YtddciieaolaleaaGreatDoor
open Go.RowKit

end Go.Proofs.YtddciieaolaleaaGreatDoor

/-
  The writer of images: what its calls leave.
-/
namespace Go.Proofs.YtddciieaolaleaaGreatDoor
open Go.RowKit

/-- nothing older than base is written. -/
def Fresh (base : Nat) (w w' : World) : Prop := ∀ w0 : World, w0.heap.size ≤ base → Upd [] w0 w → Upd [] w0 w'
theorem Fresh.refl (base : Nat) (w : World) : Fresh base w w := fun _ _ h => h
theorem Fresh.trans {base : Nat} {w w1 w2 : World} (h : Fresh base w w1) (k : Fresh base w1 w2) : Fresh base w w2 := fun w0 h0 hu => k w0 h0 (h w0 h0 hu)
theorem Fresh.of {base : Nat} {w w1 : World} (h : Upd [] w w1) : Fresh base w w1 := fun _ _ hu => hu.trans h

end Go.Proofs.YtddciieaolaleaaGreatDoor

/-
  Texts and whole images written, by the program and by the reference.
-/
namespace Go.Proofs.YtddciieaolaleaaGreatDoor
open Go.RowKit

end Go.Proofs.YtddciieaolaleaaGreatDoor

/-
  The image of a formula: what the program's call returns.
-/
namespace Go.Proofs.YtddciieaolaleaaGreatDoor
open Go.RowKit

/-- a node's four cells in a block of their own. -/
def NdAt (Q : Nat) (W : World) (n : Nd) : Prop := W.heap[Q]? = some (.cells #[ei n.kd, ei n.vr, es n.lb, .bool n.nt] 54 (0, 0))
theorem NdAt.upd {Q : Nat} {w w1 : World} {n : Nd} (h : NdAt Q w n) {f : List Nat} (hu : Upd f w w1) (hf : Q ∉ f) : NdAt Q w1 n := by
  unfold NdAt at *
  rw [hu.block Q (Array.getElem?_eq_some_iff.1 h).1 hf]; exact h
end Go.Proofs.YtddciieaolaleaaGreatDoor

/-
  The text of a formula: what the program's calls return (the trees).
-/
namespace Go.Proofs.YtddciieaolaleaaGreatDoor
open Go.RowKit

theorem es_parX (T : List UInt8) : ((⟨#[40]⟩ : ByteArray) ++ ⟨T.toArray⟩ ++ ⟨#[41]⟩) = ⟨(([40] ++ T) ++ [41]).toArray⟩ := by rw [← es_catX, ← es_catX]
theorem flatX_ei (xs : List Int) : xs.flatMap (fun n => [ei n]) = xs.map ei := by
  induction xs with
  | nil => rfl
  | cons x xs ih => rw [List.flatMap_cons, ih]; rfl
/-- numbers in a new block. -/
theorem kinds_new (W : World) (ks : List Int) (B : Nat) (hB : W.heap.size = B) (hm : ks.length ≤ 100) : R1 [B] (W.alloc (.cells (ks.map ei).toArray 2)) [.slice (some ⟨B, 0, none⟩) ks.length ks.length] ks := by
  subst hB
  refine ⟨_, rfl, some ⟨W.heap.size, 0, none⟩, ks.length, rfl, Nat.le_refl _, by unfold maxLen; omega, by rw [flatX_ei]; simp, Or.inr ⟨W.heap.size, 0, rfl, rfl, by simp, fun j u hj => ?_⟩⟩
  rw [flatX_ei] at hj
  rw [Nat.zero_add]
  exact cell_new W _ _ _ rfl j u (by simpa using hj)

def Tx (w : World) (T : List UInt8) (e : Ending) (w' : World) : Prop := e = .returned (es T) ∧ Upd [] w w'
end Go.Proofs.YtddciieaolaleaaGreatDoor

/-
  The text of a regular expression: what the program's calls return.
-/
namespace Go.Proofs.YtddciieaolaleaaGreatDoor
open Go.RowKit

theorem es_starY (T : List UInt8) : ((⟨T.toArray⟩ : ByteArray) ++ ⟨#[42]⟩) = ⟨(T ++ [42]).toArray⟩ := by rw [← es_catX]
theorem kinds_CA (W : World) (B : Nat) (hB : W.heap.size = B) : R1 [B] (W.alloc (.cells #[.int .i64 1, .int .i64 2] 2)) [.slice (some ⟨B, 0, none⟩) 2 2] [1, 2] := kinds_new W [1, 2] B hB (by simp)
theorem kinds_A2 (W : World) (B : Nat) (hB : W.heap.size = B) : R1 [B] (W.alloc (.cells #[.int .i64 2] 2)) [.slice (some ⟨B, 0, none⟩) 1 1] [2] := kinds_new W [2] B hB (by simp)

/-- the text of a tree in parentheses, or bare. -/
theorem innerY (ks : List Int) (kv v : Value) (x : Tr Rg) (w : World) (fk fp : List Nat) (hK : R1 fk w [kv] ks) (hR : R_Y fp w [v] x) (T : List UInt8) (hl : T.length ≤ 100000)
    (S : Calls Tryz.prog 29 #[v] w fun e w' => e = .returned (es T) ∧ Upd [] w w') :
    Calls Tryz.prog 58 #[v, kv] w fun e w' => e = .returned (es (parX (ks.contains (kdY x)) T)) ∧ Upd [] w w' := by
  obtain ⟨n, args⟩ := x
  obtain ⟨b0, s, fa, rfl, rfl, c0, -⟩ := R_Y_open hR
  have S1 := Lib.hid (containsI kv ks n.kd w fk hK)
  have HS := Lib.hid S
  rw [show kdY (.mk n args) = n.kd from rfl]
  clear hK hR S
  generalize n.kd = kd at *
  cases hb : ks.contains kd with
  | false =>
    rw [hb] at S1
    clear hb
    go_enter Tryz.func58, Tryz.ntmps58
    go_wp2_with fail
    refine S1.out.mono ?_
    rintro e w1 ⟨rfl, rfl⟩
    clear S1
    go_wp2_with fail
    refine HS.out.mono ?_
    rintro e w1 ⟨rfl, hu⟩
    have HU := Lib.hid hu
    clear hu HS
    go_wp2_with fail
    go_ret
    exact ⟨rfl, HU.out⟩
  | true =>
    rw [hb] at S1
    have HR := Lib.hid (show parX true T = ([40] ++ T) ++ [41] from rfl)
    clear hb
    go_enter Tryz.func58, Tryz.ntmps58
    go_wp2_with fail
    refine S1.out.mono ?_
    rintro e w1 ⟨rfl, rfl⟩
    clear S1
    go_wp2_with fail
    refine HS.out.mono ?_
    rintro e w1 ⟨rfl, hu⟩
    have HU := Lib.hid hu
    clear hu HS
    go_wp2_with fail
    go_ret
    exact ⟨by rw [HR.out, es_parX]; rfl, HU.out⟩

theorem isCA_in (k : Int) : ([1, 2] : List Int).contains k = isCA k := by
  unfold isCA
  cases h1 : k == 1 <;> cases h2 : k == 2 <;> simp [List.contains, List.elem, h1, h2]
theorem isA2_in (k : Int) : ([2] : List Int).contains k = isA2 k := by
  unfold isA2
  cases h2 : k == 2 <;> simp [List.contains, List.elem, h2]
theorem innerCA (v : Value) (x : Tr Rg) (fp : List Nat) (V : World) (B : Nat) (hK : R1 [B] V [.slice (some ⟨B, 0, none⟩) 2 2] [1, 2]) (hR : R_Y fp V [v] x) (T : List UInt8) (hl : T.length ≤ 100000)
    (S : Calls Tryz.prog 29 #[v] V fun e w' => e = .returned (es T) ∧ Upd [] V w') :
    Calls Tryz.prog 58 #[v, .slice (some ⟨B, 0, none⟩) 2 2] V (Tx V (parX (isCA (kdY x)) T)) := by
  rw [← isCA_in]
  exact innerY [1, 2] _ v x V _ fp hK hR T hl S
theorem innerA2 (v : Value) (x : Tr Rg) (fp : List Nat) (V : World) (B : Nat) (hK : R1 [B] V [.slice (some ⟨B, 0, none⟩) 1 1] [2]) (hR : R_Y fp V [v] x) (T : List UInt8) (hl : T.length ≤ 100000)
    (S : Calls Tryz.prog 29 #[v] V fun e w' => e = .returned (es T) ∧ Upd [] V w') :
    Calls Tryz.prog 58 #[v, .slice (some ⟨B, 0, none⟩) 1 1] V (Tx V (parX (isA2 (kdY x)) T)) := by
  rw [← isA2_in]
  exact innerY [2] _ v x V _ fp hK hR T hl S
/-- the closure without kinds. -/
theorem innerNY (v : Value) (x : Tr Rg) (fp : List Nat) (W : World) (hR : R_Y fp W [v] x) (T : List UInt8) (hl : T.length ≤ 100000)
    (S : Calls Tryz.prog 29 #[v] W fun e w' => e = .returned (es T) ∧ Upd [] W w') :
    Calls Tryz.prog 58 #[v, .slice none 0 0] W (Tx W T) :=
  (innerY [] _ v x W [] fp (by exact ⟨_, rfl, none, 0, rfl, Nat.le_refl _, by simp [maxLen], by simp, Or.inl ⟨rfl, rfl⟩⟩) hR T hl S).mono fun e w' ⟨h1, h2⟩ => ⟨h1, h2⟩

set_option maxRecDepth 20000 in
set_option maxHeartbeats 4000000 in
theorem textYI (n : Nat) : ∀ (x : Tr Rg) (w : World) (v : Value) (fp : List Nat), (flatT x).length ≤ n → (flatT x).length ≤ 40 → okT arR x = true → (∀ t ∈ flatT x, rgFit t) → R_Y fp w [v] x →
    Calls Tryz.prog 29 #[v] w fun e w' => e = .returned (es (textY x)) ∧ Upd [] w w' := by
  induction n with
  | zero => intro x w v fp hn; have := flatT_pos x; omega
  | succ n ih =>
    intro x w v fp hn h40 hok hfit hR
    obtain ⟨⟨t1, t3, t4⟩, args⟩ := x
    obtain ⟨b0, s, fa, rfl, rfl, c0, c1, c2, c4, hargs⟩ := R_Y_open hR
    simp only [flatT, List.length_cons] at hn h40
    simp only [okT, Bool.and_eq_true, decide_eq_true_eq] at hok
    have hok : (args.length : Int) = arRg t1 ∧ okTs arR args = true := hok
    have hft := hfit ⟨t1, t3, t4⟩ (by simp [flatT])
    obtain ⟨hk, hl⟩ := hft
    simp only at hk hl c0 c1 c2
    have HFIT := Lib.hid (fun t (ht : t ∈ flatTs args) => hfit t (by rw [flatT]; exact List.mem_cons_of_mem _ ht))
    have HIH := Lib.hid ih
    have HAR := Lib.hid hargs
    have HOK := Lib.hid hok
    clear ih hargs hR hfit hok
    rcases (by omega : t1 = 1 ∨ t1 = 2 ∨ t1 = 3 ∨ t1 = 0) with rfl | rfl | rfl | rfl
    · match args, HOK.out.1 with
      | [x, y], _ =>
        obtain ⟨a, cap, rfl, g1, g2, hc⟩ := slP_open HAR.out
        obtain ⟨ba, oa, u0, f0, rfl, -, -, p0, s0, r0⟩ := hc 0 (by simp)
        obtain ⟨ba', oa', u1, f1, hb', -, -, p1, s1, r1⟩ := hc 1 (by simp)
        simp only [Option.some.injEq, Addr.mk.injEq, and_true] at hb'
        obtain ⟨rfl, rfl⟩ := hb'
        have p0 : w.cell? ⟨ba, oa, none⟩ = some u0 := p0
        unfold maxLen at g2
        have hr0 : R_Y f0 w [u0] x := r0
        have hr1 : R_Y f1 w [u1] y := r1
        have hokx : okT arR x = true ∧ okT arR y = true := by have := HOK.out.2; simpa [okTs] using this
        simp only [flatTs, List.append_nil, List.length_append] at hn h40
        have hpx := flatT_pos x
        have hpy := flatT_pos y
        have hfx : ∀ t ∈ flatT x, rgFit t := fun t ht => HFIT.out t (by simp [flatTs, ht])
        have hfy : ∀ t ∈ flatT y, rgFit t := fun t ht => HFIT.out t (by simp [flatTs, ht])
        have hlx := textY_len x hfx
        have hly := textY_len y hfy
        have HRES := Lib.hid (show textY (.mk ⟨1, t3, t4⟩ [x, y]) = (parX (isCA (kdY x)) (textY x) ++ [46]) ++ parX (isA2 (kdY y)) (textY y) by simp [textY, textYs, nodeY])
        have T1 := Lib.hid (fun V B (hu : Upd [] w V) hK => innerCA u0 x f0 V B hK (R_Yk.upd hr0 hu (by simp)) (textY x) (by omega) (HIH.out x V u0 f0 (by omega) (by omega) hokx.1 hfx (R_Yk.upd hr0 hu (by simp))))
        have T2 := Lib.hid (fun V B (hu : Upd [] w V) hK => innerA2 u1 y f1 V B hK (R_Yk.upd hr1 hu (by simp)) (textY y) (by omega) (HIH.out y V u1 f1 (by omega) (by omega) hokx.2 hfy (R_Yk.upd hr1 hu (by simp))))
        have l1 := parX_len (isCA (kdY x)) (textY x)
        have l2 := parX_len (isA2 (kdY y)) (textY y)
        obtain ⟨bx, rfl⟩ := R_T_form hr0
        obtain ⟨by', rfl⟩ := R_T_form hr1
        generalize parX (isCA (kdY x)) (textY x) = A at *
        generalize parX (isA2 (kdY y)) (textY y) = B at *
        obtain ⟨AO, hAO⟩ : ∃ AO, AO = A ++ [46] := ⟨_, rfl⟩
        have hcat1 : (ByteArray.mk A.toArray ++ ByteArray.mk #[46]) = ByteArray.mk AO.toArray := by rw [hAO, ← es_catX]
        have haol : AO.length ≤ 100003 := by rw [hAO, List.length_append]; simp; omega
        rw [← hAO] at HRES
        obtain ⟨SS, hSS⟩ : ∃ SS, SS = AO ++ B := ⟨_, rfl⟩
        have hcat2 : (ByteArray.mk AO.toArray ++ ByteArray.mk B.toArray) = ByteArray.mk SS.toArray := by rw [hSS, ← es_catX]
        rw [← hSS] at HRES
        clear hSS hAO
        have hz1 : ¬ (9223372036854775807 < A.length + 1) := by omega
        have hz2 : ¬ (9223372036854775807 < AO.length + B.length) := by omega
        clear hc r0 r1 hr0 hr1 hlx hly l1 l2 hpx hpy hfx hfy hokx HAR HOK HIH HFIT
        go_enter Tryz.func29, Tryz.ntmps29
        go_upto_region 4 with (fail)
        clear c0 c1 c2
        go_region_held3 (fun w' => w'.cell? ⟨b0, 3, none⟩ = some (.slice (some ⟨ba, oa, none⟩) 2 cap) ∧ w'.cell? ⟨ba, oa, none⟩ = some (.pointer (some ⟨bx, 0, none⟩)) ∧ w'.cell? ⟨ba, oa + 1, none⟩ = some (.pointer (some ⟨by', 0, none⟩))) (go_keep)
          (first
            | (go_at_call 58; (with_reducible refine (T1.out _ _ (by repeat (first | exact Upd.refl _ _ | assumption | refine Upd.drew ?_ | refine Upd.alloc ?_ _)) (by repeat (first | exact kinds_CA _ _ (by simp) | refine R1k.drew ?_ | refine R1k.upd ?_ ((Upd.refl [] _).alloc _) (by simp)))).mono ?_); rintro e w1 ⟨rfl, hu1⟩; have hV1 : Upd [] w w1 := Upd.trans (by repeat (first | exact Upd.refl _ _ | assumption | refine Upd.drew ?_ | refine Upd.alloc ?_ _)) hu1; have x4 := hV1.keep c4; have x0 := hV1.keep p0; have x1 := hV1.keep p1)
            | (go_at_call 58; (with_reducible refine (T2.out _ _ (by repeat (first | exact Upd.refl _ _ | assumption | refine Upd.drew ?_ | refine Upd.alloc ?_ _)) (by repeat (first | exact kinds_A2 _ _ (by simp) | refine R1k.drew ?_ | refine R1k.upd ?_ ((Upd.refl [] _).alloc _) (by simp) | refine R1k.upd ?_ hu1 (by simp)))).mono ?_); rintro e w2 ⟨rfl, hu2⟩; have hV2 : Upd [] w w2 := Upd.trans (by repeat (first | exact Upd.refl _ _ | assumption | refine Upd.drew ?_ | refine Upd.alloc ?_ _)) hu2; have y4 := hV2.keep c4; have y0 := hV2.keep p0; have y1 := hV2.keep p1))
        all_goals
          have HU := Lib.hid hV2
          clear x4 x0 x1 y4 y0 y1 hV1 hV2 hu1 hu2 c4 p0 p1 T1 T2
          go_wp2_with fail
          go_ret
          exact ⟨by rw [HRES.out]; rfl, HU.out⟩
    · match args, HOK.out.1 with
      | [x, y], _ =>
        obtain ⟨a, cap, rfl, g1, g2, hc⟩ := slP_open HAR.out
        obtain ⟨ba, oa, u0, f0, rfl, -, -, p0, s0, r0⟩ := hc 0 (by simp)
        obtain ⟨ba', oa', u1, f1, hb', -, -, p1, s1, r1⟩ := hc 1 (by simp)
        simp only [Option.some.injEq, Addr.mk.injEq, and_true] at hb'
        obtain ⟨rfl, rfl⟩ := hb'
        have p0 : w.cell? ⟨ba, oa, none⟩ = some u0 := p0
        unfold maxLen at g2
        have hr0 : R_Y f0 w [u0] x := r0
        have hr1 : R_Y f1 w [u1] y := r1
        have hokx : okT arR x = true ∧ okT arR y = true := by have := HOK.out.2; simpa [okTs] using this
        simp only [flatTs, List.append_nil, List.length_append] at hn h40
        have hpx := flatT_pos x
        have hpy := flatT_pos y
        have hfx : ∀ t ∈ flatT x, rgFit t := fun t ht => HFIT.out t (by simp [flatTs, ht])
        have hfy : ∀ t ∈ flatT y, rgFit t := fun t ht => HFIT.out t (by simp [flatTs, ht])
        have hlx := textY_len x hfx
        have hly := textY_len y hfy
        have HRES := Lib.hid (show textY (.mk ⟨2, t3, t4⟩ [x, y]) = (parX (isA2 (kdY x)) (textY x) ++ [43]) ++ textY y by simp [textY, textYs, nodeY])
        have T1 := Lib.hid (fun V B (hu : Upd [] w V) hK => innerA2 u0 x f0 V B hK (R_Yk.upd hr0 hu (by simp)) (textY x) (by omega) (HIH.out x V u0 f0 (by omega) (by omega) hokx.1 hfx (R_Yk.upd hr0 hu (by simp))))
        have T2 := Lib.hid (fun V (hu : Upd [] w V) => innerNY u1 y f1 V (R_Yk.upd hr1 hu (by simp)) (textY y) (by omega) (HIH.out y V u1 f1 (by omega) (by omega) hokx.2 hfy (R_Yk.upd hr1 hu (by simp))))
        have l1 := parX_len (isA2 (kdY x)) (textY x)
        have l2 := parX_len (isA2 (kdY y)) (textY y)
        obtain ⟨bx, rfl⟩ := R_T_form hr0
        obtain ⟨by', rfl⟩ := R_T_form hr1
        generalize parX (isA2 (kdY x)) (textY x) = A at *
        generalize textY y = B at *
        obtain ⟨AO, hAO⟩ : ∃ AO, AO = A ++ [43] := ⟨_, rfl⟩
        have hcat1 : (ByteArray.mk A.toArray ++ ByteArray.mk #[43]) = ByteArray.mk AO.toArray := by rw [hAO, ← es_catX]
        have haol : AO.length ≤ 100003 := by rw [hAO, List.length_append]; simp; omega
        rw [← hAO] at HRES
        obtain ⟨SS, hSS⟩ : ∃ SS, SS = AO ++ B := ⟨_, rfl⟩
        have hcat2 : (ByteArray.mk AO.toArray ++ ByteArray.mk B.toArray) = ByteArray.mk SS.toArray := by rw [hSS, ← es_catX]
        rw [← hSS] at HRES
        clear hSS hAO
        have hz1 : ¬ (9223372036854775807 < A.length + 1) := by omega
        have hz2 : ¬ (9223372036854775807 < AO.length + B.length) := by omega
        clear hc r0 r1 hr0 hr1 hlx hly l1 l2 hpx hpy hfx hfy hokx HAR HOK HIH HFIT
        go_enter Tryz.func29, Tryz.ntmps29
        go_upto_region 6 with (fail)
        clear c0 c1 c2
        go_region_held3 (fun w' => w'.cell? ⟨b0, 3, none⟩ = some (.slice (some ⟨ba, oa, none⟩) 2 cap) ∧ w'.cell? ⟨ba, oa, none⟩ = some (.pointer (some ⟨bx, 0, none⟩)) ∧ w'.cell? ⟨ba, oa + 1, none⟩ = some (.pointer (some ⟨by', 0, none⟩))) (go_keep)
          (first
            | (go_at_call 58; (with_reducible refine (T1.out _ _ (by repeat (first | exact Upd.refl _ _ | assumption | refine Upd.drew ?_ | refine Upd.alloc ?_ _)) (by repeat (first | exact kinds_A2 _ _ (by simp) | refine R1k.drew ?_ | refine R1k.upd ?_ ((Upd.refl [] _).alloc _) (by simp)))).mono ?_); rintro e w1 ⟨rfl, hu1⟩; have hV1 : Upd [] w w1 := Upd.trans (by repeat (first | exact Upd.refl _ _ | assumption | refine Upd.drew ?_ | refine Upd.alloc ?_ _)) hu1; have x4 := hV1.keep c4; have x0 := hV1.keep p0; have x1 := hV1.keep p1)
            | (go_at_call 58; (with_reducible refine (T2.out _ (by repeat (first | exact Upd.refl _ _ | assumption | refine Upd.drew ?_ | refine Upd.alloc ?_ _))).mono ?_); rintro e w2 ⟨rfl, hu2⟩; have hV2 : Upd [] w w2 := Upd.trans (by repeat (first | exact Upd.refl _ _ | assumption | refine Upd.drew ?_ | refine Upd.alloc ?_ _)) hu2; have y4 := hV2.keep c4; have y0 := hV2.keep p0; have y1 := hV2.keep p1))
        all_goals
          have HU := Lib.hid hV2
          clear x4 x0 x1 y4 y0 y1 hV1 hV2 hu1 hu2 c4 p0 p1 T1 T2
          go_wp2_with fail
          go_ret
          exact ⟨by rw [HRES.out]; rfl, HU.out⟩
    · match args, HOK.out.1 with
      | [x], _ =>
        obtain ⟨a, cap, rfl, g1, g2, hc⟩ := slP_open HAR.out
        obtain ⟨ba, oa, u0, f0, rfl, -, -, p0, s0, r0⟩ := hc 0 (by simp)
        have p0 : w.cell? ⟨ba, oa, none⟩ = some u0 := p0
        unfold maxLen at g2
        have hr0 : R_Y f0 w [u0] x := r0
        have hokx : okT arR x = true := by have := HOK.out.2; simpa [okTs] using this
        simp only [flatTs, List.append_nil] at hn h40
        have hpx := flatT_pos x
        have hfx : ∀ t ∈ flatT x, rgFit t := fun t ht => HFIT.out t (by simp [flatTs, ht])
        have hlx := textY_len x hfx
        have HRES := Lib.hid (show textY (.mk ⟨3, t3, t4⟩ [x]) = parX (isCA (kdY x)) (textY x) ++ [42] by simp [textY, textYs, nodeY])
        have T1 := Lib.hid (fun V B (hu : Upd [] w V) hK => innerCA u0 x f0 V B hK (R_Yk.upd hr0 hu (by simp)) (textY x) (by omega) (HIH.out x V u0 f0 (by omega) (by omega) hokx hfx (R_Yk.upd hr0 hu (by simp))))
        have l1 := parX_len (isCA (kdY x)) (textY x)
        obtain ⟨bx, rfl⟩ := R_T_form hr0
        generalize parX (isCA (kdY x)) (textY x) = B at *
        have hz1 : ¬ (9223372036854775807 < B.length + 1) := by omega
        clear hc r0 hr0 hlx l1 hpx hfx hokx HAR HOK HIH HFIT
        go_enter Tryz.func29, Tryz.ntmps29
        go_wp2_with fail
        refine (T1.out _ _ ((Upd.refl _ _).alloc _) (kinds_CA _ _ rfl)).mono ?_
        rintro e w1 ⟨rfl, hu1⟩
        have HU := Lib.hid (((Upd.refl [] w).alloc (.cells #[.int .i64 1, .int .i64 2] 2)).trans hu1)
        clear hu1 T1
        go_wp2_with fail
        go_ret
        exact ⟨by rw [HRES.out, show es (B ++ [42]) = .string (⟨B.toArray⟩ ++ ⟨#[42]⟩) from congrArg Value.string (es_starY B).symm]; rfl, HU.out⟩
    · have HRES := Lib.hid (show textY (.mk ⟨0, t3, t4⟩ args) = testF t3 t4 by simp [textY, nodeY])
      have T0 := Lib.hid (fun W => testTextI t3 t4 W (by omega))
      clear HAR HOK HIH HFIT
      go_enter Tryz.func29, Tryz.ntmps29
      go_upto_region 9 with (fail)
      go_region_held3 (fun w' => w'.cell? ⟨b0, 1, none⟩ = some (es t3) ∧ w'.cell? ⟨b0, 2, none⟩ = some (.bool t4)) (go_keep)
        ((go_at_call 60; (with_reducible refine (T0.out _).mono ?_); rintro e w0 ⟨rfl, rfl⟩))
      all_goals
        go_wp2_with fail
        go_ret
        exact ⟨by rw [HRES.out]; rfl, by repeat (first | exact Upd.refl _ _ | refine Upd.drew ?_)⟩

end Go.Proofs.YtddciieaolaleaaGreatDoor

/-
  The reference's checks of nodes and of a formula's shape: what the calls return.
-/
namespace Go.Proofs.YtddciieaolaleaaGreatDoor
open Go.RowKit

set_option maxRecDepth 20000 in
set_option maxHeartbeats 2000000 in
theorem patS (s : List UInt8) (w : World) (hl : s.length ≤ 2000000) : Calls Tryz.prog 51 #[es s] w fun e w' => e = .returned (.bool (patF s)) ∧ Upd [] w w' := by
  have S1 := Lib.hid (labelS s w hl)
  have HP := Lib.hid (show patF s = (s == [] || isLab s || (s.getLast? == some 42 && actF s.dropLast)) from rfl)
  by_cases h0 : s = []
  · subst h0
    have HR := Lib.hid (show patF [] = true from rfl)
    clear S1 HP
    go_enter Tryz.func51, Tryz.ntmps51
    go_wp2_with fail
    go_ret
    exact ⟨by rw [HR.out]; rfl, Upd.refl _ _⟩
  · have b0 : (s == ([] : List UInt8)) = false := by simpa using h0
    cases hlab : isLab s with
    | true =>
      rw [hlab] at S1
      have HR := Lib.hid (show patF s = true by rw [HP.out, hlab]; simp)
      clear HP hlab h0
      go_enter Tryz.func51, Tryz.ntmps51
      go_wp2_with fail
      refine S1.out.mono ?_
      rintro e w1 ⟨rfl, hu⟩
      have HU := Lib.hid hu
      clear S1 hu
      go_wp2_with fail
      go_ret
      exact ⟨by rw [HR.out]; rfl, HU.out⟩
    | false =>
      rw [hlab] at S1
      obtain ⟨l, x, rfl⟩ : ∃ l x, s = l ++ [x] := by
        rcases List.eq_nil_or_concat s with h | ⟨l, x, h⟩
        · exact absurd h h0
        · exact ⟨l, x, by rw [h]; simp⟩
      have HR := Lib.hid (show patF (l ++ [x]) = (x == 42 && actF l) by rw [HP.out, hlab, b0]; simp)
      have hlen : (l ++ [x]).length = l.length + 1 := by simp
      have hll : l.length ≤ 2000000 := by rw [hlen] at hl; omega
      have S2 := Lib.hid (fun W => actionS l W hll)
      have hext := extract_list (l ++ [x]) 0 l.length
      have e1 : ((l ++ [x]).drop 0).take (l.length - 0) = l := by simp
      rw [e1] at hext
      have hix : (⟨(l ++ [x]).toArray⟩ : ByteArray)[l.length]'(by simp [ByteArray.size]) = x := by simp [ByteArray.getElem_eq_getElem_data]
      have hm1 : ((l.length : Int) + 1) - 1 = (l.length : Int) := by omega
      have hm4 : (l.length : Int) ≤ (l.length : Int) + 1 := by omega
      have hzz : l.length < (l ++ [x]).length := by omega
      clear HP hlab h0 e1
      obtain ⟨S, hS⟩ : ∃ S, S = l ++ [x] := ⟨_, rfl⟩
      have hix2 : ∃ hh, (⟨S.toArray⟩ : ByteArray)[l.length]'hh = x := by subst hS; exact ⟨_, hix⟩
      rw [← hS] at S1 HR hlen hext b0 hzz hl
      rw [← hS]
      clear hix hS
      obtain ⟨hh, hix⟩ := hix2
      by_cases hx : x = 42
      · have bx : ((x.toNat : Int) == 42) = true := by rw [hx]; rfl
        have HR2 := Lib.hid (show patF S = actF l by rw [HR.out, hx]; simp)
        clear HR hx
        generalize actF l = q at *
        go_enter Tryz.func51, Tryz.ntmps51
        go_wp2_with fail
        refine S1.out.mono ?_
        rintro e w1 ⟨rfl, hu⟩
        have HU := Lib.hid hu
        clear S1 hu
        go_wp2_with fail
        refine (S2.out _).mono ?_
        rintro e w2 ⟨rfl, rfl⟩
        clear S2
        go_wp2_with fail
        go_ret
        exact ⟨by rw [HR2.out]; rfl, HU.out⟩
      · have bx : ((x.toNat : Int) == 42) = false := by
          simp; intro h; apply hx; exact UInt8.toNat_inj.1 (by rw [show (42 : UInt8).toNat = 42 from rfl]; omega)
        have HR2 := Lib.hid (show patF S = false by rw [HR.out]; simp [hx])
        clear HR hx S2
        go_enter Tryz.func51, Tryz.ntmps51
        go_wp2_with fail
        refine S1.out.mono ?_
        rintro e w1 ⟨rfl, hu⟩
        have HU := Lib.hid hu
        clear S1 hu
        go_wp2_with fail
        go_ret
        exact ⟨by rw [HR2.out]; rfl, HU.out⟩

end Go.Proofs.YtddciieaolaleaaGreatDoor

/-
  The text of a formula: what the reference's calls return.
-/
namespace Go.Proofs.YtddciieaolaleaaGreatDoor
open Go.RowKit

theorem es_parS (T : List UInt8) : ((⟨#[40]⟩ : ByteArray) ++ ⟨T.toArray⟩ ++ ⟨#[41]⟩) = ⟨(([40] ++ T) ++ [41]).toArray⟩ := by rw [← es_catX, ← es_catX]
theorem wrapS (T : List UInt8) (b : Bool) (hl : T.length ≤ 1000000) (w : World) : Calls Tryz.prog 53 #[es T, .bool b] w fun e w' => e = .returned (es (parX b T)) ∧ w = w' := by
  cases b
  · go_enter Tryz.func53, Tryz.ntmps53
    go_wp2_with fail
    go_ret
    exact ⟨rfl, rfl⟩
  · go_enter Tryz.func53, Tryz.ntmps53
    go_wp2_with fail
    go_ret
    exact ⟨by simp only [parX, if_true, es_parS]; rfl, rfl⟩

set_option maxRecDepth 20000 in
set_option maxHeartbeats 2000000 in
theorem testS (s : List UInt8) (nt : Bool) (w : World) (hl : s.length ≤ 1000000) : Calls Tryz.prog 52 #[es s, .bool nt] w fun e w' => e = .returned (es (testF s nt)) ∧ w = w' := by
  have hT := Lib.hid (show testF s nt = if nt then [33] ++ (if s = [] then [95] else if Lib.hasSuffix s [42] then s.dropLast ++ [40, 42, 41] else s) else (if s = [] then [95] else if Lib.hasSuffix s [42] then s.dropLast ++ [40, 42, 41] else s) from rfl)
  by_cases h0 : s = []
  · subst h0
    cases nt
    all_goals
      go_enter Tryz.func52, Tryz.ntmps52
      go_wp2_with fail
      go_ret
      exact ⟨rfl, rfl⟩
  · rw [if_neg h0, suf_last] at hT
    obtain ⟨l, x, rfl⟩ : ∃ l x, s = l ++ [x] := by
      rcases List.eq_nil_or_concat s with h | ⟨l, x, h⟩
      · exact absurd h h0
      · exact ⟨l, x, by rw [h]; simp⟩
    rw [show (l ++ [x]).getLast? = some x by simp, show (l ++ [x]).dropLast = l by simp] at hT
    have hlen : (l ++ [x]).length = l.length + 1 := by simp
    have hll : l.length ≤ 1000000 := by rw [hlen] at hl; omega
    have hext := extract_list (l ++ [x]) 0 l.length
    have e1 : ((l ++ [x]).drop 0).take (l.length - 0) = l := by simp
    rw [e1] at hext
    have hix : (⟨(l ++ [x]).toArray⟩ : ByteArray)[l.length]'(by simp [ByteArray.size]) = x := by simp [ByteArray.getElem_eq_getElem_data]
    have hm1 : ((l.length : Int) + 1) - 1 = (l.length : Int) := by omega
    have hm4 : (l.length : Int) ≤ (l.length : Int) + 1 := by omega
    have hzz : l.length < (l ++ [x]).length := by omega
    clear h0 e1
    obtain ⟨S, hS⟩ : ∃ S, S = l ++ [x] := ⟨_, rfl⟩
    have hix2 : ∃ hh, (⟨S.toArray⟩ : ByteArray)[l.length]'hh = x := by subst hS; exact ⟨_, hix⟩
    rw [← hS] at hT hlen hext hzz hl
    rw [← hS]
    clear hix hS
    obtain ⟨hh, hix⟩ := hix2
    by_cases hx : x = 42
    · have bx : ((x.toNat : Int) == 42) = true := by rw [hx]; rfl
      obtain ⟨M, hM⟩ : ∃ M, M = l ++ [40, 42, 41] := ⟨_, rfl⟩
      have hcat : (ByteArray.mk l.toArray ++ ByteArray.mk #[40, 42, 41]) = ByteArray.mk M.toArray := by rw [hM, ← es_catX]
      have hml : M.length ≤ 1000003 := by rw [hM, List.length_append]; simp; omega
      cases nt
      · have HR := Lib.hid (show testF S false = M by rw [hT.out, hx, hM]; simp)
        clear hT hx hM
        go_enter Tryz.func52, Tryz.ntmps52
        go_wp2_with fail
        go_ret
        exact ⟨by rw [HR.out]; rfl, rfl⟩
      · have HR := Lib.hid (show testF S true = [33] ++ M by rw [hT.out, hx, hM]; simp)
        clear hT hx hM
        go_enter Tryz.func52, Tryz.ntmps52
        go_wp2_with fail
        go_ret
        exact ⟨by rw [HR.out, es_catX]; rfl, rfl⟩
    · have bx : ((x.toNat : Int) == 42) = false := by
        simp; intro h; apply hx; exact UInt8.toNat_inj.1 (by rw [show (42 : UInt8).toNat = 42 from rfl]; omega)
      have hx' : (some x == some (42 : UInt8)) = false := by simpa using hx
      cases nt
      · have HR := Lib.hid (show testF S false = S by rw [hT.out, hx']; simp)
        clear hT hx hx'
        go_enter Tryz.func52, Tryz.ntmps52
        go_wp2_with fail
        go_ret
        exact ⟨by rw [HR.out]; rfl, rfl⟩
      · have HR := Lib.hid (show testF S true = [33] ++ S by rw [hT.out, hx']; simp)
        clear hT hx hx'
        go_enter Tryz.func52, Tryz.ntmps52
        go_wp2_with fail
        go_ret
        exact ⟨by rw [HR.out, es_catX]; rfl, rfl⟩

theorem Tryz.infoStrX : (Tryz.prog.info? 9).map (fun i => (i.zero, i.size, i.bytes)) = some (some (.string ⟨#[]⟩), 1, 16) := by kernel_rfl

theorem getD_take {γ : Type} (xs : List γ) (a i : Nat) (d : γ) (h : i < a) : (xs.take a).getD i d = xs.getD i d := by
  rw [List.getD_eq_getElem?_getD, List.getD_eq_getElem?_getD, List.getElem?_take, if_pos h]
theorem forestT_le {α : Type} : ∀ xs : List (Tr α), xs.length ≤ (flatTs xs).length
  | [] => by simp
  | x :: xs => by simp only [flatTs, List.length_append, List.length_cons]; have := flatT_pos x; have := forestT_le xs; omega
theorem getD_lt {γ δ : Type} (xs : List γ) (F : γ → δ) (i : Nat) (d : δ) (h : i < xs.length) : (xs.map F).getD i d = F xs[i] := by
  rw [List.getD_eq_getElem?_getD, List.getElem?_map, List.getElem?_eq_getElem h]; rfl

end Go.Proofs.YtddciieaolaleaaGreatDoor

/-
  The checks of a regular expression: what the program's call and the reference's call return.
-/
namespace Go.Proofs.YtddciieaolaleaaGreatDoor
open Go.RowKit

/-- an element's label is a pattern, and only a test has one. -/
def fldR (n : Rg) : Bool := patF n.lb && !(n.kd != 0 && (n.lb != [] || n.nt))
/-- m expressions are still to come, and the elements are valid and exactly those. -/
def regG : Int → List Rg → Bool
  | m, [] => m == 0
  | m, n :: l => if m = 0 ∨ inB n.kd 0 3 = false ∨ fldR n = false then false else regG (m + arRg n.kd - 1) l
def regOk (f : List Rg) : Bool := regG 1 f && decide (f.length ≤ 20)

theorem regG_shape : ∀ (l : List Rg) (m : Int), regG m l = true → shapeG arR m l = true ∧ ∀ n ∈ l, inB n.kd 0 3 = true ∧ fldR n = true
  | [], m, h => ⟨h, by simp⟩
  | n :: l, m, h => by
    rw [regG] at h
    split at h
    · cases h
    · next hn =>
      obtain ⟨h1, h2⟩ := regG_shape l _ h
      have hm : ¬ m = 0 := fun e => hn (Or.inl e)
      have hi : inB n.kd 0 3 = true := by cases e : inB n.kd 0 3 <;> simp_all
      have hf : fldR n = true := by cases e : fldR n <;> simp_all
      refine ⟨by rw [shapeG, if_neg hm]; exact h1, fun x hx => ?_⟩
      rcases List.mem_cons.1 hx with rfl | h3
      · exact ⟨hi, hf⟩
      · exact h2 x h3

set_option maxRecDepth 20000 in
set_option maxHeartbeats 800000 in
theorem arityR (a : Int) (w : World) (h : inB a 0 3 = true) : Calls Tryz.prog 50 #[ei a] w fun e w' => e = .returned (.int .i64 (arRg a)) ∧ w = w' := by
  have h := inB_true h
  rcases (by omega : a = 0 ∨ a = 1 ∨ a = 2 ∨ a = 3) with rfl | rfl | rfl | rfl
  all_goals
    clear h
    go_enter Tryz.func50, Tryz.ntmps50
    go_wp2_with fail
    go_ret
    exact ⟨rfl, rfl⟩

set_option maxRecDepth 20000 in
set_option maxHeartbeats 4000000 in
theorem isRS (v : Value) (f : List Rg) (w : World) (fp : List Nat) (hR : R_G1 fp w [v] f) (hlen : f.length ≤ 2000000) (hl : ∀ n ∈ f, n.lb.length ≤ 2000000) :
    Calls Tryz.prog 24 #[v] w fun e w' => e = .returned (.bool (regOk f)) ∧ Upd [] w w' := by
  obtain ⟨a, cap, rfl, h1, h2, hc⟩ := slF3_open hR
  unfold maxLen at h2
  have HC := Lib.hid hc
  have HL := Lib.hid hl
  clear hR hc hl
  by_cases hlt1 : f.length < 1
  · have HR := Lib.hid (show regOk f = false by
      have : f = [] := List.eq_nil_of_length_eq_zero (by omega)
      subst this; rfl)
    have g1 : (f.length : Int) < 1 := by omega
    clear hlt1
    go_enter Tryz.func24, Tryz.ntmps24
    go_wp2_with fail
    go_ret
    exact ⟨by rw [HR.out]; rfl, Upd.refl _ _⟩
  · have g1 : ¬ (f.length : Int) < 1 := by omega
    by_cases hgt : 20 < f.length
    · have HR := Lib.hid (show regOk f = false by unfold regOk; rw [decide_eq_false (by omega), Bool.and_false])
      have g2 : (20 : Int) < (f.length : Int) := by omega
      clear hlt1 hgt
      go_enter Tryz.func24, Tryz.ntmps24
      go_wp2_with fail
      go_ret
      exact ⟨by rw [HR.out]; rfl, Upd.refl _ _⟩
    · have HR := Lib.hid (show regOk f = regG 1 f by unfold regOk; rw [decide_eq_true (by omega), Bool.and_true])
      have g2 : ¬ (20 : Int) < (f.length : Int) := by omega
      clear hlt1 hgt
      go_enter Tryz.func24, Tryz.ntmps24
      go_wp2_with fail
      go_loopw [3, 4] (fun mv iv wr => ∃ (k : Nat) (m : Int), k ≤ f.length ∧ iv = .int .i64 k ∧ mv = .int .i64 m ∧ 0 ≤ m ∧ m ≤ 1 + 2 * k ∧ Hid (regG m (f.drop k) = regG 1 f) ∧ Hid (Upd [] w wr)) (fun _ iv _ => f.length - (intOf iv).toNat)
      case atStart => exact ⟨0, 1, Nat.zero_le _, rfl, rfl, by omega, by omega, Lib.hid rfl, Lib.hid (Upd.refl _ _)⟩
      case round =>
        obtain ⟨wo, rfl⟩ : ∃ wo : World, wo = wr := ⟨_, rfl⟩
        obtain ⟨k, m, hk, rfl, rfl, hm0, hm1, HS, HU⟩ := hrel
        by_cases hlt : k < f.length
        · obtain ⟨b1, o1, rfl, -, -, p1, p3, p4⟩ := HC.out k hlt
          have q1 := HU.out.keep p1
          have q3 := HU.out.keep p3
          have q4 := HU.out.keep p4
          have hcl := HL.out f[k] (List.getElem_mem hlt)
          have hS := HS.out
          rw [List.drop_eq_getElem_cons hlt, regG] at hS
          have hkl : (k : Int) < (f.length : Int) := by omega
          have har := arRg_in f[k].kd
          have S2 := Lib.hid (fun (W : World) (hh : inB f[k].kd 0 3 = true) => arityR f[k].kd W hh)
          have hff : fldR f[k] = (patF f[k].lb && !(f[k].kd != 0 && (f[k].lb != [] || f[k].nt))) := rfl
          rw [hff] at hS
          generalize hdd : f.drop (k + 1) = dd at *
          have HDD := Lib.hid hdd
          clear p1 p3 p4 HS hff hdd
          generalize arRg f[k].kd = ar at *
          generalize f[k] = x at *
          obtain ⟨x1, x3, x4⟩ := x
          simp only at q1 q3 q4 S2 hS hcl
          have S1 := Lib.hid (fun W : World => l00In x1 0 3 W)
          have S3 := Lib.hid (fun W : World => patS x3 W hcl)
          by_cases hz : m = 0
          · rw [if_pos (Or.inl hz)] at hS
            have HZ := Lib.hid hS
            have bz : (m == 0) = true := by simpa using hz
            clear hS hz S1 S2 S3 har
            go_wp2_with fail
            go_ret
            exact ⟨by rw [HR.out, ← HZ.out]; rfl, HU.out⟩
          · have bz : (m == 0) = false := by simpa using hz
            cases hin : inB x1 0 3 with
            | false =>
              rw [if_pos (Or.inr (Or.inl hin))] at hS
              rw [hin] at S1
              have HZ := Lib.hid hS
              clear hS hz hin S2 S3 har
              go_wp2_with fail
              refine (S1.out _).mono ?_
              rintro e w1 ⟨rfl, rfl⟩
              clear S1
              go_wp2_with fail
              go_ret
              exact ⟨by rw [HR.out, ← HZ.out]; rfl, HU.out⟩
            | true =>
              have T2 := Lib.hid (fun W => S2.out W hin)
              rw [hin] at S1
              have hmz : m ≠ 0 := hz
              obtain ⟨m2, hm2⟩ : ∃ m2 : Int, m2 = m + ar - 1 := ⟨_, rfl⟩
              have hm3 : m + (ar - 1) = m2 := by omega
              have hS2 : (if (patF x3 && !(x1 != 0 && (x3 != [] || x4))) = false then false else regG m2 dd) = regG 1 f := by
                rw [hm2, ← hS]
                simp [hz, hin]
              have HZ := Lib.hid hS2
              have hm4 : 0 ≤ m2 := by omega
              have hm5 : m2 ≤ 1 + 2 * (k + 1) := by omega
              clear hS hS2 hz hin hm2 S2
              by_cases h0 : x1 = 0
              · subst h0
                cases hp : patF x3 with
                | false =>
                  rw [hp] at S3
                  have HY := Lib.hid (show regG 1 f = false by rw [← HZ.out, hp]; rfl)
                  clear HZ hp
                  go_wp2_with fail
                  refine (S1.out _).mono ?_
                  rintro e w1 ⟨rfl, rfl⟩
                  clear S1
                  go_wp2_with fail
                  refine (T2.out _).mono ?_
                  rintro e w1 ⟨rfl, rfl⟩
                  clear T2
                  go_wp2_with fail
                  refine (S3.out _).mono ?_
                  rintro e w2 ⟨rfl, hu2⟩
                  have HU2 := Lib.hid (HU.out.trans hu2)
                  clear S3 hu2
                  go_wp2_with fail
                  go_ret
                  exact ⟨by rw [HR.out, HY.out]; rfl, HU2.out⟩
                | true =>
                  rw [hp] at S3
                  have HY := Lib.hid (show regG m2 dd = regG 1 f by rw [← HZ.out, hp]; rfl)
                  clear HZ hp
                  go_wp2_with fail
                  refine (S1.out _).mono ?_
                  rintro e w1 ⟨rfl, rfl⟩
                  clear S1
                  go_wp2_with fail
                  refine (T2.out _).mono ?_
                  rintro e w1 ⟨rfl, rfl⟩
                  clear T2
                  go_wp2_with fail
                  refine (S3.out _).mono ?_
                  rintro e w2 ⟨rfl, hu2⟩
                  have HU2 := Lib.hid (HU.out.trans hu2)
                  have q1 := hu2.keep q1
                  have q3 := hu2.keep q3
                  have q4 := hu2.keep q4
                  clear S3 hu2
                  go_wp2_with fail
                  go_roundw
                  case rel => exact ⟨k + 1, m2, by omega, by go_num, rfl, hm4, by omega, Lib.hid (by rw [HDD.out]; exact HY.out), HU2⟩
                  case measure => simp [intOf]; omega
              · have b0 : (x1 == 0) = false := by simpa using h0
                have b0' : (x1 != 0) = true := by simpa using h0
                clear S3
                by_cases hx3 : x3 = []
                · subst hx3
                  cases x4 with
                  | true =>
                    have HY := Lib.hid (show regG 1 f = false by rw [← HZ.out, b0']; rfl)
                    clear HZ
                    go_wp2_with fail
                    refine (S1.out _).mono ?_
                    rintro e w1 ⟨rfl, rfl⟩
                    clear S1
                    go_wp2_with fail
                    refine (T2.out _).mono ?_
                    rintro e w1 ⟨rfl, rfl⟩
                    clear T2
                    go_wp2_with fail
                    go_ret
                    exact ⟨by rw [HR.out, HY.out]; rfl, HU.out⟩
                  | false =>
                    have HY := Lib.hid (show regG m2 dd = regG 1 f by rw [← HZ.out, b0']; rfl)
                    clear HZ
                    go_wp2_with fail
                    refine (S1.out _).mono ?_
                    rintro e w1 ⟨rfl, rfl⟩
                    clear S1
                    go_wp2_with fail
                    refine (T2.out _).mono ?_
                    rintro e w1 ⟨rfl, rfl⟩
                    clear T2
                    go_wp2_with fail
                    go_roundw
                    case rel => exact ⟨k + 1, m2, by omega, by go_num, rfl, hm4, by omega, Lib.hid (by rw [HDD.out]; exact HY.out), HU⟩
                    case measure => simp [intOf]; omega
                · have e3 : (x3 != []) = true := by simpa using hx3
                  have HY := Lib.hid (show regG 1 f = false by rw [← HZ.out, b0', e3]; simp)
                  clear HZ
                  go_wp2_with fail
                  refine (S1.out _).mono ?_
                  rintro e w1 ⟨rfl, rfl⟩
                  clear S1
                  go_wp2_with fail
                  refine (T2.out _).mono ?_
                  rintro e w1 ⟨rfl, rfl⟩
                  clear T2
                  go_wp2_with fail
                  go_ret
                  exact ⟨by rw [HR.out, HY.out]; rfl, HU.out⟩
        · obtain rfl : k = f.length := by omega
          have hS := HS.out
          rw [List.drop_length, regG] at hS
          have HZ := Lib.hid hS
          clear HS hS
          by_cases hz : m = 0
          · subst hz
            have HY := Lib.hid (show regOk f = true by rw [HR.out, ← HZ.out]; rfl)
            clear HZ
            go_wp2_with fail
            go_ret
            exact ⟨by rw [HY.out]; rfl, HU.out⟩
          · have bz : (m == 0) = false := by simpa using hz
            have HY := Lib.hid (show regOk f = false by rw [HR.out, ← HZ.out, bz])
            clear HZ hz
            go_wp2_with fail
            go_ret
            exact ⟨by rw [HY.out]; rfl, HU.out⟩

set_option maxRecDepth 20000 in
set_option maxHeartbeats 4000000 in
theorem validRI (v : Value) (f : List Rg) (w : World) (fp : List Nat) (hR : R_G1 fp w [v] f) (hlen : f.length ≤ 2000000) (hl : ∀ n ∈ f, n.lb.length ≤ 2000000) (he : Env w) :
    Calls Tryz.prog 27 #[v] w fun e w' => e = .returned (.bool (regOk f)) ∧ Upd [] w w' := by
  obtain ⟨a, cap, rfl, h1, h2, hc⟩ := slF3_open hR
  unfold maxLen at h2
  have HC := Lib.hid hc
  have HL := Lib.hid hl
  have HE := Lib.hid he
  have HR := Lib.hid (show regOk f = (regG 1 f && decide (f.length ≤ 20)) from rfl)
  clear hR hc hl he
  go_enter Tryz.func27, Tryz.ntmps27
  go_wp2_with fail
  go_loopw [3, 8] (fun mv iv wr => ∃ (k : Nat) (m : Int), k ≤ f.length ∧ iv = .int .i64 k ∧ mv = .int .i64 m ∧ 0 ≤ m ∧ m ≤ 1 + 2 * k ∧ Hid (regG m (f.drop k) = regG 1 f) ∧ Hid (Upd [] w wr)) (fun _ iv _ => f.length - (intOf iv).toNat)
  case atStart => exact ⟨0, 1, Nat.zero_le _, rfl, rfl, by omega, by omega, Lib.hid rfl, Lib.hid (Upd.refl _ _)⟩
  case round =>
    obtain ⟨wo, rfl⟩ : ∃ wo : World, wo = wr := ⟨_, rfl⟩
    obtain ⟨k, m, hk, rfl, rfl, hm0, hm1, HS, HU⟩ := hrel
    by_cases hlt : k < f.length
    · obtain ⟨b1, o1, rfl, -, -, p1, p3, p4⟩ := HC.out k hlt
      have q1 := HU.out.keep p1
      have q3 := HU.out.keep p3
      have q4 := HU.out.keep p4
      have hcl := HL.out f[k] (List.getElem_mem hlt)
      have hS := HS.out
      rw [List.drop_eq_getElem_cons hlt, regG] at hS
      have hkl : (k : Int) < (f.length : Int) := by omega
      have har := arRg_in f[k].kd
      have S2 := Lib.hid (fun W => operandsR f[k].kd f[k].lb f[k].nt W)
      have hff : fldR f[k] = (patF f[k].lb && !(f[k].kd != 0 && (f[k].lb != [] || f[k].nt))) := rfl
      rw [hff] at hS
      generalize hdd : f.drop (k + 1) = dd at *
      have HDD := Lib.hid hdd
      clear p1 p3 p4 HS hff hdd
      generalize arRg f[k].kd = ar at *
      generalize f[k] = x at *
      obtain ⟨x1, x3, x4⟩ := x
      simp only at q1 q3 q4 S2 hS hcl
      have S1 := Lib.hid (fun W : World => within x1 0 3 W)
      have S3 := Lib.hid (fun W (hu : Upd [] wo W) => isPatI x3 W hcl (HE.out.upd (HU.out.trans hu)))
      obtain ⟨wA, hwA⟩ : ∃ wA, wA = wo.alloc (.cells #[ei x1, es x3, .bool x4] 43) := ⟨_, rfl⟩
      have uA : Upd [] wo wA := by rw [hwA]; exact (Upd.refl _ _).alloc _
      have HX := Lib.hid (fun W (hu : Upd [] wA W) => show W.cell? ⟨wo.heap.size, 0, none⟩ = some (ei x1) ∧ W.cell? ⟨wo.heap.size, 1, none⟩ = some (es x3) ∧ W.cell? ⟨wo.heap.size, 2, none⟩ = some (.bool x4) from by
        rw [hwA] at hu
        exact ⟨hu.keep (cell_new wo _ _ _ rfl 0 _ rfl), hu.keep (cell_new wo _ _ _ rfl 1 _ rfl), hu.keep (cell_new wo _ _ _ rfl 2 _ rfl)⟩)
      have UA := Lib.hid uA
      obtain ⟨y0, y1, y2⟩ := HX.out wA (Upd.refl _ _)
      clear uA
      obtain ⟨TT, hTT⟩ : ∃ TT, TT = wo.heap.size := ⟨_, rfl⟩
      rw [← hTT] at HX y0 y1 y2
      go_upto_region 5 with (fail)
      rw [← hwA, ← hTT]
      clear hwA hTT
      by_cases hz : m = 0
      · rw [if_pos (Or.inl hz)] at hS
        have HZ := Lib.hid (show regOk f = false by rw [HR.out, ← hS]; rfl)
        have bz : (m == 0) = true := by simpa using hz
        clear hS hz S1 S2 S3 har
        go_wp2_with fail
        go_ret
        exact ⟨by rw [HZ.out]; rfl, HU.out.trans UA.out⟩
      · have bz : (m == 0) = false := by simpa using hz
        cases hin : inB x1 0 3 with
        | false =>
          rw [if_pos (Or.inr (Or.inl hin))] at hS
          rw [hin] at S1
          have HZ := Lib.hid (show regOk f = false by rw [HR.out, ← hS]; rfl)
          clear hS hz hin S2 S3 har
          go_wp2_with fail
          refine (S1.out _).mono ?_
          rintro e w1 ⟨rfl, rfl⟩
          clear S1
          go_wp2_with fail
          go_ret
          exact ⟨by rw [HZ.out]; rfl, HU.out.trans UA.out⟩
        | true =>
          rw [hin] at S1
          obtain ⟨m2, hm2⟩ : ∃ m2 : Int, m2 = m + ar - 1 := ⟨_, rfl⟩
          have hm3 : m + (ar - 1) = m2 := by omega
          have hS2 : (if (patF x3 && !(x1 != 0 && (x3 != [] || x4))) = false then false else regG m2 dd) = regG 1 f := by
            rw [hm2, ← hS]
            simp [hz, hin]
          have HZ := Lib.hid hS2
          have hm4 : 0 ≤ m2 := by omega
          have hm5 : m2 ≤ 1 + 2 * (k + 1) := by omega
          have T3 := Lib.hid (S3.out wA UA.out)
          clear hS hS2 hz hin hm2 S3
          cases hp : patF x3 with
          | false =>
            rw [hp] at T3
            have HY := Lib.hid (show regOk f = false by rw [HR.out, ← HZ.out, hp]; rfl)
            clear HZ hp S2
            go_wp2_with fail
            refine (S1.out _).mono ?_
            rintro e w1 ⟨rfl, rfl⟩
            clear S1
            go_wp2_with fail
            refine T3.out.mono ?_
            rintro e w2 ⟨rfl, hu2⟩
            have HU2 := Lib.hid ((HU.out.trans UA.out).trans hu2)
            clear T3 hu2
            go_wp2_with fail
            go_ret
            exact ⟨by rw [HY.out]; rfl, HU2.out⟩
          | true =>
            rw [hp] at T3
            obtain ⟨bad, hbad⟩ : ∃ q : Bool, q = (x1 != 0 && (x3 != [] || x4)) := ⟨_, rfl⟩
            cases bad with
            | true =>
              have HY := Lib.hid (show regOk f = false by rw [HR.out, ← HZ.out, hp, ← hbad]; rfl)
              have b0' : (x1 != 0) = true := by
                cases e : x1 != 0
                · rw [e] at hbad; cases hbad
                · rfl
              have hor : (x3 != [] || x4) = true := by rw [b0'] at hbad; simpa using hbad.symm
              clear HZ hp S2 hbad
              by_cases hx3 : x3 = []
              · subst hx3
                obtain rfl : x4 = true := by simpa using hor
                clear hor
                go_wp2_with fail
                refine (S1.out _).mono ?_
                rintro e w1 ⟨rfl, rfl⟩
                clear S1
                go_wp2_with fail
                refine T3.out.mono ?_
                rintro e w2 ⟨rfl, hu2⟩
                have HU2 := Lib.hid ((HU.out.trans UA.out).trans hu2)
                obtain ⟨y0, y1, y2⟩ := HX.out w2 hu2
                clear T3 hu2
                go_wp2_with fail
                go_ret
                exact ⟨by rw [HY.out]; rfl, HU2.out⟩
              · have e3 : (x3 != []) = true := by simpa using hx3
                clear hor
                go_wp2_with fail
                refine (S1.out _).mono ?_
                rintro e w1 ⟨rfl, rfl⟩
                clear S1
                go_wp2_with fail
                refine T3.out.mono ?_
                rintro e w2 ⟨rfl, hu2⟩
                have HU2 := Lib.hid ((HU.out.trans UA.out).trans hu2)
                obtain ⟨y0, y1, y2⟩ := HX.out w2 hu2
                clear T3 hu2
                go_wp2_with fail
                go_ret
                exact ⟨by rw [HY.out]; rfl, HU2.out⟩
            | false =>
              have HY := Lib.hid (show regG m2 dd = regG 1 f by rw [← HZ.out, hp, ← hbad]; rfl)
              clear HZ hp
              by_cases h0 : x1 = 0
              · subst h0
                clear hbad
                go_wp2_with fail
                refine (S1.out _).mono ?_
                rintro e w1 ⟨rfl, rfl⟩
                clear S1
                go_wp2_with fail
                refine T3.out.mono ?_
                rintro e w2 ⟨rfl, hu2⟩
                have HU2 := Lib.hid ((HU.out.trans UA.out).trans hu2)
                obtain ⟨y0, y1, y2⟩ := HX.out w2 hu2
                clear T3 hu2
                go_wp2_with fail
                refine (S2.out _).mono ?_
                rintro e w3 ⟨rfl, hu3⟩
                have HU3 := Lib.hid (HU2.out.trans hu3)
                clear S2 hu3
                go_wp2_with fail
                go_roundw
                case rel => exact ⟨k + 1, m2, by omega, by go_num, rfl, hm4, by omega, Lib.hid (by rw [HDD.out]; exact HY.out), HU3⟩
                case measure => simp [intOf]; omega
              · have b0' : (x1 != 0) = true := by simpa using h0
                rw [b0'] at hbad
                have hor : (x3 != [] || x4) = false := by simpa using hbad.symm
                obtain rfl : x3 = [] := by
                  cases e : x3 != []
                  · simpa using e
                  · rw [e] at hor; cases hor
                obtain rfl : x4 = false := by simpa using hor
                clear hbad hor h0
                go_wp2_with fail
                refine (S1.out _).mono ?_
                rintro e w1 ⟨rfl, rfl⟩
                clear S1
                go_wp2_with fail
                refine T3.out.mono ?_
                rintro e w2 ⟨rfl, hu2⟩
                have HU2 := Lib.hid ((HU.out.trans UA.out).trans hu2)
                obtain ⟨y0, y1, y2⟩ := HX.out w2 hu2
                clear T3 hu2
                go_wp2_with fail
                refine (S2.out _).mono ?_
                rintro e w3 ⟨rfl, hu3⟩
                have HU3 := Lib.hid (HU2.out.trans hu3)
                clear S2 hu3
                go_wp2_with fail
                go_roundw
                case rel => exact ⟨k + 1, m2, by omega, by go_num, rfl, hm4, by omega, Lib.hid (by rw [HDD.out]; exact HY.out), HU3⟩
                case measure => simp [intOf]; omega
    · obtain rfl : k = f.length := by omega
      have hS := HS.out
      rw [List.drop_length, regG] at hS
      have HZ := Lib.hid (show regOk f = ((m == 0) && decide (f.length ≤ 20)) by rw [HR.out, ← hS])
      clear HS hS HR
      by_cases hz : m = 0
      · subst hz
        by_cases hg : f.length ≤ 20
        · have HY := Lib.hid (show regOk f = true by rw [HZ.out, decide_eq_true hg]; rfl)
          have g2 : (f.length : Int) ≤ 20 := by omega
          clear HZ hg
          go_wp2_with fail
          go_ret
          exact ⟨by rw [HY.out]; rfl, HU.out⟩
        · have HY := Lib.hid (show regOk f = false by rw [HZ.out, decide_eq_false hg]; rfl)
          have g2 : ¬ (f.length : Int) ≤ 20 := by omega
          clear HZ hg
          go_wp2_with fail
          go_ret
          exact ⟨by rw [HY.out]; rfl, HU.out⟩
      · have bz : (m == 0) = false := by simpa using hz
        have HY := Lib.hid (show regOk f = false by rw [HZ.out, bz]; rfl)
        clear HZ hz
        go_wp2_with fail
        go_ret
        exact ⟨by rw [HY.out]; rfl, HU.out⟩

end Go.Proofs.YtddciieaolaleaaGreatDoor

/-
  The text of a regular expression: what the reference's calls return.
-/
namespace Go.Proofs.YtddciieaolaleaaGreatDoor
open Go.RowKit

theorem nodeY_congr (n : Rg) {k0 k1 k0' k1' : Int} {t0 t1 t0' t1' : List UInt8} (h0 : 1 ≤ arRg n.kd → k0 = k0' ∧ t0 = t0') (h1 : 2 ≤ arRg n.kd → k1 = k1' ∧ t1 = t1') : nodeY n k0 k1 t0 t1 = nodeY n k0' k1' t0' t1' := by
  obtain ⟨kd, lb, nt⟩ := n
  simp only at h0 h1
  unfold nodeY
  simp only
  by_cases c1 : kd = 1
  · subst c1
    obtain ⟨rfl, rfl⟩ := h0 (by decide)
    obtain ⟨rfl, rfl⟩ := h1 (by decide)
    rfl
  by_cases c2 : kd = 2
  · subst c2
    obtain ⟨rfl, rfl⟩ := h0 (by decide)
    obtain ⟨rfl, rfl⟩ := h1 (by decide)
    rfl
  by_cases c3 : kd = 3
  · subst c3
    obtain ⟨rfl, rfl⟩ := h0 (by decide)
    rfl
  simp only [c1, c2, c3, if_false]
theorem textY_take (t : Rg) (xs : List (Tr Rg)) : textY (.mk t (xs.take (arRg t.kd).toNat)) = nodeY t ((xs.map kdY).getD 0 0) ((xs.map kdY).getD 1 0) ((xs.map textY).getD 0 []) ((xs.map textY).getD 1 []) := by
  rw [textY, textYs_map]
  refine nodeY_congr t (fun h => ?_) (fun h => ?_)
  · rw [List.map_take, List.map_take]
    exact ⟨getD_take _ _ _ _ (by omega), getD_take _ _ _ _ (by omega)⟩
  · rw [List.map_take, List.map_take]
    exact ⟨getD_take _ _ _ _ (by omega), getD_take _ _ _ _ (by omega)⟩

/-- what stands on the reference's stacks: the forest of the elements from k on. -/
structure RgS (w0 w : World) (tv lv : Value) (n g ct gl cl : Nat) (xs : List (Tr Rg)) : Prop where
  st : StkG textY kdY w0 w tv lv xs
  tv : tv = .slice (some ⟨g, 0, none⟩) n ct
  lv : lv = .slice (some ⟨gl, 0, none⟩) n cl
  tc : n ≤ ct ∧ ct ≤ 9223372036854775807
  lc : n ≤ cl ∧ cl ≤ 9223372036854775807

set_option maxRecDepth 20000 in
set_option maxHeartbeats 8000000 in
theorem regS (v : Value) (f : List Rg) (x : Tr Rg) (w : World) (fp : List Nat) (hR : R_G1 fp w [v] f) (hsg : shapeG arR 1 f = true) (hln : f.length ≤ 20) (hfit : ∀ n ∈ f, rgFit n) (hx : forestT arR f = [x]) :
    Calls Tryz.prog 25 #[v] w fun e w' => e = .returned (es (textY x)) ∧ Upd [] w w' := by
  obtain ⟨i1, ki, kz0, kz1, kz2⟩ := info_parts Tryz.info2
  obtain ⟨i2, ji, jz0, jz1, jz2⟩ := info_parts Tryz.infoStrX
  obtain ⟨a1, c1, rfl, hl1, hm1, hc1⟩ := slF3_open hR
  unfold maxLen at hm1
  have HST := Lib.hid (fun k hk => forestT_step arR_nonneg hsg k hk)
  have HFL := Lib.hid (fun k (hk : k ≤ f.length) => by
    obtain ⟨q, q0, -, q2⟩ := shapeG_drop arR_nonneg f 1 (by omega) hsg k hk
    exact (forestT_ok arR_nonneg _ q q0 q2).2.2 : ∀ k, k ≤ f.length → flatTs (forestT arR (f.drop k)) = f.drop k)
  have HX0 := Lib.hid (show forestT arR (f.drop 0) = [x] from hx)
  have HXE := Lib.hid (show forestT arR (f.drop f.length) = [] by rw [List.drop_length]; rfl)
  have HFIT := Lib.hid hfit
  have HC := Lib.hid hc1
  have HL0 := Lib.hid (fun (w : World) (T : TypeId) => World.ownsRow_lit (base := w.heap.size) (e := T) (size := 1) w #[] 0 (Nat.le_refl _) (by simp [maxLen]) (by simp))
  generalize hFO : (fun k => forestT arR (f.drop k)) = FO at *
  have HFO := Lib.hid (show ∀ k, forestT arR (f.drop k) = FO k from fun k => by rw [← hFO])
  clear hR hfit hx hsg hc1 hFO
  go_enter Tryz.func25, Tryz.ntmps25
  go_wp2_with fail
  go_loopw [3, 4, 5] (fun tv lv iv wr => ∃ (k n g ct gl cl : Nat), k ≤ f.length ∧ iv = .int .i64 ((k : Int) - 1) ∧ tv = .slice (some ⟨g, 0, none⟩) n ct ∧ lv = .slice (some ⟨gl, 0, none⟩) n cl ∧ n = (FO k).length ∧ Upd [] w wr ∧ Hid (RgS w wr tv lv n g ct gl cl (FO k))) (fun _ _ iv _ => (intOf iv + 1).toNat)
  case atStart =>
    have h0 : FO f.length = [] := by rw [← HFO.out]; exact HXE.out
    refine ⟨f.length, 0, w.heap.size, 0, w.heap.size + 1, 0, Nat.le_refl _, rfl, rfl, rfl, by rw [h0]; rfl, ((Upd.refl _ _).alloc _).alloc _, Lib.hid ?_⟩
    rw [h0]
    refine ⟨⟨?_, ?_, ?_⟩, rfl, rfl, by omega, by omega⟩
    · simpa [txG] using ownsRow_upd (HL0.out w 9) ((Upd.refl [] _).alloc (.cells #[] 2))
    · have := World.ownsRow_lit (base := w.heap.size) (e := 2) (size := 1) (w.alloc (.cells #[] 9)) #[] 0 (by simp) (by simp [maxLen]) (by simp)
      simpa [lvG] using this
    · intro b hb hb2
      simp [Value.ownBlock] at hb hb2
      omega
  case round =>
    clear HL0
    obtain ⟨wo, rfl⟩ : ∃ wo : World, wo = wr := ⟨_, rfl⟩
    obtain ⟨k, n, g, ct, gl, cl, hk, rfl, rfl, rfl, hn, hU, hS⟩ := hrel
    obtain ⟨htc1, htc2⟩ := hS.out.tc
    obtain ⟨hlc1, hlc2⟩ := hS.out.lc
    match k, hk, hS with
    | 0, hk, hS =>
      have h0 : FO 0 = [x] := by rw [← HFO.out]; exact HX0.out
      rw [h0] at hn
      subst hn
      have hS1 := hS.out
      rw [h0] at hS1
      have hc0 : wo.cell? ⟨g, 0, none⟩ = some (es (textY x)) := by
        have := hS1.st.t.cellAt 0 (by simp)
        simpa [txG] using this
      have HU := Lib.hid hU
      simp only [List.length_cons, List.length_nil, Nat.zero_add] at htc1 htc2 ⊢
      clear hS hS1 hU h0
      go_wp2_with fail
      go_ret
      exact ⟨rfl, HU.out⟩
    | k + 1, hk, hS =>
      subst hn
      rw [show (((k + 1 : Nat) : Int) - 1) = (k : Int) by omega]
      obtain ⟨b1, o1, rfl, -, -, p1, p3, p4⟩ := HC.out k (by omega)
      have p1 := hU.keep p1
      have p3 := hU.keep p3
      have p4 := hU.keep p4
      obtain ⟨hstep, hle⟩ := HST.out k (by omega)
      rw [HFO.out, HFO.out] at hstep
      rw [HFO.out] at hle
      have hfit := HFIT.out f[k] (List.getElem_mem _)
      have hfl := HFL.out (k + 1) (by omega)
      rw [HFO.out] at hfl
      have hall : ∀ y ∈ FO (k + 1), (textY y).length ≤ 3600 := by
        intro y hy
        have h1 : ∀ t ∈ flatT y, rgFit t := fun t ht => HFIT.out t (List.mem_of_mem_drop (hfl ▸ flatTs_mem hy t ht))
        have h2 := textY_len y h1
        obtain ⟨i, hi, rfl⟩ := List.getElem_of_mem hy
        have h3 := flatT_arg_le (FO (k + 1)) i hi
        rw [hfl, List.length_drop] at h3
        omega
      have hnx : (FO (k + 1)).length ≤ 20 := by
        have h1 := forestT_le (FO (k + 1))
        rw [hfl, List.length_drop] at h1
        omega
      generalize FO (k + 1) = xs at *
      have htx := textY_take f[k] xs
      have harN : arR f[k] = arRg f[k].kd := rfl
      rw [harN] at hle hstep
      generalize f[k] = t at *
      obtain ⟨t1, t3, t4⟩ := t
      obtain ⟨hk1, hl⟩ := hfit
      simp only at hk1 hl htx hle hstep p1 p3 p4
      have hai := arRg_in t1
      obtain ⟨a, ha⟩ : ∃ a : Nat, arRg t1 = a := ⟨(arRg t1).toNat, by omega⟩
      have hat : (arRg t1).toNat = a := by omega
      rw [hat] at hle hstep htx
      obtain ⟨ys, hys⟩ : ∃ ys, ys = xs.drop a := ⟨_, rfl⟩
      have hmx : ys.length = xs.length - a := by rw [hys, List.length_drop]
      have hm : xs.length = ys.length + a := by omega
      have htk := ownsRow_take hS.out.st.t ys.length (by omega)
      have hlk := ownsRow_take hS.out.st.l ys.length (by omega)
      rw [hmx, txG_take, ← hmx, ← hys] at htk
      rw [hmx, lvG_take, ← hmx, ← hys] at hlk
      rw [← hys] at hstep
      have hcells : ∀ i, (hi : i < xs.length) → wo.cell? ⟨g, ys.length + a - 1 - i, none⟩ = some (es (textY xs[i])) ∧ wo.cell? ⟨gl, ys.length + a - 1 - i, none⟩ = some (ei (kdY xs[i])) := fun i hi => by
        have q1 := hS.out.st.t.cellAt (xs.length - 1 - i) (by omega)
        have q2 := hS.out.st.l.cellAt (xs.length - 1 - i) (by omega)
        rw [txG_at xs i hi] at q1
        rw [lvG_at xs i hi] at q2
        rw [← hm]
        exact ⟨q1, q2⟩
      have C0 := Lib.hid (show 1 ≤ a → wo.cell? ⟨g, ys.length + a - 1, none⟩ = some (es ((xs.map textY).getD 0 [])) ∧ wo.cell? ⟨gl, ys.length + a - 1, none⟩ = some (ei ((xs.map kdY).getD 0 0)) from fun h => by
        have h0 : 0 < xs.length := by omega
        rw [getD_lt xs _ 0 _ h0, getD_lt xs _ 0 _ h0]
        exact hcells 0 h0)
      have C1 := Lib.hid (show 2 ≤ a → wo.cell? ⟨g, ys.length + a - 2, none⟩ = some (es ((xs.map textY).getD 1 [])) ∧ wo.cell? ⟨gl, ys.length + a - 2, none⟩ = some (ei ((xs.map kdY).getD 1 0)) from fun h => by
        have h0 : 1 < xs.length := by omega
        rw [getD_lt xs _ 1 _ h0, getD_lt xs _ 1 _ h0]
        exact hcells 1 h0)
      have hT0 : ((xs.map textY).getD 0 []).length ≤ 3600 ∧ ((xs.map textY).getD 1 []).length ≤ 3600 := by
        constructor
        · by_cases h0 : 0 < xs.length
          · rw [getD_lt xs _ 0 _ h0]; exact hall _ (List.getElem_mem h0)
          · have : xs = [] := List.eq_nil_of_length_eq_zero (by omega)
            subst this; simp
        · by_cases h0 : 1 < xs.length
          · rw [getD_lt xs _ 1 _ h0]; exact hall _ (List.getElem_mem h0)
          · rw [List.getD_eq_getElem?_getD, List.getElem?_eq_none (by simp; omega)]; simp
      obtain ⟨tr, htr⟩ : ∃ tr, tr = Tr.mk (⟨t1, t3, t4⟩ : Rg) (xs.take a) := ⟨_, rfl⟩
      rw [← htr] at hstep htx
      have hkt : kdY tr = t1 := by rw [htr]; rfl
      have HTK := Lib.hid htk
      have HLK := Lib.hid hlk
      have HFK := Lib.hid (And.intro hstep hkt)
      have HAP := Lib.hid hS.out.st.apart
      have HU := Lib.hid hU
      generalize (xs.map textY).getD 0 [] = T0 at *
      generalize (xs.map textY).getD 1 [] = T1 at *
      generalize (xs.map kdY).getD 0 0 = K0 at *
      generalize (xs.map kdY).getD 1 0 = K1 at *
      have HTX := Lib.hid htx
      have hSl := nodeY_len ⟨t1, t3, t4⟩ ⟨hk1, hl⟩ K0 K1 T0 T1
      obtain ⟨S, hSd⟩ : ∃ S, S = nodeY ⟨t1, t3, t4⟩ K0 K1 T0 T1 := ⟨_, rfl⟩
      rw [← hSd] at hSl
      have HSD := Lib.hid hSd
      have HA := Lib.hid ha
      have ha2 : a ≤ 2 := by omega
      have hT0l := hT0.1
      have hT1l := hT0.2
      have hsz0 := hU.size
      have hkl : k < f.length := by omega
      have hki : (k : Int) < (f.length : Int) := by omega
      clear hU hS htk hlk hstep hle htx hall hcells hfl harN hat ha hai hmx hSd hT0 hkt htr hys
      generalize xs.length = n at *
      subst hm
      rcases (by omega : t1 = 0 ∨ t1 = 3 ∨ t1 = 1 ∨ t1 = 2) with rfl | rfl | rfl | rfl
      · obtain rfl : a = 0 := by have := HA.out; simp [arRg] at this; omega
        have T9 := Lib.hid (fun W => testS t3 t4 W (by omega))
        rw [show testF t3 t4 = S by rw [HSD.out]; simp [nodeY]] at T9
        obtain ⟨wq, hwq⟩ : ∃ wq, wq = wo.drew := ⟨_, rfl⟩
        have uq : Upd [] wo wq := by rw [hwq]; exact (Upd.refl _ _).drew
        have hq1 := ownsRow_upd HTK.out ((Upd.refl [] wo).alloc (.cells #[es S] 9))
        have ht2 := ownsRow_upd HTK.out uq
        have hl2 := ownsRow_upd HLK.out uq
        have HU2 := Lib.hid (HU.out.trans uq)
        have HQ := Lib.hid (And.intro (And.intro ht2 hl2) hwq)
        have z1 : ys.length + 0 = ys.length := rfl
        clear C0 C1 HA uq HTK HLK HU ht2 hl2 hwq
        go_upto_region 10 with (fail)
        go_region_law (first
          | (refine step_append_lies _ (by rfl) _ _ 68 (by rfl) w.heap.size 9 i2 (.string ⟨#[]⟩) 1 16 Tryz.underlying68 ji jz0 jz1 jz2 rfl (by decide) (.slice (some ⟨g, 0, none⟩) ys.length ct) ys.length (txG textY ys) (by rfl) hq1 ⟨wo.heap.size, 0, none⟩ 1 1 [es S] (by rfl) (by rfl) (by intro j u hj; rw [addr_add]; exact cell_new wo #[es S] _ _ rfl _ _ (by simpa using hj)) (by simp [Value.oneCell']) (by decide) (by unfold maxLen; omega) (by omega) (by simp; omega) (wo.heap.size + 1) (by simp) ?_; intro g3 cap3 w3 hown3 hg3 hat3 hlt3)
          | (refine step_call (by rfl) 52 #[es t3, .bool t4] (by go_simp) ?_; refine (T9.out _).mono ?_; rintro e w7 ⟨rfl, rfl⟩; refine ⟨_, rfl, ?_⟩))
        all_goals
          obtain ⟨⟨ht2, hl2⟩, hwq⟩ := HQ.out
          clear hq1 T9 HQ p1 p3 p4
          have hsq : wq.heap.size = wo.heap.size := by rw [hwq]; rfl
          have hg3 : (wq.alloc (.cells #[es S] 9)).grownBy w3 (Value.slice (some ⟨g, 0, none⟩) ys.length ct).ownBlock := by rw [hwq]; exact ⟨hg3.os, hg3.tape, hg3.output, hg3.size, hg3.block⟩
          clear hwq
          obtain ⟨_, _, hv3, mm1, mm2, -, -, -⟩ := own_cellsX hown3 (by omega)
          simp only [Value.slice.injEq] at hv3
          obtain ⟨-, -, rfl⟩ := hv3
          unfold maxLen at mm2
          have hla := ownsRow_upd hl2 ((Upd.refl [] wq).alloc (.cells #[es S] 9))
          have hg3 : (wq.alloc (.cells #[es S] 9)).grownBy w3 (Value.slice (some ⟨g, 0, none⟩) ys.length ct).ownBlock := ⟨hg3.os, hg3.tape, hg3.output, hg3.size, hg3.block⟩
          have hl3 := StkG.levels (o := .cells #[ei 0] 2) (tvc := Value.slice (some ⟨g, 0, none⟩) ys.length ct) hla HAP.out hg3
          have hU3 := (HU2.out.alloc (.cells #[es S] 9)).grown hg3 (fun b hb => Or.inl ((ht2.lt b hb).1))
          have hsz3 := hU3.size
          have HU3 := Lib.hid hU3
          have HLA := Lib.hid hla
          have HT3 := Lib.hid (show ∀ b, (Value.slice (some ⟨g3, 0, none⟩) (ys.length + 1) cap3).ownBlock = some b → (Value.slice (some ⟨g, 0, none⟩) ys.length ct).ownBlock = some b ∨ (wq.alloc (.cells #[es S] 9)).heap.size ≤ b from fun b hb => by
            simp only [Value.ownBlock, Option.some.injEq] at hb
            subst hb
            rcases hat3 with h | h
            · exact Or.inl h
            · exact Or.inr (by simp; omega))
          have HO3 := Lib.hid hown3
          clear hg3 hat3 hlt3 ht2 hl2 hown3 hla hU3
          go_wp2_with (first
            | (at_builtin; refine wpList_append_lies _ rfl _ _ 69 rfl w.heap.size 2 i1 (.int .i64 0) 1 8 Tryz.underlying69 ki kz0 kz1 kz2 rfl (by decide) (.slice (some ⟨gl, 0, none⟩) ys.length cl) ys.length (lvG kdY ys) rfl hl3 ⟨w3.heap.size, 0, none⟩ 1 1 [ei 0] rfl rfl (fun j u hj => by rw [addr_add]; exact cell_new w3 #[ei 0] _ _ rfl _ _ (by simpa using hj)) (by simp [Value.oneCell']) (by decide) (by unfold maxLen; omega) (by omega) (by simp; omega) (w3.heap.size + 1) (by simp) ?_)
            | fail)
          intro g4 cap4 w4 hown4 hg4 hat4 hlt4
          obtain ⟨_, _, hv4, nn1, nn2, -, -, -⟩ := own_cellsX hown4 (by omega)
          simp only [Value.slice.injEq] at hv4
          obtain ⟨-, -, rfl⟩ := hv4
          unfold maxLen at nn2
          have hS4 : StkG textY kdY w w4 (.slice (some ⟨g3, 0, none⟩) (ys.length + 1) cap3) (.slice (some ⟨g4, 0, none⟩) (ys.length + 1) cap4) (tr :: ys) := StkG.done (o := .cells #[ei 0] 2) HLA.out HAP.out (by rw [HTX.out, ← HSD.out]; exact HO3.out) HT3.out (by rw [HFK.out.2]; exact hown4) hg4 (fun b hb => by
            simp only [Value.ownBlock, Option.some.injEq] at hb
            subst hb
            rcases hat4 with h | h
            · exact Or.inl h
            · exact Or.inr (by simp; omega))
          have hU4 : Upd [] w w4 := (HU3.out.alloc (.cells #[ei 0] 2)).grown hg4 (fun b hb => Or.inl ((hl3.lt b hb).1))
          have HP := Lib.hid (And.intro hS4 hU4)
          clear hown4 hg4 hat4 hlt4 hS4 hU4 hl3 HTX HSD HLA HT3 HO3 HU3
          go_wp2_with fail
          go_roundw
          case rel => exact ⟨k, ys.length + 1, g3, cap3, g4, cap4, by omega, by go_num, rfl, rfl, by rw [HFK.out.1]; rfl, HP.out.2, Lib.hid ⟨by rw [HFK.out.1]; exact HP.out.1, rfl, rfl, ⟨mm1, mm2⟩, ⟨nn1, nn2⟩⟩⟩
          case measure => simp [intOf]
      · obtain rfl : a = 1 := by have := HA.out; simp [arRg] at this; omega
        obtain ⟨d0, d1⟩ := C0.out (by omega)
        rw [Nat.add_sub_cancel] at d0 d1
        have hw1 : IntKind.i64.wrap ((ys.length : Int) + 1 - 1) = (ys.length : Int) := by rw [IntKind.wrap_i64]; omega
        have hw2 : IntKind.i64.wrap (ys.length : Int) = (ys.length : Int) := by rw [IntKind.wrap_i64]; omega
        have s1 : (0 : Int) ≤ (ys.length : Int) := by omega
        have s2 : (ys.length : Int) ≤ (ct : Int) := by omega
        have s3 : (ys.length : Int) ≤ (cl : Int) := by omega
        clear C0 C1 HA
        go_upto_region 13 with (fail)
        go_cut [8] (fun sx wx => sx = es S ∧ Upd [] wo wx)
        case first =>
          rcases (show K0 = 1 ∨ K0 ≠ 1 by omega) with rfl | n2
          · have HB := Lib.hid (show isCA 1 = true from rfl)
            obtain ⟨A, hA⟩ : ∃ A, A = parX true T0 := ⟨_, rfl⟩
            have hAl : A.length ≤ 3602 := by rw [hA]; have := parX_len true T0; omega
            have WA := Lib.hid (fun n' => Calls.quiet_of_same (n := n') ((wrapS T0 true (by omega) (wo.drewN n')).mono (fun e w' h => ⟨h.1, h.2.symm⟩)))
            rw [← hA] at WA
            have hcat1 : (ByteArray.mk A.toArray ++ ByteArray.mk #[42]) = ByteArray.mk S.toArray := by
              rw [show S = A ++ [42] by rw [HSD.out, hA]; simp only [nodeY]; rw [HB.out]; simp, ← es_catX]
            have hz1 : ¬ (9223372036854775807 < A.length + 1) := by omega
            clear hA HB HTK HLK HFK HAP HTX HU HSD
            go_wp2_with fail
            go_quiet ((go_at_call 53; with_reducible exact WA.out _))
            go_wp2_with fail
            go_meet
            exact ⟨rfl, (Upd.refl _ _).drewN _⟩
          · have b2 : (K0 == 1) = false := by simpa using n2
            obtain ⟨q0, b3⟩ : ∃ q, (K0 == 2) = q := ⟨_, rfl⟩
            have HB := Lib.hid (show isCA K0 = q0 by unfold isCA; rw [b2, b3]; rfl)
            clear n2
            obtain ⟨A, hA⟩ : ∃ A, A = parX q0 T0 := ⟨_, rfl⟩
            have hAl : A.length ≤ 3602 := by rw [hA]; have := parX_len q0 T0; omega
            have WA := Lib.hid (fun n' => Calls.quiet_of_same (n := n') ((wrapS T0 q0 (by omega) (wo.drewN n')).mono (fun e w' h => ⟨h.1, h.2.symm⟩)))
            rw [← hA] at WA
            have hcat1 : (ByteArray.mk A.toArray ++ ByteArray.mk #[42]) = ByteArray.mk S.toArray := by
              rw [show S = A ++ [42] by rw [HSD.out, hA]; simp only [nodeY]; rw [HB.out]; simp, ← es_catX]
            have hz1 : ¬ (9223372036854775807 < A.length + 1) := by omega
            clear hA HB HTK HLK HFK HAP HTX HU HSD
            go_wp2_with fail
            go_quiet ((go_at_call 53; with_reducible exact WA.out _))
            go_wp2_with fail
            go_meet
            exact ⟨rfl, (Upd.refl _ _).drewN _⟩
        case rest =>
          obtain ⟨rfl, hu⟩ := hcut
          obtain ⟨wq, rfl⟩ : ∃ wq : World, wq = wc := ⟨_, rfl⟩
          have UQ := Lib.hid hu
          have ht2 := ownsRow_upd HTK.out UQ.out
          have hl2 := ownsRow_upd HLK.out UQ.out
          have HU2 := Lib.hid (HU.out.trans UQ.out)
          have hsz2 := HU2.out.size
          clear hu p1 p3 p4 d0 d1
          go_wp2_with (first
            | (at_builtin; refine wpList_append_lies _ rfl _ _ 68 rfl w.heap.size 9 i2 (.string ⟨#[]⟩) 1 16 Tryz.underlying68 ji jz0 jz1 jz2 rfl (by decide) (.slice (some ⟨g, 0, none⟩) ys.length ct) ys.length (txG textY ys) rfl (ht2.alloc _) ⟨wq.heap.size, 0, none⟩ 1 1 [es S] rfl rfl (fun j u hj => by rw [addr_add]; exact cell_new wq #[es S] _ _ rfl _ _ (by simpa using hj)) (by simp [Value.oneCell']) (by decide) (by unfold maxLen; omega) (by omega) (by simp; omega) (wq.heap.size + 1) (by simp) ?_)
            | fail)
          intro g3 cap3 w3 hown3 hg3 hat3 hlt3
          obtain ⟨_, _, hv3, mm1, mm2, -, -, -⟩ := own_cellsX hown3 (by omega)
          simp only [Value.slice.injEq] at hv3
          obtain ⟨-, -, rfl⟩ := hv3
          unfold maxLen at mm2
          have hla := ownsRow_upd hl2 ((Upd.refl [] wq).alloc (.cells #[es S] 9))
          have hg3 : (wq.alloc (.cells #[es S] 9)).grownBy w3 (Value.slice (some ⟨g, 0, none⟩) ys.length ct).ownBlock := ⟨hg3.os, hg3.tape, hg3.output, hg3.size, hg3.block⟩
          have hl3 := StkG.levels (o := .cells #[ei 3] 2) (tvc := Value.slice (some ⟨g, 0, none⟩) ys.length ct) hla HAP.out hg3
          have hU3 := (HU2.out.alloc (.cells #[es S] 9)).grown hg3 (fun b hb => Or.inl ((ht2.lt b hb).1))
          have hsz3 := hU3.size
          have HU3 := Lib.hid hU3
          have HLA := Lib.hid hla
          have HT3 := Lib.hid (show ∀ b, (Value.slice (some ⟨g3, 0, none⟩) (ys.length + 1) cap3).ownBlock = some b → (Value.slice (some ⟨g, 0, none⟩) ys.length ct).ownBlock = some b ∨ (wq.alloc (.cells #[es S] 9)).heap.size ≤ b from fun b hb => by
            simp only [Value.ownBlock, Option.some.injEq] at hb
            subst hb
            rcases hat3 with h | h
            · exact Or.inl h
            · exact Or.inr (by simp; omega))
          have HO3 := Lib.hid hown3
          clear hg3 hat3 hlt3 ht2 hl2 hown3 hla hU3
          go_wp2_with (first
            | (at_builtin; refine wpList_append_lies _ rfl _ _ 69 rfl w.heap.size 2 i1 (.int .i64 0) 1 8 Tryz.underlying69 ki kz0 kz1 kz2 rfl (by decide) (.slice (some ⟨gl, 0, none⟩) ys.length cl) ys.length (lvG kdY ys) rfl hl3 ⟨w3.heap.size, 0, none⟩ 1 1 [ei 3] rfl rfl (fun j u hj => by rw [addr_add]; exact cell_new w3 #[ei 3] _ _ rfl _ _ (by simpa using hj)) (by simp [Value.oneCell']) (by decide) (by unfold maxLen; omega) (by omega) (by simp; omega) (w3.heap.size + 1) (by simp) ?_)
            | fail)
          intro g4 cap4 w4 hown4 hg4 hat4 hlt4
          obtain ⟨_, _, hv4, nn1, nn2, -, -, -⟩ := own_cellsX hown4 (by omega)
          simp only [Value.slice.injEq] at hv4
          obtain ⟨-, -, rfl⟩ := hv4
          unfold maxLen at nn2
          have hS4 : StkG textY kdY w w4 (.slice (some ⟨g3, 0, none⟩) (ys.length + 1) cap3) (.slice (some ⟨g4, 0, none⟩) (ys.length + 1) cap4) (tr :: ys) := StkG.done (o := .cells #[ei 3] 2) HLA.out HAP.out (by rw [HTX.out, ← HSD.out]; exact HO3.out) HT3.out (by rw [HFK.out.2]; exact hown4) hg4 (fun b hb => by
            simp only [Value.ownBlock, Option.some.injEq] at hb
            subst hb
            rcases hat4 with h | h
            · exact Or.inl h
            · exact Or.inr (by simp; omega))
          have hU4 : Upd [] w w4 := (HU3.out.alloc (.cells #[ei 3] 2)).grown hg4 (fun b hb => Or.inl ((hl3.lt b hb).1))
          have HP := Lib.hid (And.intro hS4 hU4)
          clear hown4 hg4 hat4 hlt4 hS4 hU4 hl3 HTX HSD HLA HT3 HO3 HU3
          go_wp2_with fail
          go_roundw
          case rel => exact ⟨k, ys.length + 1, g3, cap3, g4, cap4, by omega, by go_num, rfl, rfl, by rw [HFK.out.1]; rfl, HP.out.2, Lib.hid ⟨by rw [HFK.out.1]; exact HP.out.1, rfl, rfl, ⟨mm1, mm2⟩, ⟨nn1, nn2⟩⟩⟩
          case measure => simp [intOf]
      · obtain rfl : a = 2 := by have := HA.out; simp [arRg] at this; omega
        obtain ⟨d0, d1⟩ := C0.out (by omega)
        obtain ⟨d2, d3⟩ := C1.out (by omega)
        rw [show ys.length + 2 - 1 = ys.length + 1 by omega] at d0 d1
        rw [show ys.length + 2 - 2 = ys.length by omega] at d2 d3
        have hw1 : IntKind.i64.wrap ((ys.length : Int) + 2 - 1) = (ys.length : Int) + 1 := by rw [IntKind.wrap_i64]; omega
        have hw2 : IntKind.i64.wrap ((ys.length : Int) + 1) = (ys.length : Int) + 1 := by rw [IntKind.wrap_i64]; omega
        have hw3 : IntKind.i64.wrap ((ys.length : Int) + 1 - 1) = (ys.length : Int) := by rw [IntKind.wrap_i64]; omega
        have hw4 : IntKind.i64.wrap (ys.length : Int) = (ys.length : Int) := by rw [IntKind.wrap_i64]; omega
        have hw5 : IntKind.i64.wrap ((ys.length : Int) + 2 - 1 - 1) = (ys.length : Int) := by rw [IntKind.wrap_i64]; omega
        have hn1 : ((ys.length : Int) + 1).toNat = ys.length + 1 := by omega
        have s1 : (0 : Int) ≤ (ys.length : Int) := by omega
        have s2 : (ys.length : Int) ≤ (ct : Int) := by omega
        have s3 : (ys.length : Int) ≤ (cl : Int) := by omega
        clear C0 C1 HA
        go_upto_region 17 with (fail)
        go_cut [9] (fun sx wx => sx = es S ∧ Upd [] wo wx)
        case first =>
          rcases (show K0 = 1 ∨ K0 ≠ 1 by omega) with rfl | n2
          · have HB := Lib.hid (show isCA 1 = true from rfl)
            obtain ⟨q1, b4⟩ : ∃ q, (K1 == 2) = q := ⟨_, rfl⟩
            have HB1 := Lib.hid (show isA2 K1 = q1 by unfold isA2; rw [b4])
            obtain ⟨A, hA⟩ : ∃ A, A = parX true T0 := ⟨_, rfl⟩
            have hAl : A.length ≤ 3602 := by rw [hA]; have := parX_len true T0; omega
            have WA := Lib.hid (fun n' => Calls.quiet_of_same (n := n') ((wrapS T0 true (by omega) (wo.drewN n')).mono (fun e w' h => ⟨h.1, h.2.symm⟩)))
            rw [← hA] at WA
            obtain ⟨B, hB⟩ : ∃ B, B = parX q1 T1 := ⟨_, rfl⟩
            have hBl : B.length ≤ 3602 := by rw [hB]; have := parX_len q1 T1; omega
            have WB := Lib.hid (fun n' => Calls.quiet_of_same (n := n') ((wrapS T1 q1 (by omega) (wo.drewN n')).mono (fun e w' h => ⟨h.1, h.2.symm⟩)))
            rw [← hB] at WB
            obtain ⟨AO, hAO⟩ : ∃ AO, AO = A ++ [46] := ⟨_, rfl⟩
            have hcat1 : (ByteArray.mk A.toArray ++ ByteArray.mk #[46]) = ByteArray.mk AO.toArray := by rw [hAO, ← es_catX]
            have haol : AO.length ≤ 3605 := by rw [hAO, List.length_append]; simp; omega
            have hz1 : ¬ (9223372036854775807 < A.length + 1) := by omega
            have hcat2 : (ByteArray.mk AO.toArray ++ ByteArray.mk B.toArray) = ByteArray.mk S.toArray := by
              rw [show S = AO ++ B by rw [HSD.out, hAO, hA, hB]; simp only [nodeY]; rw [HB.out, HB1.out]; simp, ← es_catX]
            have hz2 : ¬ (9223372036854775807 < AO.length + B.length) := by omega
            clear hA hB hAO HB HB1 HTK HLK HFK HAP HTX HU HSD
            go_wp2_with fail
            go_quiet ((go_at_call 53; first | (with_reducible exact WA.out _) | (with_reducible exact WB.out _)))
            go_wp2_with fail
            go_meet
            exact ⟨rfl, (Upd.refl _ _).drewN _⟩
          · have b2 : (K0 == 1) = false := by simpa using n2
            obtain ⟨q0, b3⟩ : ∃ q, (K0 == 2) = q := ⟨_, rfl⟩
            have HB := Lib.hid (show isCA K0 = q0 by unfold isCA; rw [b2, b3]; rfl)
            clear n2
            obtain ⟨q1, b4⟩ : ∃ q, (K1 == 2) = q := ⟨_, rfl⟩
            have HB1 := Lib.hid (show isA2 K1 = q1 by unfold isA2; rw [b4])
            obtain ⟨A, hA⟩ : ∃ A, A = parX q0 T0 := ⟨_, rfl⟩
            have hAl : A.length ≤ 3602 := by rw [hA]; have := parX_len q0 T0; omega
            have WA := Lib.hid (fun n' => Calls.quiet_of_same (n := n') ((wrapS T0 q0 (by omega) (wo.drewN n')).mono (fun e w' h => ⟨h.1, h.2.symm⟩)))
            rw [← hA] at WA
            obtain ⟨B, hB⟩ : ∃ B, B = parX q1 T1 := ⟨_, rfl⟩
            have hBl : B.length ≤ 3602 := by rw [hB]; have := parX_len q1 T1; omega
            have WB := Lib.hid (fun n' => Calls.quiet_of_same (n := n') ((wrapS T1 q1 (by omega) (wo.drewN n')).mono (fun e w' h => ⟨h.1, h.2.symm⟩)))
            rw [← hB] at WB
            obtain ⟨AO, hAO⟩ : ∃ AO, AO = A ++ [46] := ⟨_, rfl⟩
            have hcat1 : (ByteArray.mk A.toArray ++ ByteArray.mk #[46]) = ByteArray.mk AO.toArray := by rw [hAO, ← es_catX]
            have haol : AO.length ≤ 3605 := by rw [hAO, List.length_append]; simp; omega
            have hz1 : ¬ (9223372036854775807 < A.length + 1) := by omega
            have hcat2 : (ByteArray.mk AO.toArray ++ ByteArray.mk B.toArray) = ByteArray.mk S.toArray := by
              rw [show S = AO ++ B by rw [HSD.out, hAO, hA, hB]; simp only [nodeY]; rw [HB.out, HB1.out]; simp, ← es_catX]
            have hz2 : ¬ (9223372036854775807 < AO.length + B.length) := by omega
            clear hA hB hAO HB HB1 HTK HLK HFK HAP HTX HU HSD
            go_wp2_with fail
            go_quiet ((go_at_call 53; first | (with_reducible exact WA.out _) | (with_reducible exact WB.out _)))
            go_wp2_with fail
            go_meet
            exact ⟨rfl, (Upd.refl _ _).drewN _⟩
        case rest =>
          obtain ⟨rfl, hu⟩ := hcut
          obtain ⟨wq, rfl⟩ : ∃ wq : World, wq = wc := ⟨_, rfl⟩
          have UQ := Lib.hid hu
          have ht2 := ownsRow_upd HTK.out UQ.out
          have hl2 := ownsRow_upd HLK.out UQ.out
          have HU2 := Lib.hid (HU.out.trans UQ.out)
          have hsz2 := HU2.out.size
          clear hu p1 p3 p4 d0 d1 d2 d3
          go_wp2_with (first
            | (at_builtin; refine wpList_append_lies _ rfl _ _ 68 rfl w.heap.size 9 i2 (.string ⟨#[]⟩) 1 16 Tryz.underlying68 ji jz0 jz1 jz2 rfl (by decide) (.slice (some ⟨g, 0, none⟩) ys.length ct) ys.length (txG textY ys) rfl (ht2.alloc _) ⟨wq.heap.size, 0, none⟩ 1 1 [es S] rfl rfl (fun j u hj => by rw [addr_add]; exact cell_new wq #[es S] _ _ rfl _ _ (by simpa using hj)) (by simp [Value.oneCell']) (by decide) (by unfold maxLen; omega) (by omega) (by simp; omega) (wq.heap.size + 1) (by simp) ?_)
            | fail)
          intro g3 cap3 w3 hown3 hg3 hat3 hlt3
          obtain ⟨_, _, hv3, mm1, mm2, -, -, -⟩ := own_cellsX hown3 (by omega)
          simp only [Value.slice.injEq] at hv3
          obtain ⟨-, -, rfl⟩ := hv3
          unfold maxLen at mm2
          have hla := ownsRow_upd hl2 ((Upd.refl [] wq).alloc (.cells #[es S] 9))
          have hg3 : (wq.alloc (.cells #[es S] 9)).grownBy w3 (Value.slice (some ⟨g, 0, none⟩) ys.length ct).ownBlock := ⟨hg3.os, hg3.tape, hg3.output, hg3.size, hg3.block⟩
          have hl3 := StkG.levels (o := .cells #[ei 1] 2) (tvc := Value.slice (some ⟨g, 0, none⟩) ys.length ct) hla HAP.out hg3
          have hU3 := (HU2.out.alloc (.cells #[es S] 9)).grown hg3 (fun b hb => Or.inl ((ht2.lt b hb).1))
          have hsz3 := hU3.size
          have HU3 := Lib.hid hU3
          have HLA := Lib.hid hla
          have HT3 := Lib.hid (show ∀ b, (Value.slice (some ⟨g3, 0, none⟩) (ys.length + 1) cap3).ownBlock = some b → (Value.slice (some ⟨g, 0, none⟩) ys.length ct).ownBlock = some b ∨ (wq.alloc (.cells #[es S] 9)).heap.size ≤ b from fun b hb => by
            simp only [Value.ownBlock, Option.some.injEq] at hb
            subst hb
            rcases hat3 with h | h
            · exact Or.inl h
            · exact Or.inr (by simp; omega))
          have HO3 := Lib.hid hown3
          clear hg3 hat3 hlt3 ht2 hl2 hown3 hla hU3
          go_wp2_with (first
            | (at_builtin; refine wpList_append_lies _ rfl _ _ 69 rfl w.heap.size 2 i1 (.int .i64 0) 1 8 Tryz.underlying69 ki kz0 kz1 kz2 rfl (by decide) (.slice (some ⟨gl, 0, none⟩) ys.length cl) ys.length (lvG kdY ys) rfl hl3 ⟨w3.heap.size, 0, none⟩ 1 1 [ei 1] rfl rfl (fun j u hj => by rw [addr_add]; exact cell_new w3 #[ei 1] _ _ rfl _ _ (by simpa using hj)) (by simp [Value.oneCell']) (by decide) (by unfold maxLen; omega) (by omega) (by simp; omega) (w3.heap.size + 1) (by simp) ?_)
            | fail)
          intro g4 cap4 w4 hown4 hg4 hat4 hlt4
          obtain ⟨_, _, hv4, nn1, nn2, -, -, -⟩ := own_cellsX hown4 (by omega)
          simp only [Value.slice.injEq] at hv4
          obtain ⟨-, -, rfl⟩ := hv4
          unfold maxLen at nn2
          have hS4 : StkG textY kdY w w4 (.slice (some ⟨g3, 0, none⟩) (ys.length + 1) cap3) (.slice (some ⟨g4, 0, none⟩) (ys.length + 1) cap4) (tr :: ys) := StkG.done (o := .cells #[ei 1] 2) HLA.out HAP.out (by rw [HTX.out, ← HSD.out]; exact HO3.out) HT3.out (by rw [HFK.out.2]; exact hown4) hg4 (fun b hb => by
            simp only [Value.ownBlock, Option.some.injEq] at hb
            subst hb
            rcases hat4 with h | h
            · exact Or.inl h
            · exact Or.inr (by simp; omega))
          have hU4 : Upd [] w w4 := (HU3.out.alloc (.cells #[ei 1] 2)).grown hg4 (fun b hb => Or.inl ((hl3.lt b hb).1))
          have HP := Lib.hid (And.intro hS4 hU4)
          clear hown4 hg4 hat4 hlt4 hS4 hU4 hl3 HTX HSD HLA HT3 HO3 HU3
          go_wp2_with fail
          go_roundw
          case rel => exact ⟨k, ys.length + 1, g3, cap3, g4, cap4, by omega, by go_num, rfl, rfl, by rw [HFK.out.1]; rfl, HP.out.2, Lib.hid ⟨by rw [HFK.out.1]; exact HP.out.1, rfl, rfl, ⟨mm1, mm2⟩, ⟨nn1, nn2⟩⟩⟩
          case measure => simp [intOf]
      · obtain rfl : a = 2 := by have := HA.out; simp [arRg] at this; omega
        obtain ⟨d0, d1⟩ := C0.out (by omega)
        obtain ⟨d2, d3⟩ := C1.out (by omega)
        rw [show ys.length + 2 - 1 = ys.length + 1 by omega] at d0 d1
        rw [show ys.length + 2 - 2 = ys.length by omega] at d2 d3
        have hw1 : IntKind.i64.wrap ((ys.length : Int) + 2 - 1) = (ys.length : Int) + 1 := by rw [IntKind.wrap_i64]; omega
        have hw2 : IntKind.i64.wrap ((ys.length : Int) + 1) = (ys.length : Int) + 1 := by rw [IntKind.wrap_i64]; omega
        have hw3 : IntKind.i64.wrap ((ys.length : Int) + 1 - 1) = (ys.length : Int) := by rw [IntKind.wrap_i64]; omega
        have hw4 : IntKind.i64.wrap (ys.length : Int) = (ys.length : Int) := by rw [IntKind.wrap_i64]; omega
        have hw5 : IntKind.i64.wrap ((ys.length : Int) + 2 - 1 - 1) = (ys.length : Int) := by rw [IntKind.wrap_i64]; omega
        have hn1 : ((ys.length : Int) + 1).toNat = ys.length + 1 := by omega
        have s1 : (0 : Int) ≤ (ys.length : Int) := by omega
        have s2 : (ys.length : Int) ≤ (ct : Int) := by omega
        have s3 : (ys.length : Int) ≤ (cl : Int) := by omega
        clear C0 C1 HA
        go_upto_region 21 with (fail)
        go_cut [10] (fun sx wx => sx = es S ∧ Upd [] wo wx)
        case first =>
          obtain ⟨q1, b4⟩ : ∃ q, (K0 == 2) = q := ⟨_, rfl⟩
          have HB := Lib.hid (show isA2 K0 = q1 by unfold isA2; rw [b4])
          obtain ⟨A, hA⟩ : ∃ A, A = parX q1 T0 := ⟨_, rfl⟩
          have hAl : A.length ≤ 3602 := by rw [hA]; have := parX_len q1 T0; omega
          have WA := Lib.hid (fun n' => Calls.quiet_of_same (n := n') ((wrapS T0 q1 (by omega) (wo.drewN n')).mono (fun e w' h => ⟨h.1, h.2.symm⟩)))
          rw [← hA] at WA
          obtain ⟨AO, hAO⟩ : ∃ AO, AO = A ++ [43] := ⟨_, rfl⟩
          have hcat1 : (ByteArray.mk A.toArray ++ ByteArray.mk #[43]) = ByteArray.mk AO.toArray := by rw [hAO, ← es_catX]
          have haol : AO.length ≤ 3605 := by rw [hAO, List.length_append]; simp; omega
          have hz1 : ¬ (9223372036854775807 < A.length + 1) := by omega
          have hcat2 : (ByteArray.mk AO.toArray ++ ByteArray.mk T1.toArray) = ByteArray.mk S.toArray := by
            rw [show S = AO ++ T1 by rw [HSD.out, hAO, hA]; simp only [nodeY]; rw [HB.out]; simp, ← es_catX]
          have hz2 : ¬ (9223372036854775807 < AO.length + T1.length) := by omega
          clear hA hAO HB HTK HLK HFK HAP HTX HU HSD
          go_wp2_with fail
          go_quiet ((go_at_call 53; with_reducible exact WA.out _))
          go_wp2_with fail
          go_meet
          exact ⟨rfl, (Upd.refl _ _).drewN _⟩
        case rest =>
          obtain ⟨rfl, hu⟩ := hcut
          obtain ⟨wq, rfl⟩ : ∃ wq : World, wq = wc := ⟨_, rfl⟩
          have UQ := Lib.hid hu
          have ht2 := ownsRow_upd HTK.out UQ.out
          have hl2 := ownsRow_upd HLK.out UQ.out
          have HU2 := Lib.hid (HU.out.trans UQ.out)
          have hsz2 := HU2.out.size
          clear hu p1 p3 p4 d0 d1 d2 d3
          go_wp2_with (first
            | (at_builtin; refine wpList_append_lies _ rfl _ _ 68 rfl w.heap.size 9 i2 (.string ⟨#[]⟩) 1 16 Tryz.underlying68 ji jz0 jz1 jz2 rfl (by decide) (.slice (some ⟨g, 0, none⟩) ys.length ct) ys.length (txG textY ys) rfl (ht2.alloc _) ⟨wq.heap.size, 0, none⟩ 1 1 [es S] rfl rfl (fun j u hj => by rw [addr_add]; exact cell_new wq #[es S] _ _ rfl _ _ (by simpa using hj)) (by simp [Value.oneCell']) (by decide) (by unfold maxLen; omega) (by omega) (by simp; omega) (wq.heap.size + 1) (by simp) ?_)
            | fail)
          intro g3 cap3 w3 hown3 hg3 hat3 hlt3
          obtain ⟨_, _, hv3, mm1, mm2, -, -, -⟩ := own_cellsX hown3 (by omega)
          simp only [Value.slice.injEq] at hv3
          obtain ⟨-, -, rfl⟩ := hv3
          unfold maxLen at mm2
          have hla := ownsRow_upd hl2 ((Upd.refl [] wq).alloc (.cells #[es S] 9))
          have hg3 : (wq.alloc (.cells #[es S] 9)).grownBy w3 (Value.slice (some ⟨g, 0, none⟩) ys.length ct).ownBlock := ⟨hg3.os, hg3.tape, hg3.output, hg3.size, hg3.block⟩
          have hl3 := StkG.levels (o := .cells #[ei 2] 2) (tvc := Value.slice (some ⟨g, 0, none⟩) ys.length ct) hla HAP.out hg3
          have hU3 := (HU2.out.alloc (.cells #[es S] 9)).grown hg3 (fun b hb => Or.inl ((ht2.lt b hb).1))
          have hsz3 := hU3.size
          have HU3 := Lib.hid hU3
          have HLA := Lib.hid hla
          have HT3 := Lib.hid (show ∀ b, (Value.slice (some ⟨g3, 0, none⟩) (ys.length + 1) cap3).ownBlock = some b → (Value.slice (some ⟨g, 0, none⟩) ys.length ct).ownBlock = some b ∨ (wq.alloc (.cells #[es S] 9)).heap.size ≤ b from fun b hb => by
            simp only [Value.ownBlock, Option.some.injEq] at hb
            subst hb
            rcases hat3 with h | h
            · exact Or.inl h
            · exact Or.inr (by simp; omega))
          have HO3 := Lib.hid hown3
          clear hg3 hat3 hlt3 ht2 hl2 hown3 hla hU3
          go_wp2_with (first
            | (at_builtin; refine wpList_append_lies _ rfl _ _ 69 rfl w.heap.size 2 i1 (.int .i64 0) 1 8 Tryz.underlying69 ki kz0 kz1 kz2 rfl (by decide) (.slice (some ⟨gl, 0, none⟩) ys.length cl) ys.length (lvG kdY ys) rfl hl3 ⟨w3.heap.size, 0, none⟩ 1 1 [ei 2] rfl rfl (fun j u hj => by rw [addr_add]; exact cell_new w3 #[ei 2] _ _ rfl _ _ (by simpa using hj)) (by simp [Value.oneCell']) (by decide) (by unfold maxLen; omega) (by omega) (by simp; omega) (w3.heap.size + 1) (by simp) ?_)
            | fail)
          intro g4 cap4 w4 hown4 hg4 hat4 hlt4
          obtain ⟨_, _, hv4, nn1, nn2, -, -, -⟩ := own_cellsX hown4 (by omega)
          simp only [Value.slice.injEq] at hv4
          obtain ⟨-, -, rfl⟩ := hv4
          unfold maxLen at nn2
          have hS4 : StkG textY kdY w w4 (.slice (some ⟨g3, 0, none⟩) (ys.length + 1) cap3) (.slice (some ⟨g4, 0, none⟩) (ys.length + 1) cap4) (tr :: ys) := StkG.done (o := .cells #[ei 2] 2) HLA.out HAP.out (by rw [HTX.out, ← HSD.out]; exact HO3.out) HT3.out (by rw [HFK.out.2]; exact hown4) hg4 (fun b hb => by
            simp only [Value.ownBlock, Option.some.injEq] at hb
            subst hb
            rcases hat4 with h | h
            · exact Or.inl h
            · exact Or.inr (by simp; omega))
          have hU4 : Upd [] w w4 := (HU3.out.alloc (.cells #[ei 2] 2)).grown hg4 (fun b hb => Or.inl ((hl3.lt b hb).1))
          have HP := Lib.hid (And.intro hS4 hU4)
          clear hown4 hg4 hat4 hlt4 hS4 hU4 hl3 HTX HSD HLA HT3 HO3 HU3
          go_wp2_with fail
          go_roundw
          case rel => exact ⟨k, ys.length + 1, g3, cap3, g4, cap4, by omega, by go_num, rfl, rfl, by rw [HFK.out.1]; rfl, HP.out.2, Lib.hid ⟨by rw [HFK.out.1]; exact HP.out.1, rfl, rfl, ⟨mm1, mm2⟩, ⟨nn1, nn2⟩⟩⟩
          case measure => simp [intOf]

end Go.Proofs.YtddciieaolaleaaGreatDoor

/-
  RegularText: what the program's call and the reference's call return.
-/
namespace Go.Proofs.YtddciieaolaleaaGreatDoor
open Go.RowKit

/-- the text of a regular expression, or none. -/
def rText (f : List Rg) : List UInt8 := if regOk f then ((forestT arR f).map textY).headD [] else []
theorem reg_parts {f : List Rg} (h : regOk f = true) : shapeG arR 1 f = true ∧ f.length ≤ 20 ∧ ∀ n ∈ f, rgFit n := by
  unfold regOk at h
  simp only [Bool.and_eq_true, decide_eq_true_eq] at h
  obtain ⟨h1, h2⟩ := regG_shape f 1 h.1
  refine ⟨h1, h.2, fun n hn => ?_⟩
  obtain ⟨k1, k2⟩ := h2 n hn
  unfold fldR at k2
  simp only [Bool.and_eq_true] at k2
  exact ⟨inB_true k1, patF_len k2.1⟩
theorem reg_tree {f : List Rg} (h : regOk f = true) : ∃ x : Tr Rg, forestT arR f = [x] ∧ okT arR x = true ∧ flatT x = f :=
  forestT_one arR_nonneg (reg_parts h).1

set_option maxRecDepth 20000 in
set_option maxHeartbeats 4000000 in
theorem rTextI (v : Value) (f : List Rg) (w : World) (fp : List Nat) (hR : R_G1 fp w [v] f) (hlen : f.length ≤ 2000000) (hl : ∀ n ∈ f, n.lb.length ≤ 2000000) (he : Env w) :
    Calls Tryz.prog 10 #[v] w fun e w' => e = .returned (es (rText f)) ∧ Upd [] w w' := by
  have S1 := Lib.hid (validRI v f w fp hR hlen hl he)
  have HR := Lib.hid (fun W (hu : Upd [] w W) => R_G1k.upd hR hu (by simp))
  clear hR hl he
  cases hok : regOk f with
  | false =>
    rw [hok] at S1
    have HE := Lib.hid (show rText f = [] by unfold rText; rw [hok]; rfl)
    clear hok HR
    go_enter Tryz.func10, Tryz.ntmps10
    go_wp2_with fail
    refine S1.out.mono ?_
    rintro e w1 ⟨rfl, hu⟩
    have HU := Lib.hid hu
    clear S1 hu
    go_wp2_with fail
    go_ret
    exact ⟨by rw [HE.out]; rfl, HU.out⟩
  | true =>
    obtain ⟨x, hx, hokx, hfx⟩ := reg_tree hok
    obtain ⟨hsg, hln, hfit⟩ := reg_parts hok
    rw [hok] at S1
    have HE := Lib.hid (show rText f = textY x by unfold rText; rw [hok, hx]; rfl)
    have S2 := Lib.hid (fun W (hu : Upd [] w W) => regOf x W v fp hokx (by rw [hfx]; omega) (by rw [hfx]; exact HR.out W hu))
    have S3 := Lib.hid (fun W v' fp' (hr : R_Y fp' W [v'] x) => textYI _ x W v' fp' (Nat.le_refl _) (by rw [hfx]; omega) hokx (by rw [hfx]; exact hfit) hr)
    clear hok hx hokx hfx hfit HR
    go_enter Tryz.func10, Tryz.ntmps10
    go_wp2_with fail
    refine S1.out.mono ?_
    rintro e w1 ⟨rfl, hu⟩
    have T2 := Lib.hid (S2.out w1 hu)
    have HU := Lib.hid hu
    clear S1 S2 hu
    go_wp2_with fail
    refine T2.out.mono ?_
    rintro e w2 ⟨⟨v', rfl, fp', hr, -, -⟩, hu2⟩
    have T3 := Lib.hid (S3.out w2 v' fp' hr)
    have HU2 := Lib.hid (HU.out.trans hu2)
    obtain ⟨pb, rfl⟩ := R_T_form hr
    clear T2 S3 hu2 hr HU
    go_wp2_with fail
    refine T3.out.mono ?_
    rintro e w3 ⟨rfl, hu3⟩
    have HU3 := Lib.hid (HU2.out.trans hu3)
    clear T3 hu3
    go_wp2_with fail
    go_ret
    exact ⟨by rw [HE.out]; rfl, HU3.out⟩

set_option maxRecDepth 20000 in
set_option maxHeartbeats 4000000 in
theorem rTextS (v : Value) (f : List Rg) (w : World) (fp : List Nat) (hR : R_G1 fp w [v] f) (hlen : f.length ≤ 2000000) (hl : ∀ n ∈ f, n.lb.length ≤ 2000000) :
    Calls Tryz.prog 8 #[v] w fun e w' => e = .returned (es (rText f)) ∧ Upd [] w w' := by
  have S1 := Lib.hid (isRS v f w fp hR hlen hl)
  cases hok : regOk f with
  | false =>
    rw [hok] at S1
    have HE := Lib.hid (show rText f = [] by unfold rText; rw [hok]; rfl)
    clear hok hR hl
    go_enter Tryz.func8, Tryz.ntmps8
    go_wp2_with fail
    refine S1.out.mono ?_
    rintro e w1 ⟨rfl, hu⟩
    have HU := Lib.hid hu
    clear S1 hu
    go_wp2_with fail
    go_ret
    exact ⟨by rw [HE.out]; rfl, HU.out⟩
  | true =>
    obtain ⟨x, hx, hokx, hfx⟩ := reg_tree hok
    obtain ⟨hsg, hln, hfit⟩ := reg_parts hok
    rw [hok] at S1
    have HE := Lib.hid (show rText f = textY x by unfold rText; rw [hok, hx]; rfl)
    have S2 := Lib.hid (fun W (hu : Upd [] w W) => regS v f x W fp (R_G1k.upd hR hu (by simp)) hsg hln hfit hx)
    clear hok hR hl hfit hx hokx hfx
    go_enter Tryz.func8, Tryz.ntmps8
    go_wp2_with fail
    refine S1.out.mono ?_
    rintro e w1 ⟨rfl, hu⟩
    have T2 := Lib.hid (S2.out w1 hu)
    have HU := Lib.hid hu
    clear S1 S2 hu
    go_wp2_with fail
    refine T2.out.mono ?_
    rintro e w2 ⟨rfl, hu2⟩
    have HU2 := Lib.hid (HU.out.trans hu2)
    clear T2 hu2 HU
    go_wp2_with fail
    go_ret
    exact ⟨by rw [HE.out]; rfl, HU2.out⟩

end Go.Proofs.YtddciieaolaleaaGreatDoor

/-
  The law FnExactRegularText: the call returns true for every input, and writes nothing that was there.
-/
namespace Go.Proofs.YtddciieaolaleaaGreatDoor
open Go.RowKit Go.ChangeShapes

set_option maxRecDepth 20000 in
set_option maxHeartbeats 4000000 in
theorem lawRegularText (v : Value) (f : List Rg) (w : World) (fp : List Nat) (hR : R_G1 fp w [v] f) (hS : rgsOk f) (hE : Env w) :
    Calls Tryz.prog 3 #[v] w fun e w' => e = .returned (.bool true) ∧ Upd [] w w' := by
  have HRX := Lib.hid (fun W (hu : Upd [] w W) => R_G1k.upd hR hu (by simp))
  have HE := Lib.hid hE
  have S1 := Lib.hid (sz_G1 v f 1048576 w fp (by omega) (by omega) hR hS)
  obtain ⟨a, cap, rfl, h1, h2, -⟩ := slF3_open hR
  unfold maxLen at h2
  clear hR hS hE
  go_enter Tryz.func3, Tryz.ntmps3
  go_wp2_with fail
  refine S1.out.mono ?_
  rintro e w1 ⟨⟨r, rfl, hr⟩, hu1⟩
  have HU1 := Lib.hid hu1
  rcases hr with rfl | ⟨hr0, hr1⟩
  · clear S1 hu1
    go_wp2_with fail
    go_ret
    exact ⟨rfl, HU1.out⟩
  · have hsz : szF_G1 f ≤ 1048576 := by omega
    have htot := totS_nonneg (f.map Rg.lb)
    have hb : ∀ n ∈ f, n.lb.length ≤ 2000000 := by
      intro n hn
      have h1 := totS_mem (f.map Rg.lb) n.lb (List.mem_map.2 ⟨n, hn, rfl⟩)
      unfold szF_G1 at hsz
      omega
    have hlen : f.length ≤ 2000000 := by unfold szF_G1 at hsz; omega
    have HSZ := Lib.hid hsz
    have HB := Lib.hid hb
    have HR0 := Lib.hid hr1
    have S2 := Lib.hid (to_G1 _ f w1 _ hsz (HRX.out w1 hu1))
    clear S1 hu1 hr1 hsz hb htot
    go_wp2_with fail
    refine S2.out.mono ?_
    rintro e w2 ⟨⟨v', rfl, gp, r1, -, -⟩, hu2⟩
    have S3 := Lib.hid (rTextS v' f w2 gp r1 hlen HB.out)
    have HU2 := Lib.hid (HU1.out.trans hu2)
    obtain ⟨a2, c2, rfl, -, -, -⟩ := slF3_open r1
    clear S2 r1 hu2
    go_wp2_with fail
    refine S3.out.mono ?_
    rintro e w3 ⟨rfl, hu3⟩
    have HU3 := Lib.hid (HU2.out.trans hu3)
    have S4 := Lib.hid (to_G1 _ f w3 _ HSZ.out (HRX.out w3 HU3.out))
    have HX := Lib.hid (fun W v gp h he => rTextI v f W gp h hlen HB.out he)
    generalize rText f = Z at *
    clear S3 hu3 HU2
    go_wp2_with fail
    refine S4.out.mono ?_
    rintro e w4 ⟨⟨v', rfl, gp, r1, -, -⟩, hu4⟩
    have HU4 := Lib.hid (HU3.out.trans hu4)
    have S5 := Lib.hid (HX.out w4 v' gp r1 (HE.out.upd HU4.out))
    have HRY := Lib.hid (fun W (hu : Upd [] w4 W) => R_G1k.upd r1 hu (by simp))
    obtain ⟨a3, c3, rfl, -, -, -⟩ := slF3_open r1
    have hzz : (Z != Z) = false := by simp
    clear S4 HX r1 hu4
    go_wp2_with fail
    refine S5.out.mono ?_
    rintro e w5 ⟨rfl, hu5⟩
    have HU5 := Lib.hid (HU4.out.trans hu5)
    have S6 := Lib.hid (to_G1 _ f w5 _ HSZ.out (HRX.out w5 HU5.out))
    have HRZ := Lib.hid (fun W (hu : Upd [] w5 W) => HRY.out W (hu5.trans hu))
    clear S5 hu5
    go_wp2_with fail
    refine S6.out.mono ?_
    rintro e w6 ⟨⟨v', rfl, gp, r1, -, -⟩, hu6⟩
    have S7 := Lib.hid (eq_G1 _ v' f w6 _ gp (HRZ.out w6 hu6) r1)
    have HU6 := Lib.hid (HU5.out.trans hu6)
    clear S6 r1 hu6
    go_wp2_with fail
    refine S7.out.mono ?_
    rintro e w7 ⟨rfl, hu7⟩
    have HU7 := Lib.hid (HU6.out.trans hu7)
    clear S7 hu7
    go_wp2_with fail
    go_ret
    exact ⟨rfl, HU7.out⟩

end Go.Proofs.YtddciieaolaleaaGreatDoor

/-
  The form's reading of lists of elements of regular expressions.
-/
namespace Go.Proofs.YtddciieaolaleaaGreatDoor
open Go.RowKit Go.ChangeShapes Go.WideShapes Go.Deep

theorem cells3 {w : World} {a : Addr} {cs : List Value} (h : w.cells? 0 a 3 = some cs) : ∃ c0 c1 c2, cs = [c0, c1, c2] ∧ w.cell? a = some c0 ∧ w.cell? (a.add 1) = some c1 ∧ w.cell? (a.add 2) = some c2 := by
  rw [World.cells?, if_pos (Nat.zero_le _), show List.range 3 = [0, 1, 2] from rfl] at h
  simp only [List.mapM_cons, List.mapM_nil, Addr.add, if_true] at h
  cases h0 : w.cell? a with
  | none => simp [h0] at h
  | some c0 =>
    cases h1 : w.cell? (a.add 1) with
    | none => simp [Addr.add] at h1; simp [h0, h1] at h
    | some c1 =>
      cases h2 : w.cell? (a.add 2) with
      | none => simp [Addr.add] at h1 h2; simp [h0, h1, h2] at h
      | some c2 =>
        refine ⟨c0, c1, c2, ?_, rfl, rfl, rfl⟩
        simp [Addr.add] at h1 h2
        simpa [h0, h1, h2] using h.symm

/-- slices of structs of three plain fields. -/
theorem opens_slF3 {α : Type} {P : Program} {t e : TypeId} {e1 e2 e3 : α → Value} {φ : α → Prop} (ht : P.underlying t = some (.slice e)) (hc : P.cellsOf e = 3)
    (h : ∀ {H : Type} {enc : TypeId × Value → H} {w : World} {fuel : Nat} {u v z : Value} {x : DataW H × List MemPlace}, DataW.trod enc P w 0 (fun _ => true) true fuel e [u, v, z] = some x → ∃ a, u = e1 a ∧ v = e2 a ∧ z = e3 a ∧ φ a) :
    Opens P t (slF 3 (fun x => [e1 x, e2 x, e3 x])) (fun xs => ∀ x ∈ xs, φ x) := by
  intro H enc w fuel cs x hx
  rcases open_slice ht hx with ⟨rfl, -⟩ | ⟨a, len, cap, m, n, D, Pl, rfl, -, hl, hm, hmm, -, hel⟩
  · exact ⟨[], [], ⟨_, rfl, flat_nil w 3⟩, by simp⟩
  · have hlm : len ≤ m := by subst hmm; simpa using hl
    rw [hc] at hel
    obtain ⟨l, hll, hlq⟩ := list_choice (fun i (y : α) => w.cell? (a.add (i * 3)) = some (e1 y) ∧ w.cell? ((a.add (i * 3)).add 1) = some (e2 y) ∧ w.cell? ((a.add (i * 3)).add 2) = some (e3 y) ∧ φ y) len (fun i hi => by
      obtain ⟨cs', h1, h2⟩ := hel i (by omega)
      obtain ⟨c0, c1, c2, rfl, g0, g1, g2⟩ := cells3 h1
      obtain ⟨y, rfl, rfl, rfl, hy⟩ := h h2
      exact ⟨y, g0, g1, g2, hy⟩)
    by_cases h0 : len = 0
    · subst h0
      obtain rfl : l = [] := List.eq_nil_of_length_eq_zero hll
      exact ⟨[], [], ⟨_, rfl, some a, cap, rfl, hl, hm, by simp, Or.inl ⟨rfl, rfl⟩⟩, by simp⟩
    · have hc0 := (hlq 0 l[0] (by simp)).1
      have hs : a.spot = none := by simpa [Addr.add] using World.cell?_spot hc0
      obtain ⟨b, off, spot⟩ := a
      simp at hs
      subst hs
      refine ⟨l, [b], ⟨_, rfl, some ⟨b, off, none⟩, cap, by rw [hll], by omega, hm, by rw [flatMap_three_length], Or.inr ⟨b, off, rfl, rfl, ?_, fun j u hu => ?_⟩⟩, fun x hx => ?_⟩
      · exact World.block_lt_of_cell? w ⟨b, off, none⟩ (by simpa [Addr.add] using hc0)
      · have hj : j < l.length * 3 := by rw [← flatMap_three_length e1 e2 e3]; exact (List.getElem?_eq_some_iff.1 hu).1
        have hi : j / 3 < l.length := by omega
        obtain ⟨g1, g2, g3⟩ := flatMap_three_get e1 e2 e3 l (j / 3) hi
        obtain ⟨q1, q2, q3, -⟩ := hlq (j / 3) l[j / 3] (by simp)
        have ha : (⟨b, off, none⟩ : Addr).add (j / 3 * 3) = ⟨b, off + j / 3 * 3, none⟩ := by simp only [Addr.add]; split <;> simp_all
        rw [ha] at q1 q2 q3
        have hmod : j % 3 = 0 ∨ j % 3 = 1 ∨ j % 3 = 2 := by omega
        rcases hmod with hmod | hmod | hmod
        · have e : j / 3 * 3 = j := by omega
          rw [e] at g1 q1
          rw [g1] at hu; cases hu; exact q1
        · have e : j / 3 * 3 + 1 = j := by omega
          rw [e] at g2
          rw [g2] at hu; cases hu
          simp [Addr.add] at q2
          rw [show off + j = off + j / 3 * 3 + 1 from by omega]; exact q2
        · have e : j / 3 * 3 + 2 = j := by omega
          rw [e] at g3
          rw [g3] at hu; cases hu
          simp [Addr.add] at q3
          rw [show off + j = off + j / 3 * 3 + 2 from by omega]; exact q3
      · obtain ⟨i, hi, rfl⟩ := List.mem_iff_getElem.1 hx
        exact (hlq i _ (by simp)).2.2.2

theorem opens_G1 : Opens Tryz.prog 22 R_G1 (fun xs => ∀ x ∈ xs, x.lb.length ≤ maxLen) :=
  opens_slF3 Tryz.underlying22 (by kernel_rfl) (by
    intro H enc w fuel u v z x hx
    obtain ⟨y0, y1, y2, n, -, -, h0, h1, h2⟩ := trod_struct3 Tryz.underlying41 hx
    obtain ⟨a, e0, -, -⟩ := DataW.trod_int Tryz.underlying2 h0
    obtain ⟨s, e1, -, hs⟩ := DataW.trod_string Tryz.underlying9 h1
    obtain ⟨d, e2, -⟩ := DataW.trod_bool Tryz.underlying4 h2
    have c1 : Tryz.prog.cellsOf 2 = 1 := by kernel_rfl
    have c2 : Tryz.prog.cellsOf 9 = 1 := by kernel_rfl
    have c3 : Tryz.prog.cellsOf 4 = 1 := by kernel_rfl
    simp [c1, c2, c3] at e0 e1 e2
    exact ⟨⟨a, s.data.toList, d⟩, e0, e1, e2, hs⟩)

theorem rgs_of {xs : List Rg} (h : ∀ x ∈ xs, x.lb.length ≤ maxLen) : rgsOk xs := fun n hn => by
  have := h n hn
  simp only [maxLen] at this
  omega

end Go.Proofs.YtddciieaolaleaaGreatDoor

/-
  What the listed variables and the world's shape give the walks of labels.
-/
namespace Go.Proofs.YtddciieaolaleaaGreatDoor
open Go.RowKit Go.ChangeShapes

theorem errStar : "*" ++ "errors.errorString" = "*errors.errorString" := by decide
theorem errRow (u : TypeId) (h : Tryz.prog.typeName? 3 u = some "*errors.errorString") : u = 179 :=
  typeName_ptr_named (nm := "errors.errorString") (by rw [errStar]; kernel_rfl) (by kernel_rfl) (by decide) u (by rw [errStar]; exact h)

theorem env_of {W : World} {r1 r2 r3 : List (String × DataW Unit)} {d : DataW Unit} {x1 x2 : List UInt8} (hd : d = Lib.tabData .u64 Lib.pow10Tab)
    (h1 : laidMet Tryz.prog (("internal/strconv.uint64pow10", d) :: r1) W)
    (h2 : laidMet Tryz.prog (("strconv.ErrRange", .iface "*errors.errorString" (.ptr (.agg [.lit (.string x1)]))) :: r2) W)
    (h3 : laidMet Tryz.prog (("strconv.ErrSyntax", .iface "*errors.errorString" (.ptr (.agg [.lit (.string x2)]))) :: r3) W)
    (hs : W.ShapedOpen Tryz.prog) : Env W := by
  subst hd
  refine ⟨?_, ?_, ?_, ?_⟩
  · exact cell_of_shapedOpen_int (g := 1) (zero := #[.int .i64 0]) (t := 3) hs (of_decide_eq_true (by kernel_rfl)) (by kernel_rfl) rfl (by kernel_rfl) (by kernel_rfl) Tryz.underlying3
  · exact Lib.tabIs_of_head (g := 0) (t := 130) (e := 120) (n := 20) (by kernel_rfl) (by kernel_rfl) Tryz.underlying130 Tryz.underlying120 (by kernel_rfl) (by kernel_rfl) h1
  · obtain ⟨a, s, hv, -⟩ := laid_sentinel (g := 4) (ti := 138) (tp := 179) (te := 181) (ts := 9) h3 (by kernel_rfl) (by kernel_rfl) Tryz.underlying138 errRow Tryz.underlying179 Tryz.underlying181 rfl rfl Tryz.underlying9 (by kernel_rfl) (by kernel_rfl)
    exact ⟨_, _, hv⟩
  · obtain ⟨a, s, hv, -⟩ := laid_sentinel (g := 5) (ti := 138) (tp := 179) (te := 181) (ts := 9) h2 (by kernel_rfl) (by kernel_rfl) Tryz.underlying138 errRow Tryz.underlying179 Tryz.underlying181 rfl rfl Tryz.underlying9 (by kernel_rfl) (by kernel_rfl)
    exact ⟨_, _, hv⟩

/-- the wrap with a condition on the world, the world's shape kept. -/
theorem handed_and_shaped {H : Type} {enc : TypeId × Value → H} {a : Assume} {C : Checked} {os : Os} {f : FuncId} {fn : Func} {s : ChangeSpec} {conds : List PathCond} {apart fresh handsOn twice : Bool} {X : World → Array Value → Prop}
    (hX : ∀ (w w' : World) (args : Array Value), w.heap = w'.heap → X w args → X w' args)
    (own : ownKnob C.prog.godebug = none) (started : os.Started) (noInit : C.prog.inits.idxOf? f = none) (hfn : C.prog.funcs[f]? = some fn)
    (witness : ∃ (w : World) (tape : Tape) (i : Input), w.os = os ∧ (w.forCall tape i).Shaped C.prog ∧ i.vars = [] ∧ Input.okWide C.prog (w.forCall tape i) .any w.heap.size f i ∧
      ((s.pre enc C.prog fn conds apart (w.forCall tape i).memory i.args ∧ X (w.forCall tape i).memory i.args) ∧ sizedMet enc C.prog fn (OpenSpec.ofChange s) apart (w.forCall tape i).memory i.args) ∧ a.holds C.prog (lone (Frame.enter C.prog f i.args CallKind.normal) [] (w.forCall tape i)))
    (contract : ∀ (W : World) (base : Nat) (args : Array Value) (ds gs : List (DataW H)) (before : List MemPlace),
      (∀ (j : Nat) t v, fn.params[j]? = some t → args[j]? = some v → Value.okWide C.prog W .any base t v) →
      DataW.Whole enc C.prog fn.params.toList s.vars apart W args.toList ds gs before →
      conds.all (PathCond.test C.prog ⟨fn.params.toList, ds, s.plain.varTypes C.prog, gs⟩) = true → X W args →
      W.ShapedOpen C.prog →
      Calls C.prog f args W fun e W' => ∃ v, e = .returned v ∧ s.post enc C.prog fn apart fresh handsOn twice W args v W') :
    ReturnsInHanded a C os f .any (fun w args => (s.pre enc C.prog fn conds apart w args ∧ X w args) ∧ sizedMet enc C.prog fn (OpenSpec.ofChange s) apart w args) (s.post enc C.prog fn apart fresh handsOn twice) := by
  refine returnsInHanded_of_calls own started noInit witness ?_
  intro w tape i _ hsh _ hok hpre _
  obtain ⟨_, _, _, fn', hfn', _, _, _, _, hval⟩ := hok
  have e : fn' = fn := Option.some.inj (hfn'.symm.trans hfn)
  subst e
  obtain ⟨⟨⟨ds, gs, before, hw, hc⟩, hx⟩, hz⟩ := hpre
  have hw' := DataW.Whole.of_heap (w' := w.forCall tape i) (by rfl) hw
  refine (contract (w.forCall tape i) w.heap.size i.args ds gs before hval hw' hc (hX _ _ _ (by rfl) hx) hsh).mono fun e W' ⟨v, he, hp⟩ => ?_
  subst he
  exact ChangeSpec.post_blind hp

end Go.Proofs.YtddciieaolaleaaGreatDoor
