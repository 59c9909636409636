/-
  Texts joined in one file: LabE, LabJ, LabN, LabL, LabM, TrT, EncP, ForP, DecU, EncC, DecK, DecK2, ForQ, FxP, RegP, RegX, HarnR, RegW, PrP, PrA, PrM0, HarnF, ForI, FxW, PfP, PfC, PfO, PrE, PrI, PrJ, PrN, PrK.
-/
import Derived.Test.YtaahjpmndkcijaaGreatDoorZF1
import Derived.Test.YtaahjpmndkcijaaGreatDoorShelf
import Derived.IntWalk
import Derived.Laws.Bits64b
import Derived.Deep.RegionHeld3
import Derived.Deep.DeepCutAuto
import Derived.Lib.AppendZeros
import Derived.Lib.AppendZerosOnto
import Derived.Lib.OwnKind
import Derived.Deep.QuietTactic
import Derived.BigQuiet
/-
  Numbers in decimal: what the program's calls return.
-/
namespace Go.Proofs.YtaahjpmndkcijaaGreatDoor
open Go.RowKit

/-- what the calls of the library read of the package's variables. -/
structure Env (w : World) : Prop where
  m : ∃ m : Int, w.cell? ⟨0, 0, none⟩ = some (.int .i64 m)
  tab : Lib.TabIs Tryz.prog w "internal/strconv.uint64pow10" .u64 Lib.pow10Tab
  syn : ∃ tp p, w.var? Tryz.prog "strconv.ErrSyntax" = some #[.iface tp p]
  rng : ∃ tp p, w.var? Tryz.prog "strconv.ErrRange" = some #[.iface tp p]

theorem Upd.var {P : Program} {w w1 : World} {n : String} {cs : Array Value} (hu : Upd [] w w1) (h : w.var? P n = some cs) : w1.var? P n = some cs := by
  unfold World.var? at h ⊢
  cases hg : P.globalNamed n with
  | none => rw [hg] at h; cases h
  | some g =>
    rw [hg] at h
    simp only [Option.bind_some] at h ⊢
    have hlt : g < w.heap.size := by
      rcases Nat.lt_or_ge g w.heap.size with h1 | h1
      · exact h1
      · rw [Array.getElem?_eq_none h1] at h; cases h
    rw [hu.block g hlt (by simp)]
    exact h

theorem Env.upd {w w1 : World} (h : Env w) (hu : Upd [] w w1) : Env w1 :=
  ⟨h.m.imp fun _ hm => hu.keep hm, hu.var h.tab, h.syn.imp fun _ hs => hs.imp fun _ hs => hu.var hs, h.rng.imp fun _ hs => hs.imp fun _ hs => hu.var hs⟩

theorem Upd.grow (w : World) (k : Nat) (os : Array Obj) : Upd [] w (Sort.grow (w.drewN k) os) := by
  refine ⟨rfl, rfl, rfl, ?_, fun i hi _ => ?_⟩
  · show w.heap.size ≤ (w.heap ++ os).size
    rw [Array.size_append]; omega
  · show (w.heap ++ os)[i]? = w.heap[i]?
    rw [Array.getElem?_append_left hi]

theorem decimal (n : Int) (w : World) (h0 : -9223372036854775808 ≤ n) (h1 : n ≤ 9223372036854775807) (he : Env w) :
    Calls Tryz.prog 108 #[.int .i64 n] w fun e w' => e = .returned (es (Lib.itoa n)) ∧ Upd [] w w' := by
  have S1 := Lib.hid (Tryz.strconv_FormatInt_10 n h0 h1 w he.tab)
  clear he h0 h1
  go_enter Tryz.func108, Tryz.ntmps108
  go_wp2_with fail
  refine S1.out.mono ?_
  rintro e w1 ⟨rfl, k, os, rfl⟩
  have HU := Lib.hid (Upd.grow w k os)
  generalize Sort.grow (w.drewN k) os = w1 at *
  clear S1
  go_wp2_with fail
  go_ret
  exact ⟨rfl, HU.out⟩

theorem isActionI (l : List UInt8) (w : World) (hl : l.length ≤ 2000000) :
    Calls Tryz.prog 83 #[es l] w fun e w' => e = .returned (.bool (actF l)) ∧ w = w' := by
  have S1 := Lib.hid (isNameI l w hl)
  cases hn : nameF l with
  | false =>
    have HR := Lib.hid (show actF l = false by simp [actF, hn])
    rw [hn] at S1
    clear hn
    go_enter Tryz.func83, Tryz.ntmps83
    go_wp2_with fail
    refine S1.out.mono ?_
    rintro e w1 ⟨rfl, rfl⟩
    clear S1
    go_wp2_with fail
    go_ret
    exact ⟨by rw [HR.out]; rfl, rfl⟩
  | true =>
    have HR := Lib.hid (show actF l = (l != tauL) by simp [actF, hn])
    rw [hn] at S1
    clear hn
    go_enter Tryz.func83, Tryz.ntmps83
    go_wp2_with fail
    refine S1.out.mono ?_
    rintro e w1 ⟨rfl, rfl⟩
    clear S1
    go_wp2_with fail
    go_ret
    refine ⟨?_, rfl⟩
    rw [HR.out]
    simp [tauL, bne]

theorem parse_range {l : List UInt8} {v : Int} (h : Lib.parseIntB 64 l = .ok v) : -9223372036854775808 ≤ v ∧ v ≤ 9223372036854775807 := by
  unfold Lib.parseIntB at h
  cases l with
  | nil => cases h
  | cons c r =>
    simp only at h
    split at h
    · cases h
    · cases h
    · split at h
      · cases h
      · split at h
        · cases h
        · rename_i h1 h2
          simp only [Lib.NumEnd.ok.injEq] at h
          subst h
          by_cases hc : c.toNat = 45
          · simp only [hc, not_true_eq_false, true_and, false_and, not_false_eq_true] at h1 h2
            simp only [hc, if_true]; omega
          · simp only [hc, not_false_eq_true, true_and, false_and] at h1 h2
            simp only [hc, if_false]; omega

theorem digL_trim (s : List UInt8) : Lib.trimPrefix s [45] = digL s := by
  cases s with
  | nil => rfl
  | cons b r =>
    by_cases hb : b = 45
    · subst hb; simp [Lib.trimPrefix, Lib.hasPrefix, digL, negL, List.isPrefixOf]
    · have h1 : (b == 45) = false := by simpa using hb
      have h2 : ((45 : UInt8) == b) = false := by simpa using fun e => hb e.symm
      simp [Lib.trimPrefix, Lib.hasPrefix, digL, negL, List.isPrefixOf, h1, h2]

def NumV (s : List UInt8) (w : World) (e : Ending) (w' : World) : Prop := e = .returned (.tuple #[.int .i64 ((numF s).getD 0), .bool (numF s).isSome]) ∧ Upd [] w w'

set_option maxRecDepth 20000 in
set_option maxHeartbeats 2000000 in
theorem readDecimalI (s : List UInt8) (w : World) (hl : s.length ≤ 2000000) (he : Env w) : Calls Tryz.prog 100 #[es s] w (NumV s w) := by
  have S1 := Lib.hid (Tryz.strings_TrimPrefix ⟨s.toArray⟩ ⟨#[45]⟩ w)
  have e1 : Lib.trimPrefix (⟨s.toArray⟩ : ByteArray).data.toList (⟨#[45]⟩ : ByteArray).data.toList = digL s := digL_trim s
  rw [e1] at S1
  clear e1
  have hdl : (digL s).length ≤ s.length := by
    unfold digL; split <;> simp
  by_cases hlen : 18 < (digL s).length
  · have HR := Lib.hid (show numF s = none by unfold numF; rw [if_pos (Or.inr (Or.inl hlen))])
    generalize digL s = d at *
    have g1 : (18 : Int) < (d.length : Int) := by omega
    clear hlen he
    go_enter Tryz.func100, Tryz.ntmps100
    go_wp2_with fail
    refine S1.out.mono ?_
    rintro e w1 ⟨rfl, rfl⟩
    clear S1
    go_wp2_with fail
    go_ret2
    exact ⟨by rw [HR.out]; rfl, Upd.refl _ _⟩
  · have hsz : (⟨s.toArray⟩ : ByteArray).size = s.length := rfl
    rcases hp : Lib.parseIntB 64 s with v | _ | _
    rotate_left
    · skip
      have HR := Lib.hid (show numF s = none by
        cases hn : numF s with
        | none => rfl
        | some n =>
          obtain ⟨a, -, b⟩ := numF_some hn
          rw [a, parse_itoa n b] at hp; cases hp)
      obtain ⟨tp, p, hsyn⟩ := he.syn
      have S2 := Lib.hid (Tryz.strconv_ParseInt_10_at64_syntax_var ⟨s.toArray⟩ (by rw [hsz]; omega) hp tp p w hsyn)
      clear hsyn hp hsz he
      generalize digL s = d at *
      have g1 : ¬ (18 : Int) < (d.length : Int) := by omega
      clear hlen
      go_enter Tryz.func100, Tryz.ntmps100
      go_wp2_with fail
      refine S1.out.mono ?_
      rintro e w1 ⟨rfl, rfl⟩
      clear S1
      go_wp2_with fail
      refine S2.out.mono ?_
      rintro e w1 ⟨N, rfl, -, -, hb⟩
      have HU := Lib.hid (Upd.ofBelow hb)
      clear S2 hb
      go_wp2_with fail
      go_ret2
      exact ⟨by rw [HR.out]; rfl, HU.out⟩
    · skip
      have HR := Lib.hid (show numF s = none by
        cases hn : numF s with
        | none => rfl
        | some n =>
          obtain ⟨a, -, b⟩ := numF_some hn
          rw [a, parse_itoa n b] at hp; cases hp)
      obtain ⟨tp, p, hsyn⟩ := he.rng
      have S2 := Lib.hid (Tryz.strconv_ParseInt_10_at64_range_var ⟨s.toArray⟩ (by rw [hsz]; omega) hp tp p w hsyn)
      clear hsyn hp hsz he
      generalize digL s = d at *
      have g1 : ¬ (18 : Int) < (d.length : Int) := by omega
      clear hlen
      go_enter Tryz.func100, Tryz.ntmps100
      go_wp2_with fail
      refine S1.out.mono ?_
      rintro e w1 ⟨rfl, rfl⟩
      clear S1
      go_wp2_with fail
      refine S2.out.mono ?_
      rintro e w1 ⟨N, rfl, -, -, hb⟩
      have HU := Lib.hid (Upd.ofBelow hb)
      clear S2 hb
      go_wp2_with fail
      go_ret2
      exact ⟨by rw [HR.out]; rfl, HU.out⟩
    · skip
      obtain ⟨v0, v1⟩ := parse_range hp
      have S2 := Lib.hid (Tryz.strconv_ParseInt_10_at64_ok ⟨s.toArray⟩ (by rw [hsz]; omega) v hp w)
      have HR := Lib.hid (show numF s = if Lib.itoa v = s then some v else none by
        split
        · rename_i h
          rw [← h]; exact numF_itoa v (by rw [h]; omega)
        · rename_i h
          cases hn : numF s with
          | none => rfl
          | some n =>
            exfalso
            obtain ⟨a, -, b⟩ := numF_some hn
            rw [a, parse_itoa n b] at hp
            cases hp
            exact h a.symm)
      have S3 := Lib.hid (fun w1 (hu : Upd [] w w1) => decimal v w1 v0 v1 (he.upd hu))
      clear hp hsz he
      generalize digL s = d at *
      have g1 : ¬ (18 : Int) < (d.length : Int) := by omega
      clear hlen
      go_enter Tryz.func100, Tryz.ntmps100
      go_wp2_with fail
      refine S1.out.mono ?_
      rintro e wa ⟨rfl, rfl⟩
      clear S1
      go_wp2_with fail
      refine S2.out.mono ?_
      rintro e w1 ⟨rfl, hw⟩
      have hu : Upd [] wa w1 := by
        rcases hw with rfl | ⟨t, rfl⟩
        · exact Upd.refl _ _
        · exact Upd.ofBelow (Lib.bytesWorld_below _ _ _)
      have S4 := Lib.hid (S3.out w1 hu)
      have HU := Lib.hid hu
      clear S2 S3 hw hu
      go_wp2_with fail
      refine S4.out.mono ?_
      rintro e w2 ⟨rfl, hu2⟩
      have HU2 := Lib.hid (HU.out.trans hu2)
      clear S4 HU hu2
      by_cases heq : Lib.itoa v = s
      · have HR2 := Lib.hid (HR.out.trans (if_pos heq))
        rw [heq]
        clear HR heq
        go_wp2_with fail
        go_ret2
        exact ⟨by rw [HR2.out]; rfl, HU2.out⟩
      · have HR2 := Lib.hid (HR.out.trans (if_neg heq))
        clear HR
        generalize Lib.itoa v = A at *
        have hne : (A == s) = false := by simpa using heq
        go_wp2_with fail
        go_ret2
        exact ⟨by rw [HR2.out]; rfl, HU2.out⟩

end Go.Proofs.YtaahjpmndkcijaaGreatDoor

/-
  Labels made: what the program's calls return.
-/
namespace Go.Proofs.YtaahjpmndkcijaaGreatDoor
open Go.RowKit

set_option maxRecDepth 20000 in
set_option maxHeartbeats 4000000 in
theorem joinedI (v : Value) (xs : List Int) (w : World) (fp : List Nat) (hR : R1 fp w [v] xs) (h0 : 0 < xs.length) (hl : xs.length ≤ 1000000)
    (hv : ∀ x ∈ xs, (-9223372036854775808 ≤ x ∧ x ≤ 9223372036854775807) ∧ (Lib.itoa x).length ≤ 30) (he : Env w) :
    Calls Tryz.prog 104 #[v, es [44]] w fun e w' => e = .returned (es (txtV xs)) ∧ Upd [] w w' := by
  obtain ⟨i0, hi, hz0, hz1, hz2⟩ := info_parts Tryz.info9
  obtain ⟨a, cap, rfl, h1, h2, -⟩ := slF1_open hR
  unfold maxLen at h2
  have HR := Lib.hid hR
  have HV := Lib.hid hv
  have HE := Lib.hid he
  have hm2 : i0.bytes * xs.length ≤ 281474976710656 := by rw [hz2]; omega
  clear hR hv he
  go_enter Tryz.func104, Tryz.ntmps104
  go_wp2_with (first
    | (at_make; refine wpList_make_full _ rfl _ _ 40 rfl w.heap.size 9 i0 (es []) 1 Tryz.underlying40 hi hz0 hz1 .i64 .i64 _ _ xs.length rfl rfl rfl rfl hm2 (by unfold maxLen; omega) (Nat.le_refl _) ?_; intro w2 hrow hgrow)
    | fail)
  rw [made_one _ rfl] at hrow
  have hU : Upd [] w w2 := (Upd.refl _ _).grown hgrow (by simp)
  obtain ⟨fo, ho1, ho2, ho3⟩ := New.ofOwns (w := w) (e := 9) (enc := es) (xs := List.replicate xs.length ([] : List UInt8)) (by simpa using hrow)
  have HST := Lib.hid (And.intro (show RS fo w2 [.slice (some ⟨w.heap.size, 0, none⟩) xs.length xs.length] ((xs.take 0).map Lib.itoa ++ List.replicate (xs.length - 0) []) from by simpa using ho1) ho2)
  clear hrow hgrow ho1 ho2 ho3 hm2
  go_wp2_with fail
  go_loopw [13] (fun i wr => ∃ k : Nat, k ≤ xs.length ∧ i = .int .i64 k ∧ Upd [] w wr ∧ RS fo wr [.slice (some ⟨w.heap.size, 0, none⟩) xs.length xs.length] ((xs.take k).map Lib.itoa ++ List.replicate (xs.length - k) []) ∧ Own fo wr) (fun i _ => xs.length - (intOf i).toNat)
  case atStart => exact ⟨0, Nat.zero_le _, rfl, hU, HST.out.1, HST.out.2⟩
  case round =>
    clear HST hU
    obtain ⟨k, hk, rfl, hU, ho1, ho2⟩ := hrel
    by_cases hlt : k < xs.length
    · obtain ⟨a', cap', hv, -, -, hc⟩ := slF1_open (R1k.upd HR.out hU (by simp))
      cases hv
      obtain ⟨b1, o1, rfl, -, -, p1⟩ := hc k hlt
      have hset := set_fill Lib.itoa [] xs k hlt
      obtain ⟨⟨x0, x1⟩, -⟩ := HV.out xs[k] (List.getElem_mem hlt)
      have hlen : ((xs.take k).map Lib.itoa ++ List.replicate (xs.length - k) ([] : List UInt8)).length = xs.length := by simp; omega
      have HL := Lib.hid hlen
      have HS := Lib.hid hset
      have HU := Lib.hid hU
      have HO := Lib.hid (And.intro ho1 ho2)
      generalize xs[k] = x at *
      have S1 := Lib.hid (decimal x wr x0 x1 (HE.out.upd hU))
      clear hc hset hlen hU ho1 ho2
      go_wp2_with fail
      refine S1.out.mono ?_
      rintro e w3 ⟨rfl, hu3⟩
      obtain ⟨hbl, hcl0, hfz, hos⟩ := rowCellS (RSk.upd HO.out.1 hu3 (by simp)) (HO.out.2.upd hu3 (by simp)) HL.out k hlt
      have hos := hos (Lib.itoa x)
      rw [HS.out] at hos
      obtain ⟨z0, hz0'⟩ : ∃ z0 : List UInt8, w3.cell? ⟨w.heap.size, k, none⟩ = some (es z0) := ⟨_, hcl0⟩
      clear hcl0
      have HP := Lib.hid (And.intro hos (HU.out.trans hu3))
      clear S1 hos HO HU hu3 HS HL
      generalize Lib.itoa x = A at *
      go_wp2_with fail
      go_roundw
      case rel => exact ⟨k + 1, by omega, by go_num, HP.out.2.setCell (Or.inl (Nat.le_refl _)) _, HP.out.1.1, HP.out.1.2⟩
      case measure => simp [intOf]; omega
    · obtain rfl : k = xs.length := by omega
      obtain ⟨ps, hps⟩ : ∃ ps, ps = xs.map Lib.itoa := ⟨_, rfl⟩
      have hpl : ps.length = xs.length := by rw [hps]; simp
      have ho3 : RS fo wr [.slice (some ⟨w.heap.size, 0, none⟩) xs.length xs.length] ps := by rw [hps]; simpa using ho1
      obtain ⟨a', cap', hv, -, hc2, hc⟩ := slF1_open ho3
      simp only [Value.slice.injEq] at hv
      obtain ⟨rfl, -, rfl⟩ := hv
      have hle : (joinC 44 ps).length ≤ ps.length * (30 + 1) := joinC_le 44 30 ps (fun p hp => by
        rw [hps] at hp
        obtain ⟨x, hx, rfl⟩ := List.mem_map.1 hp
        exact (HV.out x hx).2)
      have hbk : w.heap.size < wr.heap.size := by
        obtain ⟨b, off, hb, -, hbl, -⟩ := hc 0 (by omega)
        cases hb; exact hbl
      have hmm : (ps.map (fun p => (⟨p.toArray⟩ : ByteArray))).map (fun b => b.data.toList) = ps := by
        rw [List.map_map]; exact (List.map_congr_left (fun p _ => rfl)).trans (List.map_id _)
      have hj : Lib.join ((ps.map (fun p => (⟨p.toArray⟩ : ByteArray))).map (fun b => b.data.toList)) (⟨#[44]⟩ : ByteArray).data.toList = joinC 44 ps := by
        rw [hmm]; exact join_lib 44 ps
      have S0 := Tryz.strings_Join w.heap.size 0 xs.length (ps.map (fun p => (⟨p.toArray⟩ : ByteArray))) ⟨#[44]⟩ wr (fun j x hx => by
        obtain ⟨hj1, rfl⟩ := List.getElem?_eq_some_iff.1 hx
        have hj2 : j < ps.length := by simpa using hj1
        obtain ⟨b, off, hb, -, -, hcl⟩ := hc j hj2
        cases hb
        rw [hcl]
        simp [es]) hbk (by simp; omega) (by simp; omega) (by rw [hj]; omega)
      rw [hj] at S0
      simp only [List.length_map, hpl] at S0
      have S1 := Lib.hid S0
      have HX := Lib.hid (show joinC 44 ps = txtV xs by rw [hps, txtV])
      have HU := Lib.hid hU
      clear hj hmm hle hc hc2 ho3 ho1 ho2 hps hU S0 HV HE HR
      generalize joinC 44 ps = J at *
      go_wp2_with fail
      refine S1.out.mono ?_
      rintro e w3 ⟨rfl, hb3⟩
      have HP := Lib.hid (HU.out.trans (Upd.ofBelow hb3))
      clear S1 hb3 HU
      go_wp2_with fail
      go_ret
      exact ⟨by rw [← HX.out]; rfl, HP.out⟩

end Go.Proofs.YtaahjpmndkcijaaGreatDoor

/-
  Words read as numbers.
-/
namespace Go.Proofs.YtaahjpmndkcijaaGreatDoor
open Go.RowKit

def NumsV (ps : List (List UInt8)) (w : World) (e : Ending) (w' : World) : Prop :=
  (∃ v', e = .returned (.tuple #[v', .bool (numsF ps).isSome]) ∧ New R1 w w' v' ((numsF ps).getD [])) ∧ Upd [] w w'

set_option maxRecDepth 20000 in
set_option maxHeartbeats 4000000 in
theorem readNumbersI (v : Value) (ps : List (List UInt8)) (w : World) (fp : List Nat) (hR : slF 1 (fun s => [es s]) fp w [v] ps) (hl : ps.length ≤ 2000001) (hp : ∀ p ∈ ps, p.length ≤ 2000000) (he : Env w) :
    Calls Tryz.prog 95 #[v] w (NumsV ps w) := by
  obtain ⟨i1, ki, kz0, kz1, kz2⟩ := info_parts Tryz.info2
  obtain ⟨a, cap, rfl, h1, h2, -⟩ := slF1_open hR
  unfold maxLen at h2
  have hlit := World.ownsRow_nil w w.heap.size 2 1
  have HLIT := Lib.hid hlit
  have HR := Lib.hid hR
  have HP := Lib.hid hp
  have HE := Lib.hid he
  clear hR hp he hlit
  go_enter Tryz.func95, Tryz.ntmps95
  go_wp2_with fail
  go_loopw [4, 11] (fun ov i wr => ∃ (k : Nat) (ns : List Int), k ≤ ps.length ∧ i = .int .i64 k ∧ ns.length = k ∧ Hid (numsF ps = (numsF (ps.drop k)).map (ns ++ ·)) ∧ Hid (wr.ownsRow w.heap.size 2 1 ov k (ns.map ei)) ∧ Upd [] w wr) (fun _ i _ => ps.length - (intOf i).toNat)
  case atStart => exact ⟨0, [], by omega, rfl, rfl, Lib.hid (by simp), HLIT, Upd.refl _ _⟩
  case round =>
    clear HLIT
    obtain ⟨k, ns, hk, rfl, hnl, hF, hown, hU⟩ := hrel
    have HNL := Lib.hid hnl
    clear hnl
    by_cases hlt : k < ps.length
    · obtain ⟨a', cap', hv, -, -, hc⟩ := slF1_open ((slF_kept _ _).upd HR.out hU (by simp))
      cases hv
      obtain ⟨b1, o1, rfl, -, -, p1⟩ := hc k hlt
      have hF1 := hF.out
      rw [List.drop_eq_getElem_cons hlt, numsF_cons] at hF1
      have hpk := HP.out ps[k] (List.getElem_mem hlt)
      have HF := Lib.hid hF1
      have HU := Lib.hid hU
      clear hF1 hF hc
      generalize ps[k] = s at *
      have S1 := Lib.hid (readDecimalI s wr hpk (HE.out.upd hU))
      clear hU
      go_wp2_with fail
      refine S1.out.mono ?_
      rintro e w3 ⟨rfl, hu3⟩
      have HU3 := Lib.hid (HU.out.trans hu3)
      have hown3 := ownsRow_upd hown.out hu3
      have hsz3 := HU3.out.size
      clear S1 HU hu3 hown
      cases hn : numF s with
      | none =>
        rw [hn] at HF
        have HN := Lib.hid (show numsF ps = none from HF.out)
        clear HF hown3
        go_wp2_with fail
        go_ret2
        exact ⟨⟨_, by rw [HN.out]; rfl, by rw [HN.out]; exact new_nil _ _⟩, HU3.out⟩
      | some x =>
        rw [hn] at HF
        have HN := Lib.hid (show numsF ps = (numsF (ps.drop (k + 1))).map ((ns ++ [x]) ++ ·) by
          rw [HF.out]
          simp [Function.comp_def])
        clear HF
        simp only [Option.getD_some, Option.isSome_some]
        go_wp2_with (first
          | (at_builtin; refine wpList_append_tight _ rfl _ _ 76 rfl w.heap.size 2 i1 (.int .i64 0) 1 8 Tryz.underlying76 ki kz0 kz1 kz2 rfl (by decide) _ _ _ rfl (hown3.alloc _) ⟨w3.heap.size, 0, none⟩ 1 1 [ei x] rfl rfl (fun j u hj => by rw [addr_add]; exact cell_new w3 #[ei x] _ _ rfl _ _ (by simpa using hj)) (by simp [Value.oneCell']) (by unfold maxLen; omega) (by omega) (by simp; omega) ?_)
          | fail)
        intro v4 w4 hown4 hg4 ht4
        have hu4 : Upd [] w w4 := (HU3.out.alloc _).grown hg4 (fun b hb => Or.inl (by have := (hown3.lt b hb).1; omega))
        have HQ := Lib.hid (And.intro hown4 hu4)
        clear hown4 hg4 ht4 hu4 hown3
        go_wp2_with fail
        go_roundw
        case rel => exact ⟨k + 1, ns ++ [x], by omega, by go_num, by simp [HNL.out], HN, Lib.hid (by simpa using HQ.out.1), HQ.out.2⟩
        case measure => simp [intOf]; omega
    · obtain rfl : k = ps.length := by omega
      have hF1 := hF.out
      rw [List.drop_of_length_le (Nat.le_refl _)] at hF1
      have HN := Lib.hid (show numsF ps = some ns by rw [hF1]; simp [numsF])
      have HQ := Lib.hid (And.intro (New.ofOwns (w := w) (e := 2) (enc := ei) (xs := ns) (by rw [HNL.out]; exact hown.out)) hU)
      clear hown hU hF hF1
      go_wp2_with fail
      go_ret2
      exact ⟨⟨_, by rw [HN.out]; rfl, by rw [HN.out]; exact HQ.out.1⟩, HQ.out.2⟩

end Go.Proofs.YtaahjpmndkcijaaGreatDoor

/-
  Labels made and read: what the program's calls return.
-/
namespace Go.Proofs.YtaahjpmndkcijaaGreatDoor
open Go.RowKit

def LabV (name : List UInt8) (xs : List Int) (w : World) (e : Ending) (w' : World) : Prop :=
  (∃ t : List UInt8, e = .returned (.tuple #[es t, .bool (labT name xs).isSome]) ∧ Hid (∀ s, labT name xs = some s → t = s)) ∧ Upd [] w w'

theorem isV_itoa {x : Int} (h : isV x = true) : (-9223372036854775808 ≤ x ∧ x ≤ 9223372036854775807) ∧ (Lib.itoa x).length ≤ 30 := by
  have hb := inB_true h
  have h1 := itoa_len64 h
  have h2 : (Lib.itoa x).length ≤ (digL (Lib.itoa x)).length + 1 := by unfold digL; split <;> simp <;> omega
  omega

theorem labT_no {name : List UInt8} {xs : List Int} (ht : name ≠ tauL) (h : (actF name && decide (xs.length ≤ 2) && xs.all isV) = false) : labT name xs = none := by
  unfold labT; rw [if_neg ht, h]; rfl
theorem labT_yes {name : List UInt8} {xs : List Int} (ht : name ≠ tauL) (h : (actF name && decide (xs.length ≤ 2) && xs.all isV) = true) : labT name xs = some (if xs = [] then name else ((name ++ [40]) ++ txtV xs) ++ [41]) := by
  unfold labT; rw [if_neg ht, if_pos h]

set_option maxRecDepth 20000 in
set_option maxHeartbeats 4000000 in
theorem labelOfI (name : List UInt8) (v : Value) (xs : List Int) (w : World) (fp : List Nat) (hn : name.length ≤ 2000000) (hR : R1 fp w [v] xs) (he : Env w) :
    Calls Tryz.prog 98 #[es name, v] w (LabV name xs w) := by
  obtain ⟨a, cap, rfl, h1, h2, -⟩ := slF1_open hR
  unfold maxLen at h2
  by_cases htau : name = tauL
  · have HT := Lib.hid (show labT name xs = if xs = [] then some tauL else none by unfold labT; rw [if_pos htau])
    have e1 : es name = .string ⟨#[116, 97, 117]⟩ := by rw [htau]; rfl
    rw [e1]
    clear hR he e1 htau
    cases xs with
    | nil =>
      go_enter Tryz.func98, Tryz.ntmps98
      go_wp2_with fail
      go_ret2
      exact ⟨⟨tauL, by rw [HT.out]; rfl, Lib.hid (fun s hs => by rw [HT.out] at hs; simpa using hs)⟩, Upd.refl _ _⟩
    | cons x xs =>
      have g0 : ¬ (((x :: xs).length : Int) = 0) := by simp; omega
      have HT2 := Lib.hid (show labT name (x :: xs) = none by rw [HT.out]; rfl)
      clear HT
      generalize x :: xs = ys at *
      have g1 : ((ys.length : Int) == 0) = false := by simpa using g0
      go_enter Tryz.func98, Tryz.ntmps98
      go_wp2_with fail
      go_ret2
      exact ⟨⟨tauL, by rw [HT2.out]; first | rfl | (simp [tauL, g1, es]), Lib.hid (fun s hs => by rw [HT2.out] at hs; cases hs)⟩, Upd.refl _ _⟩
  · have g0 : (name == [116, 97, 117]) = false := by simpa [tauL] using htau
    have HTAU := Lib.hid htau
    have S1 := Lib.hid (isActionI name w hn)
    cases ha : actF name with
    | false =>
      have HT := Lib.hid (labT_no (xs := xs) htau (by rw [ha]; rfl))
      rw [ha] at S1
      clear hR he htau ha
      go_enter Tryz.func98, Tryz.ntmps98
      go_wp2_with fail
      refine S1.out.mono ?_
      rintro e w1 ⟨rfl, rfl⟩
      clear S1
      go_wp2_with fail
      go_ret2
      exact ⟨⟨[], by rw [HT.out]; rfl, Lib.hid (fun s hs => by rw [HT.out] at hs; cases hs)⟩, Upd.refl _ _⟩
    | true =>
      rw [ha] at S1
      by_cases hlen : xs.length ≤ 2
      · have g3 : ¬ ((2 : Int) < (xs.length : Int)) := by omega
        have S2 := Lib.hid (areValues _ xs w fp hR)
        cases hv : xs.all isV with
        | false =>
          have HT := Lib.hid (labT_no (xs := xs) htau (by rw [hv]; simp))
          rw [hv] at S2
          clear hR he htau ha hv hlen
          go_enter Tryz.func98, Tryz.ntmps98
          go_wp2_with fail
          refine S1.out.mono ?_
          rintro e w1 ⟨rfl, rfl⟩
          clear S1
          go_wp2_with fail
          refine S2.out.mono ?_
          rintro e w1 ⟨rfl, rfl⟩
          clear S2
          go_wp2_with fail
          go_ret2
          exact ⟨⟨[], by rw [HT.out]; rfl, Lib.hid (fun s hs => by rw [HT.out] at hs; cases hs)⟩, Upd.refl _ _⟩
        | true =>
          have HT := Lib.hid (labT_yes (xs := xs) htau (by rw [ha, hv, decide_eq_true hlen]; rfl))
          rw [hv] at S2
          by_cases h0 : xs = []
          · have HT2 := Lib.hid (HT.out.trans (by rw [if_pos h0]))
            have g4 : ((xs.length : Int) == 0) = true := by rw [h0]; rfl
            clear hR he htau ha hv hlen h0 HT
            go_enter Tryz.func98, Tryz.ntmps98
            go_wp2_with fail
            refine S1.out.mono ?_
            rintro e w1 ⟨rfl, rfl⟩
            clear S1
            go_wp2_with fail
            refine S2.out.mono ?_
            rintro e w1 ⟨rfl, rfl⟩
            clear S2
            go_wp2_with fail
            go_ret2
            exact ⟨⟨name, by rw [HT2.out]; rfl, Lib.hid (fun s hs => by rw [HT2.out] at hs; simpa using hs)⟩, Upd.refl _ _⟩
          · have HT2 := Lib.hid (HT.out.trans (by rw [if_neg h0]))
            have hpos : 0 < xs.length := List.length_pos_iff.2 h0
            have g4 : ((xs.length : Int) == 0) = false := by simp; omega
            have S3 := Lib.hid (joinedI _ xs w fp hR hpos (by omega) (fun x hx => isV_itoa (List.all_eq_true.1 hv x hx)) he)
            have hjl : (txtV xs).length ≤ 2 * 31 := by
              refine Nat.le_trans (joinC_le 44 30 (xs.map Lib.itoa) (fun p hp => ?_)) ?_
              · obtain ⟨x, hx, rfl⟩ := List.mem_map.1 hp
                exact (isV_itoa (List.all_eq_true.1 hv x hx)).2
              · rw [List.length_map]; omega
            clear hR he htau ha hv hlen h0 HT
            generalize txtV xs = J at *
            go_enter Tryz.func98, Tryz.ntmps98
            go_wp2_with fail
            refine S1.out.mono ?_
            rintro e w1 ⟨rfl, rfl⟩
            clear S1
            go_wp2_with fail
            refine S2.out.mono ?_
            rintro e w1 ⟨rfl, rfl⟩
            clear S2
            go_wp2_with fail
            refine S3.out.mono ?_
            rintro e w3 ⟨rfl, hu3⟩
            have HU := Lib.hid hu3
            clear S3 hu3
            go_wp2_with fail
            go_ret2
            exact ⟨⟨_, by rw [HT2.out]; rfl, Lib.hid (fun s hs => by rw [HT2.out] at hs; simpa using hs)⟩, HU.out⟩
      · have g3 : (2 : Int) < (xs.length : Int) := by omega
        have HT := Lib.hid (labT_no (xs := xs) htau (by rw [decide_eq_false hlen]; simp))
        clear hR he htau ha hlen
        go_enter Tryz.func98, Tryz.ntmps98
        go_wp2_with fail
        refine S1.out.mono ?_
        rintro e w1 ⟨rfl, rfl⟩
        clear S1
        go_wp2_with fail
        go_ret2
        exact ⟨⟨[], by rw [HT.out]; rfl, Lib.hid (fun s hs => by rw [HT.out] at hs; cases hs)⟩, Upd.refl _ _⟩

end Go.Proofs.YtaahjpmndkcijaaGreatDoor

/-
  Labels read: what the program's calls return.
-/
namespace Go.Proofs.YtaahjpmndkcijaaGreatDoor
open Go.RowKit

theorem es_bytes (b : ByteArray) : es b.data.toList = .string b := by simp [es]

theorem splitC_len (c : UInt8) : ∀ l : List UInt8, (splitC c l).length ≤ l.length + 1 ∧ ∀ p ∈ splitC c l, p.length ≤ l.length
  | [] => by simp [splitC]
  | b :: l => by
    obtain ⟨h1, h2⟩ := splitC_len c l
    by_cases hb : b = c
    · subst hb
      have e : splitC b (b :: l) = [] :: splitC b l := by rw [splitC, if_pos rfl]
      rw [e]
      refine ⟨by simp; omega, fun p hp => ?_⟩
      rcases List.mem_cons.1 hp with rfl | hp
      · simp
      · have := h2 p hp; simp; omega
    · obtain ⟨p, ps, e1, e2⟩ := splitC_cons c b l hb
      rw [e2]
      rw [e1] at h1 h2
      refine ⟨by simp at h1 ⊢; omega, fun q hq => ?_⟩
      rcases List.mem_cons.1 hq with rfl | hq
      · have := h2 p (by simp); simp; omega
      · have := h2 q (by simp [hq]); simp; omega

theorem cut_len (s sep : List UInt8) : (Lib.cut s sep).1.length ≤ s.length ∧ (Lib.cut s sep).2.1.length ≤ s.length := by
  unfold Lib.cut
  split <;> simp <;> omega
theorem trim_len (s p : List UInt8) : (Lib.trimSuffix s p).length ≤ s.length := by
  unfold Lib.trimSuffix
  split <;> simp <;> omega
theorem cut_false {s : List UInt8} (h : (Lib.cut s [40]).2.2 = false) : Lib.cut s [40] = (s, [], false) := by
  unfold Lib.cut at h ⊢
  split at h
  · cases h
  · rename_i h1; rw [if_neg h1]

theorem cutI (l : List UInt8) (w : World) (hl : l.length ≤ 2000000) (he : Env w) :
    Calls Tryz.prog 94 #[es l, .string ⟨#[40]⟩] w fun e w' => e = .returned (.tuple #[es (Lib.cut l [40]).1, es (Lib.cut l [40]).2.1, .bool (Lib.cut l [40]).2.2]) ∧ Upd [] w w' := by
  obtain ⟨m, hm⟩ := he.m
  have hsz : (⟨l.toArray⟩ : ByteArray).size = l.length := rfl
  refine (Tryz.strings_Cut ⟨l.toArray⟩ ⟨#[40]⟩ m w (by rw [hsz]; omega) hm).mono ?_
  rintro e w1 ⟨rfl, n, rfl⟩
  exact ⟨rfl, (Upd.refl _ _).drewN n⟩

theorem trimI (l : List UInt8) (w : World) (hl : l.length ≤ 2000000) :
    Calls Tryz.prog 97 #[es l, .string ⟨#[41]⟩] w fun e w' => e = .returned (es (Lib.trimSuffix l [41])) ∧ w' = w := by
  have hsz : (⟨l.toArray⟩ : ByteArray).size = l.length := rfl
  exact (Tryz.strings_TrimSuffix ⟨l.toArray⟩ ⟨#[41]⟩ w (by rw [hsz]; omega)).mono (fun e w1 h => h)

theorem splitI (l : List UInt8) (w : World) (hl : l.length ≤ 2000000) (he : Env w) :
    Calls Tryz.prog 96 #[es l, .string ⟨#[44]⟩] w fun e w' => (∃ v', e = .returned v' ∧ New RS w w' v' (splitC 44 l)) ∧ Upd [] w w' := by
  obtain ⟨m, hm⟩ := he.m
  have hsz : (⟨l.toArray⟩ : ByteArray).size = l.length := rfl
  have hlen := Lib.splitB_all ⟨#[44]⟩ (by decide) 0 (Lib.countB ⟨l.toArray⟩ ⟨#[44]⟩) ⟨l.toArray⟩ rfl
  have hdat : (Lib.splitB ⟨#[44]⟩ 0 (Lib.countB ⟨l.toArray⟩ ⟨#[44]⟩) ⟨l.toArray⟩).map (·.data.toList) = splitC 44 l := by
    rw [Lib.splitB_data]; exact split_lib 44 l
  refine (Tryz.strings_Split ⟨l.toArray⟩ ⟨#[44]⟩ m w (by rw [hsz]; omega) hm (by decide)).mono ?_
  rintro e w1 ⟨rfl, rfl⟩
  generalize Lib.splitB ⟨#[44]⟩ 0 (Lib.countB ⟨l.toArray⟩ ⟨#[44]⟩) ⟨l.toArray⟩ = bs at *
  generalize Lib.countB ⟨l.toArray⟩ ⟨#[44]⟩ = n at *
  have hsp := (splitC_len 44 l).1
  have hmap : bs.map Value.string = (splitC 44 l).map es := by
    rw [← hdat, List.map_map]
    exact List.map_congr_left (fun b _ => (es_bytes b).symm)
  have hn : n + 1 = (splitC 44 l).length := by rw [← hdat, List.length_map, hlen]
  rw [hmap, hn]
  exact ⟨⟨_, rfl, new_lit (enc := es) w 9 (splitC 44 l) (by unfold maxLen; omega)⟩, (Upd.refl _ _).alloc _⟩

def ReadV (s : List UInt8) (w : World) (e : Ending) (w' : World) : Prop :=
  (∃ (n : List UInt8) (v' : Value) (vs : List Int), e = .returned (.tuple #[es n, v', .bool (readF s).isSome]) ∧ New R1 w w' v' vs ∧ (readF s).getD ([], []) = (n, vs)) ∧ Upd [] w w'

set_option maxRecDepth 20000 in
set_option maxHeartbeats 4000000 in
theorem readLabelI (s : List UInt8) (w : World) (hl : s.length ≤ 2000000) (he : Env w) : Calls Tryz.prog 92 #[es s] w (ReadV s w) := by
  have S1 := Lib.hid (cutI s w hl he)
  obtain ⟨hc1, hc2⟩ := cut_len s [40]
  have HE := Lib.hid he
  clear he
  cases hm : (Lib.cut s [40]).2.2 with
  | false =>
    have hcf := cut_false hm
    have HF := Lib.hid (show readF s = if labT s [] = some s then some (s, []) else none by unfold readF; rw [hm]; rfl)
    rw [hcf] at S1
    clear hm hcf hc1 hc2
    go_enter Tryz.func92, Tryz.ntmps92
    go_wp2_with fail
    refine S1.out.mono ?_
    rintro e w1 ⟨rfl, hu1⟩
    obtain ⟨f0, hR0, hO0, hG0⟩ := new_nil w w1
    have S4 := Lib.hid (labelOfI s (.slice none 0 0) [] w1 f0 hl hR0 (HE.out.upd hu1))
    have HU1 := Lib.hid hu1
    have HN := Lib.hid (show New R1 w w1 (.slice none 0 0) [] from ⟨f0, hR0, hO0, hG0⟩)
    clear S1 hu1 hR0 hO0 hG0
    go_wp2_with fail
    refine S4.out.mono ?_
    rintro e w4 ⟨⟨t, rfl, ht⟩, hu4⟩
    have HU := Lib.hid (HU1.out.trans hu4)
    have HN4 := Lib.hid (R1k.new HN.out hu4 (by simp))
    clear S4 HU1 HN hu4
    cases hL : labT s [] with
    | none =>
      have HR := Lib.hid (show readF s = none by rw [HF.out, hL]; rfl)
      clear HF ht hL
      go_wp2_with fail
      go_ret3
      exact ⟨⟨[], _, [], by rw [HR.out]; rfl, new_nil _ _, by rw [HR.out]; rfl⟩, HU.out⟩
    | some s' =>
      obtain rfl := ht.out s' hL
      by_cases heq : t = s
      · have HR := Lib.hid (show readF s = some (s, []) by rw [HF.out, hL, if_pos (by rw [heq])])
        clear HF hL
        subst heq
        clear ht
        go_wp2_with fail
        go_ret3
        exact ⟨⟨t, _, [], by rw [HR.out]; rfl, HN4.out, by rw [HR.out]; rfl⟩, HU.out⟩
      · have HR := Lib.hid (show readF s = none by rw [HF.out, hL, if_neg (by simpa using heq)])
        have hne : (t == s) = false := by simpa using heq
        clear HF ht hL
        go_wp2_with fail
        go_ret3
        exact ⟨⟨[], _, [], by rw [HR.out]; rfl, new_nil _ _, by rw [HR.out]; rfl⟩, HU.out⟩
  | true =>
    have HF := Lib.hid (show readF s = match numsF (splitC 44 (Lib.trimSuffix (Lib.cut s [40]).2.1 [41])) with
      | none => none
      | some vs => if labT (Lib.cut s [40]).1 vs = some s then some ((Lib.cut s [40]).1, vs) else none by unfold readF; rw [hm]; rfl)
    rw [hm] at S1
    clear hm
    generalize (Lib.cut s [40]).1 = nm at *
    generalize (Lib.cut s [40]).2.1 = rest at *
    have htl := trim_len rest [41]
    have hnm : nm.length ≤ 2000000 := by omega
    have S2 := Lib.hid (fun w1 : World => trimI rest w1 (by omega))
    generalize Lib.trimSuffix rest [41] = r2 at *
    obtain ⟨hp1, hp2⟩ := splitC_len 44 r2
    have S3 := Lib.hid (fun (w1 : World) (hu : Upd [] w w1) => splitI r2 w1 (by omega) (HE.out.upd hu))
    generalize splitC 44 r2 = ps at *
    have HPL := Lib.hid (show ∀ p ∈ ps, p.length ≤ 2000000 from fun p hp => by have := hp2 p hp; omega)
    have hpl : ps.length ≤ 2000001 := by omega
    clear hp1 hp2 htl hc1 hc2
    go_enter Tryz.func92, Tryz.ntmps92
    go_wp2_with fail
    refine S1.out.mono ?_
    rintro e w1 ⟨rfl, hu1⟩
    have S2 := Lib.hid (S2.out w1)
    have S3 := Lib.hid (S3.out w1 hu1)
    have HU1 := Lib.hid hu1
    clear S1 hu1
    go_wp2_with fail
    refine S2.out.mono ?_
    rintro e w2 ⟨rfl, rfl⟩
    clear S2
    go_wp2_with fail
    refine S3.out.mono ?_
    rintro e w3 ⟨⟨v3, rfl, fq, hq1, hq2, hq3⟩, hu3⟩
    have HU3 := Lib.hid (HU1.out.trans hu3)
    have S4 := Lib.hid (readNumbersI v3 ps w3 fq hq1 (by omega) HPL.out (HE.out.upd HU3.out))
    have hsz3 := HU3.out.size
    clear S3 HU1 hu3 hq1 hq2 hq3
    go_wp2_with fail
    refine S4.out.mono ?_
    rintro e w4 ⟨⟨v4, rfl, hn4⟩, hu4⟩
    have HU4 := Lib.hid (HU3.out.trans hu4)
    clear S4 HU3 hu4
    cases hN : numsF ps with
    | none =>
      have HR := Lib.hid (show readF s = none by rw [HF.out, hN])
      clear HF hN hn4
      go_wp2_with fail
      go_ret3
      exact ⟨⟨[], _, [], by rw [HR.out]; rfl, new_nil _ _, by rw [HR.out]; rfl⟩, HU4.out⟩
    | some vs =>
      rw [hN] at hn4 HF
      have HF2 := Lib.hid (show readF s = if labT nm vs = some s then some (nm, vs) else none from HF.out)
      obtain ⟨f4, hr4, -, -⟩ := id hn4
      have S5 := Lib.hid (labelOfI nm v4 vs w4 f4 hnm hr4 (HE.out.upd HU4.out))
      have HN := Lib.hid (show New R1 w w4 v4 vs from hn4.mono hsz3)
      clear HF hN hn4 hr4
      go_wp2_with fail
      refine S5.out.mono ?_
      rintro e w5 ⟨⟨t, rfl, ht⟩, hu5⟩
      have HU := Lib.hid (HU4.out.trans hu5)
      have HN5 := Lib.hid (R1k.new HN.out hu5 (by simp))
      clear S5 HU4 HN hu5
      cases hL : labT nm vs with
      | none =>
        have HR := Lib.hid (show readF s = none by rw [HF2.out, hL]; rfl)
        clear HF2 ht hL
        go_wp2_with fail
        go_ret3
        exact ⟨⟨[], _, [], by rw [HR.out]; rfl, new_nil _ _, by rw [HR.out]; rfl⟩, HU.out⟩
      | some s' =>
        obtain rfl := ht.out s' hL
        by_cases heq : t = s
        · have HR := Lib.hid (show readF s = some (nm, vs) by rw [HF2.out, hL, if_pos (by rw [heq])])
          clear HF2 hL
          subst heq
          clear ht
          go_wp2_with fail
          go_ret3
          exact ⟨⟨nm, _, vs, by rw [HR.out]; rfl, HN5.out, by rw [HR.out]; rfl⟩, HU.out⟩
        · have HR := Lib.hid (show readF s = none by rw [HF2.out, hL, if_neg (by simpa using heq)])
          have hne : (t == s) = false := by simpa using heq
          clear HF2 ht hL
          go_wp2_with fail
          go_ret3
          exact ⟨⟨[], _, [], by rw [HR.out]; rfl, new_nil _ _, by rw [HR.out]; rfl⟩, HU.out⟩

set_option maxRecDepth 20000 in
theorem isLabelI (s : List UInt8) (w : World) (hl : s.length ≤ 2000000) (he : Env w) : Calls Tryz.prog 84 #[es s] w fun e w' => e = .returned (.bool (readF s).isSome) ∧ Upd [] w w' := by
  have S1 := Lib.hid (readLabelI s w hl he)
  clear he
  go_enter Tryz.func84, Tryz.ntmps84
  go_wp2_with fail
  refine S1.out.mono ?_
  rintro e w1 ⟨⟨n, v, vs, rfl, hn, hr⟩, hu⟩
  have HU := Lib.hid hu
  clear S1 hn hr hu
  go_wp2_with fail
  go_ret
  exact ⟨rfl, HU.out⟩

end Go.Proofs.YtaahjpmndkcijaaGreatDoor

/-
  Lists of labels: what the program's and the reference's calls return.
-/
namespace Go.Proofs.YtaahjpmndkcijaaGreatDoor
open Go.RowKit

/-- whether a text is a label. -/
def isLab (s : List UInt8) : Bool := (readF s).isSome

set_option maxRecDepth 20000 in
theorem labelS (s : List UInt8) (w : World) (hl : s.length ≤ 2000000) : Calls Tryz.prog 72 #[es s] w fun e w' => e = .returned (.bool (isLab s)) ∧ Upd [] w w' := by
  have S1 := Lib.hid (valuesS s w hl)
  go_enter Tryz.func72, Tryz.ntmps72
  go_wp2_with fail
  refine S1.out.mono ?_
  rintro e w1 ⟨⟨v, vs, rfl, hn, -⟩, hu⟩
  have HU := Lib.hid hu
  clear S1 hn hu
  go_wp2_with fail
  go_ret
  exact ⟨rfl, HU.out⟩

end Go.Proofs.YtaahjpmndkcijaaGreatDoor

/-
  Binary images, plainly: numbers, texts, the check value, the seal.
-/
namespace Go.Proofs.YtaahjpmndkcijaaGreatDoor
open Go.RowKit

end Go.Proofs.YtaahjpmndkcijaaGreatDoor

/-
  Formulas, plainly: their shape, their fields, what binds a variable; validity as the program and as the reference reckon it.
-/
namespace Go.Proofs.YtaahjpmndkcijaaGreatDoor
open Go.RowKit

/-- a node: kind, variable, label, and whether the label is negated. -/
structure Nd where
  kd : Int
  vr : Int
  lb : List UInt8
  nt : Bool
deriving DecidableEq

def arS (k : Int) : Int := if k = 0 ∨ k = 1 ∨ k = 6 then 0 else if k = 2 ∨ k = 3 then 2 else 1
theorem arS_in (k : Int) : 0 ≤ arS k ∧ arS k ≤ 2 := by unfold arS; split <;> (try split) <;> omega

/-- a pattern: nothing, a label, or a name before a star. -/
def patF (s : List UInt8) : Bool := s == [] || isLab s || (s.getLast? == some 42 && actF s.dropLast)
end Go.Proofs.YtaahjpmndkcijaaGreatDoor

/-
  The kind of an image and its contents, plainly.
-/
namespace Go.Proofs.YtaahjpmndkcijaaGreatDoor
open Go.RowKit

end Go.Proofs.YtaahjpmndkcijaaGreatDoor

/-
  The check value: what both sides' calls return.
-/
namespace Go.Proofs.YtaahjpmndkcijaaGreatDoor
open Go.RowKit

end Go.Proofs.YtaahjpmndkcijaaGreatDoor

/-
  The kind of an image, and the reader of its contents: what both sides' calls return.
-/
namespace Go.Proofs.YtaahjpmndkcijaaGreatDoor
open Go.RowKit

end Go.Proofs.YtaahjpmndkcijaaGreatDoor

/-
  The reader of the contents of a formula's image: what both sides' calls return.
-/
namespace Go.Proofs.YtaahjpmndkcijaaGreatDoor
open Go.RowKit

end Go.Proofs.YtaahjpmndkcijaaGreatDoor

/-
  Images of formulas read back, plainly.
-/
namespace Go.Proofs.YtaahjpmndkcijaaGreatDoor
open Go.RowKit

end Go.Proofs.YtaahjpmndkcijaaGreatDoor

/-
  The text of a formula, plainly.
-/
namespace Go.Proofs.YtaahjpmndkcijaaGreatDoor
open Go.RowKit

end Go.Proofs.YtaahjpmndkcijaaGreatDoor

/-
  Regular expressions, plainly: their elements.
-/
namespace Go.Proofs.YtaahjpmndkcijaaGreatDoor
open Go.RowKit

/-- an element: kind, label, and whether the label is negated. -/
structure Rg where
  kd : Int
  lb : List UInt8
  nt : Bool
deriving DecidableEq
end Go.Proofs.YtaahjpmndkcijaaGreatDoor

/-
  The text of a regular expression, plainly.
-/
namespace Go.Proofs.YtaahjpmndkcijaaGreatDoor
open Go.RowKit

end Go.Proofs.YtaahjpmndkcijaaGreatDoor

/-
  The laws' helper functions over lists of elements of regular expressions.
-/
namespace Go.Proofs.YtaahjpmndkcijaaGreatDoor
open Go.RowKit Go.ChangeShapes

abbrev R_G1 : Rp (List Rg) := slF 3 (fun t => [ei t.kd, es t.lb, .bool t.nt])
theorem R_G1k : Kept R_G1 := slF_kept _ _
theorem Tryz.infoRg : (Tryz.prog.info? 53).map (fun i => (i.zero, i.size, i.bytes)) = some (some (.agg #[.int .i64 0, .string ⟨#[]⟩, .bool false]), 3, 32) := by kernel_rfl

end Go.Proofs.YtaahjpmndkcijaaGreatDoor

/-
  Regular expressions as trees: a tree out of elements: what each call returns and makes.
-/
namespace Go.Proofs.YtaahjpmndkcijaaGreatDoor
open Go.RowKit

/-- how many expressions an element of a kind wants behind it. -/
def arRg (k : Int) : Int := if k = 1 ∨ k = 2 then 2 else if k = 3 then 1 else 0
theorem arRg_in (k : Int) : 0 ≤ arRg k ∧ arRg k ≤ 2 := by unfold arRg; split <;> (try split) <;> omega
abbrev encR (t : Rg) : List Value := [ei t.kd, es t.lb, .bool t.nt]
abbrev arR (t : Rg) : Int := arRg t.kd
abbrev R_Y : Rp (Tr Rg) := R_T encR
theorem R_Yk : Kept R_Y := R_Tk _
theorem R_Y_open {fp : List Nat} {w : World} {v : Value} {t : Rg} {args : List (Tr Rg)} (h : R_Y fp w [v] (.mk t args)) :
    ∃ b s fa, v = .pointer (some ⟨b, 0, none⟩) ∧ fp = b :: fa ∧ w.cell? ⟨b, 0, none⟩ = some (ei t.kd) ∧ w.cell? ⟨b, 1, none⟩ = some (es t.lb) ∧ w.cell? ⟨b, 2, none⟩ = some (.bool t.nt) ∧ w.cell? ⟨b, 3, none⟩ = some s ∧ slP R_Y fa w [s] args := by
  obtain ⟨b, s, fa, rfl, rfl, -, h1, h2⟩ := R_T_open h
  exact ⟨b, s, fa, rfl, rfl, h1 0 _ rfl, h1 1 _ rfl, h1 2 _ rfl, h1 3 _ rfl, h2⟩
theorem R_Y_mk {w : World} {t : Rg} {args : List (Tr Rg)} {b : Nat} {s : Value} {fa : List Nat} (c0 : w.cell? ⟨b, 0, none⟩ = some (ei t.kd)) (c2 : w.cell? ⟨b, 1, none⟩ = some (es t.lb)) (c3 : w.cell? ⟨b, 2, none⟩ = some (.bool t.nt)) (c4 : w.cell? ⟨b, 3, none⟩ = some s)
    (h : slP R_Y fa w [s] args) : R_Y (b :: fa) w [.pointer (some ⟨b, 0, none⟩)] (.mk t args) := by
  refine R_T_mk (World.block_lt_of_cell? w _ c0) (fun j u hj => ?_) h
  match j, hj with
  | 0, hj => cases hj; exact c0
  | 1, hj => cases hj; exact c2
  | 2, hj => cases hj; exact c3
  | 3, hj => cases hj; exact c4

end Go.Proofs.YtaahjpmndkcijaaGreatDoor

/-
  Regular expressions parsed, plainly: the parser of a text.
-/
namespace Go.Proofs.YtaahjpmndkcijaaGreatDoor
open Go.RowKit

/-- the offset of the first byte from n on that does not meet p. -/
def runE (p : UInt8 → Bool) (s : List UInt8) (n : Nat) : Nat := n + ((s.drop n).takeWhile p).length
theorem runE_le {p : UInt8 → Bool} {s : List UInt8} {n : Nat} (h : n ≤ s.length) : n ≤ runE p s n ∧ runE p s n ≤ s.length := by
  unfold runE
  have := (List.takeWhile_prefix (p := p) (l := s.drop n)).length_le
  rw [List.length_drop] at this
  omega
theorem runE_step {p : UInt8 → Bool} {s : List UInt8} {n : Nat} (h : n < s.length) : runE p s n = if p s[n] then runE p s (n + 1) else n := by
  unfold runE
  rw [List.drop_eq_getElem_cons h, List.takeWhile_cons]
  by_cases hb : p s[n] = true
  · rw [if_pos hb, if_pos hb, List.length_cons]; omega
  · rw [if_neg hb, if_neg hb]; rfl
theorem runE_end {p : UInt8 → Bool} {s : List UInt8} : runE p s s.length = s.length := by
  unfold runE; rw [List.drop_of_length_le (Nat.le_refl _)]; rfl
theorem runE_not {p : UInt8 → Bool} {s : List UInt8} : ∀ (k n : Nat), s.length - n ≤ k → n ≤ s.length → ∀ h : runE p s n < s.length, p s[runE p s n] = false
  | 0, n, hk, hn, h => by have := (runE_le (p := p) hn).1; omega
  | k + 1, n, hk, hn, h => by
    by_cases hlt : n < s.length
    · have h1 := runE_step (p := p) hlt
      by_cases hb : p s[n] = true
      · rw [if_pos hb] at h1
        simp only [h1] at h ⊢
        exact runE_not k (n + 1) (by omega) (by omega) h
      · rw [if_neg hb] at h1
        simp only [h1]
        simpa using hb
    · have := (runE_le (p := p) hn).1; omega
theorem runE_run {p : UInt8 → Bool} {s : List UInt8} : ∀ (k n : Nat), s.length - n ≤ k → n ≤ s.length → ∀ j, n ≤ j → j < runE p s n → ∀ h : j < s.length, p s[j] = true
  | 0, n, hk, hn, j, h1, h2, h => by omega
  | k + 1, n, hk, hn, j, h1, h2, h => by
    by_cases hlt : n < s.length
    · have e := runE_step (p := p) hlt
      by_cases hb : p s[n] = true
      · rw [if_pos hb] at e
        rcases (by omega : j = n ∨ n + 1 ≤ j) with rfl | hj
        · exact hb
        · exact runE_run k (n + 1) (by omega) (by omega) j hj (by omega) h
      · rw [if_neg hb] at e; omega
    · omega

/-- the offset of the first byte from n on that is no blank. -/
def skR (s : List UInt8) (n : Nat) : Nat := runE (· == 32) s n
theorem skR_idem {s : List UInt8} {n : Nat} (h : n ≤ s.length) : skR s (skR s n) = skR s n := by
  unfold skR
  have h2 := (runE_le (p := (· == (32 : UInt8))) h).2
  by_cases hlt : runE (· == 32) s n < s.length
  · rw [runE_step hlt, runE_not _ n (Nat.le_refl _) h hlt]; rfl
  · have : runE (· == 32) s n = s.length := by omega
    rw [this, runE_end]
theorem skR_le {s : List UInt8} {n : Nat} (h : n ≤ s.length) : n ≤ skR s n ∧ skR s n ≤ s.length := runE_le h

def isB (s : List UInt8) (n : Nat) (b : UInt8) : Bool := s[n]? == some b
theorem isB_lt {s : List UInt8} {n : Nat} {b : UInt8} (h : isB s n b = true) : n < s.length := by
  unfold isB at h
  rcases Nat.lt_or_ge n s.length with h1 | h1
  · exact h1
  · rw [List.getElem?_eq_none h1] at h; cases h
theorem isB_at {s : List UInt8} {n : Nat} (h : n < s.length) (b : UInt8) : isB s n b = (s[n] == b) := by
  unfold isB
  rw [List.getElem?_eq_getElem h]; rfl

def wch (c : UInt8) : Bool := sml c || isDig c
/-- the end of the word at n: a small letter, letters and digits; n if none begins there. -/
def wordE (s : List UInt8) (n : Nat) : Nat := if (s[n]?).any sml then runE wch s (n + 1) else n
theorem wordE_le {s : List UInt8} {n : Nat} (h : n ≤ s.length) : n ≤ wordE s n ∧ wordE s n ≤ s.length := by
  unfold wordE
  split
  · rename_i h1
    have hlt : n < s.length := by
      rcases Nat.lt_or_ge n s.length with h2 | h2
      · exact h2
      · rw [List.getElem?_eq_none h2] at h1; cases h1
    have := runE_le (p := wch) (s := s) (n := n + 1) (by omega)
    omega
  · omega

def cutS (s : List UInt8) (a b : Nat) : List UInt8 := (s.drop a).take (b - a)
/-- the pattern of a token, if it is one. -/
def patO (t : List UInt8) : Option (List UInt8) :=
  if Lib.hasSuffix t [40, 42, 41] then (if actF (t.take (t.length - 3)) then some (t.take (t.length - 3) ++ [42]) else none)
  else if isLab t then some t else none
/-- the pattern at n and the offset behind it, if one begins there. -/
def labF (s : List UInt8) (n : Nat) : Option (List UInt8 × Nat) :=
  if isB s (wordE s n) 40 then
    (if runE (· != 41) s (wordE s n) < s.length then (patO (cutS s n (runE (· != 41) s (wordE s n) + 1))).map (fun t => (t, runE (· != 41) s (wordE s n) + 1)) else none)
  else (patO (cutS s n (wordE s n))).map (fun t => (t, wordE s n))

theorem name_no {l : List UInt8} (h : nameF l = true) : (40 : UInt8) ∉ l ∧ (42 : UInt8) ∉ l := ⟨name_char h 40 (by decide) (by decide), name_char h 42 (by decide) (by decide)⟩
theorem isLab_labT {s : List UInt8} (h : isLab s = true) : ∃ name vs, labT name vs = some s := by
  unfold isLab at h
  obtain ⟨⟨name, vs⟩, hx⟩ := Option.isSome_iff_exists.1 h
  exact ⟨name, vs, readF_some hx⟩
theorem joinC_mem {b c : UInt8} : ∀ (L : List (List UInt8)), c ∈ joinC b L → c = b ∨ ∃ x ∈ L, c ∈ x
  | [], h => by simp [joinC] at h
  | [x], h => Or.inr ⟨x, by simp, by simpa [joinC] using h⟩
  | x :: y :: L, h => by
    rw [joinC, List.mem_append, List.mem_cons] at h
    rcases h with h | h | h
    · exact Or.inr ⟨x, by simp, h⟩
    · exact Or.inl h
    · rcases joinC_mem (y :: L) h with h | ⟨z, hz, h⟩
      · exact Or.inl h
      · exact Or.inr ⟨z, List.mem_cons_of_mem _ hz, h⟩
/-- what a label begins and ends with. -/
theorem lab_form {s : List UInt8} (h : isLab s = true) : s ≠ [] ∧ (42 : UInt8) ∉ s ∧ s.head? ≠ some 40 := by
  obtain ⟨name, vs, hl⟩ := isLab_labT h
  have hhd : ∀ l : List UInt8, nameF l = true → l ≠ [] ∧ (42 : UInt8) ∉ l ∧ l.head? ≠ some 40 := fun l hn => by
    refine ⟨fun e => by subst e; simp [nameF] at hn, (name_no hn).2, fun e => (name_no hn).1 (List.mem_of_mem_head? e)⟩
  unfold labT at hl
  split at hl
  · split at hl
    · cases hl; exact hhd _ nameF_tau
    · cases hl
  · split at hl
    · rename_i hc
      simp only [Bool.and_eq_true, decide_eq_true_eq] at hc
      have hn := hhd _ (actF_name hc.1.1).1
      split at hl
      · cases hl; exact hn
      · cases hl
        refine ⟨by simp, fun hm => ?_, ?_⟩
        · simp only [List.mem_append, List.mem_cons, List.not_mem_nil, or_false] at hm
          rcases hm with ((hm | hm) | hm) | hm
          · exact hn.2.1 hm
          · cases hm
          · unfold txtV at hm
            rcases joinC_mem _ hm with e | ⟨x, hx, hm⟩
            · cases e
            · obtain ⟨n, -, rfl⟩ := List.mem_map.1 hx
              exact itoa_no n 42 (by decide) (by decide) hm
          · cases hm
        · cases name with
          | nil => exact absurd rfl hn.1
          | cons a tl => simpa using hn.2.2
    · cases hl
theorem patO_nil : patO [] = none := by decide
theorem patO_open {t : List UInt8} (h : t.head? = some 40) : patO t = none := by
  unfold patO
  split
  · rename_i hs
    rw [if_neg]
    intro ha
    have hn := (actF_name ha).1
    cases t with
    | nil => cases h
    | cons a tl =>
      cases h
      cases hx : (40 :: tl : List UInt8).length - 3 with
      | zero => rw [hx, List.take_zero] at hn; simp [nameF] at hn
      | succ k => rw [hx, List.take_succ_cons] at hn; exact (name_no hn).1 (by simp)
  · rw [if_neg]
    intro hl
    exact (lab_form hl).2.2 h

/-- an element with nothing behind it, with one tree, with two. -/
def leafR (l : List UInt8) (nt : Bool) : Tr Rg := .mk ⟨0, l, nt⟩ []
def starR (x : Tr Rg) : Tr Rg := .mk ⟨3, [], false⟩ [x]
def twoR (k : Int) (x y : Tr Rg) : Tr Rg := .mk ⟨k, [], false⟩ [x, y]
def starsF (s : List UInt8) : Nat → Tr Rg → Nat → Tr Rg × Nat
  | 0, x, n => (x, skR s n)
  | k + 1, x, n => if isB s (skR s n) 42 then starsF s k (starR x) (skR s n + 1) else (x, skR s n)
/-- a test, with or without '!'. -/
def testP (s : List UInt8) (m : Nat) : Except Nat (Tr Rg × Nat) :=
  if isB s (if isB s m 33 then skR s (m + 1) else m) 95 then .ok (leafR [] (isB s m 33), (if isB s m 33 then skR s (m + 1) else m) + 1)
  else match labF s (if isB s m 33 then skR s (m + 1) else m) with
    | none => .error (if isB s m 33 then skR s (m + 1) else m)
    | some (l, e) => .ok (leafR l (isB s m 33), e)
mutual
def atomF (s : List UInt8) : Nat → Nat → Except Nat (Tr Rg × Nat)
  | 0, n => .error n
  | k + 1, n =>
    if isB s (skR s n) 40 then
      match eitherF s k (skR s n + 1) with
      | .error e => .error e
      | .ok (x, p) => if isB s p 41 then .ok (starsF s s.length x (p + 1)) else .error p
    else match testP s (skR s n) with
      | .error e => .error e
      | .ok (x, p) => .ok (starsF s s.length x p)
def thenF (s : List UInt8) : Nat → Nat → Except Nat (Tr Rg × Nat)
  | 0, n => .error n
  | k + 1, n =>
    match atomF s k n with
    | .error e => .error e
    | .ok (x, p) =>
      if isB s p 46 then
        match thenF s k (p + 1) with
        | .error e => .error e
        | .ok (y, q) => .ok (twoR 1 x y, q)
      else .ok (x, p)
def eitherF (s : List UInt8) : Nat → Nat → Except Nat (Tr Rg × Nat)
  | 0, n => .error n
  | k + 1, n =>
    match thenF s k n with
    | .error e => .error e
    | .ok (x, p) =>
      if isB s p 43 then
        match eitherF s k (p + 1) with
        | .error e => .error e
        | .ok (y, q) => .ok (twoR 2 x y, q)
      else .ok (x, p)
end

/-- an offset behind what was read, no blank at it. -/
def PosOk (s : List UInt8) (n p : Nat) : Prop := n < p ∧ p ≤ s.length ∧ skR s p = p
theorem starsF_pos {s : List UInt8} : ∀ (k : Nat) (x : Tr Rg) (n : Nat), n ≤ s.length → n ≤ (starsF s k x n).2 ∧ (starsF s k x n).2 ≤ s.length ∧ skR s (starsF s k x n).2 = (starsF s k x n).2
  | 0, x, n, h => ⟨(skR_le h).1, (skR_le h).2, skR_idem h⟩
  | k + 1, x, n, h => by
    rw [starsF]
    split
    · rename_i hb
      have hlt := isB_lt hb
      have := (skR_le h).1
      obtain ⟨h1, h2, h3⟩ := starsF_pos (s := s) k (starR x) (skR s n + 1) (by omega)
      exact ⟨by omega, h2, h3⟩
    · exact ⟨(skR_le h).1, (skR_le h).2, skR_idem h⟩
theorem labF_pos {s : List UInt8} {n : Nat} {t : List UInt8} {e : Nat} (hn : n ≤ s.length) (h : labF s n = some (t, e)) : n < e ∧ e ≤ s.length := by
  unfold labF at h
  have hw := wordE_le hn
  split at h
  · split at h
    · rename_i hlt
      have := (runE_le (p := (· != (41 : UInt8))) hw.2).1
      cases hp : patO (cutS s n (runE (· != 41) s (wordE s n) + 1)) with
      | none => rw [hp] at h; cases h
      | some t' => rw [hp] at h; cases h; omega
    · cases h
  · cases hp : patO (cutS s n (wordE s n)) with
    | none => rw [hp] at h; cases h
    | some t' =>
      rw [hp] at h; cases h
      refine ⟨?_, hw.2⟩
      rcases Nat.lt_or_ge n (wordE s n) with h9 | h9
      · exact h9
      · have : cutS s n (wordE s n) = [] := by unfold cutS; rw [show wordE s n - n = 0 by omega]; rfl
        rw [this, patO_nil] at hp; cases hp
theorem testP_pos {s : List UInt8} {m : Nat} {x : Tr Rg} {p : Nat} (hm : m ≤ s.length) (h : testP s m = .ok (x, p)) : m < p ∧ p ≤ s.length := by
  unfold testP at h
  have h2 : m ≤ (if isB s m 33 then skR s (m + 1) else m) ∧ (if isB s m 33 then skR s (m + 1) else m) ≤ s.length := by
    split
    · rename_i hb
      have := isB_lt hb
      have := skR_le (s := s) (n := m + 1) (by omega)
      omega
    · omega
  generalize (if isB s m 33 then skR s (m + 1) else m) = m2 at *
  split at h
  · rename_i hb; cases h; have := isB_lt hb; omega
  · split at h
    · cases h
    · rename_i l e hl; cases h; have := labF_pos h2.2 hl; omega
mutual
theorem atomF_pos {s : List UInt8} : ∀ (k n : Nat) (x : Tr Rg) (p : Nat), n ≤ s.length → atomF s k n = .ok (x, p) → PosOk s n p
  | 0, n, x, p, hn, h => by simp [atomF] at h
  | k + 1, n, x, p, hn, h => by
    have hs := skR_le hn
    rw [atomF] at h
    split at h
    · rename_i hb
      have hlt := isB_lt hb
      cases he : eitherF s k (skR s n + 1) with
      | error e => rw [he] at h; cases h
      | ok r =>
        obtain ⟨y, q⟩ := r
        rw [he] at h
        have hq := eitherF_pos k _ y q (by omega) he
        simp only at h
        split at h
        · rename_i hb2
          have := isB_lt hb2
          have h3 := starsF_pos (s := s) s.length y (q + 1) (by omega)
          simp only [Except.ok.injEq] at h
          rw [h] at h3
          exact ⟨by have := hq.1; omega, h3.2.1, h3.2.2⟩
        · cases h
    · cases ht : testP s (skR s n) with
      | error e => rw [ht] at h; cases h
      | ok r =>
        obtain ⟨y, q⟩ := r
        rw [ht] at h
        have hq := testP_pos hs.2 ht
        have h3 := starsF_pos (s := s) s.length y q hq.2
        simp only [Except.ok.injEq] at h
        rw [h] at h3
        exact ⟨by omega, h3.2.1, h3.2.2⟩
theorem thenF_pos {s : List UInt8} : ∀ (k n : Nat) (x : Tr Rg) (p : Nat), n ≤ s.length → thenF s k n = .ok (x, p) → PosOk s n p
  | 0, n, x, p, hn, h => by simp [thenF] at h
  | k + 1, n, x, p, hn, h => by
    rw [thenF] at h
    cases he : atomF s k n with
    | error e => rw [he] at h; cases h
    | ok r =>
      obtain ⟨y, q⟩ := r
      rw [he] at h
      have hq := atomF_pos k n y q hn he
      simp only at h
      split at h
      · rename_i hb
        have := isB_lt hb
        cases h2 : thenF s k (q + 1) with
        | error e => rw [h2] at h; cases h
        | ok r2 =>
          obtain ⟨y2, q2⟩ := r2
          rw [h2] at h
          have hq2 := thenF_pos k _ y2 q2 (by omega) h2
          cases h
          exact ⟨by have := hq.1; have := hq2.1; omega, hq2.2⟩
      · cases h; exact hq
theorem eitherF_pos {s : List UInt8} : ∀ (k n : Nat) (x : Tr Rg) (p : Nat), n ≤ s.length → eitherF s k n = .ok (x, p) → PosOk s n p
  | 0, n, x, p, hn, h => by simp [eitherF] at h
  | k + 1, n, x, p, hn, h => by
    rw [eitherF] at h
    cases he : thenF s k n with
    | error e => rw [he] at h; cases h
    | ok r =>
      obtain ⟨y, q⟩ := r
      rw [he] at h
      have hq := thenF_pos k n y q hn he
      simp only at h
      split at h
      · rename_i hb
        have := isB_lt hb
        cases h2 : eitherF s k (q + 1) with
        | error e => rw [h2] at h; cases h
        | ok r2 =>
          obtain ⟨y2, q2⟩ := r2
          rw [h2] at h
          have hq2 := eitherF_pos k _ y2 q2 (by omega) h2
          cases h
          exact ⟨by have := hq.1; have := hq2.1; omega, hq2.2⟩
      · cases h; exact hq
end

end Go.Proofs.YtaahjpmndkcijaaGreatDoor

/-
  Regular expressions parsed, plainly: both sides' ways to read a pattern agree; parts joined by an operator.
-/
namespace Go.Proofs.YtaahjpmndkcijaaGreatDoor
open Go.RowKit

theorem tw_head {p r u q : List UInt8} (hp : (40 : UInt8) ∉ p) (hu : (40 : UInt8) ∉ u) (h : p ++ 40 :: r = u ++ 40 :: q) : p = u := by
  induction p generalizing u with
  | nil =>
    cases u with
    | nil => rfl
    | cons b u => simp at h; exact absurd (by rw [h.1]; simp) hu
  | cons a p ih =>
    cases u with
    | nil => simp at h; exact absurd (by rw [h.1]; simp) hp
    | cons b u =>
      simp only [List.cons_append, List.cons.injEq] at h
      rw [h.1, ih (fun hm => hp (List.mem_cons_of_mem _ hm)) (fun hm => hu (List.mem_cons_of_mem _ hm)) h.2]
theorem suffix_at {t : List UInt8} (h : Lib.hasSuffix t [40, 42, 41] = true) : t = t.take (t.length - 3) ++ [40, 42, 41] := by
  have h' : ([40, 42, 41] : List UInt8) <:+ t := by simpa [Lib.hasSuffix] using h
  obtain ⟨u, rfl⟩ := h'
  simp
theorem suffix_mk (u : List UInt8) : Lib.hasSuffix (u ++ [40, 42, 41]) [40, 42, 41] = true := by simp [Lib.hasSuffix]
/-- the pattern of a token that a name begins, as the reference reads it. -/
def labQ (name t : List UInt8) : List UInt8 := if t = name ++ [40, 42, 41] then name ++ [42] else t
theorem patO_eq {name r : List UInt8} (h40 : (40 : UInt8) ∉ name) (hr : r = [] ∨ r.head? = some 40) (h1 : name ≠ []) (hl : (name ++ r).getLast? ≠ some 42) :
    patO (name ++ r) = (if (labQ name (name ++ r) != []) && patF (labQ name (name ++ r)) then some (labQ name (name ++ r)) else none) := by
  by_cases hx : r = [40, 42, 41]
  · subst hx
    have e : labQ name (name ++ [40, 42, 41]) = name ++ [42] := by unfold labQ; rw [if_pos rfl]
    have e2 : isLab (name ++ [42]) = false := by
      cases hc : isLab (name ++ [42]) with
      | false => rfl
      | true => exact absurd (by simp) (lab_form hc).2.1
    have e3 : patF (name ++ [42]) = actF name := by unfold patF; rw [e2]; simp
    rw [e, e3]
    unfold patO
    rw [if_pos (suffix_mk name)]
    have : (name ++ [40, 42, 41]).take ((name ++ [40, 42, 41]).length - 3) = name := by simp
    rw [this]
    simp
  · have e : labQ name (name ++ r) = name ++ r := by unfold labQ; rw [if_neg (by simpa using hx)]
    rw [e]
    have hne : name ++ r ≠ [] := by simp [h1]
    have e3 : patF (name ++ r) = isLab (name ++ r) := by
      have b1 : ((name ++ r) == ([] : List UInt8)) = false := by simpa using fun h => absurd h h1
      have b2 : ((name ++ r).getLast? == some 42) = false := by simpa using hl
      unfold patF; rw [b1, b2]; simp
    rw [e3]
    have b3 : ((name ++ r) != ([] : List UInt8)) = true := by simp [h1]
    rw [b3, Bool.true_and]
    unfold patO
    split
    · rename_i hs
      have hu := suffix_at hs
      have hlf : isLab (name ++ r) = false := by
        cases hc : isLab (name ++ r) with
        | false => rfl
        | true => exact absurd (by rw [hu]; simp) (lab_form hc).2.1
      rw [hlf]
      generalize hU : (name ++ r).take ((name ++ r).length - 3) = u at *
      rw [if_neg]
      · simp
      · intro ha
        have hnu := (name_no (actF_name ha).1).1
        rcases hr with rfl | hr
        · rw [List.append_nil] at hu; exact h40 (by rw [hu]; simp)
        · obtain ⟨r', rfl⟩ : ∃ r', r = 40 :: r' := by cases r with | nil => cases hr | cons a r => cases hr; exact ⟨r, rfl⟩
          have := tw_head h40 hnu (r := r') (q := [42, 41]) hu
          subst this
          exact hx (by simpa using hu)
    · rfl

theorem cutS_split {s : List UInt8} {a b c : Nat} (h1 : a ≤ b) (h2 : b ≤ c) : cutS s a c = cutS s a b ++ cutS s b c := by
  unfold cutS
  rw [show c - a = (b - a) + (c - b) by omega, List.take_add, List.drop_drop, show a + (b - a) = b by omega]
theorem cutS_len {s : List UInt8} {a b : Nat} (h2 : b ≤ s.length) : (cutS s a b).length = b - a := by
  unfold cutS; rw [List.length_take, List.length_drop]; omega
theorem cutS_get {s : List UInt8} {a b j : Nat} (h : j < (cutS s a b).length) : ∃ h2 : a + j < s.length, (cutS s a b)[j] = s[a + j] ∧ a + j < b := by
  unfold cutS at h ⊢
  rw [List.length_take, List.length_drop] at h
  refine ⟨by omega, ?_, by omega⟩
  rw [List.getElem_take, List.getElem_drop]
theorem word_all {s : List UInt8} {n : Nat} (hn : n ≤ s.length) : ∀ c ∈ cutS s n (wordE s n), wch c = true := by
  intro c hc
  obtain ⟨j, hj, rfl⟩ := List.mem_iff_getElem.1 hc
  obtain ⟨h1, h2, h3⟩ := cutS_get hj
  rw [h2]
  unfold wordE at h3
  split at h3
  · rename_i ha
    have hlt : n < s.length := by omega
    rw [List.getElem?_eq_getElem hlt] at ha
    cases j with
    | zero => simp only [Nat.add_zero] at *; unfold wch; rw [show sml s[n] = true from ha]; rfl
    | succ j => exact runE_run (p := wch) _ (n + 1) (Nat.le_refl _) (by omega) (n + (j + 1)) (by omega) h3 h1
  · omega
/-- the pattern at n, as the reference reads it. -/
theorem labF_eq {s : List UInt8} {n : Nat} (hn : n < s.length) (hs : sml s[n] = true) :
    n < wordE s n ∧ wordE s n ≤ s.length ∧ wordE s n = runE wch s (n + 1) ∧
    labF s n = if isB s (wordE s n) 40 then (if runE (· != 41) s (wordE s n) < s.length then
        (if (labQ (cutS s n (wordE s n)) (cutS s n (runE (· != 41) s (wordE s n) + 1)) != []) && patF (labQ (cutS s n (wordE s n)) (cutS s n (runE (· != 41) s (wordE s n) + 1))) then some (labQ (cutS s n (wordE s n)) (cutS s n (runE (· != 41) s (wordE s n) + 1)), runE (· != 41) s (wordE s n) + 1) else none) else none)
      else (if (labQ (cutS s n (wordE s n)) (cutS s n (wordE s n)) != []) && patF (labQ (cutS s n (wordE s n)) (cutS s n (wordE s n))) then some (labQ (cutS s n (wordE s n)) (cutS s n (wordE s n)), wordE s n) else none) := by
  have hw := wordE_le (s := s) (n := n) (by omega)
  have he : wordE s n = runE wch s (n + 1) := by unfold wordE; rw [List.getElem?_eq_getElem hn, if_pos (by simpa using hs)]
  have hlt : n < wordE s n := by have := (runE_le (p := wch) (s := s) (n := n + 1) (by omega)).1; omega
  refine ⟨hlt, hw.2, he, ?_⟩
  have hall := word_all (s := s) (n := n) (by omega)
  have h40 : (40 : UInt8) ∉ cutS s n (wordE s n) := fun h => absurd (hall _ h) (by decide)
  have h42 : (42 : UInt8) ∉ cutS s n (wordE s n) := fun h => absurd (hall _ h) (by decide)
  have hne : cutS s n (wordE s n) ≠ [] := fun h => by have := cutS_len (s := s) (a := n) hw.2; rw [h] at this; simp at this; omega
  unfold labF
  by_cases hb : isB s (wordE s n) 40 = true
  · rw [if_pos hb, if_pos hb]
    have hwl := isB_lt hb
    have hr := runE_le (p := (· != (41 : UInt8))) hw.2
    by_cases hc : runE (· != 41) s (wordE s n) < s.length
    · rw [if_pos hc, if_pos hc]
      have hnot := runE_not (p := (· != (41 : UInt8))) _ (wordE s n) (Nat.le_refl _) hw.2 hc
      have h41 : s[runE (· != 41) s (wordE s n)] = 41 := by simpa using hnot
      have hsp := cutS_split (s := s) (a := n) (b := wordE s n) (c := runE (· != 41) s (wordE s n) + 1) (by omega) (by omega)
      have hhd : (cutS s (wordE s n) (runE (· != 41) s (wordE s n) + 1)).head? = some 40 := by
        unfold cutS
        rw [List.drop_eq_getElem_cons hwl, show runE (· != 41) s (wordE s n) + 1 - wordE s n = (runE (· != 41) s (wordE s n) - wordE s n) + 1 by omega, List.take_succ_cons, List.head?_cons]
        rw [isB_at hwl] at hb; simpa using hb
      have hlast : (cutS s n (wordE s n) ++ cutS s (wordE s n) (runE (· != 41) s (wordE s n) + 1)).getLast? ≠ some 42 := by
        rw [← hsp]
        have hl := cutS_len (s := s) (a := n) (b := runE (· != 41) s (wordE s n) + 1) (by omega)
        rw [List.getLast?_eq_getElem?]
        have hj : (cutS s n (runE (· != 41) s (wordE s n) + 1)).length - 1 < (cutS s n (runE (· != 41) s (wordE s n) + 1)).length := by omega
        rw [List.getElem?_eq_getElem hj]
        obtain ⟨g1, g2, -⟩ := cutS_get hj
        rw [g2]
        have : n + ((cutS s n (runE (· != 41) s (wordE s n) + 1)).length - 1) = runE (· != 41) s (wordE s n) := by omega
        simp only [this, h41]
        decide
      have := patO_eq h40 (Or.inr hhd) hne hlast
      rw [← hsp] at this
      rw [this]
      split <;> rfl
    · rw [if_neg hc, if_neg hc]
  · rw [if_neg hb, if_neg hb]
    have hlast : (cutS s n (wordE s n) ++ []).getLast? ≠ some 42 := by
      rw [List.append_nil]
      intro h
      exact h42 (List.mem_of_getLast? h)
    have := patO_eq h40 (Or.inl rfl) hne hlast
    rw [List.append_nil] at this
    rw [this]
    split <;> rfl
theorem labF_no {s : List UInt8} {n : Nat} (h : (s[n]?).any sml = false) : labF s n = none := by
  have hw : wordE s n = n := by unfold wordE; rw [h]; rfl
  unfold labF
  rw [hw]
  by_cases hb : isB s n 40 = true
  · rw [if_pos hb]
    have hlt := isB_lt hb
    split
    · have hr := (runE_le (p := (· != (41 : UInt8))) (s := s) (n := n) (by omega)).1
      rw [patO_open]
      · rfl
      · unfold cutS
        rw [List.drop_eq_getElem_cons hlt, show runE (· != 41) s n + 1 - n = (runE (· != 41) s n - n) + 1 by omega, List.take_succ_cons, List.head?_cons]
        rw [isB_at hlt] at hb; simpa using hb
    · rfl
  · rw [if_neg hb]
    have : cutS s n n = [] := by unfold cutS; rw [Nat.sub_self]; rfl
    rw [this, patO_nil]; rfl

/-- parts, an operator ahead of each, and what follows. -/
def chP' (op : Rg) (P : List (List Rg)) (l : List Rg) : List Rg := P.foldr (fun x acc => op :: (x ++ acc)) l
theorem chP_push (op : Rg) (P : List (List Rg)) (x l : List Rg) : chP' op (P ++ [x]) l = chP' op P (op :: (x ++ l)) := by
  unfold chP'; rw [List.foldr_append]; rfl
/-- all parts joined. -/
def chainF (op : Rg) : List (List Rg) → List Rg
  | [] => []
  | [x] => x
  | x :: y :: r => op :: (x ++ chainF op (y :: r))
theorem chain_push (op : Rg) : ∀ (P : List (List Rg)) (x : List Rg), chainF op (P ++ [x]) = chP' op P x
  | [], x => rfl
  | [y], x => by simp [chainF, chP']
  | y :: z :: r, x => by
    have := chain_push op (z :: r) x
    rw [List.cons_append, List.cons_append, chainF, show z :: (r ++ [x]) = z :: r ++ [x] from rfl, this]
    rfl
/-- what is parsed, as elements in order. -/
def flR : Except Nat (Tr Rg × Nat) → Except Nat (List Rg × Nat)
  | .error e => .error e
  | .ok (x, p) => .ok (flatT x, p)
/-- what is parsed behind parts that stand already. -/
def flP (op : Rg) (P : List (List Rg)) : Except Nat (Tr Rg × Nat) → Except Nat (List Rg × Nat)
  | .error e => .error e
  | .ok (x, p) => .ok (chP' op P (flatT x), p)
theorem flP_nil (op : Rg) (r : Except Nat (Tr Rg × Nat)) : flP op [] r = flR r := by cases r <;> rfl

end Go.Proofs.YtaahjpmndkcijaaGreatDoor

/-
  Regular expressions parsed, plainly: how many elements a text gives.
-/
namespace Go.Proofs.YtaahjpmndkcijaaGreatDoor
open Go.RowKit

theorem starsF_len {s : List UInt8} : ∀ (k : Nat) (x : Tr Rg) (n : Nat), n ≤ s.length → (flatT (starsF s k x n).1).length + n ≤ (flatT x).length + (starsF s k x n).2
  | 0, x, n, h => by have := (skR_le h).1; rw [starsF]; simp only; omega
  | k + 1, x, n, h => by
    have h1 := (skR_le h).1
    rw [starsF]
    split
    · rename_i hb
      have hlt := isB_lt hb
      have := starsF_len (s := s) k (starR x) (skR s n + 1) (by omega)
      have e : (flatT (starR x)).length = (flatT x).length + 1 := by simp [starR, flatT, flatTs]
      omega
    · simp only; omega
theorem testP_len {s : List UInt8} {m : Nat} {x : Tr Rg} {p : Nat} (h : testP s m = .ok (x, p)) : (flatT x).length = 1 := by
  unfold testP at h
  generalize (if isB s m 33 then skR s (m + 1) else m) = m2 at *
  split at h
  · cases h; rfl
  · split at h
    · cases h
    · cases h; rfl
mutual
theorem atomF_len {s : List UInt8} : ∀ (k n : Nat) (x : Tr Rg) (p : Nat), n ≤ s.length → atomF s k n = .ok (x, p) → (flatT x).length + n ≤ p
  | 0, n, x, p, hn, h => by simp [atomF] at h
  | k + 1, n, x, p, hn, h => by
    have hs := skR_le hn
    rw [atomF] at h
    split at h
    · rename_i hb
      have hlt := isB_lt hb
      cases he : eitherF s k (skR s n + 1) with
      | error e => rw [he] at h; cases h
      | ok r =>
        obtain ⟨y, q⟩ := r
        rw [he] at h
        have hq := eitherF_pos k _ y q (by omega) he
        have hl := eitherF_len k _ y q (by omega) he
        simp only at h
        split at h
        · rename_i hb2
          have := isB_lt hb2
          have h3 := starsF_len (s := s) s.length y (q + 1) (by omega)
          simp only [Except.ok.injEq] at h
          rw [h] at h3
          simp only at h3
          omega
        · cases h
    · cases ht : testP s (skR s n) with
      | error e => rw [ht] at h; cases h
      | ok r =>
        obtain ⟨y, q⟩ := r
        rw [ht] at h
        have hq := testP_pos hs.2 ht
        have hl := testP_len ht
        have h3 := starsF_len (s := s) s.length y q hq.2
        simp only [Except.ok.injEq] at h
        rw [h] at h3
        simp only at h3
        omega
theorem thenF_len {s : List UInt8} : ∀ (k n : Nat) (x : Tr Rg) (p : Nat), n ≤ s.length → thenF s k n = .ok (x, p) → (flatT x).length + n ≤ p
  | 0, n, x, p, hn, h => by simp [thenF] at h
  | k + 1, n, x, p, hn, h => by
    rw [thenF] at h
    cases he : atomF s k n with
    | error e => rw [he] at h; cases h
    | ok r =>
      obtain ⟨y, q⟩ := r
      rw [he] at h
      have hl := atomF_len k n y q hn he
      simp only at h
      split at h
      · rename_i hb
        have := isB_lt hb
        cases h2 : thenF s k (q + 1) with
        | error e => rw [h2] at h; cases h
        | ok r2 =>
          obtain ⟨y2, q2⟩ := r2
          rw [h2] at h
          have hl2 := thenF_len k _ y2 q2 (by omega) h2
          cases h
          simp only [twoR, flatT, flatTs, List.append_nil, List.length_cons, List.length_append]
          omega
      · cases h; exact hl
theorem eitherF_len {s : List UInt8} : ∀ (k n : Nat) (x : Tr Rg) (p : Nat), n ≤ s.length → eitherF s k n = .ok (x, p) → (flatT x).length + n ≤ p
  | 0, n, x, p, hn, h => by simp [eitherF] at h
  | k + 1, n, x, p, hn, h => by
    rw [eitherF] at h
    cases he : thenF s k n with
    | error e => rw [he] at h; cases h
    | ok r =>
      obtain ⟨y, q⟩ := r
      rw [he] at h
      have hl := thenF_len k n y q hn he
      simp only at h
      split at h
      · rename_i hb
        have := isB_lt hb
        cases h2 : eitherF s k (q + 1) with
        | error e => rw [h2] at h; cases h
        | ok r2 =>
          obtain ⟨y2, q2⟩ := r2
          rw [h2] at h
          have hl2 := eitherF_len k _ y2 q2 (by omega) h2
          cases h
          simp only [twoR, flatT, flatTs, List.append_nil, List.length_cons, List.length_append]
          omega
      · cases h; exact hl
end

/-- an expression of any length, from n on. -/
abbrev regP (s : List UInt8) (n : Nat) : Except Nat (Tr Rg × Nat) := eitherF s (3 * s.length + 3) n
end Go.Proofs.YtaahjpmndkcijaaGreatDoor

/-
  The laws' helper functions over lists of nodes.
-/
namespace Go.Proofs.YtaahjpmndkcijaaGreatDoor
open Go.RowKit Go.ChangeShapes

abbrev R_F1 : Rp (List Nd) := slF 4 (fun t => [ei t.kd, ei t.vr, es t.lb, .bool t.nt])
theorem R_F1k : Kept R_F1 := slF_kept _ _
def mkF_F1 (x : List Nd) : Int := 4 * x.length
theorem mkF_F1_nonneg (x : List Nd) : 0 ≤ mkF_F1 x := by unfold mkF_F1; omega
theorem Tryz.infoNd : (Tryz.prog.info? 58).map (fun i => (i.zero, i.size, i.bytes)) = some (some (.agg #[.int .i64 0, .int .i64 0, .string ⟨#[]⟩, .bool false]), 4, 40) := by kernel_rfl

set_option maxRecDepth 20000 in
set_option maxHeartbeats 800000 in
theorem eqNode (a b : Int) (c : List UInt8) (d : Bool) (w : World) : Calls Tryz.prog 25 #[.agg #[ei a, ei b, es c, .bool d], .agg #[ei a, ei b, es c, .bool d]] w fun e w' => e = .returned (.bool true) ∧ Upd [] w w' := by
  have h1 : (a != a) = false := by simp
  have h2 : (b != b) = false := by simp
  have h3 : (c != c) = false := by simp
  have h3' : (c == c) = true := by simp
  have h4 : (d != d) = false := by simp
  have h4' : (d == d) = true := by simp
  go_enter Tryz.func25, Tryz.ntmps25
  go_wp2
  go_ret
  exact ⟨rfl, ((Upd.refl _ _).alloc _).alloc _⟩

set_option maxRecDepth 20000 in
set_option maxHeartbeats 800000 in
theorem eq_F1 (v1 v2 : Value) (xs : List Nd) (w : World) (f1 f2 : List Nat) (h1 : R_F1 f1 w [v1] xs) (h2 : R_F1 f2 w [v2] xs) :
    Calls Tryz.prog 12 #[v1, v2] w fun e w' => e = .returned (.bool true) ∧ Upd [] w w' := by
  obtain ⟨a1, c1, rfl, hl1, hm1, hc1⟩ := slF4_open h1
  obtain ⟨a2, c2, rfl, hl2, hm2, hc2⟩ := slF4_open h2
  unfold maxLen at hm1 hm2
  have HC1 := Lib.hid hc1
  have HC2 := Lib.hid hc2
  have hbe : ((xs.length : Int) != (xs.length : Int)) = false := by simp
  clear h1 h2 hc1 hc2
  go_enter Tryz.func12, Tryz.ntmps12
  go_wp2
  go_loopw [5] (fun i wr => ∃ k : Nat, k ≤ xs.length ∧ i = .int .i64 k ∧ Upd [] w wr) (fun i _ => xs.length - (intOf i).toNat)
  case atStart => exact ⟨0, Nat.zero_le _, rfl, Upd.refl _ _⟩
  case round =>
    obtain ⟨k, hk, rfl, hU⟩ := hrel
    by_cases hlt : k < xs.length
    · obtain ⟨b1, o1, rfl, -, hb1, p1, p2, p3, p4⟩ := HC1.out k hlt
      obtain ⟨b2, o2, rfl, -, hb2, p5, p6, p7, p8⟩ := HC2.out k hlt
      have q1 := hU.keep p1
      have q2 := hU.keep p2
      have q3 := hU.keep p3
      have q4 := hU.keep p4
      have q5 := hU.keep p5
      have q6 := hU.keep p6
      have q7 := hU.keep p7
      have q8 := hU.keep p8
      have HU := Lib.hid hU
      clear p1 p2 p3 p4 p5 p6 p7 p8 hU
      generalize xs[k] = x at *
      obtain ⟨x1, x2, x3, x4⟩ := x
      simp only at q1 q2 q3 q4 q5 q6 q7 q8
      have S1 := Lib.hid (fun W => eqNode x1 x2 x3 x4 W)
      go_wp2
      go_region_held3 (fun w' => w'.cell? ⟨b1, o1 + k * 4, none⟩ = some (ei x1) ∧ w'.cell? ⟨b1, o1 + k * 4 + 1, none⟩ = some (ei x2) ∧ w'.cell? ⟨b1, o1 + k * 4 + 2, none⟩ = some (es x3) ∧ w'.cell? ⟨b1, o1 + k * 4 + 3, none⟩ = some (.bool x4) ∧ w'.cell? ⟨b2, o2 + k * 4, none⟩ = some (ei x1) ∧ w'.cell? ⟨b2, o2 + k * 4 + 1, none⟩ = some (ei x2) ∧ w'.cell? ⟨b2, o2 + k * 4 + 2, none⟩ = some (es x3) ∧ w'.cell? ⟨b2, o2 + k * 4 + 3, none⟩ = some (.bool x4)) (go_keep) (((with_reducible refine (S1.out _).mono ?_); rintro e w1 ⟨rfl, hu1⟩; have t1 := hu1.keep q1; have t2 := hu1.keep q2; have t3 := hu1.keep q3; have t4 := hu1.keep q4; have t5 := hu1.keep q5; have t6 := hu1.keep q6; have t7 := hu1.keep q7; have t8 := hu1.keep q8))
      have HU1 := Lib.hid (HU.out.drew.trans hu1)
      clear hu1 HU
      go_wp2_with fail
      go_roundw
      case rel => exact ⟨k + 1, by omega, by go_num, HU1.out⟩
      case measure => simp [intOf]; omega
    · have hge : xs.length ≤ k := by omega
      go_wp2
      go_ret
      exact ⟨rfl, hU⟩

end Go.Proofs.YtaahjpmndkcijaaGreatDoor

/-
  The program's checks of a node and of a formula's shape: what the calls return.
-/
namespace Go.Proofs.YtaahjpmndkcijaaGreatDoor
open Go.RowKit

end Go.Proofs.YtaahjpmndkcijaaGreatDoor

/-
  Formulas as trees: the nodes of a tree in order; a tree out of nodes: what each call returns and makes.
-/
namespace Go.Proofs.YtaahjpmndkcijaaGreatDoor
open Go.RowKit

abbrev encN (t : Nd) : List Value := [ei t.kd, ei t.vr, es t.lb, .bool t.nt]
theorem Below.keepX {α : Type} {R : Rp α} (K : Kept R) {B : Nat} {w w' : World} {fp cs x} (h : R fp w cs x) (hb : Below B w w') (hf : ∀ b ∈ fp, b < B) : R fp w' cs x :=
  K.frame h hb.size fun b hm => hb.block b (hf b hm)

end Go.Proofs.YtaahjpmndkcijaaGreatDoor

/-
  Formulas parsed, plainly: what is read of a text; the modal formula that replaces a regular modality, on both sides.
-/
namespace Go.Proofs.YtaahjpmndkcijaaGreatDoor
open Go.RowKit

/-- the variable at m and the offset behind it. -/
def vrF (s : List UInt8) (m : Nat) : Option (Int × Nat) :=
  if isB s m 88 then (match smallF 3 (cutS s (m + 1) (runE isDig s (m + 1))) with | some v => some (v, runE isDig s (m + 1)) | none => none) else none

/-- a formula as it is read: with offsets of variables, and regular modalities. -/
inductive Fm where
  | leaf (k : Int)
  | var (v : Int) (at' : Nat)
  | two (k : Int) (a b : Fm)
  | fix (k : Int) (v : Int) (a : Fm)
  | modal (box : Bool) (r : Tr Rg) (at' : Nat) (a : Fm)

def wTrue : List UInt8 := [116, 114, 117, 101]
def wFalse : List UInt8 := [102, 97, 108, 115, 101]
def wMu : List UInt8 := [109, 117]
def wNu : List UInt8 := [110, 117]
mutual
def simF (s : List UInt8) : Nat → Nat → Except Nat (Fm × Nat)
  | 0, n => .error n
  | k + 1, n =>
    if isB s (skR s n) 40 then
      match orF s k (skR s n + 1) with
      | .error e => .error e
      | .ok (f, p) => if isB s p 41 then .ok (f, p + 1) else .error p
    else if isB s (skR s n) 60 || isB s (skR s n) 91 then
      match regP s (skR s n + 1) with
      | .error e => .error e
      | .ok (r, p) =>
        if isB s p (if isB s (skR s n) 91 then 93 else 62) then
          match simF s k (p + 1) with
          | .error e => .error e
          | .ok (f, q) => .ok (.modal (isB s (skR s n) 91) r (skR s n) f, q)
        else .error p
    else match vrF s (skR s n) with
      | some (v, e) => .ok (.var v (skR s n), e)
      | none =>
        if cutS s (skR s n) (wordE s (skR s n)) = wTrue then .ok (.leaf 0, wordE s (skR s n))
        else if cutS s (skR s n) (wordE s (skR s n)) = wFalse then .ok (.leaf 1, wordE s (skR s n))
        else if cutS s (skR s n) (wordE s (skR s n)) = wMu ∨ cutS s (skR s n) (wordE s (skR s n)) = wNu then
          match vrF s (skR s (wordE s (skR s n))) with
          | none => .error (skR s (wordE s (skR s n)))
          | some (v, e) =>
            if isB s (skR s e) 46 then
              match simF s k (skR s e + 1) with
              | .error e => .error e
              | .ok (f, q) => .ok (.fix (if cutS s (skR s n) (wordE s (skR s n)) = wNu then 8 else 7) v f, q)
            else .error (skR s e)
        else .error (skR s n)
def andF (s : List UInt8) : Nat → Nat → Except Nat (Fm × Nat)
  | 0, n => .error n
  | k + 1, n =>
    match simF s k n with
    | .error e => .error e
    | .ok (f, q) =>
      if isB s (skR s q) 38 then
        match andF s k (skR s q + 1) with
        | .error e => .error e
        | .ok (g, p) => .ok (.two 2 f g, p)
      else .ok (f, skR s q)
def orF (s : List UInt8) : Nat → Nat → Except Nat (Fm × Nat)
  | 0, n => .error n
  | k + 1, n =>
    match andF s k n with
    | .error e => .error e
    | .ok (f, p) =>
      if isB s p 124 then
        match orF s k (p + 1) with
        | .error e => .error e
        | .ok (g, q) => .ok (.two 3 f g, q)
      else .ok (f, p)
end

theorem vrF_pos {s : List UInt8} {m : Nat} {v : Int} {e : Nat} (h : vrF s m = some (v, e)) : m < e ∧ e ≤ s.length := by
  unfold vrF at h
  split at h
  · rename_i hb
    have := isB_lt hb
    have h2 := runE_le (p := isDig) (s := s) (n := m + 1) (by omega)
    split at h
    · cases h; omega
    · cases h
  · cases h
theorem wordE_pos {s : List UInt8} {m : Nat} {t : List UInt8} (h : cutS s m (wordE s m) = t) (ht : t ≠ []) : m < wordE s m := by
  rcases Nat.lt_or_ge m (wordE s m) with h1 | h1
  · exact h1
  · exfalso; apply ht; rw [← h]; unfold cutS; rw [show wordE s m - m = 0 by omega]; rfl
mutual
theorem simF_pos {s : List UInt8} : ∀ (k n : Nat) (f : Fm) (p : Nat), n ≤ s.length → simF s k n = .ok (f, p) → n < p ∧ p ≤ s.length
  | 0, n, f, p, hn, h => by simp [simF] at h
  | k + 1, n, f, p, hn, h => by
    have hs := skR_le hn
    rw [simF] at h
    generalize skR s n = m at *
    split at h
    · rename_i hb
      have hlt := isB_lt hb
      cases he : orF s k (m + 1) with
      | error e => rw [he] at h; cases h
      | ok r =>
        obtain ⟨g, q⟩ := r
        rw [he] at h
        have hq := orF_pos k _ g q (by omega) he
        simp only at h
        split at h
        · rename_i hb2
          have := isB_lt hb2
          have := hq.1
          cases h; omega
        · cases h
    · split at h
      · rename_i hb
        have hlt : m < s.length := by
          rw [Bool.or_eq_true] at hb
          rcases hb with hb | hb <;> exact isB_lt hb
        cases he : regP s (m + 1) with
        | error e => rw [he] at h; cases h
        | ok r =>
          obtain ⟨x, q⟩ := r
          rw [he] at h
          have hq := eitherF_pos _ _ x q (by omega) he
          simp only at h
          generalize (if isB s m 91 then (93 : UInt8) else 62) = cb at h
          split at h
          · rename_i hb2
            have := isB_lt hb2
            cases h2 : simF s k (q + 1) with
            | error e => rw [h2] at h; cases h
            | ok r2 =>
              obtain ⟨g, q2⟩ := r2
              rw [h2] at h
              have hq2 := simF_pos k _ g q2 (by omega) h2
              cases h
              have := hq.1
              omega
          · cases h
      · cases hv : vrF s m with
        | some r =>
          obtain ⟨v, e⟩ := r
          rw [hv] at h
          have := vrF_pos hv
          cases h; omega
        | none =>
          rw [hv] at h
          simp only at h
          have hw := wordE_le hs.2
          split at h
          · rename_i hw1
            have := wordE_pos hw1 (by decide)
            cases h; omega
          · split at h
            · rename_i hw1
              have := wordE_pos hw1 (by decide)
              cases h; omega
            · split at h
              · cases hv2 : vrF s (skR s (wordE s m)) with
                | none => rw [hv2] at h; cases h
                | some r =>
                  obtain ⟨v, e⟩ := r
                  rw [hv2] at h
                  have h3 := vrF_pos hv2
                  have h4 := skR_le hw.2
                  have h5 := skR_le h3.2
                  simp only at h
                  split at h
                  · rename_i hb2
                    have := isB_lt hb2
                    cases h2 : simF s k (skR s e + 1) with
                    | error e => rw [h2] at h; cases h
                    | ok r2 =>
                      obtain ⟨g, q2⟩ := r2
                      rw [h2] at h
                      have hq2 := simF_pos k _ g q2 (by omega) h2
                      cases h
                      omega
                  · cases h
              · cases h
theorem andF_pos {s : List UInt8} : ∀ (k n : Nat) (f : Fm) (p : Nat), n ≤ s.length → andF s k n = .ok (f, p) → PosOk s n p
  | 0, n, f, p, hn, h => by simp [andF] at h
  | k + 1, n, f, p, hn, h => by
    rw [andF] at h
    cases he : simF s k n with
    | error e => rw [he] at h; cases h
    | ok r =>
      obtain ⟨y, q⟩ := r
      rw [he] at h
      have hq := simF_pos k n y q hn he
      have hk := skR_le hq.2
      simp only at h
      split at h
      · rename_i hb
        have := isB_lt hb
        cases h2 : andF s k (skR s q + 1) with
        | error e => rw [h2] at h; cases h
        | ok r2 =>
          obtain ⟨y2, q2⟩ := r2
          rw [h2] at h
          have hq2 := andF_pos k _ y2 q2 (by omega) h2
          cases h
          exact ⟨by have := hq2.1; omega, hq2.2⟩
      · cases h; exact ⟨by omega, hk.2, skR_idem hq.2⟩
theorem orF_pos {s : List UInt8} : ∀ (k n : Nat) (f : Fm) (p : Nat), n ≤ s.length → orF s k n = .ok (f, p) → PosOk s n p
  | 0, n, f, p, hn, h => by simp [orF] at h
  | k + 1, n, f, p, hn, h => by
    rw [orF] at h
    cases he : andF s k n with
    | error e => rw [he] at h; cases h
    | ok r =>
      obtain ⟨y, q⟩ := r
      rw [he] at h
      have hq := andF_pos k n y q hn he
      simp only at h
      split at h
      · rename_i hb
        have := isB_lt hb
        cases h2 : orF s k (q + 1) with
        | error e => rw [h2] at h; cases h
        | ok r2 =>
          obtain ⟨y2, q2⟩ := r2
          rw [h2] at h
          have hq2 := orF_pos k _ y2 q2 (by omega) h2
          cases h
          exact ⟨by have := hq2.1; have := hq.1; omega, hq2.2⟩
      · cases h; exact hq
end

/-- the first number that is not used. -/
def frV (used : List Int) : Int := if used.contains 0 then (if used.contains 1 then (if used.contains 2 then 3 else 2) else 1) else 0
def kdB (box : Bool) (d b : Int) : Int := if box then b else d
def ndK (k : Int) : Nd := ⟨k, 0, [], false⟩
def ndV (k v : Int) : Nd := ⟨k, v, [], false⟩
/-- the program's replacement; none where it is too large. -/
def ofF (box : Bool) : Tr Rg → List Int → List Nd → Option (List Nd)
  | .mk n args, used, f =>
    if 30 < f.length then none
    else if n.kd = 0 then some (⟨kdB box 4 5, 0, n.lb, n.nt⟩ :: f)
    else match args with
      | [] => none
      | [a] =>
        if 3 ≤ frV used then none
        else match ofF box a (used ++ [frV used]) [ndV 6 (frV used)] with
          | none => none
          | some i => some (ndV (kdB box 7 8) (frV used) :: ndK (kdB box 3 2) :: (f ++ i))
      | a :: b :: _ =>
        if n.kd = 1 then (match ofF box b used f with | none => none | some g => ofF box a used g)
        else match ofF box a used f with
          | none => none
          | some x => match ofF box b used f with | none => none | some y => some (ndK (kdB box 3 2) :: (x ++ y))
/-- the reference's replacement. -/
def mdF (box : Bool) : Tr Rg → List Int → List Nd → Option (List Nd)
  | .mk n args, used, f =>
    if n.kd = 0 then (if f.length + 1 ≤ 30 then some (⟨kdB box 4 5, 0, n.lb, n.nt⟩ :: f) else none)
    else match args with
      | [] => none
      | [a] =>
        if 3 ≤ frV used then none
        else match mdF box a (used ++ [frV used]) [ndV 6 (frV used)] with
          | none => none
          | some i => if 2 + f.length + i.length ≤ 30 then some (ndV (kdB box 7 8) (frV used) :: ndK (kdB box 3 2) :: (f ++ i)) else none
      | a :: b :: _ =>
        if n.kd = 1 then (match mdF box b used f with | none => none | some g => mdF box a used g)
        else match mdF box a used f with
          | none => none
          | some x => match mdF box b used f with | none => none | some y => if 1 + x.length + y.length ≤ 30 then some (ndK (kdB box 3 2) :: (x ++ y)) else none
def fitF (o : Option (List Nd)) : Option (List Nd) := match o with | some x => if x.length ≤ 30 then some x else none | none => none
theorem fitF_some {x : List Nd} : fitF (some x) = if x.length ≤ 30 then some x else none := rfl
theorem ofF_long (box : Bool) (r : Tr Rg) (used : List Int) (f : List Nd) (h : 30 < f.length) : ofF box r used f = none := by
  obtain ⟨n, args⟩ := r
  rw [ofF.eq_def]; simp [h]
theorem md_of (box : Bool) : ∀ (N : Nat) (r : Tr Rg) (used : List Int) (f : List Nd), (flatT r).length ≤ N → mdF box r used f = fitF (ofF box r used f)
  | 0, r, used, f, h => by have := flatT_pos r; omega
  | N + 1, .mk n args, used, f, h => by
    have hl : (flatTs args).length ≤ N := by simpa [flatT] using h
    rw [mdF.eq_def, ofF.eq_def]
    simp only
    by_cases h30 : 30 < f.length
    · rw [if_pos h30]
      simp only [fitF]
      by_cases h0 : n.kd = 0
      · rw [if_pos h0, if_neg (by omega)]
      · rw [if_neg h0]
        match args, hl with
        | [], _ => rfl
        | [a], hl =>
          simp only
          split
          · rfl
          · cases mdF box a (used ++ [frV used]) [ndV 6 (frV used)] with
            | none => rfl
            | some i => simp only; rw [if_neg (by omega)]
        | a :: b :: c, hl =>
          have hab : (flatT a).length ≤ N ∧ (flatT b).length ≤ N := by simp [flatTs] at hl; omega
          simp only
          rw [md_of box N a used f hab.1, md_of box N b used f hab.2, ofF_long box a used f h30, ofF_long box b used f h30]
          split <;> rfl
    · rw [if_neg h30]
      by_cases h0 : n.kd = 0
      · rw [if_pos h0, if_pos h0, fitF_some]
        rfl
      · rw [if_neg h0, if_neg h0]
        match args, hl with
        | [], _ => rfl
        | [a], hl =>
          have ha : (flatT a).length ≤ N := by simpa [flatTs] using hl
          simp only
          split
          · rfl
          · rw [md_of box N a _ _ ha]
            cases hx : ofF box a (used ++ [frV used]) [ndV 6 (frV used)] with
            | none => rfl
            | some i =>
              simp only [fitF]
              by_cases hi : i.length ≤ 30
              · rw [if_pos hi]
                simp only
                congr 1
                simp; omega
              · rw [if_neg hi, if_neg (by simp; omega)]
        | a :: b :: c, hl =>
          have hab : (flatT a).length ≤ N ∧ (flatT b).length ≤ N := by simp [flatTs] at hl; omega
          simp only
          split
          · rw [md_of box N b used f hab.2]
            cases hx : ofF box b used f with
            | none => rfl
            | some g =>
              simp only [fitF]
              by_cases hg : g.length ≤ 30
              · rw [if_pos hg]
                simp only
                exact md_of box N a used g hab.1
              · rw [if_neg hg, ofF_long box a used g (by omega)]
          · rw [md_of box N a used f hab.1, md_of box N b used f hab.2]
            cases hx : ofF box a used f with
            | none => rfl
            | some x =>
              simp only [fitF]
              by_cases hxl : x.length ≤ 30
              · rw [if_pos hxl]
                simp only
                cases hy : ofF box b used f with
                | none => rfl
                | some y =>
                  simp only
                  by_cases hyl : y.length ≤ 30
                  · rw [if_pos hyl]
                    simp only
                    congr 1
                    simp; omega
                  · rw [if_neg hyl, if_neg (by simp; omega)]
              · rw [if_neg hxl]
                cases hy : ofF box b used f with
                | none => rfl
                | some y => simp only; rw [if_neg (by simp; omega)]

/-- the program's nodes; none where something is too long. -/
def impF : Fm → List Int → Option (List Nd)
  | .leaf k, _ => some [ndK k]
  | .var v _, _ => some [ndV 6 v]
  | .two k a b, u => match impF a u with | none => none | some x => match impF b u with | none => none | some y => some (ndK k :: (x ++ y))
  | .fix k v a, u => match impF a (u ++ [v]) with | none => none | some x => some (ndV k v :: x)
  | .modal box r _ a, u => if 20 < (flatT r).length then none else match impF a u with | none => none | some x => ofF box r u x
/-- the reference's nodes. -/
def bldF : Fm → List Int → Option (List Nd)
  | .leaf k, _ => some [ndK k]
  | .var v _, _ => some [ndV 6 v]
  | .two k a b, u => match bldF a u with | none => none | some x => match bldF b u with | none => none | some y => if 1 + x.length + y.length ≤ 30 then some (ndK k :: (x ++ y)) else none
  | .fix k v a, u => match bldF a (u ++ [v]) with | none => none | some x => if 1 + x.length ≤ 30 then some (ndV k v :: x) else none
  | .modal box r _ a, u => if 20 < (flatT r).length then none else match bldF a u with | none => none | some x => mdF box r u x
theorem bld_imp : ∀ (f : Fm) (u : List Int), bldF f u = fitF (impF f u)
  | .leaf k, u => rfl
  | .var v a, u => rfl
  | .two k a b, u => by
    rw [bldF, impF, bld_imp a u, bld_imp b u]
    cases impF a u with
    | none => rfl
    | some x =>
      simp only [fitF]
      by_cases hx : x.length ≤ 30
      · rw [if_pos hx]
        simp only
        cases impF b u with
        | none => rfl
        | some y =>
          simp only
          by_cases hy : y.length ≤ 30
          · rw [if_pos hy]
            simp only
            congr 1
            simp; omega
          · rw [if_neg hy, if_neg (by simp; omega)]
      · rw [if_neg hx]
        cases impF b u with
        | none => rfl
        | some y => simp only; rw [if_neg (by simp; omega)]
  | .fix k v a, u => by
    rw [bldF, impF, bld_imp a _]
    cases impF a (u ++ [v]) with
    | none => rfl
    | some x =>
      simp only [fitF]
      by_cases hx : x.length ≤ 30
      · rw [if_pos hx]
        simp only
        congr 1
        simp; omega
      · rw [if_neg hx, if_neg (by simp; omega)]
  | .modal box r p a, u => by
    rw [bldF, impF, bld_imp a u]
    split
    · rfl
    · cases impF a u with
      | none => rfl
      | some x =>
        simp only [fitF]
        by_cases hx : x.length ≤ 30
        · rw [if_pos hx]
          simp only
          exact md_of box _ r u x (Nat.le_refl _)
        · rw [if_neg hx, ofF_long box r u x (by omega)]

/-- the offset of the first variable that nothing binds. -/
def freF : Fm → List Int → Option Nat
  | .leaf _, _ => none
  | .var v p, u => if u.contains v then none else some p
  | .two _ a b, u => match freF a u with | some p => some p | none => freF b u
  | .fix _ v a, u => freF a (u ++ [v])
  | .modal _ _ _ a, u => freF a u

end Go.Proofs.YtaahjpmndkcijaaGreatDoor

/-
  slices.Concat of lists of nodes: what the call returns.
-/
namespace Go.Proofs.YtaahjpmndkcijaaGreatDoor
open Go.RowKit

theorem one_F1 (xs : List Nd) : ∀ u ∈ xs.flatMap encN, u.oneCell' = true := by
  intro u hu
  obtain ⟨x, -, hx⟩ := List.mem_flatMap.1 hu
  simp at hx
  rcases hx with rfl | rfl | rfl | rfl <;> rfl
theorem Flat.ofF1 {fp : List Nat} {w : World} {v : Value} {xs : List Nd} (h : R_F1 fp w [v] xs) : Flat fp w v 4 xs.length (xs.flatMap encN) := by
  obtain ⟨v', hv, hf⟩ := h
  cases hv; exact hf

set_option maxRecDepth 20000 in
set_option maxHeartbeats 1000000 in
theorem growNilN (n : Nat) (h0 : 0 < n) (hn : n ≤ 2000000) (w : World) :
    Calls Tryz.prog 49 #[.slice none 0 0, .int .i64 n] w fun e w' => (∃ v', e = .returned v' ∧ w'.ownsRow w.heap.size 58 4 v' 0 []) ∧ Upd [] w w' := by
  obtain ⟨i0, hi, hz0, hz1, hz2⟩ := info_parts Tryz.infoNd
  have hold : (Builtin.firstCells i0.size 0 (.slice none 0 0)).run Tryz.prog w.drew = .ok #[] w.drew := run_firstCells_none w.drew i0.size 0 0 0
  have hrz : ∀ ty, (Builtin.append_ #[28, 3] ty #[.slice none 0 0, .int .i64 (n : Int)]).run Tryz.prog w =
      .ok (.slice (some ⟨w.heap.size, 0, none⟩) n (grownCap w n 0 58)) (w.drew.alloc (.cells ((#[] : Array Value) ++ Builtin.zeroCells (Value.agg #[.int .i64 0, .int .i64 0, .string ⟨#[]⟩, .bool false]).cells n ++ Builtin.zeroCells (Value.agg #[.int .i64 0, .int .i64 0, .string ⟨#[]⟩, .bool false]).cells (grownCap w n 0 58 - n)) 58)) := fun ty => by
    have h := Lib.run_append_grow_zeros w 28 3 ty 58 i0 (.agg #[.int .i64 0, .int .i64 0, .string ⟨#[]⟩, .bool false]) .i64 .i64 Tryz.underlying28 Tryz.underlying3 hi hz0 none 0 0 [] (by simpa using hold) n h0 (by omega) (by omega) (by omega)
      (by rw [hz2]; omega) (growslice_fits (by omega) (by rw [hz2]; omega))
    simpa using h
  have hG := grownCap_ge w n 0 58
  have hG2 := grownCap_le_maxLen w n 0 58 (by unfold maxLen; omega)
  obtain ⟨G, hGe⟩ : ∃ G, G = grownCap w n 0 58 := ⟨_, rfl⟩
  rw [← hGe] at hrz hG hG2
  have HO := Lib.hid (show (w.drew.alloc (.cells ((#[] : Array Value) ++ Builtin.zeroCells (Value.agg #[.int .i64 0, .int .i64 0, .string ⟨#[]⟩, .bool false]).cells n ++ Builtin.zeroCells (Value.agg #[.int .i64 0, .int .i64 0, .string ⟨#[]⟩, .bool false]).cells (G - n)) 58)).ownsRow w.heap.size 58 4 (.slice (some ⟨w.heap.size, 0, none⟩) 0 G) 0 [] from by
    refine ⟨by simp, Or.inr ⟨w.heap.size, G, _, rfl, Nat.le_refl _, heap_alloc_new w.drew _, Nat.zero_le _, hG2, ?_, by simp⟩⟩
    simp [Builtin.zeroCells, Value.cells]; omega)
  have HU := Lib.hid (((Upd.refl [] w).drew).alloc (.cells ((#[] : Array Value) ++ Builtin.zeroCells (Value.agg #[.int .i64 0, .int .i64 0, .string ⟨#[]⟩, .bool false]).cells n ++ Builtin.zeroCells (Value.agg #[.int .i64 0, .int .i64 0, .string ⟨#[]⟩, .bool false]).cells (G - n)) 58))
  unfold maxLen at hG2
  clear hold hGe
  generalize (Obj.cells ((#[] : Array Value) ++ Builtin.zeroCells (Value.agg #[.int .i64 0, .int .i64 0, .string ⟨#[]⟩, .bool false]).cells n ++ Builtin.zeroCells (Value.agg #[.int .i64 0, .int .i64 0, .string ⟨#[]⟩, .bool false]).cells (G - n)) 58) = ob at *
  go_enter Tryz.func49, Tryz.ntmps49
  go_wp2_with (at_builtin; refine Lib.wpList_append_run _ rfl _ _ _ _ rfl _ _ rfl rfl _ _ (hrz _) ?_)
  all_goals
    go_ret
    exact ⟨⟨_, rfl, HO.out⟩, HU.out⟩

def lensN (l : List (List Nd)) : Nat := (l.map List.length).sum
theorem lensN_snoc (l : List (List Nd)) (k : Nat) (h : k < l.length) : lensN (l.take (k + 1)) = lensN (l.take k) + l[k].length := by
  unfold lensN; rw [List.take_succ_eq_append_getElem h, List.map_append, List.sum_append]; simp
theorem lensN_take (l : List (List Nd)) (k : Nat) : lensN (l.take k) ≤ lensN l := by
  conv => rhs; rw [← List.take_append_drop k l]
  unfold lensN; rw [List.map_append, List.sum_append]; omega
theorem lensN_flat (l : List (List Nd)) : l.flatten.length = lensN l := by unfold lensN; rw [List.length_flatten]

set_option maxRecDepth 20000 in
set_option maxHeartbeats 2000000 in
theorem concatN (v : Value) (xss : List (List Nd)) (w : World) (fp : List Nat) (h0 : 0 < lensN xss) (hn : lensN xss ≤ 2000000) (hR : slP R_F1 fp w [v] xss) :
    Calls Tryz.prog 38 #[v] w fun e w' => (∃ v', e = .returned v' ∧ w'.ownsRow w.heap.size 58 4 v' xss.flatten.length (xss.flatten.flatMap encN)) ∧ Upd [] w w' := by
  obtain ⟨i0, hi, hz0, hz1, hz2⟩ := info_parts Tryz.infoNd
  obtain ⟨a, cap, rfl, h1, h2, hc⟩ := slP_open hR
  unfold maxLen at h2
  have HC := Lib.hid hc
  have HSN := Lib.hid (fun k (hk : k < xss.length) => lensN_snoc xss k hk)
  have HTK := Lib.hid (fun k => lensN_take xss k)
  have HFL := Lib.hid (fun k (hk : k < xss.length) => show (xss.take (k + 1)).flatten = (xss.take k).flatten ++ xss[k] by rw [List.take_succ_eq_append_getElem hk, List.flatten_append]; simp)
  have HLF := Lib.hid (fun k => lensN_flat (xss.take k))
  clear hR hc
  go_enter Tryz.func38, Tryz.ntmps38
  go_wp2_with fail
  go_loopw [3, 11] (fun pv iv wr => ∃ (k q : Nat), k ≤ xss.length ∧ iv = .int .i64 k ∧ pv = .int .i64 q ∧ q ≤ 2000000 ∧ Hid (q = lensN (xss.take k)) ∧ wr = w) (fun _ iv _ => xss.length - (intOf iv).toNat)
  case atStart => exact ⟨0, 0, Nat.zero_le _, rfl, rfl, by omega, Lib.hid (by simp [lensN]), rfl⟩
  case round =>
    obtain ⟨k, q, hk, rfl, rfl, hq, HQ, rfl⟩ := hrel
    by_cases hlt : k < xss.length
    · obtain ⟨b, off, u, f, rfl, -, -, p0, -, hr⟩ := HC.out k hlt
      have hkl : (k : Int) < (xss.length : Int) := by omega
      have hs := HSN.out k hlt
      have ht := HTK.out (k + 1)
      have hq2 : q + xss[k].length = lensN (xss.take (k + 1)) := by rw [hs, HQ.out]
      have hq3 : q + xss[k].length ≤ 2000000 := by omega
      have HQ2 := Lib.hid hq2
      obtain ⟨a2, c2, rfl, g1, g2, -⟩ := Flat.ofF1 hr
      unfold maxLen at g2
      clear hs ht hq2 hr
      generalize xss[k].length = m at *
      go_wp2_with fail
      go_roundw
      case rel => exact ⟨k + 1, q + m, by omega, by go_num, by go_num, hq3, HQ2, by first | rfl | trivial⟩
      case measure => simp [intOf]; omega
    · obtain ⟨wo, rfl⟩ : ∃ wo : World, wo = wr := ⟨_, rfl⟩
      obtain rfl : k = xss.length := by omega
      have hq4 := HQ.out
      rw [List.take_length] at hq4
      have S1 := Lib.hid (growNilN q (by omega) hq wo)
      clear hq4 HQ
      go_wp2_with fail
      refine S1.out.mono ?_
      rintro e w1 ⟨⟨v1, rfl, hown⟩, hu1⟩
      have HO := Lib.hid hown
      have HU := Lib.hid hu1
      clear S1 hown hu1
      go_wp2_with fail
      go_loopw [6, 27] (fun cv iv wr => ∃ (k : Nat) (vv : Value), vv = cv ∧ k ≤ xss.length ∧ iv = .int .i64 k ∧ Hid (Upd [] wo wr) ∧ Hid (wr.ownsRow wo.heap.size 58 4 vv (xss.take k).flatten.length ((xss.take k).flatten.flatMap encN))) (fun _ iv _ => xss.length - (intOf iv).toNat)
      case atStart => exact ⟨0, _, rfl, Nat.zero_le _, rfl, HU, Lib.hid (by simpa using HO.out)⟩
      case round =>
        clear HO HU
        obtain ⟨k, vv, rfl, hk, rfl, HU, HO⟩ := hrel
        by_cases hlt : k < xss.length
        · obtain ⟨b, off, u, f, rfl, -, hbl, p0, -, hr⟩ := HC.out k hlt
          have p0 := HU.out.keep p0
          have hkl : (k : Int) < (xss.length : Int) := by omega
          have HF := Lib.hid ((Flat.ofF1 hr).upd HU.out (by simp))
          obtain ⟨a2, c2, rfl, g1, g2, -⟩ := Flat.ofF1 hr
          have hlen : (xss.take k).flatten.length ≤ 2000000 := by rw [HLF.out]; have := HTK.out k; omega
          have hlen2 : (xss.take k).flatten.length + xss[k].length ≤ 2000000 := by
            have := HTK.out (k + 1); have := HSN.out k hlt; rw [HLF.out]; omega
          have HFK := Lib.hid (HFL.out k hlt)
          have HH := Lib.hid HO.out
          have h1H := Lib.hid (one_F1 xss[k])
          have hsz := HU.out.size
          clear hr HO
          go_wp2_with (first
            | (at_builtin; refine wpList_append_flat rfl _ _ 28 rfl wo.heap.size 58 i0 (.agg #[.int .i64 0, .int .i64 0, .string ⟨#[]⟩, .bool false]) 4 40 Tryz.underlying28 hi hz0 hz1 hz2 rfl (by decide) _ _ _ rfl HH.out _ xss[k].length _ rfl _ HF.out h1H.out (by unfold maxLen; omega) (by omega) hsz ?_)
            | fail)
          intro v2 w2 hown2 hg2 ht2
          have HP := Lib.hid (And.intro (show w2.ownsRow wo.heap.size 58 4 v2 (xss.take (k + 1)).flatten.length ((xss.take (k + 1)).flatten.flatMap encN) by
            rw [HFK.out, List.length_append, List.flatMap_append]
            have e9 : (xss.take k).flatten.length = (List.take k (List.map List.length xss)).sum := by rw [List.length_flatten, List.map_take]
            rw [e9]; exact hown2) (HU.out.grown hg2 (fun b hb => Or.inl (HH.out.lt b hb).1)))
          clear hown2 hg2 ht2
          go_wp2_with fail
          go_roundw
          case rel => exact ⟨k + 1, _, rfl, by omega, by go_num, Lib.hid HP.out.2, Lib.hid HP.out.1⟩
          case measure => simp [intOf]; omega
        · obtain rfl : k = xss.length := by omega
          have ho := HO.out
          rw [List.take_length] at ho
          have HR := Lib.hid ho
          clear ho
          go_wp2_with fail
          go_ret
          exact ⟨⟨_, rfl, HR.out⟩, HU.out⟩

end Go.Proofs.YtaahjpmndkcijaaGreatDoor

/-
  Formulas parsed: the program replaces a regular modality by a formula: what each call returns and leaves.
-/
namespace Go.Proofs.YtaahjpmndkcijaaGreatDoor
open Go.RowKit

/-- a list of nodes that lies in blocks of nodes. -/
def NdR (w : World) (v : Value) (f : List Nd) : Prop := ∃ fp, R_F1 fp w [v] f ∧ ∀ b ∈ fp, ∃ c z, w.heap[b]? = some (.cells c 58 z)
theorem row_keepX {w w' : World} {base : Nat} {e : TypeId} {size : Nat} {v : Value} {n : Nat} {xs : List Value} (h : w.ownsRow base e size v n xs) (hk : ∀ g, v.ownBlock = some g → w'.heap[g]? = w.heap[g]?) : w'.ownsRow base e size v n xs := by
  obtain ⟨h1, h2⟩ := h
  refine ⟨h1, ?_⟩
  rcases h2 with h2 | ⟨g, cap, cur, rfl, a1, a2, a3⟩
  · exact Or.inl h2
  · exact Or.inr ⟨g, cap, cur, rfl, a1, (hk g rfl).trans a2, a3⟩
/-- the replacement at Q: box or diamond, the used variables in a row from B on, whether it is full. -/
structure RpS (B Q : Nat) (w : World) (box : Bool) (v : Value) (used : List Int) (full : Bool) : Prop where
  blk : w.heap[Q]? = some (.cells #[.bool box, v, .bool full] 102 (0, 0))
  row : w.ownsRow B 2 1 v used.length (used.map ei)
  ge : B ≤ Q
section
variable {B Q : Nat} {w w' : World} {box : Bool} {v : Value} {used : List Int} {full : Bool} {f : List Nd}
theorem RpS.lt (h : RpS B Q w box v used full) : Q < w.heap.size := (Array.getElem?_eq_some_iff.1 h.blk).1
theorem RpS.cells (h : RpS B Q w box v used full) : w.cell? ⟨Q, 0, none⟩ = some (.bool box) ∧ w.cell? ⟨Q, 1, none⟩ = some v ∧ w.cell? ⟨Q, 2, none⟩ = some (.bool full) ∧ (∀ o, w.frozen? ⟨Q, o, none⟩ = false) := by
  have hb := h.blk
  exact ⟨by simp [World.cell?, hb], by simp [World.cell?, hb], by simp [World.cell?, hb], fun o => by simp [World.frozen?, hb]⟩
theorem RpS.ne (h : RpS B Q w box v used full) : v.ownBlock ≠ some Q := fun e => by
  obtain ⟨c, z, hc⟩ := Lib.ownsRow_kind h.row Q e
  rw [h.blk] at hc
  cases hc
theorem RpS.keep (h : RpS B Q w box v used full) (hu : Upd [] w w') : RpS B Q w' box v used full :=
  ⟨(hu.block Q h.lt (by simp)).trans h.blk, ownsRow_upd h.row hu, h.ge⟩
theorem RpS.setFull (h : RpS B Q w box v used full) (q : Bool) : RpS B Q (w.setCell ⟨Q, 2, none⟩ (.bool q)) box v used q := by
  refine ⟨?_, ?_, h.ge⟩
  · have := heap_setCell_same w Q 2 _ _ (.bool q) h.blk
    simpa using this
  · exact row_keepX h.row (fun g hg => ((Upd.refl [Q] w).setCell (p := ⟨Q, 2, none⟩) (Or.inr (by simp)) (.bool q)).block g (h.row.lt g hg).2 (fun hm => h.ne (by rw [hg]; simpa using hm)))
/-- the blocks that a call may write to. -/
abbrev wrt (Q : Nat) (v : Value) : List Nat := Q :: v.ownBlock.toList
theorem RpS.old (h : RpS B Q w box v used full) : ∀ b ∈ wrt Q v, B ≤ b := fun b hb => by
  simp only [wrt, List.mem_cons, Option.mem_toList] at hb
  rcases hb with rfl | hb
  · exact h.ge
  · exact (h.row.lt b hb).1
theorem RpS.kinds (h : RpS B Q w box v used full) : ∀ b ∈ wrt Q v, ∀ c z, w.heap[b]? ≠ some (.cells c 58 z) := fun b hb c z e => by
  simp only [wrt, List.mem_cons, Option.mem_toList] at hb
  rcases hb with rfl | hb
  · rw [h.blk] at e; cases e
  · obtain ⟨c', z', hc⟩ := Lib.ownsRow_kind h.row b hb
    rw [hc] at e; cases e
theorem NdR.upd {S : List Nat} (h : NdR w v f) (hu : Upd S w w') (hS : ∀ b ∈ S, ∀ c z, w.heap[b]? ≠ some (.cells c 58 z)) : NdR w' v f := by
  obtain ⟨fp, h1, h2⟩ := h
  have hd : ∀ b ∈ fp, b ∉ S := fun b hb hm => by obtain ⟨c, z, hc⟩ := h2 b hb; exact hS b hm c z hc
  exact ⟨fp, R_F1k.upd h1 hu hd, fun b hb => by rw [hu.block b (R_F1k.lt h1 b hb) (hd b hb)]; exact h2 b hb⟩
theorem NdR.row {b0 : Nat} (h : w.ownsRow b0 58 4 v f.length (f.flatMap encN)) : NdR w v f := by
  obtain ⟨fp, q1, q2, q3, q4⟩ := Flat.ofOwns h
  exact ⟨fp, ⟨_, rfl, q1⟩, fun b hb => Lib.ownsRow_kind h b (q4 b hb)⟩
theorem NdR.form (h : NdR w v f) : ∃ a c, v = .slice a f.length c := by
  obtain ⟨fp, ⟨v', hv, a, c, rfl, -⟩, -⟩ := h
  cases hv; exact ⟨a, c, rfl⟩
end

set_option maxRecDepth 20000 in
set_option maxHeartbeats 1000000 in
theorem kindR (B Q : Nat) (w : World) (box : Bool) (v : Value) (used : List Int) (full : Bool) (d b : Int) (h : RpS B Q w box v used full) :
    Calls Tryz.prog 78 #[.pointer (some ⟨Q, 0, none⟩), .int .i64 d, .int .i64 b] w fun e w' => e = .returned (.int .i64 (kdB box d b)) ∧ w = w' := by
  obtain ⟨c0, -, -, -⟩ := h.cells
  cases box with
  | true =>
    go_enter Tryz.func78, Tryz.ntmps78
    go_wp2_with fail
    go_ret
    exact ⟨rfl, rfl⟩
  | false =>
    go_enter Tryz.func78, Tryz.ntmps78
    go_wp2_with fail
    go_ret
    exact ⟨rfl, rfl⟩

/-- what the replacement returns and leaves. -/
def RplR (B Q : Nat) (w : World) (box : Bool) (v : Value) (used : List Int) (full : Bool) (sz : Nat) (r : Option (List Nd)) (e : Ending) (w' : World) : Prop :=
  ∃ (vo vn : Value) (out : List Nd), e = .returned vo ∧ w'.ownsRow w.heap.size 58 4 vo out.length (out.flatMap encN) ∧ out.length ≤ 40 * sz ∧
    RpS B Q w' box vn used (full || r.isNone) ∧ (∀ o, full = false → r = some o → out = o) ∧ Upd (wrt Q v) w w' ∧ (∀ b, vn.ownBlock = some b → v.ownBlock = some b ∨ w.heap.size ≤ b)

theorem frV_at (used : List Int) (k : Nat) (h1 : ∀ j : Nat, j < k → used.contains (j : Int) = true) (h2 : used.contains (k : Int) = false) (h3 : k ≤ 3) : frV used = k := by
  unfold frV
  rcases (by omega : k = 0 ∨ k = 1 ∨ k = 2 ∨ k = 3) with rfl | rfl | rfl | rfl
  · rw [if_neg (by rw [show ((0 : Nat) : Int) = 0 from rfl] at h2; rw [h2]; decide)]; rfl
  · have a0 := h1 0 (by omega)
    rw [if_pos (by simpa using a0), if_neg (by rw [show ((1 : Nat) : Int) = 1 from rfl] at h2; rw [h2]; decide)]; rfl
  · have a0 := h1 0 (by omega)
    have a1 := h1 1 (by omega)
    rw [if_pos (by simpa using a0), if_pos (by simpa using a1), if_neg (by rw [show ((2 : Nat) : Int) = 2 from rfl] at h2; rw [h2]; decide)]; rfl
  · have a0 := h1 0 (by omega)
    have a1 := h1 1 (by omega)
    have a2 := h1 2 (by omega)
    rw [if_pos (by simpa using a0), if_pos (by simpa using a1), if_pos (by simpa using a2)]; rfl

theorem row_base {w : World} {base base' : Nat} {e : TypeId} {size : Nat} {v : Value} {n : Nat} {xs : List Value} (h : w.ownsRow base e size v n xs) (hb : base' ≤ base) : w.ownsRow base' e size v n xs := by
  obtain ⟨h1, h2⟩ := h
  refine ⟨h1, ?_⟩
  rcases h2 with h2 | ⟨g, cap, cur, rfl, a1, a2⟩
  · exact Or.inl h2
  · exact Or.inr ⟨g, cap, cur, rfl, by omega, a2⟩
/-- a cell of an older block behind a call. -/
theorem RpS.cellOld {B Q : Nat} {w w' : World} {box : Bool} {v : Value} {used : List Int} {full : Bool} (h : RpS B Q w box v used full) (hu : Upd (wrt Q v) w w') {b o : Nat} {u : Value} (hb : b < B) (hc : w.cell? ⟨b, o, none⟩ = some u) : w'.cell? ⟨b, o, none⟩ = some u :=
  (World.cell?_of_block (w := w) (hu.block b (World.block_lt_of_cell? w _ hc) (fun hm => by have := h.old b hm; omega))).trans hc
theorem NdR.lit (W : World) (n : Nd) : NdR (W.alloc (.cells #[ei n.kd, ei n.vr, es n.lb, .bool n.nt] 58)) (.slice (some ⟨W.heap.size, 0, none⟩) 1 1) [n] := by
  have h : (W.alloc (.cells #[ei n.kd, ei n.vr, es n.lb, .bool n.nt] 58)).ownsRow W.heap.size 58 4 (.slice (some ⟨W.heap.size, 0, none⟩) 1 1) [n].length ([n].flatMap encN) :=
    World.ownsRow_lit (base := W.heap.size) (e := 58) (size := 4) W #[ei n.kd, ei n.vr, es n.lb, .bool n.nt] 1 (Nat.le_refl _) (by simp [maxLen]) (by simp)
  exact NdR.row h
theorem NdR.litK (W : World) (k : Int) : NdR (W.alloc (.cells #[.int .i64 k, .int .i64 0, .string ⟨#[]⟩, .bool false] 58)) (.slice (some ⟨W.heap.size, 0, none⟩) 1 1) [ndK k] := NdR.lit W (ndK k)
theorem NdR.lit2 (W : World) (a b c : Int) : NdR (W.alloc (.cells #[.int .i64 a, .int .i64 b, .string ⟨#[]⟩, .bool false, .int .i64 c, .int .i64 0, .string ⟨#[]⟩, .bool false] 58)) (.slice (some ⟨W.heap.size, 0, none⟩) 2 2) [ndV a b, ndK c] := by
  have h : (W.alloc (.cells #[.int .i64 a, .int .i64 b, .string ⟨#[]⟩, .bool false, .int .i64 c, .int .i64 0, .string ⟨#[]⟩, .bool false] 58)).ownsRow W.heap.size 58 4 (.slice (some ⟨W.heap.size, 0, none⟩) 2 2) [ndV a b, ndK c].length ([ndV a b, ndK c].flatMap encN) :=
    World.ownsRow_lit (base := W.heap.size) (e := 58) (size := 4) W #[.int .i64 a, .int .i64 b, .string ⟨#[]⟩, .bool false, .int .i64 c, .int .i64 0, .string ⟨#[]⟩, .bool false] 2 (Nat.le_refl _) (by simp [maxLen]) (by simp)
  exact NdR.row h
theorem NdR.litV (W : World) (k v : Int) : NdR (W.alloc (.cells #[.int .i64 k, .int .i64 v, .string ⟨#[]⟩, .bool false] 58)) (.slice (some ⟨W.heap.size, 0, none⟩) 1 1) [ndV k v] := NdR.lit W (ndV k v)
theorem NdR.alloc {W : World} {v : Value} {f : List Nd} (h : NdR W v f) (o : Obj) : NdR (W.alloc o) v f := h.upd ((Upd.refl [] W).alloc o) (by simp)
theorem NdR.drew {W : World} {v : Value} {f : List Nd} (h : NdR W v f) : NdR W.drew v f := h.upd ((Upd.refl [] W).drew) (by simp)
/-- three lists joined. -/
theorem concat3 (W : World) (G : Nat) (hG : W.heap.size = G) (l0 l1 l2 : Value) (o0 o1 o2 : List Nd) (h0 : NdR W l0 o0) (h1 : NdR W l1 o1) (h2 : NdR W l2 o2) (hp : 0 < o0.length) (hl : o0.length + o1.length + o2.length ≤ 2000000) :
    Calls Tryz.prog 38 #[.slice (some ⟨G, 0, none⟩) 3 3] (W.alloc (.cells #[l0, l1, l2] 28)) fun e w' =>
      ∃ vo, e = .returned vo ∧ w'.ownsRow W.heap.size 58 4 vo (o0 ++ (o1 ++ o2)).length ((o0 ++ (o1 ++ o2)).flatMap encN) ∧ Upd [] (W.alloc (.cells #[l0, l1, l2] 28)) w' := by
  subst hG
  have hu : Upd [] W (W.alloc (.cells #[l0, l1, l2] 28)) := (Upd.refl _ _).alloc _
  obtain ⟨f0, a0, -⟩ := h0
  obtain ⟨f1, a1, -⟩ := h1
  obtain ⟨f2, a2, -⟩ := h2
  have b0 := R_F1k.upd a0 hu (by simp)
  have b1 := R_F1k.upd a1 hu (by simp)
  have b2 := R_F1k.upd a2 hu (by simp)
  have hR : slP R_F1 ([W.heap.size] ++ [f0, f1, f2].flatten) (W.alloc (.cells #[l0, l1, l2] 28)) [.slice (some ⟨W.heap.size, 0, none⟩) 3 3] [o0, o1, o2] := by
    refine ⟨_, [l0, l1, l2], [W.heap.size], [f0, f1, f2], rfl, ⟨_, 3, rfl, by simp, by simp [maxLen], by simp, Or.inr ⟨_, 0, rfl, rfl, by simp, fun j u hj => ?_⟩⟩, rfl, rfl, fun i hi u f hu hf => ?_⟩
    · rw [Nat.zero_add]
      exact cell_new W #[l0, l1, l2] _ _ rfl j u (by simpa using hj)
    · match i, hi, hu, hf with
      | 0, _, hu, hf => simp at hu hf; subst hu hf; exact b0
      | 1, _, hu, hf => simp at hu hf; subst hu hf; exact b1
      | 2, _, hu, hf => simp at hu hf; subst hu hf; exact b2
  refine (concatN _ [o0, o1, o2] _ _ (by simp [lensN]; omega) (by simp [lensN]; omega) hR).mono ?_
  rintro e w' ⟨⟨vo, rfl, ho⟩, hu'⟩
  have e3 : ([o0, o1, o2] : List (List Nd)).flatten = o0 ++ (o1 ++ o2) := by simp
  rw [e3] at ho
  exact ⟨vo, rfl, row_base ho (by simp), hu'⟩
theorem row_someX {w : World} {base : Nat} {e : TypeId} {size : Nat} {v : Value} {n : Nat} {xs : List Value} (h : w.ownsRow base e size v n xs) (h0 : 0 < n) : ∃ g cap, v = .slice (some ⟨g, 0, none⟩) n cap := by
  obtain ⟨h1, h2⟩ := h
  rcases h2 with ⟨-, h2⟩ | ⟨g, cap, cur, rfl, -⟩
  · omega
  · exact ⟨g, cap, rfl⟩
/-- another list of used variables is laid. -/
theorem RpS.setUsed {B Q : Nat} {w w2 : World} {box : Bool} {v v2 : Value} {used used2 : List Int} {full : Bool} (h : RpS B Q w box v used full) (hb : w2.heap[Q]? = w.heap[Q]?) (hr : w2.ownsRow B 2 1 v2 used2.length (used2.map ei)) :
    RpS B Q (w2.setCell ⟨Q, 1, none⟩ v2) box v2 used2 full := by
  have hq := hb.trans h.blk
  refine ⟨?_, ?_, h.ge⟩
  · have := heap_setCell_same w2 Q 1 _ _ v2 hq
    simpa using this
  · refine row_keepX hr (fun g hg => ((Upd.refl [Q] w2).setCell (p := ⟨Q, 1, none⟩) (Or.inr (by simp)) v2).block g (hr.lt g hg).2 (fun hm => ?_))
    obtain rfl : g = Q := by simpa using hm
    obtain ⟨c, z, hc⟩ := Lib.ownsRow_kind hr g hg
    rw [hq] at hc
    cases hc
theorem frV_le (used : List Int) : 0 ≤ frV used ∧ frV used ≤ 3 := by unfold frV; split <;> (try split) <;> (try split) <;> omega
theorem ofF_pos (box : Bool) : ∀ (N : Nat) (r : Tr Rg) (used : List Int) (f o : List Nd), (flatT r).length ≤ N → ofF box r used f = some o → 0 < o.length
  | 0, r, used, f, o, h, _ => by have := flatT_pos r; omega
  | N + 1, .mk n args, used, f, o, h, ho => by
    have hl : (flatTs args).length ≤ N := by simpa [flatT] using h
    rw [ofF.eq_def] at ho
    simp only at ho
    split at ho
    · cases ho
    · split at ho
      · cases ho; simp
      · match args, hl with
        | [], _ => cases ho
        | [a], hl =>
          simp only at ho
          split at ho
          · cases ho
          · split at ho
            · cases ho
            · cases ho; simp
        | a :: b :: c, hl =>
          have hab : (flatT a).length ≤ N ∧ (flatT b).length ≤ N := by simp [flatTs] at hl; omega
          simp only at ho
          split at ho
          · split at ho
            · cases ho
            · rename_i g hg
              exact ofF_pos box N a used g o hab.1 ho
          · split at ho
            · cases ho
            · split at ho
              · cases ho
              · cases ho; simp

set_option maxRecDepth 20000 in
set_option maxHeartbeats 8000000 in
theorem ofR (N : Nat) : ∀ (r : Tr Rg) (w : World) (vr vf v : Value) (fr : List Nat) (B Q : Nat) (box : Bool) (used : List Int) (f : List Nd) (full : Bool), (flatT r).length ≤ N → okT arR r = true → (∀ t ∈ flatT r, 0 ≤ t.kd ∧ t.kd ≤ 3) → f.length ≤ 500000 → (flatT r).length ≤ 20 →
    (full = false → 0 < f.length) → used.length + (flatT r).length ≤ 1000 → (∀ x ∈ used, 0 ≤ x ∧ x < 3) → R_Y fr w [vr] r → (∀ b ∈ fr, b < B) → NdR w vf f → RpS B Q w box v used full →
    Calls Tryz.prog 70 #[.pointer (some ⟨Q, 0, none⟩), vr, vf] w (RplR B Q w box v used full (flatT r).length (ofF box r used f)) := by
  induction N with
  | zero => intro r w vr vf v fr B Q box used f full hn; have := flatT_pos r; omega
  | succ N ih =>
    intro r w vr vf v fr B Q box used f full hn hok hkd hfl h20 hf0 hus hux hR hfr hf hS
    obtain ⟨i0, hi, hz0, hz1, hz2⟩ := info_parts Tryz.infoNd
    obtain ⟨⟨kd, lb, nt⟩, args⟩ := r
    obtain ⟨b0, sa, fa, rfl, rfl, t0, t1, t2, t3, hargs⟩ := R_Y_open hR
    simp only at t0 t1 t2
    obtain ⟨c0, c1, c2, cz⟩ := hS.cells
    obtain ⟨af, cf, rfl⟩ := hf.form
    have hfz2 := cz 2
    have HS := Lib.hid hS
    have HKD := Lib.hid hkd
    have HIH := Lib.hid ih
    have HAR := Lib.hid hargs
    have HOK := Lib.hid hok
    have HFR := Lib.hid hfr
    have HR := Lib.hid hR
    have HND := Lib.hid hf
    have hk := hkd ⟨kd, lb, nt⟩ (by simp [flatT])
    simp only at hk
    clear hS hkd ih hargs hok hfr hR hf cz
    by_cases hfull : (full || decide (30 < f.length)) = true
    · -- too long, or full before
      have HO := Lib.hid (show (full || (ofF box (.mk ⟨kd, lb, nt⟩ args) used f).isNone) = true by
        rw [Bool.or_eq_true] at hfull ⊢
        rcases hfull with h | h
        · exact Or.inl h
        · exact Or.inr (by rw [ofF_long _ _ _ _ (by simpa using h)]; rfl))
      have HN := Lib.hid (show full = false → ofF box (.mk ⟨kd, lb, nt⟩ args) used f = none from fun h => ofF_long _ _ _ _ (by rw [h] at hfull; simpa using hfull))
      have HS2 := Lib.hid (HS.out.setFull true)
      have HU2 := Lib.hid (show Upd (wrt Q v) w (w.setCell ⟨Q, 2, none⟩ (.bool true)) from (Upd.refl _ _).setCell (Or.inr (by simp)) _)
      have hq : full = true ∨ (full = false ∧ 30 < f.length) := by
        cases full with
        | true => exact Or.inl rfl
        | false => exact Or.inr ⟨rfl, by simpa using hfull⟩
      clear hfull HS HKD HIH HAR HOK HFR HR HND
      rcases hq with rfl | ⟨rfl, h30⟩
      · go_enter Tryz.func70, Tryz.ntmps70
        go_wp2_with fail
        go_ret
        exact ⟨_, v, [], rfl, World.ownsRow_nil _ _ _ _, by simp, by rw [HO.out]; exact HS2.out, (fun o h => nomatch h), HU2.out, fun b h => Or.inl h⟩
      · have h30i : (30 : Int) < (f.length : Int) := by omega
        go_enter Tryz.func70, Tryz.ntmps70
        go_wp2_with fail
        go_ret
        exact ⟨_, v, [], rfl, World.ownsRow_nil _ _ _ _, by simp, by rw [HO.out]; exact HS2.out, (fun o h h2 => by rw [HN.out (by trivial)] at h2; cases h2), HU2.out, fun b h => Or.inl h⟩
    · simp only [Bool.or_eq_true, not_or, Bool.not_eq_true, decide_eq_true_eq] at hfull
      obtain ⟨rfl, h30⟩ := hfull
      have hf1 : 0 < f.length := hf0 rfl
      clear hf0
      have h30i : ¬ (30 : Int) < (f.length : Int) := by omega
      rcases (by omega : kd = 0 ∨ kd = 1 ∨ kd = 2 ∨ kd = 3) with rfl | rfl | rfl | rfl
      · match args, HOK.out with
        | [], _ =>
          obtain ⟨kk, hkk⟩ : ∃ kk, kdB box 4 5 = kk := ⟨_, rfl⟩
          have K1 := Lib.hid (fun W (hu : Upd [] w W) => kindR B Q W box v used false 4 5 (HS.out.keep hu))
          rw [hkk] at K1
          obtain ⟨fp, hF, -⟩ := HND.out
          obtain ⟨bf, of, cf', hvf, hcf, hcm, hfl4, hsrc⟩ := slF_src hF hf1
          simp only [Value.slice.injEq] at hvf
          obtain ⟨rfl, -, rfl⟩ := hvf
          have hlit : (w.drew.alloc (.cells #[.int .i64 kk, .int .i64 0, es lb, .bool nt] 58)).ownsRow w.heap.size 58 4 (.slice (some ⟨w.heap.size, 0, none⟩) 1 1) 1 [.int .i64 kk, .int .i64 0, es lb, .bool nt] :=
            World.ownsRow_lit (base := w.heap.size) (e := 58) (size := 4) w.drew #[.int .i64 kk, .int .i64 0, es lb, .bool nt] 1 (Nat.le_refl _) (by simp [maxLen]) (by simp)
          have hW : Upd [] w (w.drew.alloc (.cells #[.int .i64 kk, .int .i64 0, es lb, .bool nt] 58)) := ((Upd.refl _ _).drew).alloc _
          have HX := Lib.hid (show ofF box (.mk ⟨0, lb, nt⟩ []) used f = some (⟨kk, 0, lb, nt⟩ :: f) by rw [ofF.eq_def]; simp [h30, hkk])
          have hlen4 : (⟨kk, 0, lb, nt⟩ :: f : List Nd).length = 1 + f.length := by simp; omega
          have h1c := one_F1 f
          obtain ⟨nw, hnw⟩ : ∃ nw, f.flatMap encN = nw := ⟨_, rfl⟩
          have HNW := Lib.hid hnw
          rw [hnw] at hfl4 hsrc h1c
          clear hkk hF hcf hnw HKD HIH HAR HOK HFR HR HND
          go_enter Tryz.func70, Tryz.ntmps70
          go_upto_region 6 with (fail)
          go_region_held3 (fun w' => w'.cell? ⟨b0, 1, none⟩ = some (es lb) ∧ w'.cell? ⟨b0, 2, none⟩ = some (.bool nt)) (go_keep)
            (first
              | (go_at_call 78; (with_reducible refine (K1.out _ (by repeat (first | exact Upd.refl _ _ | assumption | refine Upd.drew ?_ | refine Upd.alloc ?_ _))).mono ?_); rintro e w1 ⟨rfl, rfl⟩)
              | (refine step_append_lies _ (by rfl) _ _ 28 (by rfl) w.heap.size 58 i0 (.agg #[.int .i64 0, .int .i64 0, .string ⟨#[]⟩, .bool false]) 4 40 Tryz.underlying28 hi hz0 hz1 hz2 rfl (by decide) (.slice (some ⟨w.heap.size, 0, none⟩) 1 1) 1 _ (by rfl) hlit ⟨bf, of, none⟩ f.length cf nw (by rfl) hfl4 (fun j u hj => hW.keep (hsrc j u hj)) h1c hf1 (by unfold maxLen; omega) (by omega) (by simp) (w.heap.size + 1) (by simp) ?_; intro g gcap w4 hown4 hg4 hat4 hlt4; have hU4 : Upd [] w w4 := (hW.grown hg4 (fun k hk => Or.inl (by simp [Value.ownBlock] at hk; omega))); have x1 := hU4.keep t1; have x2 := hU4.keep t2))
          all_goals
            have HU4 := Lib.hid hU4
            have HS4 := Lib.hid (HS.out.keep hU4)
            have HO4 := Lib.hid hown4
            clear hown4 hg4 hU4 x1 x2 hlit hW hsrc hfl4 h1c
            go_wp2_with fail
            go_ret
            refine ⟨_, v, ⟨kk, 0, lb, nt⟩ :: f, rfl, ?_, ?_, ?_, fun o _ h => (by rw [HX.out] at h; cases h; rfl), HU4.out.mono (by simp), fun b h => Or.inl h⟩
            · rw [hlen4, List.flatMap_cons, HNW.out]; exact HO4.out
            · simp [flatT, flatTs]; omega
            · rw [HX.out]; exact HS4.out
      · match args, HOK.out with
        | [x, y], hxy =>
          obtain ⟨a, cap, rfl, g1, g2, hc⟩ := slP_open HAR.out
          obtain ⟨ba, oa, u0, f0, rfl, hba, -, p0, s0, r0⟩ := hc 0 (by simp)
          obtain ⟨ba', oa', u1, f1, hb', -, -, p1, s1, r1⟩ := hc 1 (by simp)
          simp only [Option.some.injEq, Addr.mk.injEq, and_true] at hb'
          obtain ⟨rfl, rfl⟩ := hb'
          have p0 : w.cell? ⟨ba, oa, none⟩ = some u0 := p0
          unfold maxLen at g2
          have hr0 : R_Y f0 w [u0] x := r0
          have hr1 : R_Y f1 w [u1] y := r1
          have hokx : okT arR x = true ∧ okT arR y = true := by have := hxy; simpa [okT, okTs] using (by simpa [okT, okTs] using this : _ ∧ _).2
          have hsz : (flatT (.mk ⟨1, lb, nt⟩ [x, y] : Tr Rg)).length = 1 + (flatT x).length + (flatT y).length := by simp [flatT, flatTs]; omega
          rw [hsz] at hn h20 hus
          have hpx := flatT_pos x
          have hpy := flatT_pos y
          have hkx : ∀ t ∈ flatT x, 0 ≤ t.kd ∧ t.kd ≤ 3 := fun t ht => HKD.out t (by simp [flatT, flatTs, ht])
          have hky : ∀ t ∈ flatT y, 0 ≤ t.kd ∧ t.kd ≤ 3 := fun t ht => HKD.out t (by simp [flatT, flatTs, ht])
          have hb0B : b0 < B := HFR.out b0 (by simp)
          have hbaB : ba < B := HFR.out ba (by simp [hba])
          have hf0B : ∀ b ∈ f0, b < B := fun b hb => HFR.out b (by simp [s0 b hb])
          have hf1B : ∀ b ∈ f1, b < B := fun b hb => HFR.out b (by simp [s1 b hb])
          have HY := Lib.hid (fun W (hu : Upd (wrt Q v) w W) => show R_Y f1 W [u1] y from R_Yk.upd hr1 hu (fun b hb hm => by have := HS.out.old b hm; have := hf1B b hb; omega))
          have HXR := Lib.hid (fun W (hu : Upd (wrt Q v) w W) => show R_Y f0 W [u0] x from R_Yk.upd hr0 hu (fun b hb hm => by have := HS.out.old b hm; have := hf0B b hb; omega))
          obtain ⟨bx, rfl⟩ := R_T_form hr0
          obtain ⟨by', rfl⟩ := R_T_form hr1
          have T1 := Lib.hid (fun W (hu : Upd [] w W) => HIH.out y W (.pointer (some ⟨by', 0, none⟩)) (.slice af f.length cf) v f1 B Q box used f false (by omega) hokx.2 hky hfl (by omega) (fun _ => hf1) (by omega) hux (HY.out W (hu.mono (by simp))) hf1B (HND.out.upd hu (by simp)) (HS.out.keep hu))
          have T2 := Lib.hid (fun W (hu : Upd (wrt Q v) w W) v1 vo1 out1 fl (hs : RpS B Q W box v1 used fl) (hnd : NdR W vo1 out1) (hl : out1.length ≤ 800) (h0 : fl = false → 0 < out1.length) => HIH.out x W (.pointer (some ⟨bx, 0, none⟩)) vo1 v1 f0 B Q box used out1 fl (by omega) hokx.1 hkx (by omega) (by omega) h0 (by omega) hux (HXR.out W hu) hf0B hnd hs)
          have HPO := Lib.hid (fun o (h : ofF box y used f = some o) => ofF_pos box _ y used f o (Nat.le_refl _) h)
          have HEQ := Lib.hid (show ofF box (.mk ⟨1, lb, nt⟩ [x, y]) used f = (match ofF box y used f with | none => none | some g => ofF box x used g) by
            rw [ofF.eq_def]; simp [h30]
            all_goals (cases ofF box y used f <;> rfl))
          have HLX := Lib.hid (show (flatT x).length ≤ (flatT (.mk ⟨1, lb, nt⟩ [x, y] : Tr Rg)).length by rw [hsz]; omega)
          clear hc r0 r1 hr0 hr1 hxy hkx hky HY HXR HAR HOK HIH HKD HFR HR hokx hn hus hsz
          go_enter Tryz.func70, Tryz.ntmps70
          go_upto_region 8 with (fail)
          clear t0 t1 t2
          go_region_held3 (fun w' => w'.cell? ⟨b0, 3, none⟩ = some (.slice (some ⟨ba, oa, none⟩) 2 cap) ∧ w'.cell? ⟨ba, oa, none⟩ = some (.pointer (some ⟨bx, 0, none⟩)) ∧ w'.cell? ⟨ba, oa + 1, none⟩ = some (.pointer (some ⟨by', 0, none⟩))) (go_keep)
            (first
              | (go_at_call 70; (with_reducible refine (T1.out _ (by repeat (first | exact Upd.refl _ _ | assumption | refine Upd.drew ?_ | refine Upd.alloc ?_ _))).mono ?_); rintro e w1 ⟨vo1, vn1, out1, rfl, ho1, hl1, hs1, he1, hu1, hb1⟩; have hV1 : Upd (wrt Q v) w w1 := Upd.trans (by repeat (first | exact Upd.refl _ _ | assumption | refine Upd.drew ?_ | refine Upd.alloc ?_ _)) hu1; have x3 := HS.out.cellOld hV1 hb0B t3; have x0 := HS.out.cellOld hV1 hbaB p0; have x1 := HS.out.cellOld hV1 hbaB p1)
              | (go_at_call 70; (with_reducible refine (T2.out _ hV1 vn1 vo1 out1 _ hs1 (NdR.row ho1) (by omega) (fun h => (by cases hq : ofF box y used f with | none => (rw [hq] at h; simp at h) | some o => (rw [he1 o (by trivial) hq]; exact HPO.out o hq)))).mono ?_); rintro e w2 ⟨vo2, vn2, out2, rfl, ho2, hl2, hs2, he2, hu2, hb2⟩; have hV2 : Upd (wrt Q v) w w2 := Upd.fresh hV1 hu2 (fun b hb => (by simp only [wrt, List.mem_cons, Option.mem_toList] at hb ⊢; rcases hb with rfl | hb; exact Or.inr (Or.inl rfl); rcases hb1 b hb with h | h; exact Or.inr (Or.inr h); exact Or.inl h)); have y3 := HS.out.cellOld hV2 hb0B t3; have y0 := HS.out.cellOld hV2 hbaB p0; have y1 := HS.out.cellOld hV2 hbaB p1))
          all_goals
            have hsz1 := hV1.size
            have HO2 := Lib.hid (row_base (base' := w.heap.size) ho2 hsz1)
            have HS2 := Lib.hid hs2
            have HU2 := Lib.hid hV2
            have HE2 := Lib.hid (And.intro he1 he2)
            have HB2 := Lib.hid (And.intro hb1 hb2)
            clear ho1 hs1 he1 hu1 hb1 ho2 hs2 he2 hu2 hb2 x3 x0 x1 y3 y0 y1 hV1 hV2 T1 T2
            go_wp2_with fail
            go_ret
            refine ⟨_, vn2, out2, rfl, HO2.out, by have := HLX.out; omega, ?_, ?_, HU2.out, fun b h => ?_⟩
            · have h := HS2.out
              rw [HEQ.out]
              cases hq : ofF box y used f with
              | none => rw [hq] at h; simpa using h
              | some g =>
                rw [hq, HE2.out.1 g (by trivial) hq] at h
                simpa using h
            · intro o _ ho
              rw [HEQ.out] at ho
              cases hq : ofF box y used f with
              | none => rw [hq] at ho; cases ho
              | some g =>
                rw [hq] at ho
                refine HE2.out.2 o (by rw [hq]; rfl) ?_
                rw [HE2.out.1 g (by trivial) hq]; exact ho
            · rcases HB2.out.2 b h with h | h
              · exact HB2.out.1 b h
              · exact Or.inr (by omega)
      · match args, HOK.out with
        | [x, y], hxy =>
          obtain ⟨a, cap, rfl, g1, g2, hc⟩ := slP_open HAR.out
          obtain ⟨ba, oa, u0, f0, rfl, hba, -, p0, s0, r0⟩ := hc 0 (by simp)
          obtain ⟨ba', oa', u1, f1, hb', -, -, p1, s1, r1⟩ := hc 1 (by simp)
          simp only [Option.some.injEq, Addr.mk.injEq, and_true] at hb'
          obtain ⟨rfl, rfl⟩ := hb'
          have p0 : w.cell? ⟨ba, oa, none⟩ = some u0 := p0
          unfold maxLen at g2
          have hr0 : R_Y f0 w [u0] x := r0
          have hr1 : R_Y f1 w [u1] y := r1
          have hokx : okT arR x = true ∧ okT arR y = true := by have := hxy; simpa [okT, okTs] using (by simpa [okT, okTs] using this : _ ∧ _).2
          have hsz : (flatT (.mk ⟨2, lb, nt⟩ [x, y] : Tr Rg)).length = 1 + (flatT x).length + (flatT y).length := by simp [flatT, flatTs]; omega
          rw [hsz] at hn h20 hus
          have hpx := flatT_pos x
          have hpy := flatT_pos y
          have hkx : ∀ t ∈ flatT x, 0 ≤ t.kd ∧ t.kd ≤ 3 := fun t ht => HKD.out t (by simp [flatT, flatTs, ht])
          have hky : ∀ t ∈ flatT y, 0 ≤ t.kd ∧ t.kd ≤ 3 := fun t ht => HKD.out t (by simp [flatT, flatTs, ht])
          have hb0B : b0 < B := HFR.out b0 (by simp)
          have hbaB : ba < B := HFR.out ba (by simp [hba])
          have hf0B : ∀ b ∈ f0, b < B := fun b hb => HFR.out b (by simp [s0 b hb])
          have hf1B : ∀ b ∈ f1, b < B := fun b hb => HFR.out b (by simp [s1 b hb])
          have HY := Lib.hid (fun W (hu : Upd (wrt Q v) w W) => show R_Y f1 W [u1] y from R_Yk.upd hr1 hu (fun b hb hm => by have := HS.out.old b hm; have := hf1B b hb; omega))
          have HXR := Lib.hid (fun W (hu : Upd (wrt Q v) w W) => show R_Y f0 W [u0] x from R_Yk.upd hr0 hu (fun b hb hm => by have := HS.out.old b hm; have := hf0B b hb; omega))
          obtain ⟨bx, rfl⟩ := R_T_form hr0
          obtain ⟨by', rfl⟩ := R_T_form hr1
          obtain ⟨kk, hkk⟩ : ∃ kk, kdB box 3 2 = kk := ⟨_, rfl⟩
          have K1 := Lib.hid (fun W (hu : Upd [] w W) => kindR B Q W box v used false 3 2 (HS.out.keep hu))
          rw [hkk] at K1
          have T1 := Lib.hid (fun W (hu : Upd [] w W) => HIH.out x W (.pointer (some ⟨bx, 0, none⟩)) (.slice af f.length cf) v f0 B Q box used f false (by omega) hokx.1 hkx hfl (by omega) (fun _ => hf1) (by omega) hux (HXR.out W (hu.mono (by simp))) hf0B (HND.out.upd hu (by simp)) (HS.out.keep hu))
          have T2 := Lib.hid (fun W (hu : Upd (wrt Q v) w W) v1 fl (hs : RpS B Q W box v1 used fl) => HIH.out y W (.pointer (some ⟨by', 0, none⟩)) (.slice af f.length cf) v1 f1 B Q box used f fl (by omega) hokx.2 hky hfl (by omega) (fun _ => hf1) (by omega) hux (HY.out W hu) hf1B (HND.out.upd hu HS.out.kinds) hs)
          have HEQ := Lib.hid (show ofF box (.mk ⟨2, lb, nt⟩ [x, y]) used f = (match ofF box x used f with | none => none | some a => match ofF box y used f with | none => none | some b => some (ndK kk :: (a ++ b))) by
            rw [ofF.eq_def]; simp [h30, hkk]
            all_goals (cases ofF box x used f <;> first | rfl | (cases ofF box y used f <;> rfl)))
          have HLX := Lib.hid (show 1 + (flatT x).length + (flatT y).length = (flatT (.mk ⟨2, lb, nt⟩ [x, y] : Tr Rg)).length by rw [hsz])
          clear hc r0 r1 hr0 hr1 hxy hkx hky HY HXR HAR HOK HIH HKD HFR HR hokx hn hus hsz hkk
          go_enter Tryz.func70, Tryz.ntmps70
          go_upto_region 10 with (fail)
          clear t0 t1 t2
          go_region_held3 (fun w' => w'.cell? ⟨b0, 3, none⟩ = some (.slice (some ⟨ba, oa, none⟩) 2 cap) ∧ w'.cell? ⟨ba, oa, none⟩ = some (.pointer (some ⟨bx, 0, none⟩)) ∧ w'.cell? ⟨ba, oa + 1, none⟩ = some (.pointer (some ⟨by', 0, none⟩))) (go_keep)
            (first
              | (go_at_call 78; (with_reducible refine (K1.out _ (by repeat (first | with_reducible exact Upd.refl _ _ | with_reducible assumption | with_reducible refine Upd.drew ?_ | with_reducible refine Upd.alloc ?_ _))).mono ?_); rintro e w0 ⟨rfl, rfl⟩)
              | (go_at_call 70; (with_reducible refine (T1.out _ (by repeat (first | with_reducible exact Upd.refl _ _ | with_reducible assumption | with_reducible refine Upd.drew ?_ | with_reducible refine Upd.alloc ?_ _))).mono ?_); rintro e w1 ⟨vo1, vn1, out1, rfl, ho1, hl1, hs1, he1, hu1, hb1⟩; obtain ⟨ao1, co1, rfl⟩ := ownsRow_form ho1; have hV1 : Upd (wrt Q v) w w1 := Upd.trans (by repeat (first | with_reducible exact Upd.refl _ _ | with_reducible assumption | with_reducible refine Upd.drew ?_ | with_reducible refine Upd.alloc ?_ _)) hu1; have x3 := HS.out.cellOld hV1 hb0B t3; have x0 := HS.out.cellOld hV1 hbaB p0; have x1 := HS.out.cellOld hV1 hbaB p1)
              | (go_at_call 70; (with_reducible refine (T2.out _ (by repeat (first | with_reducible exact Upd.refl _ _ | with_reducible assumption | with_reducible refine Upd.drew ?_ | with_reducible refine Upd.alloc ?_ _)) vn1 _ (by first | with_reducible exact hs1 | exact hs1.keep ((Upd.refl _ _).alloc _))).mono ?_); rintro e w2 ⟨vo2, vn2, out2, rfl, ho2, hl2, hs2, he2, hu2, hb2⟩; obtain ⟨ao2, co2, rfl⟩ := ownsRow_form ho2; have hV2 : Upd (wrt Q v) w w2 := Upd.fresh (by repeat (first | with_reducible exact hV1 | with_reducible refine Upd.alloc ?_ _)) hu2 (fun b hb => (by simp only [wrt, List.mem_cons, Option.mem_toList] at hb ⊢; rcases hb with rfl | hb; exact Or.inr (Or.inl rfl); rcases hb1 b hb with h | h; exact Or.inr (Or.inr h); exact Or.inl (Nat.le_trans (by first | exact Nat.le_refl _ | simp) h))); have y3 := HS.out.cellOld hV2 hb0B t3; have y0 := HS.out.cellOld hV2 hbaB p0; have y1 := HS.out.cellOld hV2 hbaB p1)
              | (go_at_call 38; (with_reducible refine (concat3 _ _ (by simp) _ _ _ [ndK kk] out1 out2 ?_ ?_ ?_ (by simp) (by simp; omega)).mono ?_); (first | with_reducible exact NdR.litK _ kk | with_reducible exact ((NdR.litK _ kk).drew.upd hu1 (HS.out.keep (by repeat (first | with_reducible exact Upd.refl _ _ | with_reducible assumption | with_reducible refine Upd.drew ?_ | with_reducible refine Upd.alloc ?_ _))).kinds).upd hu2 hs1.kinds | with_reducible exact (NdR.litK _ kk).upd hu2 (hs1.keep ((Upd.refl _ _).alloc _)).kinds); (first | with_reducible exact (NdR.row ho1).upd hu2 hs1.kinds | with_reducible exact ((NdR.row ho1).alloc _).upd hu2 (hs1.keep ((Upd.refl _ _).alloc _)).kinds | with_reducible exact ((NdR.row ho1).upd hu2 hs1.kinds).alloc _); (first | with_reducible exact NdR.row ho2 | with_reducible exact (NdR.row ho2).alloc _); rintro e w3 ⟨vo3, rfl, ho3, hu3⟩; have hV3 : Upd (wrt Q v) w w3 := Upd.trans (by repeat (first | with_reducible exact hV2 | with_reducible refine Upd.alloc ?_ _)) (hu3.mono (by simp)); have z3 := HS.out.cellOld hV3 hb0B t3; have z0 := HS.out.cellOld hV3 hbaB p0; have z1 := HS.out.cellOld hV3 hbaB p1))
          all_goals
            have hsz1 := hV1.size
            have hsz2 := hV2.size
            have HO3 := Lib.hid (row_base (base' := w.heap.size) ho3 (by first | omega | (simp; omega)))
            have HU23 : Upd [] w2 w3 := Upd.trans (by repeat (first | with_reducible exact Upd.refl _ _ | with_reducible refine Upd.alloc ?_ _)) hu3
            have HS3 := Lib.hid (hs2.keep HU23)
            have HU3 := Lib.hid hV3
            have HE3 := Lib.hid (And.intro he1 he2)
            have HB3 := Lib.hid (show ∀ b, vn2.ownBlock = some b → v.ownBlock = some b ∨ w.heap.size ≤ b from fun b h => by
              rcases hb2 b h with h | h
              · rcases hb1 b h with h | h
                · exact Or.inl h
                · exact Or.inr (Nat.le_trans (by first | exact Nat.le_refl _ | simp) h)
              · exact Or.inr (Nat.le_trans (by first | exact hsz1 | (simp; omega)) h))
            have HL3 := Lib.hid (And.intro hl1 hl2)
            clear ho1 hs1 he1 hu1 hb1 ho2 hs2 he2 hu2 hb2 ho3 hu3 HU23 x3 x0 x1 y3 y0 y1 z3 z0 z1 hV1 hV2 hV3 T1 T2 K1 hsz1 hsz2 hl1 hl2
            go_wp2_with fail
            go_ret
            refine ⟨_, vn2, [ndK kk] ++ (out1 ++ out2), rfl, HO3.out, by have := HL3.out; have := HLX.out; simp; omega, ?_, ?_, HU3.out, HB3.out⟩
            · have h := HS3.out
              rw [HEQ.out]
              cases hq : ofF box x used f with
              | none => rw [hq] at h; simpa using h
              | some g1 =>
                cases hq2 : ofF box y used f with
                | none => rw [hq, hq2] at h; simpa using h
                | some g2 => rw [hq, hq2] at h; simpa using h
            · intro o _ ho
              rw [HEQ.out] at ho
              cases hq : ofF box x used f with
              | none => rw [hq] at ho; cases ho
              | some g1 =>
                cases hq2 : ofF box y used f with
                | none => rw [hq, hq2] at ho; cases ho
                | some g2 =>
                  rw [hq, hq2] at ho
                  cases ho
                  rw [HE3.out.1 g1 (by trivial) hq, HE3.out.2 g2 (by rw [hq]; rfl) hq2]
                  rfl
      · match args, HOK.out with
        | [x], hxy =>
          obtain ⟨a, cap, rfl, g1, g2, hc⟩ := slP_open HAR.out
          obtain ⟨ba, oa, u0, f0, rfl, hba, -, p0, s0, r0⟩ := hc 0 (by simp)
          have p0 : w.cell? ⟨ba, oa, none⟩ = some u0 := p0
          unfold maxLen at g2
          have hr0 : R_Y f0 w [u0] x := r0
          have hokx : okT arR x = true := by simpa [okT, okTs] using (by simpa [okT, okTs] using hxy : _ ∧ _).2
          have hsz : (flatT (.mk ⟨3, lb, nt⟩ [x] : Tr Rg)).length = 1 + (flatT x).length := by simp [flatT, flatTs]; omega
          rw [hsz] at hn h20 hus
          have hpx := flatT_pos x
          have hkx : ∀ t ∈ flatT x, 0 ≤ t.kd ∧ t.kd ≤ 3 := fun t ht => HKD.out t (by simp [flatT, flatTs, ht])
          have hb0B : b0 < B := HFR.out b0 (by simp)
          have hbaB : ba < B := HFR.out ba (by simp [hba])
          have hf0B : ∀ b ∈ f0, b < B := fun b hb => HFR.out b (by simp [s0 b hb])
          have HXR := Lib.hid (fun W (hu : Upd (wrt Q v) w W) => show R_Y f0 W [u0] x from R_Yk.upd hr0 hu (fun b hb hm => by have := HS.out.old b hm; have := hf0B b hb; omega))
          obtain ⟨bx, rfl⟩ := R_T_form hr0
          obtain ⟨fu, hFu, -, -, -⟩ := Flat.ofOwns HS.out.row
          have C1 := Lib.hid (fun (n : Int) => containsI v used n w fu ⟨_, rfl, by rw [flatMap_single]; exact hFu⟩)
          have HFA := Lib.hid (fun k h1 h2 h3 => frV_at used k h1 h2 h3)
          have HUX := Lib.hid hux
          obtain ⟨q, hqe⟩ : ∃ q : Nat, frV used = q := ⟨(frV used).toNat, by have := frV_le used; omega⟩
          have hq3 : q ≤ 3 := by have := frV_le used; omega
          have HEQ := Lib.hid (show ofF box (.mk ⟨3, lb, nt⟩ [x]) used f = (if 3 ≤ q then none else match ofF box x (used ++ [(q : Int)]) [ndV 6 q] with | none => none | some i => some (ndV (kdB box 7 8) q :: ndK (kdB box 3 2) :: (f ++ i))) by
            rw [ofF.eq_def]; simp only [h30, if_false, hqe, show ((3 : Int) ≤ (q : Int)) = (3 ≤ q) by simp; omega]
            rfl)
          have HLX := Lib.hid (show 1 + (flatT x).length = (flatT (.mk ⟨3, lb, nt⟩ [x] : Tr Rg)).length by rw [hsz])
          have HQE := Lib.hid hqe
          clear hc r0 hr0 hxy HAR HOK HKD HFR HR hsz hFu hqe t1 t2 hux
          go_enter Tryz.func70, Tryz.ntmps70
          go_upto_block 1 with (fail)
          go_cut [7] (fun s7 wx => s7 = .int .i64 q ∧ wx = w)
          case first =>
            clear HEQ HLX HXR HIH HND HS
            go_wp2_with fail
            go_loopw [7] (fun iv wr => ∃ k : Nat, k ≤ 3 ∧ iv = .int .i64 k ∧ Hid (∀ j : Nat, j < k → used.contains (j : Int) = true) ∧ wr = w) (fun iv _ => 3 - (intOf iv).toNat)
            case atStart => exact ⟨0, by omega, rfl, Lib.hid (fun j hj => by omega), rfl⟩
            case round =>
              obtain ⟨k, hk, rfl, HJ, hww⟩ := hrel
              replace hww := hww.symm
              subst hww
              have D1 := C1.out (k : Int)
              cases hcn : used.contains (k : Int) with
              | true =>
                rw [hcn] at D1
                have hk3 : k < 3 := by
                  have := HUX.out (k : Int) (by simpa using hcn)
                  omega
                have HJ2 := Lib.hid (show ∀ j : Nat, j < k + 1 → used.contains (j : Int) = true from fun j hj => by
                  rcases (by omega : j < k ∨ j = k) with h | rfl
                  · exact HJ.out j h
                  · exact hcn)
                have HD := Lib.hid D1
                clear HJ D1 hcn
                go_wp2_with fail
                refine HD.out.mono ?_
                rintro e w2 ⟨rfl, rfl⟩
                clear HD
                go_wp2_with fail
                go_roundw
                case rel => exact ⟨k + 1, by omega, by go_num, HJ2, by first | rfl | trivial⟩
                case measure => simp [intOf]; omega
              | false =>
                rw [hcn] at D1
                have HX := Lib.hid (show k = q by have := HFA.out k HJ.out hcn hk; have := HQE.out; omega)
                have HD := Lib.hid D1
                clear HJ D1 hcn
                go_wp2_with fail
                refine HD.out.mono ?_
                rintro e w2 ⟨rfl, rfl⟩
                clear HD
                go_wp2_with fail
                go_meet
                exact ⟨by rw [HX.out], rfl⟩
          case rest =>
            obtain ⟨rfl, hww⟩ := hcut
            replace hww := hww.symm
            subst hww
            clear C1 HFA HQE
            by_cases hq : 3 ≤ q
            · have hqi : (3 : Int) ≤ (q : Int) := by omega
              have HX := Lib.hid (show ofF box (.mk ⟨3, lb, nt⟩ [x]) used f = none by rw [HEQ.out, if_pos hq])
              have HS2 := Lib.hid (HS.out.setFull true)
              have HU2 := Lib.hid (show Upd (wrt Q v) w (w.setCell ⟨Q, 2, none⟩ (.bool true)) from (Upd.refl _ _).setCell (Or.inr (by simp)) _)
              clear HEQ HXR HIH HND HS
              go_wp2_with fail
              go_ret
              exact ⟨_, v, [], rfl, World.ownsRow_nil _ _ _ _, by simp, by rw [HX.out]; exact HS2.out, (fun o _ h2 => by rw [HX.out] at h2; cases h2), HU2.out, fun b h => Or.inl h⟩
            · have hqi : ¬ (3 : Int) ≤ (q : Int) := by omega
              have hq2 : q < 3 := by omega
              obtain ⟨iu, hui, huz0, huz1, huz2⟩ := info_parts Tryz.info2
              have hBw : B ≤ w.heap.size := by have := HS.out.ge; have := HS.out.lt; omega
              have hlit : ∀ j u, [ei (q : Int)][j]? = some u → (w.alloc (.cells #[.int .i64 q] 2)).cell? ((⟨w.heap.size, 0, none⟩ : Addr).add j) = some u := fun j u hj => by
                rw [addr_add]; exact cell_new w #[.int .i64 q] _ _ rfl _ _ (by simpa using hj)
              have hrow := HS.out.row.alloc (.cells #[.int .i64 q] 2)
              have hQb : (w.alloc (.cells #[.int .i64 q] 2)).heap[Q]? = w.heap[Q]? := Below.heap_alloc _ _ _ HS.out.lt
              obtain ⟨av, cv, rfl⟩ := ownsRow_form HS.out.row
              have hfz1 : w.frozen? ⟨Q, 1, none⟩ = false := HS.out.cells.2.2.2 1
              clear c2 hfz2
              go_wp2_with (first
                | (at_builtin; refine wpList_append_tight _ rfl _ _ 76 rfl B 2 iu (.int .i64 0) 1 8 Tryz.underlying76 hui huz0 huz1 huz2 rfl (by decide) _ _ _ rfl hrow ⟨w.heap.size, 0, none⟩ 1 1 [ei (q : Int)] rfl rfl hlit (by simp [Value.oneCell']) (by unfold maxLen; omega) (by omega) (by simp; omega) ?_)
                | fail)
              intro v2 w2 hown2 hg2 ht2
              have hQ2 : w2.heap[Q]? = w.heap[Q]? := (hg2.block Q (by have := HS.out.lt; simp; omega) (fun e => HS.out.ne e.symm)).trans hQb
              obtain ⟨a2, cc2, rfl⟩ := ownsRow_form hown2
              have hrow2 : w2.ownsRow B 2 1 (.slice a2 (used.length + 1) cc2) (used ++ [(q : Int)]).length ((used ++ [(q : Int)]).map ei) := by simpa using hown2
              have hS3 := HS.out.setUsed hQ2 hrow2
              have hu2 : Upd (wrt Q (.slice av used.length cv)) w w2 := ((Upd.refl _ _).alloc _).grown hg2 (fun k hk => Or.inr (by simp [wrt, hk]))
              have hu3 : Upd (wrt Q (.slice av used.length cv)) w (w2.setCell ⟨Q, 1, none⟩ (.slice a2 (used.length + 1) cc2)) := hu2.setCell (Or.inr (by simp)) _
              have hb2 : ∀ b, (Value.slice a2 (used.length + 1) cc2).ownBlock = some b → (Value.slice av used.length cv).ownBlock = some b ∨ w.heap.size ≤ b := fun b hb => by
                rcases ht2 b hb with h | h
                · exact Or.inl h
                · exact Or.inr (Nat.le_trans (by simp) h)
              obtain ⟨w3, hw3⟩ : ∃ w3, w2.setCell ⟨Q, 1, none⟩ (.slice a2 (used.length + 1) cc2) = w3 := ⟨_, rfl⟩
              have c21 : w2.cell? ⟨Q, 1, none⟩ = some (.slice av used.length cv) := (World.cell?_of_block (w := w) hQ2).trans c1
              have f21 : w2.frozen? ⟨Q, 1, none⟩ = false := by rw [← hfz1]; simp only [World.frozen?, hQ2]
              rw [hw3] at hS3 hu3
              have d3 := HS.out.cellOld hu3 hb0B t3
              have d0 := HS.out.cellOld hu3 hbaB p0
              have HX3 := Lib.hid (HXR.out w3 hu3)
              have HND3 := Lib.hid (HND.out.upd hu3 HS.out.kinds)
              have HU3 := Lib.hid hu3
              have HS3 := Lib.hid hS3
              have HB2 := Lib.hid hb2
              have T1 := Lib.hid (HIH.out x (w3.alloc (.cells #[.int .i64 6, .int .i64 q, .string ⟨#[]⟩, .bool false] 58)) (.pointer (some ⟨bx, 0, none⟩)) (.slice (some ⟨w3.heap.size, 0, none⟩) 1 1) (.slice a2 (used.length + 1) cc2) f0 B Q box (used ++ [(q : Int)]) [ndV 6 q] false (by omega) hokx hkx (by simp) (by omega) (fun _ => by simp) (by simp; omega) (fun z hz => by
                rcases List.mem_append.1 hz with h | h
                · exact HUX.out z h
                · obtain rfl : z = q := by simpa using h
                  omega) (R_Yk.upd HX3.out ((Upd.refl [] _).alloc _) (by simp)) hf0B (NdR.litV w3 6 q) (HS3.out.keep ((Upd.refl [] _).alloc _)))
              clear hown2 hg2 ht2 hQ2 hrow2 hS3 hu2 hu3 hb2 hrow hlit hQb HXR HIH HND t3 p0 HUX c0 c1 hfz1
              go_wp2_with fail
              refine T1.out.mono ?_
              rintro e w4 ⟨vo, vn, out, rfl, ho, hl, hs, he, hu4, hb4⟩
              obtain ⟨gn, cn, rfl⟩ := row_someX hs.row (by simp)
              obtain ⟨ao, co, rfl⟩ := ownsRow_form ho
              obtain ⟨-, e1, -, ez⟩ := hs.cells
              have ez1 := ez 1
              have hlen1 : (used ++ [(q : Int)]).length = used.length + 1 := by simp
              rw [hlen1] at e1
              have hw1 : IntKind.i64.wrap ((used.length : Int) + 1 - 1) = (used.length : Int) := by rw [IntKind.wrap_i64]; omega
              have hw2 : IntKind.i64.wrap (used.length : Int) = (used.length : Int) := by rw [IntKind.wrap_i64]; omega
              have hcn : used.length + 1 ≤ cn ∧ cn ≤ 9223372036854775807 := by
                have := hs.row.2
                rw [hlen1] at this
                rcases this with ⟨h, -⟩ | ⟨g, cap, cur, h, -, -, h1, h2, -⟩
                · cases h
                · cases h; unfold maxLen at h2; exact ⟨h1, by omega⟩
              have hlt1 : (used.length : Int) ≤ (cn : Int) := by omega
              have HS4 := Lib.hid hs
              have HO4 := Lib.hid ho
              have HU4 := Lib.hid hu4
              have HB4 := Lib.hid hb4
              have HE4 := Lib.hid he
              have HL4 := Lib.hid hl
              clear T1 hs ho hu4 hb4 he hl ez d3 d0 c21 f21
              go_upto_region 19 with (fail)
              go_region
              have hrow5 : w4.ownsRow B 2 1 (.slice (some ⟨gn, 0, none⟩) used.length cn) used.length (used.map ei) := by
                have h := ownsRow_take (by simpa using HS4.out.row) used.length (by omega)
                simpa using h
              have hS5 := (HS4.out.setUsed (w2 := w4) rfl hrow5).keep ((Upd.refl [] _).drew)
              have hS5' : RpS B Q ((w4.setCell ⟨Q, 1, none⟩ (.slice (some ⟨gn, 0, none⟩) used.length cn)).drew) box (.slice (some ⟨gn, 0, none⟩) used.length cn) used (ofF box x (used ++ [(q : Int)]) [ndV 6 q]).isNone := by simpa using hS5
              obtain ⟨w5, hw5⟩ : ∃ w5, (w4.setCell ⟨Q, 1, none⟩ (.slice (some ⟨gn, 0, none⟩) used.length cn)).drew = w5 := ⟨_, rfl⟩
              rw [hw5] at hS5'
              have hu45 : Upd [Q] w4 w5 := by rw [← hw5]; exact ((Upd.refl _ _).setCell (Or.inr (by simp)) _).drew
              have hsz3 := HU3.out.size
              have hu14 : Upd (wrt Q (.slice av used.length cv)) w w4 := (HU3.out.alloc _).fresh HU4.out (fun b hb => by
                simp only [wrt, List.mem_cons, Option.mem_toList] at hb ⊢
                rcases hb with rfl | hb
                · exact Or.inr (Or.inl rfl)
                · rcases HB2.out b hb with h | h
                  · exact Or.inr (Or.inr h)
                  · exact Or.inl h)
              have hu15 : Upd (wrt Q (.slice av used.length cv)) w w5 := hu14.trans (hu45.mono (by simp))
              have hlw : w.heap.size ≤ (w3.alloc (.cells #[.int .i64 6, .int .i64 q, .string ⟨#[]⟩, .bool false] 58)).heap.size := by simp; omega
              have HB5 := Lib.hid (show ∀ b, (Value.slice (some ⟨gn, 0, none⟩) used.length cn).ownBlock = some b → (Value.slice av used.length cv).ownBlock = some b ∨ w.heap.size ≤ b from fun b hb => by
                rcases HB4.out b hb with h | h
                · exact HB2.out b h
                · exact Or.inr (Nat.le_trans hlw h))
              have hkQ : ∀ b ∈ [Q], ∀ c z, w4.heap[b]? ≠ some (.cells c 58 z) := fun b hb => HS4.out.kinds b (by simp only [wrt, List.mem_cons]; exact Or.inl (by simpa using hb))
              have HN5 := Lib.hid ((NdR.row HO4.out).upd hu45 hkQ)
              have HF5 := Lib.hid (((HND3.out.alloc _).upd HU4.out (HS3.out.keep ((Upd.refl [] _).alloc _)).kinds).upd hu45 hkQ)
              have HS5 := Lib.hid hS5'
              have HU5 := Lib.hid hu15
              obtain ⟨k1, hk1⟩ : ∃ k1, kdB box 7 8 = k1 := ⟨_, rfl⟩
              obtain ⟨k2, hk2⟩ : ∃ k2, kdB box 3 2 = k2 := ⟨_, rfl⟩
              have K1 := kindR B Q w5 box _ used _ 7 8 hS5'
              have K2 := kindR B Q w5 box _ used _ 3 2 hS5'
              rw [hk1] at K1 HEQ
              rw [hk2] at K2 HEQ
              have HK1 := Lib.hid K1
              have HK2 := Lib.hid K2
              have HC3 := Lib.hid (concat3 (w5.alloc (.cells #[.int .i64 k1, .int .i64 q, .string ⟨#[]⟩, .bool false, .int .i64 k2, .int .i64 0, .string ⟨#[]⟩, .bool false] 58)) (w5.heap.size + 1) (by simp) _ _ _ [ndV k1 q, ndK k2] f out (NdR.lit2 w5 k1 q k2) (HF5.out.alloc _) (HN5.out.alloc _) (by simp) (by have := HL4.out; simp; omega))
              clear hrow5 hS5 hS5' hu45 hu14 hu15 hkQ HU3 HU4 HB2 HB4 HS3 HS4 HO4 HND3 HN5 HF5 hk1 hk2 K1 K2 e1 ez1 hlen1 hcn HS HX3 hlw
              go_wp2_with fail
              refine HK1.out.mono ?_
              rintro e w6 ⟨rfl, rfl⟩
              go_wp2_with fail
              refine HK2.out.mono ?_
              rintro e w6 ⟨rfl, rfl⟩
              clear HK1 HK2
              go_wp2_with fail
              with_reducible refine HC3.out.mono ?_
              rintro e w6 ⟨vo6, rfl, ho6, hu6⟩
              have hv6 : Upd [] w5 w6 := (((Upd.refl [] w5).alloc _).alloc _).trans hu6
              have HU6 := Lib.hid (HU5.out.trans (hv6.mono (by simp)))
              have HS6 := Lib.hid (HS5.out.keep hv6)
              have HO6 := Lib.hid (row_base (base' := w.heap.size) ho6 (by have := HU5.out.size; simp; omega))
              clear HC3 ho6 hu6 hv6 HU5 HS5
              go_wp2_with fail
              go_ret
              refine ⟨_, _, [ndV k1 q, ndK k2] ++ (f ++ out), rfl, HO6.out, by have := HL4.out; have := HLX.out; simp; omega, ?_, ?_, HU6.out, HB5.out⟩
              · have h := HS6.out
                rw [HEQ.out, if_neg hq]
                cases hq9 : ofF box x (used ++ [(q : Int)]) [ndV 6 q] with
                | none => rw [hq9] at h; simpa using h
                | some i => rw [hq9] at h; simpa using h
              · intro o _ ho
                rw [HEQ.out, if_neg hq] at ho
                cases hq9 : ofF box x (used ++ [(q : Int)]) [ndV 6 q] with
                | none => rw [hq9] at ho; cases ho
                | some i =>
                  rw [hq9] at ho
                  cases ho
                  rw [HE4.out i (by trivial) hq9]
                  rfl

end Go.Proofs.YtaahjpmndkcijaaGreatDoor

/-
  The elements of a tree of a regular expression in order, appended to a slice: what the program's call returns and makes.
-/
namespace Go.Proofs.YtaahjpmndkcijaaGreatDoor
open Go.RowKit

set_option maxRecDepth 20000 in
set_option maxHeartbeats 1000000 in
theorem elementsY (n : Nat) : ∀ (x : Tr Rg) (w : World) (v vo : Value) (fp : List Nat) (B : Nat) (out : List Rg), (flatT x).length ≤ n → out.length + (flatT x).length ≤ 1000000 →
    R_Y fp w [v] x → (∀ b ∈ fp, b < B) → B ≤ w.heap.size → w.ownsRow B 53 3 vo out.length (out.flatMap encR) →
    Calls Tryz.prog 19 #[v, vo] w fun e w' => (∃ v', e = .returned v' ∧ w'.ownsRow B 53 3 v' (out ++ flatT x).length ((out ++ flatT x).flatMap encR)) ∧ Below B w w' := by
  induction n with
  | zero => intro x w v vo fp B out hn; have := flatT_pos x; omega
  | succ n ih =>
    intro x w v vo fp B out hn hlen hR hfp hB hown
    obtain ⟨i0, hi, hz0, hz1, hz2⟩ := info_parts Tryz.infoRg
    obtain ⟨t, args⟩ := x
    obtain ⟨b0, s, fa, rfl, rfl, c0, c2, c3, c4, hargs⟩ := R_Y_open hR
    obtain ⟨a, cap, rfl, h1, h2, hc⟩ := slP_open hargs
    unfold maxLen at h2
    simp only [flatT, List.length_cons] at hn hlen
    have hfx : ∀ k, (flatTs (args.take k)).length ≤ (flatTs args).length := flatTs_take_le args
    have HFX := Lib.hid hfx
    have HFP := Lib.hid hfp
    have HIH := Lib.hid ih
    have hb0 : b0 < B := hfp b0 (by simp)
    obtain ⟨t1, t3, t4⟩ := t
    simp only at c0 c2 c3
    clear hfx hfp ih hR
    go_enter Tryz.func19, Tryz.ntmps19
    go_wp2_with (first
      | (at_builtin; refine wpList_append_tight _ rfl _ _ 22 rfl B 53 i0 (.agg #[.int .i64 0, .string ⟨#[]⟩, .bool false]) 3 32 Tryz.underlying22 hi hz0 hz1 hz2 rfl (by decide) _ _ _ rfl (hown.alloc _) ⟨w.heap.size, 0, none⟩ 1 1 [ei t1, es t3, .bool t4] rfl rfl (fun j u hj => by rw [addr_add]; exact cell_new w #[ei t1, es t3, .bool t4] _ _ rfl _ _ (by simpa using hj)) (by intro u hu; simp at hu; rcases hu with rfl | rfl | rfl <;> rfl) (by unfold maxLen; omega) (by omega) (by simp; omega) ?_)
      | fail)
    intro v2 w2 hown2 hg2 ht2
    have hB2 : Below B w w2 := ((Below.refl B w).alloc hB _).grown hg2 (by simp; omega) (fun k hk => (hown.lt k hk).1)
    have hown3 : w2.ownsRow B 53 3 v2 (out ++ [(⟨t1, t3, t4⟩ : Rg)]).length ((out ++ [(⟨t1, t3, t4⟩ : Rg)]).flatMap encR) := by simpa using hown2
    have c4' : w2.cell? ⟨b0, 3, none⟩ = some (.slice a args.length cap) := (hB2.cell (p := ⟨b0, 3, none⟩) hb0).trans c4
    have hsz := hB2.size
    clear hown hown2 hg2 ht2 c0 c2 c3 c4
    go_wp2_with fail
    go_loopw [1, 19] (fun vv i wr => ∃ k : Nat, k ≤ args.length ∧ i = .int .i64 k ∧ Below B w wr ∧ wr.ownsRow B 53 3 vv (out ++ (⟨t1, t3, t4⟩ : Rg) :: flatTs (args.take k)).length ((out ++ (⟨t1, t3, t4⟩ : Rg) :: flatTs (args.take k)).flatMap encR)) (fun _ i _ => args.length - (intOf i).toNat)
    case atStart => exact ⟨0, Nat.zero_le _, rfl, hB2, by simpa [flatTs] using hown3⟩
    case round =>
      clear hB2 hown3 c4' hsz
      obtain ⟨k, hk, rfl, hB2, hown⟩ := hrel
      by_cases hlt : k < args.length
      · obtain ⟨b, off, u, f, rfl, hbm, hbl, hcell, hsub, hr⟩ := hc k hlt
        have hbB : b < B := HFP.out b (by simp [hbm])
        have hcell' : wr.cell? ⟨b, off + k, none⟩ = some u := (hB2.cell (p := ⟨b, off + k, none⟩) hbB).trans hcell
        have hr' : R_Y f wr [u] args[k] := Below.keepX R_Yk hr hB2 (fun b hb => HFP.out b (by simp [hsub b hb]))
        have hsz := hB2.size
        have hft := flatTs_take args k hlt
        have q1 := HFX.out (k + 1)
        rw [hft, List.length_append] at q1
        have S2 := Lib.hid (HIH.out args[k] wr u _ f B _ (by omega) (by simp only [List.length_append, List.length_cons]; omega) hr' (fun b hb => HFP.out b (by simp [hsub b hb])) (by omega) hown)
        have HFT := Lib.hid hft
        clear hft hc hown hr hr' hcell
        go_wp2_with fail
        refine S2.out.mono ?_
        rintro e w3 ⟨⟨v3, rfl, hown3⟩, hb3⟩
        have hB3 := hB2.trans hb3
        rw [List.append_assoc, List.cons_append, ← HFT.out] at hown3
        clear S2 hB2 hb3
        go_wp2_with fail
        go_roundw
        case rel => exact ⟨k + 1, by omega, by go_num, hB3, hown3⟩
        case measure => simp [intOf]; omega
      · obtain rfl : args.length = k := by omega
        rw [List.take_length] at hown
        clear hc
        go_wp2_with fail
        go_ret
        exact ⟨⟨_, rfl, hown⟩, hB2⟩

/-- the elements of a tree in a list of their own. -/
theorem elemsY (x : Tr Rg) (w : World) (v : Value) (fp : List Nat) (hl : (flatT x).length ≤ 1000000) (hR : R_Y fp w [v] x) :
    Calls Tryz.prog 19 #[v, .slice none 0 0] w fun e w' => (∃ v', e = .returned v' ∧ New R_G1 w w' v' (flatT x)) ∧ Upd [] w w' := by
  have S2 := elementsY _ x w v (.slice none 0 0) fp w.heap.size [] (Nat.le_refl _) (by simpa using hl) hR (R_Yk.lt hR) (Nat.le_refl _) (World.ownsRow_nil _ _ _ _)
  refine S2.mono ?_
  rintro e w1 ⟨⟨v1, rfl, hown⟩, hb⟩
  obtain ⟨fp', g1, g2, g3, -⟩ := Flat.ofOwns hown
  exact ⟨⟨_, rfl, fp', ⟨_, rfl, by simpa using g1⟩, g2, g3⟩, Upd.ofBelow hb⟩

end Go.Proofs.YtaahjpmndkcijaaGreatDoor

/-
  Regular expressions parsed: the program's reader: blanks, one byte, the first error.
-/
namespace Go.Proofs.YtaahjpmndkcijaaGreatDoor
open Go.RowKit

/-- the reader at P: the text, where it stands, whether something is too long, the first variable that is not bound. -/
structure RdAt (P : Nat) (w : World) (s : List UInt8) (n : Nat) (f : Bool) (u : Int) : Prop where
  own : Own [P] w
  c0 : w.cell? ⟨P, 0, none⟩ = some (es s)
  c2 : w.cell? ⟨P, 2, none⟩ = some (.int .i64 n)
  c9 : w.cell? ⟨P, 9, none⟩ = some (.bool f)
  c10 : w.cell? ⟨P, 10, none⟩ = some (.int .i64 u)
  le : n ≤ s.length
variable {P : Nat} {w w' : World} {s : List UInt8} {n : Nat} {f : Bool} {u : Int}
theorem RdAt.keep (h : RdAt P w s n f u) (hu : Upd [] w w') : RdAt P w' s n f u :=
  ⟨h.own.upd hu (by simp), hu.keep h.c0, hu.keep h.c2, hu.keep h.c9, hu.keep h.c10, h.le⟩
theorem RdAt.lt (h : RdAt P w s n f u) : P < w.heap.size := h.own.lt P (by simp)
theorem RdAt.far (h : RdAt P w s n f u) {g : List Nat} (hu : Upd g w w') (hg : P ∉ g) : RdAt P w' s n f u := by
  have hb := hu.block P h.lt hg
  have hc : ∀ o, w'.cell? ⟨P, o, none⟩ = w.cell? ⟨P, o, none⟩ := fun o => World.cell?_of_block (w := w) hb
  exact ⟨h.own.upd hu (by simpa using hg), (hc 0).trans h.c0, (hc 2).trans h.c2, (hc 9).trans h.c9, (hc 10).trans h.c10, h.le⟩
theorem RdAt.put (h : RdAt P w s n f u) {m : Nat} (hm : m ≤ s.length) {z : Int} (hz : z = m) : RdAt P (w.setCell ⟨P, 2, none⟩ (.int .i64 z)) s m f u := by
  subst hz
  have far : ∀ o, o ≠ 2 → (w.setCell ⟨P, 2, none⟩ (.int .i64 m)).cell? ⟨P, o, none⟩ = w.cell? ⟨P, o, none⟩ := fun o ho => World.cell?_setCell_other _ _ _ _ (by simp)
  exact ⟨h.own.setCell _ _, (far 0 (by decide)).trans h.c0, World.cell?_setCell_same _ _ _ h.c2, (far 9 (by decide)).trans h.c9, (far 10 (by decide)).trans h.c10, hm⟩
theorem RdAt.putF (h : RdAt P w s n f u) (g : Bool) : RdAt P (w.setCell ⟨P, 9, none⟩ (.bool g)) s n g u := by
  have far : ∀ o, o ≠ 9 → (w.setCell ⟨P, 9, none⟩ (.bool g)).cell? ⟨P, o, none⟩ = w.cell? ⟨P, o, none⟩ := fun o ho => World.cell?_setCell_other _ _ _ _ (by simp)
  exact ⟨h.own.setCell _ _, (far 0 (by decide)).trans h.c0, (far 2 (by decide)).trans h.c2, World.cell?_setCell_same _ _ _ h.c9, (far 10 (by decide)).trans h.c10, h.le⟩
theorem RdAt.putU (h : RdAt P w s n f u) (z : Int) : RdAt P (w.setCell ⟨P, 10, none⟩ (.int .i64 z)) s n f z := by
  have far : ∀ o, o ≠ 10 → (w.setCell ⟨P, 10, none⟩ (.int .i64 z)).cell? ⟨P, o, none⟩ = w.cell? ⟨P, o, none⟩ := fun o ho => World.cell?_setCell_other _ _ _ _ (by simp)
  exact ⟨h.own.setCell _ _, (far 0 (by decide)).trans h.c0, (far 2 (by decide)).trans h.c2, (far 9 (by decide)).trans h.c9, World.cell?_setCell_same _ _ _ h.c10, h.le⟩

/-- the panic at an offset. -/
abbrev synE (n : Nat) : Ending := .panicked [{ v := .iface 64 (.agg #[.int .i64 n]), recovered := false }]

set_option maxRecDepth 20000 in
set_option maxHeartbeats 2000000 in
theorem skipR (P : Nat) (w : World) (s : List UInt8) (n : Nat) (f : Bool) (u : Int) (hs : s.length ≤ 1000000) (hR : RdAt P w s n f u) :
    Calls Tryz.prog 40 #[.pointer (some ⟨P, 0, none⟩)] w fun e w' => e = .returned (.tuple #[]) ∧ RdAt P w' s (skR s n) f u ∧ Upd [P] w w' := by
  have HST := Lib.hid (fun k (h : k < s.length) => runE_step (p := (· == (32 : UInt8))) h)
  have HEN := Lib.hid (runE_end (p := (· == (32 : UInt8))) (s := s))
  obtain ⟨Z, hZ⟩ : ∃ Z, skR s n = Z := ⟨_, rfl⟩
  rw [hZ]
  have HZ := Lib.hid (show runE (· == 32) s n = Z from hZ)
  have HR := Lib.hid hR
  clear hZ hR
  go_enter Tryz.func40, Tryz.ntmps40
  go_wp2_with fail
  go_loopw [] (fun wr => ∃ k : Nat, k ≤ s.length ∧ Hid (runE (· == 32) s k = Z) ∧ Hid (RdAt P wr s k f u) ∧ Hid (Upd [P] w wr)) (fun wr => s.length - (intOf ((wr.cell? ⟨P, 2, none⟩).getD undef)).toNat)
  case atStart => exact ⟨n, HR.out.le, HZ, HR, Lib.hid (Upd.refl _ _)⟩
  case round =>
    clear HZ HR
    obtain ⟨wo, rfl⟩ : ∃ wo : World, wo = wr := ⟨_, rfl⟩
    obtain ⟨k, hk, HZ, HR, HU⟩ := hrel
    have c0 := HR.out.c0
    have c2 := HR.out.c2
    have hfz : wo.frozen? ⟨P, 2, none⟩ = false := HR.out.own.frozen (by simp) _
    have HM := Lib.hid (show intOf ((wo.cell? ⟨P, 2, none⟩).getD undef) = k by rw [c2]; rfl)
    by_cases hlt : k < s.length
    · obtain ⟨b, hb⟩ : ∃ b, s[k] = b := ⟨_, rfl⟩
      have hix : (⟨s.toArray⟩ : ByteArray)[k]'(by simpa [ByteArray.size] using hlt) = b := by rw [← hb]; simp [ByteArray.getElem_eq_getElem_data]
      have hkl : (k : Int) < (s.length : Int) := by omega
      have h1 := HST.out k hlt
      rw [hb, HZ.out] at h1
      have hq := byteU b 32 (by omega)
      rw [show ((32 : Nat) : Int) = 32 from rfl] at hq
      by_cases h32 : b = 32
      · have HX := Lib.hid (show runE (· == 32) s (k + 1) = Z by rw [h1, if_pos (by simpa using h32)])
        have hq2 : ((b.toNat : Int) == 32) = true := by rw [hq, h32]; rfl
        have HP := Lib.hid (fun n z hz => (HR.out.keep ((Upd.refl _ _).drewN n)).put (m := k + 1) (by omega) (z := z) hz)
        have HV := Lib.hid (fun n (z : Int) => (HU.out.drewN n).setCell (p := ⟨P, 2, none⟩) (Or.inr (by simp)) (.int .i64 z))
        clear h1 hb hq HST HEN HZ HR HU h32
        go_wp2_with fail
        go_quiet (fail)
        go_wp2_with fail
        go_roundw
        case rel => exact ⟨k + 1, by omega, HX, Lib.hid (HP.out _ _ (by omega)), Lib.hid (HV.out _ _)⟩
        case measure =>
          rw [HM.out, (HP.out _ _ (by omega)).c2]
          simp [intOf]; omega
      · have HX := Lib.hid (show Z = k by rw [h1, if_neg (by simpa using h32)])
        have hq2 : ((b.toNat : Int) == 32) = false := by rw [hq]; exact beq_eq_false_iff_ne.2 h32
        clear h1 hb hq HST HEN HZ h32
        go_wp2_with fail
        go_quiet (fail)
        go_wp2_with fail
        go_end0
        rw [HX.out]
        exact ⟨rfl, HR.out.keep ((Upd.refl _ _).drewN _), HU.out.drewN _⟩
    · obtain rfl : k = s.length := by omega
      have HX := Lib.hid (show Z = s.length by rw [← HZ.out, HEN.out])
      clear HST HEN HZ
      go_wp2_with fail
      go_quiet (fail)
      go_wp2_with fail
      go_end0
      rw [HX.out]
      exact ⟨rfl, HR.out.keep ((Upd.refl _ _).drewN _), HU.out.drewN _⟩

set_option maxRecDepth 20000 in
set_option maxHeartbeats 2000000 in
theorem failR (P : Nat) (w : World) (s : List UInt8) (n : Nat) (f : Bool) (u : Int) (hs : s.length ≤ 1000000) (hR : RdAt P w s n f u) :
    Calls Tryz.prog 41 #[.pointer (some ⟨P, 0, none⟩)] w fun e w' => e = synE (skR s n) ∧ Upd [P] w w' := by
  have S1 := Lib.hid (skipR P w s n f u hs hR)
  clear hR
  go_enter Tryz.func41, Tryz.ntmps41
  go_wp2_with fail
  refine S1.out.mono ?_
  rintro e w1 ⟨rfl, hr, hu⟩
  have c2 := hr.c2
  have HU := Lib.hid hu
  clear S1 hr hu
  go_wp2_with fail
  exact ⟨rfl, rfl, HU.out⟩

set_option maxRecDepth 20000 in
set_option maxHeartbeats 2000000 in
theorem endedR (P : Nat) (w : World) (s : List UInt8) (n : Nat) (f : Bool) (u : Int) (hs : s.length ≤ 1000000) (hR : RdAt P w s n f u) :
    Calls Tryz.prog 31 #[.pointer (some ⟨P, 0, none⟩)] w fun e w' => (if skR s n = s.length then e = .returned (.tuple #[]) ∧ RdAt P w' s s.length f u else e = synE (skR s n)) ∧ Upd [P] w w' := by
  have S1 := Lib.hid (skipR P w s n f u hs hR)
  have hle := (skR_le hR.le).2
  have S2 := Lib.hid (fun W (h : RdAt P W s (skR s n) f u) => by have := failR P W s (skR s n) f u hs h; rw [skR_idem hR.le] at this; exact this)
  generalize skR s n = Z at *
  clear hR
  by_cases hz : Z = s.length
  · subst hz
    simp only [↓reduceIte]
    clear S2
    go_enter Tryz.func31, Tryz.ntmps31
    go_wp2_with fail
    refine S1.out.mono ?_
    rintro e w1 ⟨rfl, hr, hu⟩
    have c0 := hr.c0
    have c2 := hr.c2
    have HU := Lib.hid hu
    have HR := Lib.hid hr
    clear S1 hr hu
    go_wp2_with fail
    go_quiet (fail)
    go_wp2_with fail
    go_end0
    exact ⟨⟨rfl, HR.out.keep ((Upd.refl _ _).drewN _)⟩, HU.out.drewN _⟩
  · simp only [if_neg hz]
    have hlt : (Z : Int) < (s.length : Int) := by omega
    go_enter Tryz.func31, Tryz.ntmps31
    go_wp2_with fail
    refine S1.out.mono ?_
    rintro e w1 ⟨rfl, hr, hu⟩
    have c0 := hr.c0
    have c2 := hr.c2
    have HU := Lib.hid hu
    have HR := Lib.hid hr
    clear S1 hr hu
    go_wp2_with fail
    go_quiet (fail)
    go_wp2_with fail
    refine (S2.out _ (HR.out.keep ((Upd.refl _ _).drewN _))).mono ?_
    rintro e w2 ⟨rfl, hu2⟩
    have HU2 := Lib.hid ((HU.out.drewN _).trans hu2)
    clear S2 hu2
    go_wp2_with fail
    exact ⟨rfl, rfl, HU2.out⟩

/-- one byte, if it stands behind the blanks. -/
def ByR (P : Nat) (w : World) (s : List UInt8) (n : Nat) (f : Bool) (u : Int) (c : UInt8) (e : Ending) (w' : World) : Prop :=
  e = .returned (.bool (isB s (skR s n) c)) ∧ RdAt P w' s (if isB s (skR s n) c then skR s n + 1 else skR s n) f u ∧ Upd [P] w w'

set_option maxRecDepth 20000 in
set_option maxHeartbeats 2000000 in
theorem byteR (P : Nat) (w : World) (s : List UInt8) (n : Nat) (f : Bool) (u : Int) (c : UInt8) (hs : s.length ≤ 1000000) (hR : RdAt P w s n f u) :
    Calls Tryz.prog 37 #[.pointer (some ⟨P, 0, none⟩), .int .u8 c.toNat] w (ByR P w s n f u c) := by
  have S1 := Lib.hid (skipR P w s n f u hs hR)
  have hle := (skR_le hR.le).2
  unfold ByR
  generalize skR s n = Z at *
  clear hR
  by_cases hlt : Z < s.length
  · obtain ⟨b, hb⟩ : ∃ b, s[Z] = b := ⟨_, rfl⟩
    have hix : (⟨s.toArray⟩ : ByteArray)[Z]'(by simpa [ByteArray.size] using hlt) = b := by rw [← hb]; simp [ByteArray.getElem_eq_getElem_data]
    have hkl : (Z : Int) < (s.length : Int) := by omega
    have hne : ((Z : Int) == (s.length : Int)) = false := by rw [beq_eq_false_iff_ne]; omega
    rw [isB_at hlt, hb]
    have hq := byteU b c.toNat c.toNat_lt
    rw [show UInt8.ofNat c.toNat = c by simp] at hq
    clear hb
    obtain ⟨q, hqq⟩ : ∃ q, (b == c) = q := ⟨_, rfl⟩
    rw [hqq] at hq ⊢
    obtain ⟨x, hx⟩ : ∃ x : Int, (c.toNat : Int) = x := ⟨_, rfl⟩
    rw [hx] at hq ⊢
    obtain ⟨y, hy⟩ : ∃ y : Int, (b.toNat : Int) = y := ⟨_, rfl⟩
    rw [hy] at hq
    have hneq : (y != x) = !q := by rw [bne, hq]
    cases q with
    | true =>
      go_enter Tryz.func37, Tryz.ntmps37
      go_wp2_with fail
      refine S1.out.mono ?_
      rintro e w1 ⟨rfl, hr, hu⟩
      have c0 := hr.c0
      have c2 := hr.c2
      have hfz : w1.frozen? ⟨P, 2, none⟩ = false := hr.own.frozen (by simp) _
      have HP := Lib.hid (fun W (h : Upd [] w1 W) z hz => (hr.keep h).put (m := Z + 1) (by omega) (z := z) hz)
      have HV := Lib.hid (fun n (z : Int) => (hu.drewN n).setCell (p := ⟨P, 2, none⟩) (Or.inr (by simp)) (.int .i64 z))
      clear S1 hr hu
      go_wp2_with fail
      go_quiet (fail)
      go_wp2_with fail
      go_ret
      exact ⟨rfl, HP.out _ ((Upd.refl _ _).drewN _) _ (by omega), HV.out _ _⟩
    | false =>
      go_enter Tryz.func37, Tryz.ntmps37
      go_wp2_with fail
      refine S1.out.mono ?_
      rintro e w1 ⟨rfl, hr, hu⟩
      have c0 := hr.c0
      have c2 := hr.c2
      have HR := Lib.hid hr
      have HU := Lib.hid hu
      clear S1 hr hu
      go_wp2_with fail
      go_quiet (fail)
      go_wp2_with fail
      go_ret
      exact ⟨rfl, HR.out.keep ((Upd.refl _ _).drewN _), HU.out.drewN _⟩
  · have hf : isB s Z c = false := by unfold isB; rw [List.getElem?_eq_none (by omega)]; rfl
    rw [hf]
    obtain rfl : Z = s.length := by omega
    have hne : ((s.length : Int) == (s.length : Int)) = true := by simp
    clear hf
    go_enter Tryz.func37, Tryz.ntmps37
    go_wp2_with fail
    refine S1.out.mono ?_
    rintro e w1 ⟨rfl, hr, hu⟩
    have c0 := hr.c0
    have c2 := hr.c2
    have HR := Lib.hid hr
    have HU := Lib.hid hu
    clear S1 hr hu
    go_wp2_with fail
    go_quiet (fail)
    go_wp2_with fail
    go_ret
    exact ⟨rfl, HR.out.keep ((Upd.refl _ _).drewN _), HU.out.drewN _⟩

set_option maxRecDepth 20000 in
set_option maxHeartbeats 2000000 in
theorem needR (P : Nat) (w : World) (s : List UInt8) (n : Nat) (f : Bool) (u : Int) (c : UInt8) (hs : s.length ≤ 1000000) (hR : RdAt P w s n f u) :
    Calls Tryz.prog 58 #[.pointer (some ⟨P, 0, none⟩), .int .u8 c.toNat] w fun e w' =>
      (if isB s (skR s n) c then e = .returned (.tuple #[]) ∧ RdAt P w' s (skR s n + 1) f u else e = synE (skR s n)) ∧ Upd [P] w w' := by
  have S1 := Lib.hid (byteR P w s n f u c hs hR)
  have S2 := Lib.hid (fun W (h : RdAt P W s (skR s n) f u) => by have := failR P W s (skR s n) f u hs h; rw [skR_idem hR.le] at this; exact this)
  unfold ByR at S1
  generalize skR s n = Z at *
  generalize isB s Z c = q at *
  clear hR
  cases q with
  | true =>
    simp only [↓reduceIte]
    rw [if_pos rfl] at S1
    clear S2
    go_enter Tryz.func58, Tryz.ntmps58
    go_wp2_with fail
    refine S1.out.mono ?_
    rintro e w1 ⟨rfl, hr, hu⟩
    have HR := Lib.hid hr
    have HU := Lib.hid hu
    clear S1 hr hu
    go_wp2_with fail
    go_end0
    exact ⟨⟨rfl, HR.out⟩, HU.out⟩
  | false =>
    simp only [Bool.false_eq_true, ↓reduceIte]
    rw [if_neg (by decide)] at S1
    go_enter Tryz.func58, Tryz.ntmps58
    go_wp2_with fail
    refine S1.out.mono ?_
    rintro e w1 ⟨rfl, hr, hu⟩
    have HR := Lib.hid hr
    have HU := Lib.hid hu
    clear S1 hr hu
    go_wp2_with fail
    refine (S2.out _ HR.out).mono ?_
    rintro e w2 ⟨rfl, hu2⟩
    have HU2 := Lib.hid (HU.out.trans hu2)
    clear S2 hu2
    go_wp2_with fail
    exact ⟨rfl, rfl, HU2.out⟩

end Go.Proofs.YtaahjpmndkcijaaGreatDoor

/-
  Regular expressions parsed: the program reads a pattern.
-/
namespace Go.Proofs.YtaahjpmndkcijaaGreatDoor
open Go.RowKit

theorem trim_sfx {t : List UInt8} (h : Lib.hasSuffix t [40, 42, 41] = true) : Lib.trimSuffix t [40, 42, 41] = t.take (t.length - 3) := by
  unfold Lib.trimSuffix
  rw [if_pos h]; rfl

set_option maxRecDepth 20000 in
set_option maxHeartbeats 2000000 in
theorem patternOfI (t : List UInt8) (w : World) (hl : t.length ≤ 1000000) (he : Env w) :
    Calls Tryz.prog 75 #[es t] w fun e w' => (∃ q b, e = .returned (.tuple #[es q, .bool b]) ∧ Hid (patO t = if b then some q else none)) ∧ Upd [] w w' := by
  have S0 := Tryz.strings_CutSuffix ⟨t.toArray⟩ ⟨#[40, 42, 41]⟩ w (by have : (⟨t.toArray⟩ : ByteArray).size = t.length := rfl; omega)
  have e0 : (⟨#[40, 42, 41]⟩ : ByteArray).data.toList = [40, 42, 41] := rfl
  have e1 : (⟨t.toArray⟩ : ByteArray).data.toList = t := by simp
  rw [e0, e1] at S0
  cases hs : Lib.hasSuffix t [40, 42, 41] with
  | true =>
    rw [hs, trim_sfx hs] at S0
    have HP := Lib.hid (show patO t = if actF (t.take (t.length - 3)) then some (t.take (t.length - 3) ++ [42]) else none by unfold patO; rw [hs]; rfl)
    have hnl : (t.take (t.length - 3)).length ≤ 1000000 := by rw [List.length_take]; omega
    generalize t.take (t.length - 3) = nm at *
    have S1 := Lib.hid (isActionI nm w (by omega))
    have hcat : (ByteArray.mk nm.toArray ++ ⟨#[42]⟩) = ByteArray.mk (nm ++ [42]).toArray := ByteArray.mk_append_mk nm [42]
    have hz : ¬ (9223372036854775807 < nm.length + 1) := by omega
    have HS := Lib.hid S0
    obtain ⟨R, hR⟩ : ∃ R, nm ++ [42] = R := ⟨_, rfl⟩
    rw [hR] at HP hcat
    clear S0 hs hR e0 e1
    generalize actF nm = q at *
    go_enter Tryz.func75, Tryz.ntmps75
    go_wp2_with fail
    refine HS.out.mono ?_
    rintro e w1 ⟨rfl, rfl⟩
    clear HS
    go_wp2_with fail
    refine S1.out.mono ?_
    rintro e w2 ⟨rfl, rfl⟩
    clear S1
    go_wp2_with fail
    go_ret2
    exact ⟨⟨R, q, rfl, HP⟩, Upd.refl _ _⟩
  | false =>
    rw [hs] at S0
    have HP := Lib.hid (show patO t = if isLab t then some t else none by unfold patO; rw [hs]; rfl)
    have S1 := Lib.hid (fun W (h : W = w) => by subst h; exact isLabelI t W (by omega) he)
    rw [show isLab t = (readF t).isSome from rfl] at HP
    have HS := Lib.hid S0
    clear S0 hs e0 e1 he
    generalize (readF t).isSome = q at *
    generalize Lib.trimSuffix t [40, 42, 41] = tr at *
    go_enter Tryz.func75, Tryz.ntmps75
    go_wp2_with fail
    refine HS.out.mono ?_
    rintro e w1 ⟨rfl, rfl⟩
    clear HS
    go_wp2_with fail
    refine (S1.out _ rfl).mono ?_
    rintro e w2 ⟨rfl, hu⟩
    have HU := Lib.hid hu
    clear S1 hu
    go_wp2_with fail
    go_ret2
    exact ⟨⟨t, q, rfl, HP⟩, HU.out⟩

/-- the end of the word at m, from k on. -/
def wE (s : List UInt8) (m k : Nat) : Nat := if k = m then wordE s m else runE wch s k
theorem wE_at {s : List UInt8} {m k : Nat} (h : k < s.length) (hm : m ≤ k) : wE s m k = if sml s[k] || (decide (m < k) && isDig s[k]) then wE s m (k + 1) else k := by
  have e2 : wE s m (k + 1) = runE wch s (k + 1) := by unfold wE; rw [if_neg (by omega)]
  rw [e2]
  by_cases hk : k = m
  · subst hk
    have : decide (k < k) = false := by simp
    rw [this, Bool.false_and, Bool.or_false]
    unfold wE wordE
    rw [if_pos rfl, List.getElem?_eq_getElem h]
    rfl
  · have : decide (m < k) = true := decide_eq_true (by omega)
    rw [this, Bool.true_and]
    unfold wE
    rw [if_neg hk, runE_step h]
    rfl
theorem wE_end {s : List UInt8} {m : Nat} : wE s m s.length = s.length := by
  unfold wE
  split
  · rename_i h
    unfold wordE
    rw [← h, List.getElem?_eq_none (Nat.le_refl _)]; rfl
  · exact runE_end
theorem index_run (c : UInt8) : ∀ l : List UInt8, Lib.indexByte l c = if (l.takeWhile (· != c)).length < l.length then ((l.takeWhile (· != c)).length : Int) else -1
  | [] => rfl
  | b :: l => by
    rw [Lib.indexByte, List.takeWhile_cons]
    by_cases hb : b = c
    · subst hb; simp
    · have h1 : (b == c) = false := by simpa using hb
      have h2 : (b != c) = true := by simp [hb]
      rw [h1, h2, index_run c l]
      simp only [Bool.false_eq_true, if_false, if_true, List.length_cons]
      split
      · rw [if_neg (by rw [beq_iff_eq]; omega), if_pos (by omega)]; omega
      · rw [if_pos (by simp), if_neg (by omega)]

/-- the pattern at m, or the first error there. -/
def LbR (P : Nat) (w : World) (s : List UInt8) (m : Nat) (f : Bool) (u : Int) (r : Option (List UInt8 × Nat)) (e : Ending) (w' : World) : Prop :=
  (match r with
  | some (t, p) => e = .returned (es t) ∧ RdAt P w' s p f u
  | none => e = synE m) ∧ Upd [P] w w'

set_option maxRecDepth 20000 in
set_option maxHeartbeats 4000000 in
theorem labelR (P : Nat) (w : World) (s : List UInt8) (n : Nat) (f : Bool) (u : Int) (hs : s.length ≤ 1000000) (hR : RdAt P w s n f u) (hE : ∀ W, Upd [P] w W → Env W) :
    Calls Tryz.prog 65 #[.pointer (some ⟨P, 0, none⟩)] w (LbR P w s (skR s n) f u (labF s (skR s n))) := by
  have S1 := Lib.hid (skipR P w s n f u hs hR)
  have hle := (skR_le hR.le).2
  have S2 := Lib.hid (fun W (h : RdAt P W s (skR s n) f u) => by have := failR P W s (skR s n) f u hs h; rw [skR_idem hR.le] at this; exact this)
  generalize skR s n = m at *
  have hw := wordE_le hle
  have HLB := Lib.hid (show labF s m = _ from rfl)
  obtain ⟨Z, hZ⟩ : ∃ Z, wordE s m = Z := ⟨_, rfl⟩
  have HZ := Lib.hid (show wE s m m = Z by unfold wE; rw [if_pos rfl, hZ])
  have HLF := Lib.hid (show labF s m = if isB s Z 40 then (if runE (· != 41) s Z < s.length then (patO (cutS s m (runE (· != 41) s Z + 1))).map (fun t => (t, runE (· != 41) s Z + 1)) else none) else (patO (cutS s m Z)).map (fun t => (t, Z)) by unfold labF; rw [hZ])
  rw [hZ] at hw
  generalize labF s m = LF at *
  have HST := Lib.hid (fun k (h : k < s.length) (hm : m ≤ k) => wE_at h hm)
  have HEN := Lib.hid (wE_end (s := s) (m := m))
  have HE := Lib.hid hE
  have HD := Lib.hid isDigitI
  clear HLB hZ hR hE
  go_enter Tryz.func65, Tryz.ntmps65
  go_wp2_with fail
  refine S1.out.mono ?_
  rintro e w1 ⟨rfl, hr, hu⟩
  have c0 := hr.c0
  have c2 := hr.c2
  have HR := Lib.hid hr
  have HU := Lib.hid hu
  clear S1 hr hu
  go_upto_block 0 with (fail)
  go_cut [3] (fun s3 wx => s3 = .int .i64 Z ∧ wx = w1)
  case first =>
    clear HLF S2 HE
    go_wp2_with fail
    go_loopw [3] (fun iv wr => ∃ k : Nat, m ≤ k ∧ k ≤ s.length ∧ iv = .int .i64 k ∧ Hid (wE s m k = Z) ∧ wr = w1) (fun iv _ => s.length - (intOf iv).toNat)
    case atStart => exact ⟨m, Nat.le_refl _, hle, rfl, HZ, rfl⟩
    case round =>
      clear HZ
      obtain ⟨wo, rfl⟩ : ∃ wo : World, wo = wr := ⟨_, rfl⟩
      obtain ⟨k, hmk, hk, rfl, HZ, hww⟩ := hrel
      subst hww
      by_cases hlt : k < s.length
      · obtain ⟨b, hb⟩ : ∃ b, s[k] = b := ⟨_, rfl⟩
        have hix : (⟨s.toArray⟩ : ByteArray)[k]'(by simpa [ByteArray.size] using hlt) = b := by rw [← hb]; simp [ByteArray.getElem_eq_getElem_data]
        have hkl : (k : Int) < (s.length : Int) := by omega
        have h1 := HST.out k hlt hmk
        rw [hb, HZ.out] at h1
        have D1 := Lib.hid (HD.out b wo)
        have HX1 := Lib.hid (show (sml b || (decide (m < k) && isDig b)) = true → wE s m (k + 1) = Z from fun h => by rw [h1, if_pos h])
        have HX0 := Lib.hid (show (sml b || (decide (m < k) && isDig b)) = false → Z = k from fun h => by rw [h1, if_neg (by rw [h]; decide)])
        clear h1 hb HST HEN HZ
        by_cases hs : sml b = true
        · have hs' : 97 ≤ b.toNat ∧ b.toNat ≤ 122 := by simpa [sml] using hs
          have g1 : (97 : Int) ≤ (b.toNat : Int) := by omega
          have g2 : (b.toNat : Int) ≤ 122 := by omega
          have HX := Lib.hid (HX1.out (by rw [hs]; rfl))
          clear hs hs' HX1 HX0 D1
          go_wp2_with fail
          go_roundw
          case rel => exact ⟨k + 1, by omega, by omega, by go_num, HX, by first | rfl | trivial⟩
          case measure => simp [intOf]; omega
        · have hs0 : sml b = false := by simpa using hs
          have hs' : ¬ (97 ≤ b.toNat ∧ b.toNat ≤ 122) := by simpa [sml] using hs
          rw [hs0, Bool.false_or] at HX1 HX0
          generalize isDig b = q at *
          clear hs hs0
          by_cases hmk2 : m = k
          · subst hmk2
            have HX := Lib.hid (HX0.out (by simp))
            clear HX1 HX0 D1
            by_cases g1 : (97 : Int) ≤ (b.toNat : Int)
            · have g2 : ¬ (b.toNat : Int) ≤ 122 := by omega
              go_wp2_with fail
              go_meet
              exact ⟨by rw [HX.out], rfl⟩
            · go_wp2_with fail
              go_meet
              exact ⟨by rw [HX.out], rfl⟩
          · have hmk3 : (m : Int) < (k : Int) := by omega
            have hd : decide (m < k) = true := decide_eq_true (by omega)
            rw [hd, Bool.true_and] at HX1 HX0
            clear hd
            cases q with
            | true =>
              have HX := Lib.hid (HX1.out rfl)
              clear HX1 HX0
              by_cases g1 : (97 : Int) ≤ (b.toNat : Int)
              · have g2 : ¬ (b.toNat : Int) ≤ 122 := by omega
                go_wp2_with fail
                refine D1.out.mono ?_
                rintro e w2 ⟨rfl, rfl⟩
                clear D1
                go_wp2_with fail
                go_roundw
                case rel => exact ⟨k + 1, by omega, by omega, by go_num, HX, by first | rfl | trivial⟩
                case measure => simp [intOf]; omega
              · go_wp2_with fail
                refine D1.out.mono ?_
                rintro e w2 ⟨rfl, rfl⟩
                clear D1
                go_wp2_with fail
                go_roundw
                case rel => exact ⟨k + 1, by omega, by omega, by go_num, HX, by first | rfl | trivial⟩
                case measure => simp [intOf]; omega
            | false =>
              have HX := Lib.hid (HX0.out rfl)
              clear HX1 HX0
              by_cases g1 : (97 : Int) ≤ (b.toNat : Int)
              · have g2 : ¬ (b.toNat : Int) ≤ 122 := by omega
                go_wp2_with fail
                refine D1.out.mono ?_
                rintro e w2 ⟨rfl, rfl⟩
                clear D1
                go_wp2_with fail
                go_meet
                exact ⟨by rw [HX.out], rfl⟩
              · go_wp2_with fail
                refine D1.out.mono ?_
                rintro e w2 ⟨rfl, rfl⟩
                clear D1
                go_wp2_with fail
                go_meet
                exact ⟨by rw [HX.out], rfl⟩
      · obtain rfl : k = s.length := by omega
        have HX := Lib.hid (show Z = s.length by rw [← HZ.out, HEN.out])
        clear HST HEN HZ
        go_wp2_with fail
        go_meet
        exact ⟨by rw [HX.out], rfl⟩
  case rest =>
    obtain ⟨rfl, hww⟩ := hcut
    replace hww := hww.symm
    subst hww
    clear HST HEN HZ HD
    obtain ⟨x, hx⟩ : ∃ x, ((s.drop Z).takeWhile (· != 41)).length = x := ⟨_, rfl⟩
    have hri : runE (· != 41) s Z = Z + x := by unfold runE; rw [hx]
    have hxl := (runE_le (p := (· != (41 : UInt8))) hw.2).2
    rw [hri] at hxl
    have HIX := Lib.hid (show Lib.indexByte (s.drop Z) 41 = if Z + x < s.length then (x : Int) else -1 by
      rw [index_run, hx, List.length_drop]
      by_cases h : Z + x < s.length
      · rw [if_pos h, if_pos (by omega)]
      · rw [if_neg h, if_neg (by omega)])
    have HLF2 := HLF
    rw [hri] at HLF2
    clear HLF hri hx
    by_cases hlt : Z < s.length
    · obtain ⟨b, hb⟩ : ∃ b, s[Z] = b := ⟨_, rfl⟩
      have hix : (⟨s.toArray⟩ : ByteArray)[Z]'(by simpa [ByteArray.size] using hlt) = b := by rw [← hb]; simp [ByteArray.getElem_eq_getElem_data]
      have hkl : (Z : Int) < (s.length : Int) := by omega
      have hq := byteU b 40 (by omega)
      rw [show ((40 : Nat) : Int) = 40 from rfl, show UInt8.ofNat 40 = 40 from rfl] at hq
      obtain ⟨q4, hq4⟩ : ∃ q, (b == (40 : UInt8)) = q := ⟨_, rfl⟩
      rw [hq4] at hq
      obtain ⟨E, cl, hE1, hE2, hLF, hEE⟩ : ∃ (E : Nat) (cl : Bool), Z ≤ E ∧ E ≤ s.length ∧ LF = (if cl then (patO (cutS s m E)).map (fun t => (t, E)) else none) ∧
          Hid ((q4 = false → E = Z ∧ cl = true) ∧ (q4 = true → Z + x < s.length → E = Z + (x + 1) ∧ cl = true) ∧ (q4 = true → ¬ Z + x < s.length → E = Z ∧ cl = false)) := by
        have h0 := HLF2.out
        rw [isB_at hlt, hb, hq4] at h0
        cases q4 with
        | false => exact ⟨Z, true, Nat.le_refl _, hw.2, by rw [h0]; rfl, Lib.hid ⟨fun _ => ⟨rfl, rfl⟩, (fun h => nomatch h), (fun h => nomatch h)⟩⟩
        | true =>
          by_cases hc : Z + x < s.length
          · exact ⟨Z + (x + 1), true, by omega, by omega, by rw [h0, if_pos rfl, if_pos hc]; rfl, Lib.hid ⟨(fun h => nomatch h), fun _ _ => ⟨rfl, rfl⟩, fun _ h => absurd hc h⟩⟩
          · exact ⟨Z, false, by omega, by omega, by rw [h0, if_pos rfl, if_neg hc]; rfl, Lib.hid ⟨(fun h => nomatch h), fun _ h => absurd h hc, fun _ _ => ⟨rfl, rfl⟩⟩⟩
      clear HLF2 hb hq4
      go_upto_if 83 with (fail)
      go_cut [3, 4] (fun s3 s4 wx => s3 = .int .i64 E ∧ s4 = .bool cl ∧ wx = w1)
      case first =>
        clear S2 HE hLF HU HR
        cases q4 with
        | false =>
          obtain ⟨rfl, rfl⟩ := hEE.out.1 rfl
          go_wp2_with fail
          go_meet
          exact ⟨rfl, rfl, rfl⟩
        | true =>
          have hext2 : (⟨s.toArray⟩ : ByteArray).extract Z s.length = ⟨(s.drop Z).toArray⟩ := by
            rw [extract_list, List.take_of_length_le (by rw [List.length_drop]; omega)]
          have S3 := Tryz.strings_IndexByte ⟨(s.drop Z).toArray⟩ 41 w1
          rw [show (⟨(s.drop Z).toArray⟩ : ByteArray).data.toList = s.drop Z by simp, show (41 : Int).toNat.toUInt8 = 41 from rfl, HIX.out] at S3
          by_cases hc : Z + x < s.length
          · rw [if_pos hc] at S3
            obtain ⟨rfl, rfl⟩ := hEE.out.2.1 rfl hc
            have S4 := Lib.hid S3
            clear S3 HIX hEE
            generalize s.drop Z = D at *
            go_wp2_with fail
            refine S4.out.mono ?_
            rintro e w2 ⟨rfl, rfl⟩
            clear S4
            go_wp2_with fail
            go_meet
            exact ⟨by go_num, rfl, rfl⟩
          · rw [if_neg hc] at S3
            obtain ⟨hE0, rfl⟩ := hEE.out.2.2 rfl hc
            replace hE0 := hE0.symm
            subst hE0
            have S4 := Lib.hid S3
            clear S3 HIX hEE
            generalize s.drop Z = D at *
            go_wp2_with fail
            refine S4.out.mono ?_
            rintro e w2 ⟨rfl, rfl⟩
            clear S4
            go_wp2_with fail
            go_meet
            exact ⟨by go_num, rfl, rfl⟩
      case rest =>
        obtain ⟨rfl, rfl, hww⟩ := hcut
        replace hww := hww.symm
        subst hww
        clear HIX hEE
        have hext : (⟨s.toArray⟩ : ByteArray).extract m E = ⟨(cutS s m E).toArray⟩ := extract_list s m E
        have hcl : (cutS s m E).length ≤ 1000000 := by rw [cutS_len hE2]; omega
        have T1 := Lib.hid (fun W (h : Upd [] w1 W) => patternOfI (cutS s m E) W hcl (HE.out W (HU.out.trans (h.mono (by simp)))))
        have hmE : (m : Int) ≤ (E : Int) := by omega
        have hEl : (E : Int) ≤ (s.length : Int) := by omega
        generalize cutS s m E = t at *
        clear HE hcl
        go_upto_region 10 with (fail)
        go_region_held3 (fun w' => w'.cell? ⟨P, 0, none⟩ = some (es s) ∧ w'.cell? ⟨P, 2, none⟩ = some (.int .i64 m)) (go_keep)
          (first
            | (go_at_call 75; (with_reducible refine (T1.out _ ((Upd.refl _ _).drew)).mono ?_); rintro e w2 ⟨⟨q, b, rfl, hp⟩, hu2⟩; have hV2 : Upd [] w1 w2 := Upd.trans ((Upd.refl _ _).drew) hu2; have x0 := hV2.keep c0; have x2 := hV2.keep c2))
        all_goals
          have HP := Lib.hid hp
          have HR2 := Lib.hid (HR.out.keep hV2)
          have HU2 := Lib.hid (HU.out.trans (hV2.mono (by simp)))
          have hfz : w2.frozen? ⟨P, 2, none⟩ = false := HR2.out.own.frozen (by simp) _
          clear hp hV2 hu2 T1 HR HU
          cases cl with
          | false =>
            have HX := Lib.hid (show LF = none by rw [hLF]; rfl)
            clear HP hLF
            cases b
            all_goals
              go_wp2_with fail
              refine (S2.out _ HR2.out).mono ?_
              rintro e w3 ⟨rfl, hu3⟩
              have HU3 := Lib.hid (HU2.out.trans hu3)
              clear S2 hu3
              go_wp2_with fail
              refine ⟨rfl, ?_⟩
              rw [HX.out]
              exact ⟨rfl, HU3.out⟩
          | true =>
            cases b with
            | false =>
              have HX := Lib.hid (show LF = none by rw [hLF, if_pos rfl, HP.out.out]; rfl)
              clear HP hLF
              go_wp2_with fail
              refine (S2.out _ HR2.out).mono ?_
              rintro e w3 ⟨rfl, hu3⟩
              have HU3 := Lib.hid (HU2.out.trans hu3)
              clear S2 hu3
              go_wp2_with fail
              refine ⟨rfl, ?_⟩
              rw [HX.out]
              exact ⟨rfl, HU3.out⟩
            | true =>
              have HX := Lib.hid (show LF = some (q, E) by rw [hLF, if_pos rfl, HP.out.out]; rfl)
              clear HP hLF S2
              have HQ := Lib.hid (HR2.out.put (m := E) hE2 (z := (E : Int)) rfl)
              have HV := Lib.hid (HU2.out.setCell (p := ⟨P, 2, none⟩) (Or.inr (by simp)) (.int .i64 (E : Int)))
              clear HR2 HU2
              go_wp2_with fail
              go_ret
              rw [HX.out]
              exact ⟨⟨rfl, HQ.out⟩, HV.out⟩
    · obtain rfl : Z = s.length := by omega
      obtain ⟨E, cl, hE1, hE2, hLF, hEE, hcl1⟩ : ∃ (E : Nat) (cl : Bool), s.length ≤ E ∧ E ≤ s.length ∧ LF = (if cl then (patO (cutS s m E)).map (fun t => (t, E)) else none) ∧ s.length = E ∧ cl = true := by
        have h0 := HLF2.out
        rw [show isB s s.length 40 = false by unfold isB; rw [List.getElem?_eq_none (Nat.le_refl _)]; rfl] at h0
        exact ⟨s.length, true, Nat.le_refl _, Nat.le_refl _, by rw [h0]; rfl, rfl, rfl⟩
      clear HLF2 HIX
      subst hEE
      go_upto_if 83 with (fail)
      go_cut [3, 4] (fun s3 s4 wx => s3 = .int .i64 s.length ∧ s4 = .bool cl ∧ wx = w1)
      case first =>
        clear S2 HE hLF HU HR
        subst hcl1
        go_wp2_with fail
        go_meet
        exact ⟨rfl, rfl, rfl⟩
      case rest =>
        obtain ⟨rfl, rfl, hww⟩ := hcut
        replace hww := hww.symm
        subst hww
        clear hcl1
        have hext : (⟨s.toArray⟩ : ByteArray).extract m s.length = ⟨(cutS s m s.length).toArray⟩ := extract_list s m s.length
        have hcl : (cutS s m s.length).length ≤ 1000000 := by rw [cutS_len hE2]; omega
        have T1 := Lib.hid (fun W (h : Upd [] w1 W) => patternOfI (cutS s m s.length) W hcl (HE.out W (HU.out.trans (h.mono (by simp)))))
        have hmE : (m : Int) ≤ (s.length : Int) := by omega
        have hEl : (s.length : Int) ≤ (s.length : Int) := by omega
        generalize cutS s m s.length = t at *
        clear HE hcl
        go_upto_region 10 with (fail)
        go_region_held3 (fun w' => w'.cell? ⟨P, 0, none⟩ = some (es s) ∧ w'.cell? ⟨P, 2, none⟩ = some (.int .i64 m)) (go_keep)
          (first
            | (go_at_call 75; (with_reducible refine (T1.out _ ((Upd.refl _ _).drew)).mono ?_); rintro e w2 ⟨⟨q, b, rfl, hp⟩, hu2⟩; have hV2 : Upd [] w1 w2 := Upd.trans ((Upd.refl _ _).drew) hu2; have x0 := hV2.keep c0; have x2 := hV2.keep c2))
        all_goals
          have HP := Lib.hid hp
          have HR2 := Lib.hid (HR.out.keep hV2)
          have HU2 := Lib.hid (HU.out.trans (hV2.mono (by simp)))
          have hfz : w2.frozen? ⟨P, 2, none⟩ = false := HR2.out.own.frozen (by simp) _
          clear hp hV2 hu2 T1 HR HU
          cases cl with
          | false =>
            have HX := Lib.hid (show LF = none by rw [hLF]; rfl)
            clear HP hLF
            cases b
            all_goals
              go_wp2_with fail
              refine (S2.out _ HR2.out).mono ?_
              rintro e w3 ⟨rfl, hu3⟩
              have HU3 := Lib.hid (HU2.out.trans hu3)
              clear S2 hu3
              go_wp2_with fail
              refine ⟨rfl, ?_⟩
              rw [HX.out]
              exact ⟨rfl, HU3.out⟩
          | true =>
            cases b with
            | false =>
              have HX := Lib.hid (show LF = none by rw [hLF, if_pos rfl, HP.out.out]; rfl)
              clear HP hLF
              go_wp2_with fail
              refine (S2.out _ HR2.out).mono ?_
              rintro e w3 ⟨rfl, hu3⟩
              have HU3 := Lib.hid (HU2.out.trans hu3)
              clear S2 hu3
              go_wp2_with fail
              refine ⟨rfl, ?_⟩
              rw [HX.out]
              exact ⟨rfl, HU3.out⟩
            | true =>
              have HX := Lib.hid (show LF = some (q, s.length) by rw [hLF, if_pos rfl, HP.out.out]; rfl)
              clear HP hLF S2
              have HQ := Lib.hid (HR2.out.put (m := s.length) hE2 (z := (s.length : Int)) rfl)
              have HV := Lib.hid (HU2.out.setCell (p := ⟨P, 2, none⟩) (Or.inr (by simp)) (.int .i64 (s.length : Int)))
              clear HR2 HU2
              go_wp2_with fail
              go_ret
              rw [HX.out]
              exact ⟨⟨rfl, HQ.out⟩, HV.out⟩

end Go.Proofs.YtaahjpmndkcijaaGreatDoor

/-
  Regular expressions parsed: a tree over trees that are made anew.
-/
namespace Go.Proofs.YtaahjpmndkcijaaGreatDoor
open Go.RowKit

/-- a tree over nothing, made anew. -/
theorem nodY0 (w : World) (a : Int) (l : List UInt8) (nt : Bool) (T : TypeId) : New R_Y w (w.alloc (.cells #[ei a, es l, .bool nt, .slice none 0 0] T)) (.pointer (some ⟨w.heap.size, 0, none⟩)) (.mk ⟨a, l, nt⟩ []) := by
  refine ⟨[w.heap.size], R_Y_mk (cell_new w _ _ _ rfl 0 _ rfl) (cell_new w _ _ _ rfl 1 _ rfl) (cell_new w _ _ _ rfl 2 _ rfl) (cell_new w _ _ _ rfl 3 _ rfl) ⟨_, [], [], [], rfl, flat_nil _ 1, rfl, rfl, by simp⟩, ⟨by simp, fun b hb => ?_⟩, by simp⟩
  obtain rfl : b = w.heap.size := by simpa using hb
  exact ⟨_, _, heap_alloc_new w _⟩

theorem nodYK {w0 w : World} {us : List Value} {fps : List (List Nat)} {xs : List (Tr Rg)} (hn : 0 < xs.length) (hn2 : xs.length ≤ 100) (h1 : us.length = xs.length) (h2 : fps.length = xs.length) (hs : w0.heap.size ≤ w.heap.size)
    (hr : ∀ i (h : i < xs.length) u (f : List Nat), us[i]? = some u → fps[i]? = some f → R_Y f w [u] xs[i]) (ho : Own fps.flatten w) (hg : ∀ b ∈ fps.flatten, w0.heap.size ≤ b) (a : Int) (l : List UInt8) (nt : Bool) (T1 T : TypeId) :
    New R_Y w0 ((w.alloc (.cells us.toArray T1)).alloc (.cells #[ei a, es l, .bool nt, .slice (some ⟨w.heap.size, 0, none⟩) xs.length xs.length] T)) (.pointer (some ⟨w.heap.size + 1, 0, none⟩)) (.mk ⟨a, l, nt⟩ xs) := by
  obtain ⟨w2, hw2⟩ : ∃ w2, (w.alloc (.cells us.toArray T1)).alloc (.cells #[ei a, es l, .bool nt, .slice (some ⟨w.heap.size, 0, none⟩) xs.length xs.length] T) = w2 := ⟨_, rfl⟩
  have hz : (w.alloc (.cells us.toArray T1)).heap.size = w.heap.size + 1 := by simp
  have c0 := cell_new (w.alloc (.cells us.toArray T1)) #[ei a, es l, .bool nt, .slice (some ⟨w.heap.size, 0, none⟩) xs.length xs.length] T _ rfl 0 _ rfl
  have c1 := cell_new (w.alloc (.cells us.toArray T1)) #[ei a, es l, .bool nt, .slice (some ⟨w.heap.size, 0, none⟩) xs.length xs.length] T _ rfl 1 _ rfl
  have c2 := cell_new (w.alloc (.cells us.toArray T1)) #[ei a, es l, .bool nt, .slice (some ⟨w.heap.size, 0, none⟩) xs.length xs.length] T _ rfl 2 _ rfl
  have c3 := cell_new (w.alloc (.cells us.toArray T1)) #[ei a, es l, .bool nt, .slice (some ⟨w.heap.size, 0, none⟩) xs.length xs.length] T _ rfl 3 _ rfl
  have hu : Upd [] w w2 := by rw [← hw2]; exact ((Upd.refl _ _).alloc _).alloc _
  have hb1 : w2.heap[w.heap.size]? = some (.cells us.toArray T1) := by rw [← hw2, Below.heap_alloc _ _ _ (by rw [hz]; omega)]; exact heap_alloc_new w _
  have hb2 : w2.heap[w.heap.size + 1]? = some (.cells #[ei a, es l, .bool nt, .slice (some ⟨w.heap.size, 0, none⟩) xs.length xs.length] T) := by rw [← hw2, ← hz]; exact heap_alloc_new _ _
  have hsz : w2.heap.size = w.heap.size + 2 := by rw [← hw2]; simp
  rw [hw2] at c0 c1 c2 c3 ⊢
  rw [hz] at c0 c1 c2 c3
  clear hw2
  have hfl : ∀ c ∈ fps.flatten, c < w.heap.size := ho.lt
  refine ⟨(w.heap.size + 1) :: ([w.heap.size] ++ fps.flatten), R_Y_mk c0 c1 c2 c3 ⟨_, us, [w.heap.size], fps, rfl, ⟨_, xs.length, rfl, Nat.le_refl _, by unfold maxLen; omega, by omega, Or.inr ⟨_, 0, rfl, rfl, by omega, fun j u hu => ?_⟩⟩, h2, rfl, fun i hi u f hu' hf => ?_⟩, ⟨?_, fun c hc => ?_⟩, fun c hc => ?_⟩
  · rw [Nat.zero_add]
    simp [World.cell?, hb1, hu]
  · exact R_Yk.upd (hr i hi u f hu' hf) hu (by simp)
  · rw [List.singleton_append, List.nodup_cons, List.nodup_cons]
    refine ⟨fun hm => ?_, fun hm => ?_, ho.1⟩
    · rcases List.mem_cons.1 hm with h | h
      · omega
      · have := hfl _ h; omega
    · have := hfl _ hm; omega
  · rcases List.mem_cons.1 hc with rfl | hc
    · exact ⟨_, _, hb2⟩
    · rcases List.mem_append.1 hc with hc | hc
      · obtain rfl : c = w.heap.size := by simpa using hc
        exact ⟨_, _, hb1⟩
      · obtain ⟨q, t, hq⟩ := ho.2 c hc
        exact ⟨q, t, by rw [hu.block c (hfl c hc) (by simp)]; exact hq⟩
  · rcases List.mem_cons.1 hc with rfl | hc
    · omega
    · rcases List.mem_append.1 hc with hc | hc
      · obtain rfl : c = w.heap.size := by simpa using hc
        omega
      · exact hg c hc

/-- a tree over one tree. -/
theorem nodY1 {w0 w : World} {v : Value} {x : Tr Rg} (h : New R_Y w0 w v x) (hs : w0.heap.size ≤ w.heap.size) (a : Int) (l : List UInt8) (nt : Bool) (T1 T : TypeId) :
    New R_Y w0 ((w.alloc (.cells #[v] T1)).alloc (.cells #[ei a, es l, .bool nt, .slice (some ⟨w.heap.size, 0, none⟩) 1 1] T)) (.pointer (some ⟨w.heap.size + 1, 0, none⟩)) (.mk ⟨a, l, nt⟩ [x]) := by
  obtain ⟨fp, h1, h2, h3⟩ := h
  exact nodYK (us := [v]) (fps := [fp]) (xs := [x]) (by simp) (by simp) rfl rfl hs (fun i hi u f hu hf => by
    match i, hi, hu, hf with
    | 0, _, hu, hf => simp at hu hf; subst hu hf; exact h1) (by simpa using h2) (by simpa using h3) a l nt T1 T
/-- a tree over two trees; the second is made behind the first. -/
theorem nodY2 {w0 w1 w : World} {u v : Value} {x y : Tr Rg} {f : List Nat} (hx : New R_Y w0 w1 u x) (hu : Upd f w1 w) (hf : ∀ b ∈ f, b < w0.heap.size) (hy : New R_Y w1 w v y) (hs : w0.heap.size ≤ w1.heap.size) (a : Int) (l : List UInt8) (nt : Bool) (T1 T : TypeId) :
    New R_Y w0 ((w.alloc (.cells #[u, v] T1)).alloc (.cells #[ei a, es l, .bool nt, .slice (some ⟨w.heap.size, 0, none⟩) 2 2] T)) (.pointer (some ⟨w.heap.size + 1, 0, none⟩)) (.mk ⟨a, l, nt⟩ [x, y]) := by
  obtain ⟨fx, x1, x2, x3⟩ := hx
  obtain ⟨fy, y1, y2, y3⟩ := hy
  have hd : ∀ b ∈ fx, b ∉ f := fun b hb hm => by have := hf b hm; have := x3 b hb; omega
  have x1' := R_Yk.upd x1 hu hd
  have x2' := x2.upd hu hd
  have hxl := x2.lt
  refine nodYK (us := [u, v]) (fps := [fx, fy]) (xs := [x, y]) (by simp) (by simp) rfl rfl (by have := hu.size; omega) (fun i hi q g hq hg => ?_) ⟨?_, fun c hc => ?_⟩ (fun c hc => ?_) a l nt T1 T
  · match i, hi, hq, hg with
    | 0, _, hq, hg => simp at hq hg; subst hq hg; exact x1'
    | 1, _, hq, hg => simp at hq hg; subst hq hg; exact y1
  · simp only [List.flatten_cons, List.flatten_nil, List.append_nil]
    exact List.nodup_append.2 ⟨x2'.1, y2.1, fun p hp q hq e => by subst e; have := hxl p hp; have := y3 p hq; omega⟩
  · simp only [List.flatten_cons, List.flatten_nil, List.append_nil, List.mem_append] at hc
    rcases hc with h | h
    · exact x2'.2 c h
    · exact y2.2 c h
  · simp only [List.flatten_cons, List.flatten_nil, List.append_nil, List.mem_append] at hc
    rcases hc with h | h
    · exact x3 c h
    · have := y3 c h; omega

end Go.Proofs.YtaahjpmndkcijaaGreatDoor

/-
  Regular expressions parsed: the program reads atoms, sequences, alternatives.
-/
namespace Go.Proofs.YtaahjpmndkcijaaGreatDoor
open Go.RowKit

/-- what is parsed: a tree made anew and where the reader stands behind it, or the first error. -/
def ParR (P : Nat) (w : World) (s : List UInt8) (f : Bool) (u : Int) (r : Except Nat (Tr Rg × Nat)) (e : Ending) (w' : World) : Prop :=
  (match r with
  | .ok (x, p) => (∃ v, e = .returned v ∧ New R_Y w w' v x) ∧ RdAt P w' s p f u
  | .error a => e = synE a) ∧ Upd [P] w w'

theorem heap_lt {w : World} {b : Nat} {o : Obj} (h : w.heap[b]? = some o) : b < w.heap.size := (Array.getElem?_eq_some_iff.1 h).1
theorem New.leaf {w0 w : World} {v : Value} {l0 l : List UInt8} {nt : Bool} {b : Nat} {T : TypeId} (h : w.heap[b]? = some (.cells #[ei 0, es l0, .bool nt, .slice none 0 0] T)) (hb : w0.heap.size ≤ b) (hv : v = .pointer (some ⟨b, 0, none⟩)) :
    New R_Y w0 (w.setCell ⟨b, 1, none⟩ (es l)) v (leafR l nt) := by
  subst hv
  have h2 := heap_setCell_same w b 1 _ _ (es l) h
  have hc : ∀ j, (w.setCell ⟨b, 1, none⟩ (es l)).cell? ⟨b, j, none⟩ = (#[ei 0, es l0, .bool nt, .slice none 0 0].setIfInBounds 1 (es l))[j]? := fun j => by simp [World.cell?, h2]
  refine ⟨[b], R_Y_mk (by rw [hc]; rfl) (by rw [hc]; rfl) (by rw [hc]; rfl) (by rw [hc]; rfl) (slP_nilv _ _), ⟨by simp, fun c hcc => ?_⟩, fun c hcc => (by simp at hcc; omega)⟩
  obtain rfl : c = b := by simpa using hcc
  exact ⟨_, _, h2⟩

set_option maxRecDepth 20000 in
set_option maxHeartbeats 8000000 in
theorem atomR (k P : Nat) (w : World) (s : List UInt8) (n : Nat) (f : Bool) (u : Int) (hs : s.length ≤ 1000000) (hR : RdAt P w s n f u) (hE : ∀ W, Upd [P] w W → Env W)
    (hI : ∀ W n', n < n' → n' ≤ s.length → RdAt P W s n' f u → Upd [P] w W → Calls Tryz.prog 32 #[.pointer (some ⟨P, 0, none⟩)] W (ParR P W s f u (eitherF s k n'))) :
    Calls Tryz.prog 51 #[.pointer (some ⟨P, 0, none⟩)] w (ParR P w s f u (atomF s (k + 1) n)) := by
  have hpos := skR_le hR.le
  have B1 := byteR P w s n f u 40 hs hR
  unfold ByR at B1
  rw [show (((40 : UInt8).toNat : Nat) : Int) = 40 from rfl] at B1
  have hmm : skR s (skR s n) = skR s n := skR_idem hR.le
  have hPl := hR.lt
  have HA := Lib.hid (show atomF s (k + 1) n = _ from by rw [atomF])
  generalize atomF s (k + 1) n = A at *
  generalize skR s n = m at *
  obtain ⟨q, hq⟩ : ∃ q, isB s m 40 = q := ⟨_, rfl⟩
  rw [hq] at B1 HA
  have HI := Lib.hid hI
  have HE := Lib.hid hE
  have HB1 := Lib.hid B1
  clear hI hE hR B1
  go_enter Tryz.func51, Tryz.ntmps51
  go_wp2_with fail
  refine HB1.out.mono ?_
  rintro e w1 ⟨rfl, hr, hu⟩
  have HR1 := Lib.hid hr
  have HU1 := Lib.hid hu
  clear HB1 hr hu
  go_upto_if 6 with (fail)
  go_cut [3] (fun s3 wx => ∃ x0 n0, New R_Y w wx s3 x0 ∧ RdAt P wx s n0 f u ∧ Upd [P] w wx ∧ n0 ≤ s.length ∧ A = .ok (starsF s s.length x0 n0))
  case first =>
    cases q with
    | true =>
      have hlt := isB_lt hq
      rw [if_pos rfl] at HR1
      have E1 := HI.out w1 (m + 1) (by omega) (by omega) HR1.out HU1.out
      have HA2 := HA.out
      rw [if_pos rfl] at HA2
      cases he : eitherF s k (m + 1) with
      | error a =>
        rw [he] at E1 HA2
        have HX := Lib.hid HA2
        have HE1 := Lib.hid E1
        clear E1 HA2 HA HI HE HR1 he
        go_wp2_with fail
        refine HE1.out.mono ?_
        rintro e w2 ⟨rfl, hu2⟩
        have HU2 := Lib.hid (HU1.out.trans hu2)
        clear HE1 hu2
        go_wp2_with fail
        refine ⟨rfl, ?_⟩
        rw [HX.out]
        exact ⟨rfl, HU2.out⟩
      | ok r =>
        obtain ⟨x, p⟩ := r
        rw [he] at E1 HA2
        have hp := eitherF_pos k _ x p (by omega) he
        simp only at HA2
        have HX := Lib.hid HA2
        have HE1 := Lib.hid E1
        have hp3 := hp.2.2
        have hp1 : n ≤ p := by have := hp.1; omega
        have hp2 := hp.2.1
        clear E1 HA2 HA HI HE HR1 he hp
        go_wp2_with fail
        refine HE1.out.mono ?_
        rintro e w2 ⟨⟨⟨v, rfl, hn⟩, hr2⟩, hu2⟩
        have HN := Lib.hid (hn.mono HU1.out.size)
        have HU2 := Lib.hid (HU1.out.trans hu2)
        have N1 := needR P w2 s p f u 41 hs hr2
        rw [hp3, show (((41 : UInt8).toNat : Nat) : Int) = 41 from rfl] at N1
        clear HE1 hu2 hn hr2
        cases h41 : isB s p 41 with
        | true =>
          rw [h41] at N1 HX
          rw [if_pos rfl] at HX
          simp only [↓reduceIte] at N1
          have hpl := isB_lt h41
          have HN1 := Lib.hid N1
          clear N1 h41
          go_wp2_with fail
          refine HN1.out.mono ?_
          rintro e w3 ⟨⟨rfl, hr3⟩, hu3⟩
          have HU3 := Lib.hid (HU2.out.trans hu3)
          have HN3 := Lib.hid (R_Yk.new HN.out hu3 (by simp; exact hPl))
          have HR3 := Lib.hid hr3
          clear HN1 hu3 hr3 HN HU2
          go_wp2_with fail
          go_meet
          exact ⟨x, p + 1, HN3.out, HR3.out, HU3.out, by omega, HX.out⟩
        | false =>
          rw [h41] at N1 HX
          rw [if_neg (by decide)] at HX
          simp only [Bool.false_eq_true, ↓reduceIte] at N1
          have HN1 := Lib.hid N1
          clear N1 h41
          go_wp2_with fail
          refine HN1.out.mono ?_
          rintro e w3 ⟨rfl, hu3⟩
          have HU3 := Lib.hid (HU2.out.trans hu3)
          clear HN1 hu3 HN HU2
          go_wp2_with fail
          refine ⟨rfl, ?_⟩
          rw [HX.out]
          exact ⟨rfl, HU3.out⟩
    | false =>
      rw [if_neg (by decide)] at HR1
      have HA2 := HA.out
      rw [if_neg (by decide)] at HA2
      have B2 := byteR P w1 s m f u 33 hs HR1.out
      unfold ByR at B2
      rw [hmm, show (((33 : UInt8).toNat : Nat) : Int) = 33 from rfl] at B2
      obtain ⟨nt, hnt⟩ : ∃ nt, isB s m 33 = nt := ⟨_, rfl⟩
      rw [hnt] at B2
      have HTP := Lib.hid (show testP s m = _ from by rw [testP, hnt])
      generalize testP s m = TP at *
      have HB2 := Lib.hid B2
      have HX := Lib.hid HA2
      clear HA HI HA2 B2
      go_wp2_with fail
      refine HB2.out.mono ?_
      rintro e w2 ⟨rfl, hr2, hu2⟩
      have HU2 := Lib.hid (HU1.out.trans hu2)
      -- where the reader stands behind the blanks that follow '!'
      have hm2 : (if nt then m + 1 else m) ≤ s.length := hr2.le
      obtain ⟨m2, hm2e⟩ : ∃ m2, (if nt = true then skR s (m + 1) else m) = m2 := ⟨_, rfl⟩
      have hsk : skR s (if nt = true then m + 1 else m) = m2 := by
        rw [← hm2e]
        cases nt
        · exact hmm
        · rfl
      rw [hm2e] at HTP
      have hm2l : m2 ≤ s.length := by rw [← hsk]; exact (skR_le hm2).2
      have hmm2 : skR s m2 = m2 := by rw [← hsk]; exact skR_idem hm2
      have HR2 := Lib.hid hr2
      clear HB2 hu2 hr2 hm2e
      go_upto_region 7 with (fail)
      obtain ⟨B, hB⟩ : ∃ B, w2.heap.size = B := ⟨_, rfl⟩
      obtain ⟨w3, hw3⟩ : ∃ w3, w3 = w2.alloc (.cells #[.int .i64 0, .string ⟨#[]⟩, .bool nt, .slice none 0 0] 68) := ⟨_, rfl⟩
      have hu3 : Upd [] w2 w3 := by rw [hw3]; exact (Upd.refl _ _).alloc _
      have hb3 : w3.heap[B]? = some (.cells #[ei 0, es [], .bool nt, .slice none 0 0] 68) := by rw [hw3, ← hB]; exact heap_alloc_new w2 _
      have hn3 : New R_Y w2 w3 (.pointer (some ⟨B, 0, none⟩)) (leafR [] nt) := by rw [hw3, ← hB]; exact nodY0 w2 0 [] nt _
      have hBw : w.heap.size ≤ B := by rw [← hB]; exact HU2.out.size
      have hPB : P ≠ B := by omega
      have HN3 := Lib.hid (hn3.mono HU2.out.size)
      have HR3 := Lib.hid (HR2.out.keep hu3)
      have HU3 := Lib.hid (HU2.out.trans (hu3.mono (by simp)))
      have B3 := byteR P w3 s _ f u 95 hs HR3.out
      unfold ByR at B3
      rw [hsk, show (((95 : UInt8).toNat : Nat) : Int) = 95 from rfl] at B3
      obtain ⟨q5, hq5⟩ : ∃ q, isB s m2 95 = q := ⟨_, rfl⟩
      rw [hq5] at B3 HTP
      have HB3 := Lib.hid B3
      have H3 := Lib.hid hb3
      rw [← hw3, hB]
      clear hw3 hB hu3 hb3 hn3 B3 HR3 HR2 HU2
      go_wp2_with fail
      refine HB3.out.mono ?_
      rintro e w4 ⟨rfl, hr4, hu4⟩
      have HU4 := Lib.hid (HU3.out.trans hu4)
      have HN4 := Lib.hid (R_Yk.new HN3.out hu4 (by simp; exact hPl))
      have H4 := Lib.hid ((hu4.block B (heap_lt H3.out) (by simp; omega)).trans H3.out)
      cases q5 with
      | true =>
        have hl5 := isB_lt hq5
        rw [if_pos rfl] at hr4
        have HR4 := Lib.hid hr4
        have HX2 := Lib.hid (show A = .ok (starsF s s.length (leafR [] nt) (m2 + 1)) by rw [HX.out, HTP.out]; rfl)
        clear HB3 HX HTP H3 HN3 HU3 hr4 hu4 H4 HE
        go_wp2_with fail
        go_meet
        exact ⟨leafR [] nt, m2 + 1, HN4.out, HR4.out, HU4.out, by omega, HX2.out⟩
      | false =>
        rw [if_neg (by decide)] at hr4
        have L5 := labelR P w4 s m2 f u hs hr4 (fun W h => HE.out W (HU4.out.trans h))
        rw [hmm2] at L5
        have HLp := Lib.hid (fun t p (h : labF s m2 = some (t, p)) => labF_pos hm2l h)
        have HTP2 := Lib.hid (show TP = (match labF s m2 with | none => .error m2 | some (l, e) => .ok (leafR l nt, e)) by rw [HTP.out]; rfl)
        clear HB3 HTP H3 HN3 HU3 hr4 hu4 HN4 HE
        cases hlf : labF s m2 with
        | none =>
          rw [hlf] at L5 HTP2
          have HX2 := Lib.hid (show A = .error m2 by rw [HX.out, HTP2.out])
          have HL5 := Lib.hid L5
          clear L5 HTP2 HX HLp hlf H4
          go_wp2_with fail
          refine HL5.out.mono ?_
          rintro e w5 ⟨rfl, hu5⟩
          have HU5 := Lib.hid (HU4.out.trans hu5)
          clear HL5 hu5
          go_wp2_with fail
          refine ⟨rfl, ?_⟩
          rw [HX2.out]
          exact ⟨rfl, HU5.out⟩
        | some r =>
          obtain ⟨l, p⟩ := r
          rw [hlf] at L5 HTP2
          have HX2 := Lib.hid (show A = .ok (starsF s s.length (leafR l nt) p) by rw [HX.out, HTP2.out])
          have HL5 := Lib.hid L5
          have hpp := (HLp.out l p hlf).2
          clear L5 HTP2 HX HLp hlf
          go_wp2_with fail
          refine HL5.out.mono ?_
          rintro e w5 ⟨⟨rfl, hr5⟩, hu5⟩
          have h5 := (hu5.block B (heap_lt H4.out) (by simp; omega)).trans H4.out
          have c51 : w5.cell? ⟨B, 1, none⟩ = some (es []) := by simp [World.cell?, h5]
          have f51 : w5.frozen? ⟨B, 1, none⟩ = false := by simp [World.frozen?, h5]
          have HU5 := Lib.hid (HU4.out.trans hu5)
          have HN5 := Lib.hid (New.leaf (w0 := w) (l := l) h5 hBw rfl)
          have HV5 := Lib.hid (show Upd [B] w5 (w5.setCell ⟨B, 1, none⟩ (es l)) from (Upd.refl _ _).setCell (Or.inr (by simp)) _)
          have HR5 := Lib.hid (hr5.far HV5.out (by simp; exact hPB))
          have HU6 := Lib.hid (show Upd [P] w (w5.setCell ⟨B, 1, none⟩ (es l)) from HU5.out.setCell (Or.inl hBw) _)
          clear HL5 hu5 hr5 h5 H4 HV5 HU5
          go_wp2_with fail
          go_meet
          exact ⟨leafR l nt, p, HN5.out, HR5.out, HU6.out, hpp, HX2.out⟩
  case rest =>
    obtain ⟨x0, n0, hn0, hr0, hu0, hn0l, hA⟩ := hcut
    have HAE := Lib.hid hA
    have HN0 := Lib.hid hn0
    have HR0 := Lib.hid hr0
    have HU0 := Lib.hid hu0
    clear hn0 hr0 hu0 hA HA HI HE HR1 HU1
    generalize hS : starsF s s.length x0 n0 = S at *
    go_wp2_with fail
    go_loopw [3] (fun sv wr => ∃ (v : Value) (x' : Tr Rg) (n' j : Nat), v = sv ∧ n' ≤ s.length ∧ s.length ≤ j + n' ∧ Hid (starsF s j x' n' = S) ∧ Hid (New R_Y w wr v x') ∧ Hid (RdAt P wr s n' f u) ∧ Hid (Upd [P] w wr)) (fun _ wr => s.length - (intOf ((wr.cell? ⟨P, 2, none⟩).getD undef)).toNat)
    case atStart => exact ⟨_, x0, n0, s.length, rfl, hn0l, by omega, Lib.hid hS, HN0, HR0, HU0⟩
    case round =>
      clear hS HN0 HR0 HU0 hn0l
      obtain ⟨wo, rfl⟩ : ∃ wo : World, wo = wr := ⟨_, rfl⟩
      obtain ⟨v, x', n', j, rfl, hn', hj, HS, HN', HR', HU'⟩ := hrel
      obtain ⟨bv, rfl⟩ : ∃ b, v = .pointer (some ⟨b, 0, none⟩) := by obtain ⟨fp, h, -⟩ := HN'.out; exact R_T_form h
      have B9 := byteR P wo s n' f u 42 hs HR'.out
      unfold ByR at B9
      rw [show (((42 : UInt8).toNat : Nat) : Int) = 42 from rfl] at B9
      have hsk9 := skR_le (s := s) (n := n') hn'
      have hM := HR'.out.c2
      have HM := Lib.hid (show intOf ((wo.cell? ⟨P, 2, none⟩).getD undef) = n' by rw [hM]; rfl)
      obtain ⟨q9, hq9⟩ : ∃ q, isB s (skR s n') 42 = q := ⟨_, rfl⟩
      have HQ0 := Lib.hid (show q9 = false → S = (x', skR s n') from fun h => by
        rw [← HS.out]
        cases j with
        | zero => rfl
        | succ j => rw [starsF, if_neg (by rw [hq9, h]; decide)])
      have HQ1 := Lib.hid (show q9 = true → ∃ j', s.length ≤ j' + (skR s n' + 1) ∧ skR s n' + 1 ≤ s.length ∧ starsF s j' (starR x') (skR s n' + 1) = S from fun h => by
        rw [h] at hq9
        have hlt := isB_lt hq9
        cases j with
        | zero => omega
        | succ j =>
          refine ⟨j, by omega, by omega, ?_⟩
          rw [← HS.out, starsF, if_pos hq9])
      rw [hq9] at B9
      have HB9 := Lib.hid B9
      clear HS B9 hq9 hM HR'
      generalize skR s n' = m' at *
      go_wp2_with fail
      refine HB9.out.mono ?_
      rintro e w2 ⟨rfl, hr2, hu2⟩
      have HU2 := Lib.hid (HU'.out.trans hu2)
      have HN2 := Lib.hid (R_Yk.new HN'.out hu2 (by simp; exact hPl))
      clear HB9 HU' HN' hu2
      cases q9 with
      | true =>
        obtain ⟨j', j1, j2, j3⟩ := HQ1.out rfl
        have HJ3 := Lib.hid j3
        rw [if_pos rfl] at hr2
        have HW := Lib.hid (nodY1 HN2.out HU2.out.size 3 [] false 48 68)
        have HV := Lib.hid (show Upd [] w2 ((w2.alloc (.cells #[.pointer (some ⟨bv, 0, none⟩)] 48)).alloc (.cells #[ei 3, es [], .bool false, .slice (some ⟨w2.heap.size, 0, none⟩) 1 1] 68)) from ((Upd.refl _ _).alloc _).alloc _)
        have HR2 := Lib.hid (hr2.keep HV.out)
        have HV2 := Lib.hid (HU2.out.trans (HV.out.mono (by simp)))
        have HM2 := Lib.hid (show intOf ((((w2.alloc (.cells #[.pointer (some ⟨bv, 0, none⟩)] 48)).alloc (.cells #[ei 3, es [], .bool false, .slice (some ⟨w2.heap.size, 0, none⟩) 1 1] 68)).cell? ⟨P, 2, none⟩).getD undef) = (m' + 1 : Nat) by rw [HR2.out.c2]; rfl)
        clear HQ0 HQ1 j3 HU2 HN2 hr2 HV
        go_wp2_with fail
        go_roundw
        case rel => exact ⟨_, starR x', m' + 1, j', rfl, j2, j1, HJ3, HW, HR2, HV2⟩
        case measure =>
          have h1 := HM.out
          have h2 := HM2.out
          refine (show s.length - (intOf _).toNat < s.length - (intOf _).toNat from ?_)
          rw [h1]
          refine Nat.lt_of_le_of_lt (Nat.le_of_eq (congrArg (fun z : Int => s.length - z.toNat) h2)) ?_
          simp; omega
      | false =>
        have HX := Lib.hid (show A = .ok (x', m') by rw [HAE.out, HQ0.out rfl])
        rw [if_neg (by decide)] at hr2
        have HR2 := Lib.hid hr2
        clear HQ0 HQ1 hr2 HAE
        go_wp2_with fail
        go_ret
        rw [HX.out]
        exact ⟨⟨⟨_, rfl, HN2.out⟩, HR2.out⟩, HU2.out⟩

set_option maxRecDepth 20000 in
set_option maxHeartbeats 8000000 in
theorem thenR (k P : Nat) (w : World) (s : List UInt8) (n : Nat) (f : Bool) (u : Int) (hs : s.length ≤ 1000000) (hR : RdAt P w s n f u)
    (hA : Calls Tryz.prog 51 #[.pointer (some ⟨P, 0, none⟩)] w (ParR P w s f u (atomF s k n)))
    (hI : ∀ W n', n < n' → n' ≤ s.length → RdAt P W s n' f u → Upd [P] w W → Calls Tryz.prog 42 #[.pointer (some ⟨P, 0, none⟩)] W (ParR P W s f u (thenF s k n'))) :
    Calls Tryz.prog 42 #[.pointer (some ⟨P, 0, none⟩)] w (ParR P w s f u (thenF s (k + 1) n)) := by
  have hPl := hR.lt
  have hnl := hR.le
  have HX := Lib.hid (show thenF s (k + 1) n = _ from by rw [thenF])
  generalize thenF s (k + 1) n = A at *
  have HI := Lib.hid hI
  clear hI hR
  cases ha : atomF s k n with
  | error a =>
    rw [ha] at hA HX
    have HA := Lib.hid hA
    have HY := Lib.hid (show A = .error a from HX.out)
    clear ha hA HX HI
    go_enter Tryz.func42, Tryz.ntmps42
    go_wp2_with fail
    refine HA.out.mono ?_
    rintro e w1 ⟨rfl, hu⟩
    have HU := Lib.hid hu
    clear HA hu
    go_wp2_with fail
    refine ⟨rfl, ?_⟩
    rw [HY.out]
    exact ⟨rfl, HU.out⟩
  | ok r =>
    obtain ⟨x, p⟩ := r
    rw [ha] at hA HX
    have hp := atomF_pos k _ x p hnl ha
    have hp3 := hp.2.2
    have hp1 := hp.1
    have hp2 := hp.2.1
    have HA := Lib.hid hA
    have HY := Lib.hid (show A = (if isB s p 46 then (match thenF s k (p + 1) with | .error e => .error e | .ok (y, q) => .ok (twoR 1 x y, q)) else .ok (x, p)) from HX.out)
    clear ha hA HX hp
    go_enter Tryz.func42, Tryz.ntmps42
    go_wp2_with fail
    refine HA.out.mono ?_
    rintro e w1 ⟨⟨⟨v, rfl, hn⟩, hr⟩, hu⟩
    obtain ⟨bv, rfl⟩ : ∃ b, v = .pointer (some ⟨b, 0, none⟩) := by obtain ⟨fp, h, -⟩ := hn; exact R_T_form h
    have B2 := byteR P w1 s p f u 46 hs hr
    unfold ByR at B2
    rw [hp3, show (((46 : UInt8).toNat : Nat) : Int) = 46 from rfl] at B2
    obtain ⟨q, hq⟩ : ∃ q, isB s p 46 = q := ⟨_, rfl⟩
    rw [hq] at B2 HY
    have HB2 := Lib.hid B2
    have HN := Lib.hid hn
    have HU := Lib.hid hu
    clear HA B2 hn hu hr
    go_wp2_with fail
    refine HB2.out.mono ?_
    rintro e w2 ⟨rfl, hr2, hu2⟩
    have HU2 := Lib.hid (HU.out.trans hu2)
    have HN2 := Lib.hid (R_Yk.new HN.out hu2 (by simp; exact hPl))
    clear HB2 hu2 HN HU
    cases q with
    | false =>
      rw [if_neg (by decide)] at hr2
      have HR2 := Lib.hid hr2
      have HZ := Lib.hid (show A = .ok (x, p) by rw [HY.out]; rfl)
      clear hr2 HY HI
      go_wp2_with fail
      go_ret
      rw [HZ.out]
      exact ⟨⟨⟨_, rfl, HN2.out⟩, HR2.out⟩, HU2.out⟩
    | true =>
      have hlt := isB_lt hq
      rw [if_pos rfl] at hr2
      have E1 := HI.out w2 (p + 1) (by omega) (by omega) hr2 HU2.out
      have hY2 := HY.out
      rw [if_pos rfl] at hY2
      clear HI hr2 HY
      cases he : thenF s k (p + 1) with
      | error a =>
        rw [he] at E1 hY2
        have HE1 := Lib.hid E1
        have HZ := Lib.hid hY2
        clear E1 hY2 he
        go_wp2_with fail
        refine HE1.out.mono ?_
        rintro e w3 ⟨rfl, hu3⟩
        have HU3 := Lib.hid (HU2.out.trans hu3)
        clear HE1 hu3
        go_wp2_with fail
        refine ⟨rfl, ?_⟩
        rw [HZ.out]
        exact ⟨rfl, HU3.out⟩
      | ok r =>
        obtain ⟨y, q'⟩ := r
        rw [he] at E1 hY2
        have HE1 := Lib.hid E1
        have HZ := Lib.hid (show A = .ok (twoR 1 x y, q') from hY2)
        clear E1 hY2 he
        go_wp2_with fail
        refine HE1.out.mono ?_
        rintro e w3 ⟨⟨⟨v2, rfl, hn3⟩, hr3⟩, hu3⟩
        obtain ⟨bw, rfl⟩ : ∃ b, v2 = .pointer (some ⟨b, 0, none⟩) := by obtain ⟨fp, h, -⟩ := hn3; exact R_T_form h
        have hs2 := HU2.out.size
        have HN3 := Lib.hid (nodY2 HN2.out hu3 (by simp; exact hPl) hn3 hs2 1 [] false 48 68)
        have HV := Lib.hid (show Upd [] w3 ((w3.alloc (.cells #[.pointer (some ⟨bv, 0, none⟩), .pointer (some ⟨bw, 0, none⟩)] 48)).alloc (.cells #[ei 1, es [], .bool false, .slice (some ⟨w3.heap.size, 0, none⟩) 2 2] 68)) from ((Upd.refl _ _).alloc _).alloc _)
        have HR3 := Lib.hid (hr3.keep HV.out)
        have HU3 := Lib.hid ((HU2.out.trans hu3).trans (HV.out.mono (by simp)))
        clear HE1 hu3 hr3 hn3 HU2 HN2 HV
        go_wp2_with fail
        go_ret
        rw [HZ.out]
        exact ⟨⟨⟨_, rfl, HN3.out⟩, HR3.out⟩, HU3.out⟩

set_option maxRecDepth 20000 in
set_option maxHeartbeats 8000000 in
theorem eitherR (k P : Nat) (w : World) (s : List UInt8) (n : Nat) (f : Bool) (u : Int) (hs : s.length ≤ 1000000) (hR : RdAt P w s n f u)
    (hA : Calls Tryz.prog 42 #[.pointer (some ⟨P, 0, none⟩)] w (ParR P w s f u (thenF s k n)))
    (hI : ∀ W n', n < n' → n' ≤ s.length → RdAt P W s n' f u → Upd [P] w W → Calls Tryz.prog 32 #[.pointer (some ⟨P, 0, none⟩)] W (ParR P W s f u (eitherF s k n'))) :
    Calls Tryz.prog 32 #[.pointer (some ⟨P, 0, none⟩)] w (ParR P w s f u (eitherF s (k + 1) n)) := by
  have hPl := hR.lt
  have hnl := hR.le
  have HX := Lib.hid (show eitherF s (k + 1) n = _ from by rw [eitherF])
  generalize eitherF s (k + 1) n = A at *
  have HI := Lib.hid hI
  clear hI hR
  cases ha : thenF s k n with
  | error a =>
    rw [ha] at hA HX
    have HA := Lib.hid hA
    have HY := Lib.hid (show A = .error a from HX.out)
    clear ha hA HX HI
    go_enter Tryz.func32, Tryz.ntmps32
    go_wp2_with fail
    refine HA.out.mono ?_
    rintro e w1 ⟨rfl, hu⟩
    have HU := Lib.hid hu
    clear HA hu
    go_wp2_with fail
    refine ⟨rfl, ?_⟩
    rw [HY.out]
    exact ⟨rfl, HU.out⟩
  | ok r =>
    obtain ⟨x, p⟩ := r
    rw [ha] at hA HX
    have hp := thenF_pos k _ x p hnl ha
    have hp3 := hp.2.2
    have hp1 := hp.1
    have hp2 := hp.2.1
    have HA := Lib.hid hA
    have HY := Lib.hid (show A = (if isB s p 43 then (match eitherF s k (p + 1) with | .error e => .error e | .ok (y, q) => .ok (twoR 2 x y, q)) else .ok (x, p)) from HX.out)
    clear ha hA HX hp
    go_enter Tryz.func32, Tryz.ntmps32
    go_wp2_with fail
    refine HA.out.mono ?_
    rintro e w1 ⟨⟨⟨v, rfl, hn⟩, hr⟩, hu⟩
    obtain ⟨bv, rfl⟩ : ∃ b, v = .pointer (some ⟨b, 0, none⟩) := by obtain ⟨fp, h, -⟩ := hn; exact R_T_form h
    have B2 := byteR P w1 s p f u 43 hs hr
    unfold ByR at B2
    rw [hp3, show (((43 : UInt8).toNat : Nat) : Int) = 43 from rfl] at B2
    obtain ⟨q, hq⟩ : ∃ q, isB s p 43 = q := ⟨_, rfl⟩
    rw [hq] at B2 HY
    have HB2 := Lib.hid B2
    have HN := Lib.hid hn
    have HU := Lib.hid hu
    clear HA B2 hn hu hr
    go_wp2_with fail
    refine HB2.out.mono ?_
    rintro e w2 ⟨rfl, hr2, hu2⟩
    have HU2 := Lib.hid (HU.out.trans hu2)
    have HN2 := Lib.hid (R_Yk.new HN.out hu2 (by simp; exact hPl))
    clear HB2 hu2 HN HU
    cases q with
    | false =>
      rw [if_neg (by decide)] at hr2
      have HR2 := Lib.hid hr2
      have HZ := Lib.hid (show A = .ok (x, p) by rw [HY.out]; rfl)
      clear hr2 HY HI
      go_wp2_with fail
      go_ret
      rw [HZ.out]
      exact ⟨⟨⟨_, rfl, HN2.out⟩, HR2.out⟩, HU2.out⟩
    | true =>
      have hlt := isB_lt hq
      rw [if_pos rfl] at hr2
      have E1 := HI.out w2 (p + 1) (by omega) (by omega) hr2 HU2.out
      have hY2 := HY.out
      rw [if_pos rfl] at hY2
      clear HI hr2 HY
      cases he : eitherF s k (p + 1) with
      | error a =>
        rw [he] at E1 hY2
        have HE1 := Lib.hid E1
        have HZ := Lib.hid hY2
        clear E1 hY2 he
        go_wp2_with fail
        refine HE1.out.mono ?_
        rintro e w3 ⟨rfl, hu3⟩
        have HU3 := Lib.hid (HU2.out.trans hu3)
        clear HE1 hu3
        go_wp2_with fail
        refine ⟨rfl, ?_⟩
        rw [HZ.out]
        exact ⟨rfl, HU3.out⟩
      | ok r =>
        obtain ⟨y, q'⟩ := r
        rw [he] at E1 hY2
        have HE1 := Lib.hid E1
        have HZ := Lib.hid (show A = .ok (twoR 2 x y, q') from hY2)
        clear E1 hY2 he
        go_wp2_with fail
        refine HE1.out.mono ?_
        rintro e w3 ⟨⟨⟨v2, rfl, hn3⟩, hr3⟩, hu3⟩
        obtain ⟨bw, rfl⟩ : ∃ b, v2 = .pointer (some ⟨b, 0, none⟩) := by obtain ⟨fp, h, -⟩ := hn3; exact R_T_form h
        have hs2 := HU2.out.size
        have HN3 := Lib.hid (nodY2 HN2.out hu3 (by simp; exact hPl) hn3 hs2 2 [] false 48 68)
        have HV := Lib.hid (show Upd [] w3 ((w3.alloc (.cells #[.pointer (some ⟨bv, 0, none⟩), .pointer (some ⟨bw, 0, none⟩)] 48)).alloc (.cells #[ei 2, es [], .bool false, .slice (some ⟨w3.heap.size, 0, none⟩) 2 2] 68)) from ((Upd.refl _ _).alloc _).alloc _)
        have HR3 := Lib.hid (hr3.keep HV.out)
        have HU3 := Lib.hid ((HU2.out.trans hu3).trans (HV.out.mono (by simp)))
        clear HE1 hu3 hr3 hn3 HU2 HN2 HV
        go_wp2_with fail
        go_ret
        rw [HZ.out]
        exact ⟨⟨⟨_, rfl, HN3.out⟩, HR3.out⟩, HU3.out⟩

/-- the three readers together, by the measure of what is left. -/
theorem parR (s : List UInt8) (P : Nat) (f : Bool) (u : Int) (hs : s.length ≤ 1000000) : ∀ (k n : Nat) (w : World), RdAt P w s n f u → (∀ W, Upd [P] w W → Env W) →
    (3 * (s.length - n) + 1 ≤ k → Calls Tryz.prog 51 #[.pointer (some ⟨P, 0, none⟩)] w (ParR P w s f u (atomF s k n))) ∧
    (3 * (s.length - n) + 2 ≤ k → Calls Tryz.prog 42 #[.pointer (some ⟨P, 0, none⟩)] w (ParR P w s f u (thenF s k n))) ∧
    (3 * (s.length - n) + 3 ≤ k → Calls Tryz.prog 32 #[.pointer (some ⟨P, 0, none⟩)] w (ParR P w s f u (eitherF s k n)))
  | 0, n, w, hR, hE => ⟨fun h => absurd h (by omega), fun h => absurd h (by omega), fun h => absurd h (by omega)⟩
  | k + 1, n, w, hR, hE => by
    refine ⟨fun h => ?_, fun h => ?_, fun h => ?_⟩
    · exact atomR k P w s n f u hs hR hE (fun W n' h1 h2 hr hu => (parR s P f u hs k n' W hr (fun W' h' => hE W' (hu.trans h'))).2.2 (by omega))
    · exact thenR k P w s n f u hs hR ((parR s P f u hs k n w hR hE).1 (by omega)) (fun W n' h1 h2 hr hu => (parR s P f u hs k n' W hr (fun W' h' => hE W' (hu.trans h'))).2.1 (by omega))
    · exact eitherR k P w s n f u hs hR ((parR s P f u hs k n w hR hE).2.1 (by omega)) (fun W n' h1 h2 hr hu => (parR s P f u hs k n' W hr (fun W' h' => hE W' (hu.trans h'))).2.2 (by omega))

end Go.Proofs.YtaahjpmndkcijaaGreatDoor
