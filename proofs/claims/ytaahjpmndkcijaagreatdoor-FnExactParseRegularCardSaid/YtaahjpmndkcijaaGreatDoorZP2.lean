/-
  Texts joined in one file: LabE, LabJ, LabN, LabL, LabM, TrT, EncP, ForP, DecU, EncC, DecK, DecK2, ForQ, FxP, RegP, RegX, HarnR, RegW, PrP, PrA, PrM0, HarnF, ForS, PrS, PrT, PrU, PrV, ForI, FxW, PrE, PrI, PrJ, PrN, PrK, PrL, PrM.
-/
import Derived.Test.YtaahjpmndkcijaaGreatDoorZP1
import Derived.Test.YtaahjpmndkcijaaGreatDoorShelf
import Derived.IntWalk
import Derived.Laws.Bits64b
import Derived.Deep.RegionHeld3
import Derived.Deep.DeepCutAuto
import Derived.Deep.QuietTactic
import Derived.BigQuiet
import Derived.Recover
import Derived.Defers
/-
  Numbers in decimal: what the program's calls return.
-/
namespace Go.Proofs.YtaahjpmndkcijaaGreatDoor
open Go.RowKit

/-- what the calls of the library read of the package's variables. -/
structure Env (w : World) : Prop where
  m : ∃ m : Int, w.cell? ⟨0, 0, none⟩ = some (.int .i64 m)
  tab : Lib.TabIs Tryz.prog w "internal/strconv.uint64pow10" .u64 Lib.pow10Tab
  syn : ∃ tp p, w.var? Tryz.prog "strconv.ErrSyntax" = some #[.iface tp p]
  rng : ∃ tp p, w.var? Tryz.prog "strconv.ErrRange" = some #[.iface tp p]

theorem Upd.var {P : Program} {w w1 : World} {n : String} {cs : Array Value} (hu : Upd [] w w1) (h : w.var? P n = some cs) : w1.var? P n = some cs := by
  unfold World.var? at h ⊢
  cases hg : P.globalNamed n with
  | none => rw [hg] at h; cases h
  | some g =>
    rw [hg] at h
    simp only [Option.bind_some] at h ⊢
    have hlt : g < w.heap.size := by
      rcases Nat.lt_or_ge g w.heap.size with h1 | h1
      · exact h1
      · rw [Array.getElem?_eq_none h1] at h; cases h
    rw [hu.block g hlt (by simp)]
    exact h

theorem Env.upd {w w1 : World} (h : Env w) (hu : Upd [] w w1) : Env w1 :=
  ⟨h.m.imp fun _ hm => hu.keep hm, hu.var h.tab, h.syn.imp fun _ hs => hs.imp fun _ hs => hu.var hs, h.rng.imp fun _ hs => hs.imp fun _ hs => hu.var hs⟩

theorem Upd.grow (w : World) (k : Nat) (os : Array Obj) : Upd [] w (Sort.grow (w.drewN k) os) := by
  refine ⟨rfl, rfl, rfl, ?_, fun i hi _ => ?_⟩
  · show w.heap.size ≤ (w.heap ++ os).size
    rw [Array.size_append]; omega
  · show (w.heap ++ os)[i]? = w.heap[i]?
    rw [Array.getElem?_append_left hi]

theorem decimal (n : Int) (w : World) (h0 : -9223372036854775808 ≤ n) (h1 : n ≤ 9223372036854775807) (he : Env w) :
    Calls Tryz.prog 108 #[.int .i64 n] w fun e w' => e = .returned (es (Lib.itoa n)) ∧ Upd [] w w' := by
  have S1 := Lib.hid (Tryz.strconv_FormatInt_10 n h0 h1 w he.tab)
  clear he h0 h1
  go_enter Tryz.func108, Tryz.ntmps108
  go_wp2_with fail
  refine S1.out.mono ?_
  rintro e w1 ⟨rfl, k, os, rfl⟩
  have HU := Lib.hid (Upd.grow w k os)
  generalize Sort.grow (w.drewN k) os = w1 at *
  clear S1
  go_wp2_with fail
  go_ret
  exact ⟨rfl, HU.out⟩

theorem isActionI (l : List UInt8) (w : World) (hl : l.length ≤ 2000000) :
    Calls Tryz.prog 83 #[es l] w fun e w' => e = .returned (.bool (actF l)) ∧ w = w' := by
  have S1 := Lib.hid (isNameI l w hl)
  cases hn : nameF l with
  | false =>
    have HR := Lib.hid (show actF l = false by simp [actF, hn])
    rw [hn] at S1
    clear hn
    go_enter Tryz.func83, Tryz.ntmps83
    go_wp2_with fail
    refine S1.out.mono ?_
    rintro e w1 ⟨rfl, rfl⟩
    clear S1
    go_wp2_with fail
    go_ret
    exact ⟨by rw [HR.out]; rfl, rfl⟩
  | true =>
    have HR := Lib.hid (show actF l = (l != tauL) by simp [actF, hn])
    rw [hn] at S1
    clear hn
    go_enter Tryz.func83, Tryz.ntmps83
    go_wp2_with fail
    refine S1.out.mono ?_
    rintro e w1 ⟨rfl, rfl⟩
    clear S1
    go_wp2_with fail
    go_ret
    refine ⟨?_, rfl⟩
    rw [HR.out]
    simp [tauL, bne]

theorem parse_range {l : List UInt8} {v : Int} (h : Lib.parseIntB 64 l = .ok v) : -9223372036854775808 ≤ v ∧ v ≤ 9223372036854775807 := by
  unfold Lib.parseIntB at h
  cases l with
  | nil => cases h
  | cons c r =>
    simp only at h
    split at h
    · cases h
    · cases h
    · split at h
      · cases h
      · split at h
        · cases h
        · rename_i h1 h2
          simp only [Lib.NumEnd.ok.injEq] at h
          subst h
          by_cases hc : c.toNat = 45
          · simp only [hc, not_true_eq_false, true_and, false_and, not_false_eq_true] at h1 h2
            simp only [hc, if_true]; omega
          · simp only [hc, not_false_eq_true, true_and, false_and] at h1 h2
            simp only [hc, if_false]; omega

theorem digL_trim (s : List UInt8) : Lib.trimPrefix s [45] = digL s := by
  cases s with
  | nil => rfl
  | cons b r =>
    by_cases hb : b = 45
    · subst hb; simp [Lib.trimPrefix, Lib.hasPrefix, digL, negL, List.isPrefixOf]
    · have h1 : (b == 45) = false := by simpa using hb
      have h2 : ((45 : UInt8) == b) = false := by simpa using fun e => hb e.symm
      simp [Lib.trimPrefix, Lib.hasPrefix, digL, negL, List.isPrefixOf, h1, h2]

def NumV (s : List UInt8) (w : World) (e : Ending) (w' : World) : Prop := e = .returned (.tuple #[.int .i64 ((numF s).getD 0), .bool (numF s).isSome]) ∧ Upd [] w w'

set_option maxRecDepth 20000 in
set_option maxHeartbeats 2000000 in
theorem readDecimalI (s : List UInt8) (w : World) (hl : s.length ≤ 2000000) (he : Env w) : Calls Tryz.prog 100 #[es s] w (NumV s w) := by
  have S1 := Lib.hid (Tryz.strings_TrimPrefix ⟨s.toArray⟩ ⟨#[45]⟩ w)
  have e1 : Lib.trimPrefix (⟨s.toArray⟩ : ByteArray).data.toList (⟨#[45]⟩ : ByteArray).data.toList = digL s := digL_trim s
  rw [e1] at S1
  clear e1
  have hdl : (digL s).length ≤ s.length := by
    unfold digL; split <;> simp
  by_cases hlen : 18 < (digL s).length
  · have HR := Lib.hid (show numF s = none by unfold numF; rw [if_pos (Or.inr (Or.inl hlen))])
    generalize digL s = d at *
    have g1 : (18 : Int) < (d.length : Int) := by omega
    clear hlen he
    go_enter Tryz.func100, Tryz.ntmps100
    go_wp2_with fail
    refine S1.out.mono ?_
    rintro e w1 ⟨rfl, rfl⟩
    clear S1
    go_wp2_with fail
    go_ret2
    exact ⟨by rw [HR.out]; rfl, Upd.refl _ _⟩
  · have hsz : (⟨s.toArray⟩ : ByteArray).size = s.length := rfl
    rcases hp : Lib.parseIntB 64 s with v | _ | _
    rotate_left
    · skip
      have HR := Lib.hid (show numF s = none by
        cases hn : numF s with
        | none => rfl
        | some n =>
          obtain ⟨a, -, b⟩ := numF_some hn
          rw [a, parse_itoa n b] at hp; cases hp)
      obtain ⟨tp, p, hsyn⟩ := he.syn
      have S2 := Lib.hid (Tryz.strconv_ParseInt_10_at64_syntax_var ⟨s.toArray⟩ (by rw [hsz]; omega) hp tp p w hsyn)
      clear hsyn hp hsz he
      generalize digL s = d at *
      have g1 : ¬ (18 : Int) < (d.length : Int) := by omega
      clear hlen
      go_enter Tryz.func100, Tryz.ntmps100
      go_wp2_with fail
      refine S1.out.mono ?_
      rintro e w1 ⟨rfl, rfl⟩
      clear S1
      go_wp2_with fail
      refine S2.out.mono ?_
      rintro e w1 ⟨N, rfl, -, -, hb⟩
      have HU := Lib.hid (Upd.ofBelow hb)
      clear S2 hb
      go_wp2_with fail
      go_ret2
      exact ⟨by rw [HR.out]; rfl, HU.out⟩
    · skip
      have HR := Lib.hid (show numF s = none by
        cases hn : numF s with
        | none => rfl
        | some n =>
          obtain ⟨a, -, b⟩ := numF_some hn
          rw [a, parse_itoa n b] at hp; cases hp)
      obtain ⟨tp, p, hsyn⟩ := he.rng
      have S2 := Lib.hid (Tryz.strconv_ParseInt_10_at64_range_var ⟨s.toArray⟩ (by rw [hsz]; omega) hp tp p w hsyn)
      clear hsyn hp hsz he
      generalize digL s = d at *
      have g1 : ¬ (18 : Int) < (d.length : Int) := by omega
      clear hlen
      go_enter Tryz.func100, Tryz.ntmps100
      go_wp2_with fail
      refine S1.out.mono ?_
      rintro e w1 ⟨rfl, rfl⟩
      clear S1
      go_wp2_with fail
      refine S2.out.mono ?_
      rintro e w1 ⟨N, rfl, -, -, hb⟩
      have HU := Lib.hid (Upd.ofBelow hb)
      clear S2 hb
      go_wp2_with fail
      go_ret2
      exact ⟨by rw [HR.out]; rfl, HU.out⟩
    · skip
      obtain ⟨v0, v1⟩ := parse_range hp
      have S2 := Lib.hid (Tryz.strconv_ParseInt_10_at64_ok ⟨s.toArray⟩ (by rw [hsz]; omega) v hp w)
      have HR := Lib.hid (show numF s = if Lib.itoa v = s then some v else none by
        split
        · rename_i h
          rw [← h]; exact numF_itoa v (by rw [h]; omega)
        · rename_i h
          cases hn : numF s with
          | none => rfl
          | some n =>
            exfalso
            obtain ⟨a, -, b⟩ := numF_some hn
            rw [a, parse_itoa n b] at hp
            cases hp
            exact h a.symm)
      have S3 := Lib.hid (fun w1 (hu : Upd [] w w1) => decimal v w1 v0 v1 (he.upd hu))
      clear hp hsz he
      generalize digL s = d at *
      have g1 : ¬ (18 : Int) < (d.length : Int) := by omega
      clear hlen
      go_enter Tryz.func100, Tryz.ntmps100
      go_wp2_with fail
      refine S1.out.mono ?_
      rintro e wa ⟨rfl, rfl⟩
      clear S1
      go_wp2_with fail
      refine S2.out.mono ?_
      rintro e w1 ⟨rfl, hw⟩
      have hu : Upd [] wa w1 := by
        rcases hw with rfl | ⟨t, rfl⟩
        · exact Upd.refl _ _
        · exact Upd.ofBelow (Lib.bytesWorld_below _ _ _)
      have S4 := Lib.hid (S3.out w1 hu)
      have HU := Lib.hid hu
      clear S2 S3 hw hu
      go_wp2_with fail
      refine S4.out.mono ?_
      rintro e w2 ⟨rfl, hu2⟩
      have HU2 := Lib.hid (HU.out.trans hu2)
      clear S4 HU hu2
      by_cases heq : Lib.itoa v = s
      · have HR2 := Lib.hid (HR.out.trans (if_pos heq))
        rw [heq]
        clear HR heq
        go_wp2_with fail
        go_ret2
        exact ⟨by rw [HR2.out]; rfl, HU2.out⟩
      · have HR2 := Lib.hid (HR.out.trans (if_neg heq))
        clear HR
        generalize Lib.itoa v = A at *
        have hne : (A == s) = false := by simpa using heq
        go_wp2_with fail
        go_ret2
        exact ⟨by rw [HR2.out]; rfl, HU2.out⟩

end Go.Proofs.YtaahjpmndkcijaaGreatDoor

/-
  Labels made: what the program's calls return.
-/
namespace Go.Proofs.YtaahjpmndkcijaaGreatDoor
open Go.RowKit

set_option maxRecDepth 20000 in
set_option maxHeartbeats 4000000 in
theorem joinedI (v : Value) (xs : List Int) (w : World) (fp : List Nat) (hR : R1 fp w [v] xs) (h0 : 0 < xs.length) (hl : xs.length ≤ 1000000)
    (hv : ∀ x ∈ xs, (-9223372036854775808 ≤ x ∧ x ≤ 9223372036854775807) ∧ (Lib.itoa x).length ≤ 30) (he : Env w) :
    Calls Tryz.prog 104 #[v, es [44]] w fun e w' => e = .returned (es (txtV xs)) ∧ Upd [] w w' := by
  obtain ⟨i0, hi, hz0, hz1, hz2⟩ := info_parts Tryz.info9
  obtain ⟨a, cap, rfl, h1, h2, -⟩ := slF1_open hR
  unfold maxLen at h2
  have HR := Lib.hid hR
  have HV := Lib.hid hv
  have HE := Lib.hid he
  have hm2 : i0.bytes * xs.length ≤ 281474976710656 := by rw [hz2]; omega
  clear hR hv he
  go_enter Tryz.func104, Tryz.ntmps104
  go_wp2_with (first
    | (at_make; refine wpList_make_full _ rfl _ _ 40 rfl w.heap.size 9 i0 (es []) 1 Tryz.underlying40 hi hz0 hz1 .i64 .i64 _ _ xs.length rfl rfl rfl rfl hm2 (by unfold maxLen; omega) (Nat.le_refl _) ?_; intro w2 hrow hgrow)
    | fail)
  rw [made_one _ rfl] at hrow
  have hU : Upd [] w w2 := (Upd.refl _ _).grown hgrow (by simp)
  obtain ⟨fo, ho1, ho2, ho3⟩ := New.ofOwns (w := w) (e := 9) (enc := es) (xs := List.replicate xs.length ([] : List UInt8)) (by simpa using hrow)
  have HST := Lib.hid (And.intro (show RS fo w2 [.slice (some ⟨w.heap.size, 0, none⟩) xs.length xs.length] ((xs.take 0).map Lib.itoa ++ List.replicate (xs.length - 0) []) from by simpa using ho1) ho2)
  clear hrow hgrow ho1 ho2 ho3 hm2
  go_wp2_with fail
  go_loopw [13] (fun i wr => ∃ k : Nat, k ≤ xs.length ∧ i = .int .i64 k ∧ Upd [] w wr ∧ RS fo wr [.slice (some ⟨w.heap.size, 0, none⟩) xs.length xs.length] ((xs.take k).map Lib.itoa ++ List.replicate (xs.length - k) []) ∧ Own fo wr) (fun i _ => xs.length - (intOf i).toNat)
  case atStart => exact ⟨0, Nat.zero_le _, rfl, hU, HST.out.1, HST.out.2⟩
  case round =>
    clear HST hU
    obtain ⟨k, hk, rfl, hU, ho1, ho2⟩ := hrel
    by_cases hlt : k < xs.length
    · obtain ⟨a', cap', hv, -, -, hc⟩ := slF1_open (R1k.upd HR.out hU (by simp))
      cases hv
      obtain ⟨b1, o1, rfl, -, -, p1⟩ := hc k hlt
      have hset := set_fill Lib.itoa [] xs k hlt
      obtain ⟨⟨x0, x1⟩, -⟩ := HV.out xs[k] (List.getElem_mem hlt)
      have hlen : ((xs.take k).map Lib.itoa ++ List.replicate (xs.length - k) ([] : List UInt8)).length = xs.length := by simp; omega
      have HL := Lib.hid hlen
      have HS := Lib.hid hset
      have HU := Lib.hid hU
      have HO := Lib.hid (And.intro ho1 ho2)
      generalize xs[k] = x at *
      have S1 := Lib.hid (decimal x wr x0 x1 (HE.out.upd hU))
      clear hc hset hlen hU ho1 ho2
      go_wp2_with fail
      refine S1.out.mono ?_
      rintro e w3 ⟨rfl, hu3⟩
      obtain ⟨hbl, hcl0, hfz, hos⟩ := rowCellS (RSk.upd HO.out.1 hu3 (by simp)) (HO.out.2.upd hu3 (by simp)) HL.out k hlt
      have hos := hos (Lib.itoa x)
      rw [HS.out] at hos
      obtain ⟨z0, hz0'⟩ : ∃ z0 : List UInt8, w3.cell? ⟨w.heap.size, k, none⟩ = some (es z0) := ⟨_, hcl0⟩
      clear hcl0
      have HP := Lib.hid (And.intro hos (HU.out.trans hu3))
      clear S1 hos HO HU hu3 HS HL
      generalize Lib.itoa x = A at *
      go_wp2_with fail
      go_roundw
      case rel => exact ⟨k + 1, by omega, by go_num, HP.out.2.setCell (Or.inl (Nat.le_refl _)) _, HP.out.1.1, HP.out.1.2⟩
      case measure => simp [intOf]; omega
    · obtain rfl : k = xs.length := by omega
      obtain ⟨ps, hps⟩ : ∃ ps, ps = xs.map Lib.itoa := ⟨_, rfl⟩
      have hpl : ps.length = xs.length := by rw [hps]; simp
      have ho3 : RS fo wr [.slice (some ⟨w.heap.size, 0, none⟩) xs.length xs.length] ps := by rw [hps]; simpa using ho1
      obtain ⟨a', cap', hv, -, hc2, hc⟩ := slF1_open ho3
      simp only [Value.slice.injEq] at hv
      obtain ⟨rfl, -, rfl⟩ := hv
      have hle : (joinC 44 ps).length ≤ ps.length * (30 + 1) := joinC_le 44 30 ps (fun p hp => by
        rw [hps] at hp
        obtain ⟨x, hx, rfl⟩ := List.mem_map.1 hp
        exact (HV.out x hx).2)
      have hbk : w.heap.size < wr.heap.size := by
        obtain ⟨b, off, hb, -, hbl, -⟩ := hc 0 (by omega)
        cases hb; exact hbl
      have hmm : (ps.map (fun p => (⟨p.toArray⟩ : ByteArray))).map (fun b => b.data.toList) = ps := by
        rw [List.map_map]; exact (List.map_congr_left (fun p _ => rfl)).trans (List.map_id _)
      have hj : Lib.join ((ps.map (fun p => (⟨p.toArray⟩ : ByteArray))).map (fun b => b.data.toList)) (⟨#[44]⟩ : ByteArray).data.toList = joinC 44 ps := by
        rw [hmm]; exact join_lib 44 ps
      have S0 := Tryz.strings_Join w.heap.size 0 xs.length (ps.map (fun p => (⟨p.toArray⟩ : ByteArray))) ⟨#[44]⟩ wr (fun j x hx => by
        obtain ⟨hj1, rfl⟩ := List.getElem?_eq_some_iff.1 hx
        have hj2 : j < ps.length := by simpa using hj1
        obtain ⟨b, off, hb, -, -, hcl⟩ := hc j hj2
        cases hb
        rw [hcl]
        simp [es]) hbk (by simp; omega) (by simp; omega) (by rw [hj]; omega)
      rw [hj] at S0
      simp only [List.length_map, hpl] at S0
      have S1 := Lib.hid S0
      have HX := Lib.hid (show joinC 44 ps = txtV xs by rw [hps, txtV])
      have HU := Lib.hid hU
      clear hj hmm hle hc hc2 ho3 ho1 ho2 hps hU S0 HV HE HR
      generalize joinC 44 ps = J at *
      go_wp2_with fail
      refine S1.out.mono ?_
      rintro e w3 ⟨rfl, hb3⟩
      have HP := Lib.hid (HU.out.trans (Upd.ofBelow hb3))
      clear S1 hb3 HU
      go_wp2_with fail
      go_ret
      exact ⟨by rw [← HX.out]; rfl, HP.out⟩

end Go.Proofs.YtaahjpmndkcijaaGreatDoor

/-
  Words read as numbers.
-/
namespace Go.Proofs.YtaahjpmndkcijaaGreatDoor
open Go.RowKit

def NumsV (ps : List (List UInt8)) (w : World) (e : Ending) (w' : World) : Prop :=
  (∃ v', e = .returned (.tuple #[v', .bool (numsF ps).isSome]) ∧ New R1 w w' v' ((numsF ps).getD [])) ∧ Upd [] w w'

set_option maxRecDepth 20000 in
set_option maxHeartbeats 4000000 in
theorem readNumbersI (v : Value) (ps : List (List UInt8)) (w : World) (fp : List Nat) (hR : slF 1 (fun s => [es s]) fp w [v] ps) (hl : ps.length ≤ 2000001) (hp : ∀ p ∈ ps, p.length ≤ 2000000) (he : Env w) :
    Calls Tryz.prog 95 #[v] w (NumsV ps w) := by
  obtain ⟨i1, ki, kz0, kz1, kz2⟩ := info_parts Tryz.info2
  obtain ⟨a, cap, rfl, h1, h2, -⟩ := slF1_open hR
  unfold maxLen at h2
  have hlit := World.ownsRow_nil w w.heap.size 2 1
  have HLIT := Lib.hid hlit
  have HR := Lib.hid hR
  have HP := Lib.hid hp
  have HE := Lib.hid he
  clear hR hp he hlit
  go_enter Tryz.func95, Tryz.ntmps95
  go_wp2_with fail
  go_loopw [4, 11] (fun ov i wr => ∃ (k : Nat) (ns : List Int), k ≤ ps.length ∧ i = .int .i64 k ∧ ns.length = k ∧ Hid (numsF ps = (numsF (ps.drop k)).map (ns ++ ·)) ∧ Hid (wr.ownsRow w.heap.size 2 1 ov k (ns.map ei)) ∧ Upd [] w wr) (fun _ i _ => ps.length - (intOf i).toNat)
  case atStart => exact ⟨0, [], by omega, rfl, rfl, Lib.hid (by simp), HLIT, Upd.refl _ _⟩
  case round =>
    clear HLIT
    obtain ⟨k, ns, hk, rfl, hnl, hF, hown, hU⟩ := hrel
    have HNL := Lib.hid hnl
    clear hnl
    by_cases hlt : k < ps.length
    · obtain ⟨a', cap', hv, -, -, hc⟩ := slF1_open ((slF_kept _ _).upd HR.out hU (by simp))
      cases hv
      obtain ⟨b1, o1, rfl, -, -, p1⟩ := hc k hlt
      have hF1 := hF.out
      rw [List.drop_eq_getElem_cons hlt, numsF_cons] at hF1
      have hpk := HP.out ps[k] (List.getElem_mem hlt)
      have HF := Lib.hid hF1
      have HU := Lib.hid hU
      clear hF1 hF hc
      generalize ps[k] = s at *
      have S1 := Lib.hid (readDecimalI s wr hpk (HE.out.upd hU))
      clear hU
      go_wp2_with fail
      refine S1.out.mono ?_
      rintro e w3 ⟨rfl, hu3⟩
      have HU3 := Lib.hid (HU.out.trans hu3)
      have hown3 := ownsRow_upd hown.out hu3
      have hsz3 := HU3.out.size
      clear S1 HU hu3 hown
      cases hn : numF s with
      | none =>
        rw [hn] at HF
        have HN := Lib.hid (show numsF ps = none from HF.out)
        clear HF hown3
        go_wp2_with fail
        go_ret2
        exact ⟨⟨_, by rw [HN.out]; rfl, by rw [HN.out]; exact new_nil _ _⟩, HU3.out⟩
      | some x =>
        rw [hn] at HF
        have HN := Lib.hid (show numsF ps = (numsF (ps.drop (k + 1))).map ((ns ++ [x]) ++ ·) by
          rw [HF.out]
          simp [Function.comp_def])
        clear HF
        simp only [Option.getD_some, Option.isSome_some]
        go_wp2_with (first
          | (at_builtin; refine wpList_append_tight _ rfl _ _ 76 rfl w.heap.size 2 i1 (.int .i64 0) 1 8 Tryz.underlying76 ki kz0 kz1 kz2 rfl (by decide) _ _ _ rfl (hown3.alloc _) ⟨w3.heap.size, 0, none⟩ 1 1 [ei x] rfl rfl (fun j u hj => by rw [addr_add]; exact cell_new w3 #[ei x] _ _ rfl _ _ (by simpa using hj)) (by simp [Value.oneCell']) (by unfold maxLen; omega) (by omega) (by simp; omega) ?_)
          | fail)
        intro v4 w4 hown4 hg4 ht4
        have hu4 : Upd [] w w4 := (HU3.out.alloc _).grown hg4 (fun b hb => Or.inl (by have := (hown3.lt b hb).1; omega))
        have HQ := Lib.hid (And.intro hown4 hu4)
        clear hown4 hg4 ht4 hu4 hown3
        go_wp2_with fail
        go_roundw
        case rel => exact ⟨k + 1, ns ++ [x], by omega, by go_num, by simp [HNL.out], HN, Lib.hid (by simpa using HQ.out.1), HQ.out.2⟩
        case measure => simp [intOf]; omega
    · obtain rfl : k = ps.length := by omega
      have hF1 := hF.out
      rw [List.drop_of_length_le (Nat.le_refl _)] at hF1
      have HN := Lib.hid (show numsF ps = some ns by rw [hF1]; simp [numsF])
      have HQ := Lib.hid (And.intro (New.ofOwns (w := w) (e := 2) (enc := ei) (xs := ns) (by rw [HNL.out]; exact hown.out)) hU)
      clear hown hU hF hF1
      go_wp2_with fail
      go_ret2
      exact ⟨⟨_, by rw [HN.out]; rfl, by rw [HN.out]; exact HQ.out.1⟩, HQ.out.2⟩

end Go.Proofs.YtaahjpmndkcijaaGreatDoor

/-
  Labels made and read: what the program's calls return.
-/
namespace Go.Proofs.YtaahjpmndkcijaaGreatDoor
open Go.RowKit

def LabV (name : List UInt8) (xs : List Int) (w : World) (e : Ending) (w' : World) : Prop :=
  (∃ t : List UInt8, e = .returned (.tuple #[es t, .bool (labT name xs).isSome]) ∧ Hid (∀ s, labT name xs = some s → t = s)) ∧ Upd [] w w'

theorem isV_itoa {x : Int} (h : isV x = true) : (-9223372036854775808 ≤ x ∧ x ≤ 9223372036854775807) ∧ (Lib.itoa x).length ≤ 30 := by
  have hb := inB_true h
  have h1 := itoa_len64 h
  have h2 : (Lib.itoa x).length ≤ (digL (Lib.itoa x)).length + 1 := by unfold digL; split <;> simp <;> omega
  omega

theorem labT_no {name : List UInt8} {xs : List Int} (ht : name ≠ tauL) (h : (actF name && decide (xs.length ≤ 2) && xs.all isV) = false) : labT name xs = none := by
  unfold labT; rw [if_neg ht, h]; rfl
theorem labT_yes {name : List UInt8} {xs : List Int} (ht : name ≠ tauL) (h : (actF name && decide (xs.length ≤ 2) && xs.all isV) = true) : labT name xs = some (if xs = [] then name else ((name ++ [40]) ++ txtV xs) ++ [41]) := by
  unfold labT; rw [if_neg ht, if_pos h]

set_option maxRecDepth 20000 in
set_option maxHeartbeats 4000000 in
theorem labelOfI (name : List UInt8) (v : Value) (xs : List Int) (w : World) (fp : List Nat) (hn : name.length ≤ 2000000) (hR : R1 fp w [v] xs) (he : Env w) :
    Calls Tryz.prog 98 #[es name, v] w (LabV name xs w) := by
  obtain ⟨a, cap, rfl, h1, h2, -⟩ := slF1_open hR
  unfold maxLen at h2
  by_cases htau : name = tauL
  · have HT := Lib.hid (show labT name xs = if xs = [] then some tauL else none by unfold labT; rw [if_pos htau])
    have e1 : es name = .string ⟨#[116, 97, 117]⟩ := by rw [htau]; rfl
    rw [e1]
    clear hR he e1 htau
    cases xs with
    | nil =>
      go_enter Tryz.func98, Tryz.ntmps98
      go_wp2_with fail
      go_ret2
      exact ⟨⟨tauL, by rw [HT.out]; rfl, Lib.hid (fun s hs => by rw [HT.out] at hs; simpa using hs)⟩, Upd.refl _ _⟩
    | cons x xs =>
      have g0 : ¬ (((x :: xs).length : Int) = 0) := by simp; omega
      have HT2 := Lib.hid (show labT name (x :: xs) = none by rw [HT.out]; rfl)
      clear HT
      generalize x :: xs = ys at *
      have g1 : ((ys.length : Int) == 0) = false := by simpa using g0
      go_enter Tryz.func98, Tryz.ntmps98
      go_wp2_with fail
      go_ret2
      exact ⟨⟨tauL, by rw [HT2.out]; first | rfl | (simp [tauL, g1, es]), Lib.hid (fun s hs => by rw [HT2.out] at hs; cases hs)⟩, Upd.refl _ _⟩
  · have g0 : (name == [116, 97, 117]) = false := by simpa [tauL] using htau
    have HTAU := Lib.hid htau
    have S1 := Lib.hid (isActionI name w hn)
    cases ha : actF name with
    | false =>
      have HT := Lib.hid (labT_no (xs := xs) htau (by rw [ha]; rfl))
      rw [ha] at S1
      clear hR he htau ha
      go_enter Tryz.func98, Tryz.ntmps98
      go_wp2_with fail
      refine S1.out.mono ?_
      rintro e w1 ⟨rfl, rfl⟩
      clear S1
      go_wp2_with fail
      go_ret2
      exact ⟨⟨[], by rw [HT.out]; rfl, Lib.hid (fun s hs => by rw [HT.out] at hs; cases hs)⟩, Upd.refl _ _⟩
    | true =>
      rw [ha] at S1
      by_cases hlen : xs.length ≤ 2
      · have g3 : ¬ ((2 : Int) < (xs.length : Int)) := by omega
        have S2 := Lib.hid (areValues _ xs w fp hR)
        cases hv : xs.all isV with
        | false =>
          have HT := Lib.hid (labT_no (xs := xs) htau (by rw [hv]; simp))
          rw [hv] at S2
          clear hR he htau ha hv hlen
          go_enter Tryz.func98, Tryz.ntmps98
          go_wp2_with fail
          refine S1.out.mono ?_
          rintro e w1 ⟨rfl, rfl⟩
          clear S1
          go_wp2_with fail
          refine S2.out.mono ?_
          rintro e w1 ⟨rfl, rfl⟩
          clear S2
          go_wp2_with fail
          go_ret2
          exact ⟨⟨[], by rw [HT.out]; rfl, Lib.hid (fun s hs => by rw [HT.out] at hs; cases hs)⟩, Upd.refl _ _⟩
        | true =>
          have HT := Lib.hid (labT_yes (xs := xs) htau (by rw [ha, hv, decide_eq_true hlen]; rfl))
          rw [hv] at S2
          by_cases h0 : xs = []
          · have HT2 := Lib.hid (HT.out.trans (by rw [if_pos h0]))
            have g4 : ((xs.length : Int) == 0) = true := by rw [h0]; rfl
            clear hR he htau ha hv hlen h0 HT
            go_enter Tryz.func98, Tryz.ntmps98
            go_wp2_with fail
            refine S1.out.mono ?_
            rintro e w1 ⟨rfl, rfl⟩
            clear S1
            go_wp2_with fail
            refine S2.out.mono ?_
            rintro e w1 ⟨rfl, rfl⟩
            clear S2
            go_wp2_with fail
            go_ret2
            exact ⟨⟨name, by rw [HT2.out]; rfl, Lib.hid (fun s hs => by rw [HT2.out] at hs; simpa using hs)⟩, Upd.refl _ _⟩
          · have HT2 := Lib.hid (HT.out.trans (by rw [if_neg h0]))
            have hpos : 0 < xs.length := List.length_pos_iff.2 h0
            have g4 : ((xs.length : Int) == 0) = false := by simp; omega
            have S3 := Lib.hid (joinedI _ xs w fp hR hpos (by omega) (fun x hx => isV_itoa (List.all_eq_true.1 hv x hx)) he)
            have hjl : (txtV xs).length ≤ 2 * 31 := by
              refine Nat.le_trans (joinC_le 44 30 (xs.map Lib.itoa) (fun p hp => ?_)) ?_
              · obtain ⟨x, hx, rfl⟩ := List.mem_map.1 hp
                exact (isV_itoa (List.all_eq_true.1 hv x hx)).2
              · rw [List.length_map]; omega
            clear hR he htau ha hv hlen h0 HT
            generalize txtV xs = J at *
            go_enter Tryz.func98, Tryz.ntmps98
            go_wp2_with fail
            refine S1.out.mono ?_
            rintro e w1 ⟨rfl, rfl⟩
            clear S1
            go_wp2_with fail
            refine S2.out.mono ?_
            rintro e w1 ⟨rfl, rfl⟩
            clear S2
            go_wp2_with fail
            refine S3.out.mono ?_
            rintro e w3 ⟨rfl, hu3⟩
            have HU := Lib.hid hu3
            clear S3 hu3
            go_wp2_with fail
            go_ret2
            exact ⟨⟨_, by rw [HT2.out]; rfl, Lib.hid (fun s hs => by rw [HT2.out] at hs; simpa using hs)⟩, HU.out⟩
      · have g3 : (2 : Int) < (xs.length : Int) := by omega
        have HT := Lib.hid (labT_no (xs := xs) htau (by rw [decide_eq_false hlen]; simp))
        clear hR he htau ha hlen
        go_enter Tryz.func98, Tryz.ntmps98
        go_wp2_with fail
        refine S1.out.mono ?_
        rintro e w1 ⟨rfl, rfl⟩
        clear S1
        go_wp2_with fail
        go_ret2
        exact ⟨⟨[], by rw [HT.out]; rfl, Lib.hid (fun s hs => by rw [HT.out] at hs; cases hs)⟩, Upd.refl _ _⟩

end Go.Proofs.YtaahjpmndkcijaaGreatDoor

/-
  Labels read: what the program's calls return.
-/
namespace Go.Proofs.YtaahjpmndkcijaaGreatDoor
open Go.RowKit

theorem es_bytes (b : ByteArray) : es b.data.toList = .string b := by simp [es]

theorem splitC_len (c : UInt8) : ∀ l : List UInt8, (splitC c l).length ≤ l.length + 1 ∧ ∀ p ∈ splitC c l, p.length ≤ l.length
  | [] => by simp [splitC]
  | b :: l => by
    obtain ⟨h1, h2⟩ := splitC_len c l
    by_cases hb : b = c
    · subst hb
      have e : splitC b (b :: l) = [] :: splitC b l := by rw [splitC, if_pos rfl]
      rw [e]
      refine ⟨by simp; omega, fun p hp => ?_⟩
      rcases List.mem_cons.1 hp with rfl | hp
      · simp
      · have := h2 p hp; simp; omega
    · obtain ⟨p, ps, e1, e2⟩ := splitC_cons c b l hb
      rw [e2]
      rw [e1] at h1 h2
      refine ⟨by simp at h1 ⊢; omega, fun q hq => ?_⟩
      rcases List.mem_cons.1 hq with rfl | hq
      · have := h2 p (by simp); simp; omega
      · have := h2 q (by simp [hq]); simp; omega

theorem cut_len (s sep : List UInt8) : (Lib.cut s sep).1.length ≤ s.length ∧ (Lib.cut s sep).2.1.length ≤ s.length := by
  unfold Lib.cut
  split <;> simp <;> omega
theorem trim_len (s p : List UInt8) : (Lib.trimSuffix s p).length ≤ s.length := by
  unfold Lib.trimSuffix
  split <;> simp <;> omega
theorem cut_false {s : List UInt8} (h : (Lib.cut s [40]).2.2 = false) : Lib.cut s [40] = (s, [], false) := by
  unfold Lib.cut at h ⊢
  split at h
  · cases h
  · rename_i h1; rw [if_neg h1]

theorem cutI (l : List UInt8) (w : World) (hl : l.length ≤ 2000000) (he : Env w) :
    Calls Tryz.prog 94 #[es l, .string ⟨#[40]⟩] w fun e w' => e = .returned (.tuple #[es (Lib.cut l [40]).1, es (Lib.cut l [40]).2.1, .bool (Lib.cut l [40]).2.2]) ∧ Upd [] w w' := by
  obtain ⟨m, hm⟩ := he.m
  have hsz : (⟨l.toArray⟩ : ByteArray).size = l.length := rfl
  refine (Tryz.strings_Cut ⟨l.toArray⟩ ⟨#[40]⟩ m w (by rw [hsz]; omega) hm).mono ?_
  rintro e w1 ⟨rfl, n, rfl⟩
  exact ⟨rfl, (Upd.refl _ _).drewN n⟩

theorem trimI (l : List UInt8) (w : World) (hl : l.length ≤ 2000000) :
    Calls Tryz.prog 97 #[es l, .string ⟨#[41]⟩] w fun e w' => e = .returned (es (Lib.trimSuffix l [41])) ∧ w' = w := by
  have hsz : (⟨l.toArray⟩ : ByteArray).size = l.length := rfl
  exact (Tryz.strings_TrimSuffix ⟨l.toArray⟩ ⟨#[41]⟩ w (by rw [hsz]; omega)).mono (fun e w1 h => h)

theorem splitI (l : List UInt8) (w : World) (hl : l.length ≤ 2000000) (he : Env w) :
    Calls Tryz.prog 96 #[es l, .string ⟨#[44]⟩] w fun e w' => (∃ v', e = .returned v' ∧ New RS w w' v' (splitC 44 l)) ∧ Upd [] w w' := by
  obtain ⟨m, hm⟩ := he.m
  have hsz : (⟨l.toArray⟩ : ByteArray).size = l.length := rfl
  have hlen := Lib.splitB_all ⟨#[44]⟩ (by decide) 0 (Lib.countB ⟨l.toArray⟩ ⟨#[44]⟩) ⟨l.toArray⟩ rfl
  have hdat : (Lib.splitB ⟨#[44]⟩ 0 (Lib.countB ⟨l.toArray⟩ ⟨#[44]⟩) ⟨l.toArray⟩).map (·.data.toList) = splitC 44 l := by
    rw [Lib.splitB_data]; exact split_lib 44 l
  refine (Tryz.strings_Split ⟨l.toArray⟩ ⟨#[44]⟩ m w (by rw [hsz]; omega) hm (by decide)).mono ?_
  rintro e w1 ⟨rfl, rfl⟩
  generalize Lib.splitB ⟨#[44]⟩ 0 (Lib.countB ⟨l.toArray⟩ ⟨#[44]⟩) ⟨l.toArray⟩ = bs at *
  generalize Lib.countB ⟨l.toArray⟩ ⟨#[44]⟩ = n at *
  have hsp := (splitC_len 44 l).1
  have hmap : bs.map Value.string = (splitC 44 l).map es := by
    rw [← hdat, List.map_map]
    exact List.map_congr_left (fun b _ => (es_bytes b).symm)
  have hn : n + 1 = (splitC 44 l).length := by rw [← hdat, List.length_map, hlen]
  rw [hmap, hn]
  exact ⟨⟨_, rfl, new_lit (enc := es) w 9 (splitC 44 l) (by unfold maxLen; omega)⟩, (Upd.refl _ _).alloc _⟩

def ReadV (s : List UInt8) (w : World) (e : Ending) (w' : World) : Prop :=
  (∃ (n : List UInt8) (v' : Value) (vs : List Int), e = .returned (.tuple #[es n, v', .bool (readF s).isSome]) ∧ New R1 w w' v' vs ∧ (readF s).getD ([], []) = (n, vs)) ∧ Upd [] w w'

set_option maxRecDepth 20000 in
set_option maxHeartbeats 4000000 in
theorem readLabelI (s : List UInt8) (w : World) (hl : s.length ≤ 2000000) (he : Env w) : Calls Tryz.prog 92 #[es s] w (ReadV s w) := by
  have S1 := Lib.hid (cutI s w hl he)
  obtain ⟨hc1, hc2⟩ := cut_len s [40]
  have HE := Lib.hid he
  clear he
  cases hm : (Lib.cut s [40]).2.2 with
  | false =>
    have hcf := cut_false hm
    have HF := Lib.hid (show readF s = if labT s [] = some s then some (s, []) else none by unfold readF; rw [hm]; rfl)
    rw [hcf] at S1
    clear hm hcf hc1 hc2
    go_enter Tryz.func92, Tryz.ntmps92
    go_wp2_with fail
    refine S1.out.mono ?_
    rintro e w1 ⟨rfl, hu1⟩
    obtain ⟨f0, hR0, hO0, hG0⟩ := new_nil w w1
    have S4 := Lib.hid (labelOfI s (.slice none 0 0) [] w1 f0 hl hR0 (HE.out.upd hu1))
    have HU1 := Lib.hid hu1
    have HN := Lib.hid (show New R1 w w1 (.slice none 0 0) [] from ⟨f0, hR0, hO0, hG0⟩)
    clear S1 hu1 hR0 hO0 hG0
    go_wp2_with fail
    refine S4.out.mono ?_
    rintro e w4 ⟨⟨t, rfl, ht⟩, hu4⟩
    have HU := Lib.hid (HU1.out.trans hu4)
    have HN4 := Lib.hid (R1k.new HN.out hu4 (by simp))
    clear S4 HU1 HN hu4
    cases hL : labT s [] with
    | none =>
      have HR := Lib.hid (show readF s = none by rw [HF.out, hL]; rfl)
      clear HF ht hL
      go_wp2_with fail
      go_ret3
      exact ⟨⟨[], _, [], by rw [HR.out]; rfl, new_nil _ _, by rw [HR.out]; rfl⟩, HU.out⟩
    | some s' =>
      obtain rfl := ht.out s' hL
      by_cases heq : t = s
      · have HR := Lib.hid (show readF s = some (s, []) by rw [HF.out, hL, if_pos (by rw [heq])])
        clear HF hL
        subst heq
        clear ht
        go_wp2_with fail
        go_ret3
        exact ⟨⟨t, _, [], by rw [HR.out]; rfl, HN4.out, by rw [HR.out]; rfl⟩, HU.out⟩
      · have HR := Lib.hid (show readF s = none by rw [HF.out, hL, if_neg (by simpa using heq)])
        have hne : (t == s) = false := by simpa using heq
        clear HF ht hL
        go_wp2_with fail
        go_ret3
        exact ⟨⟨[], _, [], by rw [HR.out]; rfl, new_nil _ _, by rw [HR.out]; rfl⟩, HU.out⟩
  | true =>
    have HF := Lib.hid (show readF s = match numsF (splitC 44 (Lib.trimSuffix (Lib.cut s [40]).2.1 [41])) with
      | none => none
      | some vs => if labT (Lib.cut s [40]).1 vs = some s then some ((Lib.cut s [40]).1, vs) else none by unfold readF; rw [hm]; rfl)
    rw [hm] at S1
    clear hm
    generalize (Lib.cut s [40]).1 = nm at *
    generalize (Lib.cut s [40]).2.1 = rest at *
    have htl := trim_len rest [41]
    have hnm : nm.length ≤ 2000000 := by omega
    have S2 := Lib.hid (fun w1 : World => trimI rest w1 (by omega))
    generalize Lib.trimSuffix rest [41] = r2 at *
    obtain ⟨hp1, hp2⟩ := splitC_len 44 r2
    have S3 := Lib.hid (fun (w1 : World) (hu : Upd [] w w1) => splitI r2 w1 (by omega) (HE.out.upd hu))
    generalize splitC 44 r2 = ps at *
    have HPL := Lib.hid (show ∀ p ∈ ps, p.length ≤ 2000000 from fun p hp => by have := hp2 p hp; omega)
    have hpl : ps.length ≤ 2000001 := by omega
    clear hp1 hp2 htl hc1 hc2
    go_enter Tryz.func92, Tryz.ntmps92
    go_wp2_with fail
    refine S1.out.mono ?_
    rintro e w1 ⟨rfl, hu1⟩
    have S2 := Lib.hid (S2.out w1)
    have S3 := Lib.hid (S3.out w1 hu1)
    have HU1 := Lib.hid hu1
    clear S1 hu1
    go_wp2_with fail
    refine S2.out.mono ?_
    rintro e w2 ⟨rfl, rfl⟩
    clear S2
    go_wp2_with fail
    refine S3.out.mono ?_
    rintro e w3 ⟨⟨v3, rfl, fq, hq1, hq2, hq3⟩, hu3⟩
    have HU3 := Lib.hid (HU1.out.trans hu3)
    have S4 := Lib.hid (readNumbersI v3 ps w3 fq hq1 (by omega) HPL.out (HE.out.upd HU3.out))
    have hsz3 := HU3.out.size
    clear S3 HU1 hu3 hq1 hq2 hq3
    go_wp2_with fail
    refine S4.out.mono ?_
    rintro e w4 ⟨⟨v4, rfl, hn4⟩, hu4⟩
    have HU4 := Lib.hid (HU3.out.trans hu4)
    clear S4 HU3 hu4
    cases hN : numsF ps with
    | none =>
      have HR := Lib.hid (show readF s = none by rw [HF.out, hN])
      clear HF hN hn4
      go_wp2_with fail
      go_ret3
      exact ⟨⟨[], _, [], by rw [HR.out]; rfl, new_nil _ _, by rw [HR.out]; rfl⟩, HU4.out⟩
    | some vs =>
      rw [hN] at hn4 HF
      have HF2 := Lib.hid (show readF s = if labT nm vs = some s then some (nm, vs) else none from HF.out)
      obtain ⟨f4, hr4, -, -⟩ := id hn4
      have S5 := Lib.hid (labelOfI nm v4 vs w4 f4 hnm hr4 (HE.out.upd HU4.out))
      have HN := Lib.hid (show New R1 w w4 v4 vs from hn4.mono hsz3)
      clear HF hN hn4 hr4
      go_wp2_with fail
      refine S5.out.mono ?_
      rintro e w5 ⟨⟨t, rfl, ht⟩, hu5⟩
      have HU := Lib.hid (HU4.out.trans hu5)
      have HN5 := Lib.hid (R1k.new HN.out hu5 (by simp))
      clear S5 HU4 HN hu5
      cases hL : labT nm vs with
      | none =>
        have HR := Lib.hid (show readF s = none by rw [HF2.out, hL]; rfl)
        clear HF2 ht hL
        go_wp2_with fail
        go_ret3
        exact ⟨⟨[], _, [], by rw [HR.out]; rfl, new_nil _ _, by rw [HR.out]; rfl⟩, HU.out⟩
      | some s' =>
        obtain rfl := ht.out s' hL
        by_cases heq : t = s
        · have HR := Lib.hid (show readF s = some (nm, vs) by rw [HF2.out, hL, if_pos (by rw [heq])])
          clear HF2 hL
          subst heq
          clear ht
          go_wp2_with fail
          go_ret3
          exact ⟨⟨nm, _, vs, by rw [HR.out]; rfl, HN5.out, by rw [HR.out]; rfl⟩, HU.out⟩
        · have HR := Lib.hid (show readF s = none by rw [HF2.out, hL, if_neg (by simpa using heq)])
          have hne : (t == s) = false := by simpa using heq
          clear HF2 ht hL
          go_wp2_with fail
          go_ret3
          exact ⟨⟨[], _, [], by rw [HR.out]; rfl, new_nil _ _, by rw [HR.out]; rfl⟩, HU.out⟩

set_option maxRecDepth 20000 in
theorem isLabelI (s : List UInt8) (w : World) (hl : s.length ≤ 2000000) (he : Env w) : Calls Tryz.prog 84 #[es s] w fun e w' => e = .returned (.bool (readF s).isSome) ∧ Upd [] w w' := by
  have S1 := Lib.hid (readLabelI s w hl he)
  clear he
  go_enter Tryz.func84, Tryz.ntmps84
  go_wp2_with fail
  refine S1.out.mono ?_
  rintro e w1 ⟨⟨n, v, vs, rfl, hn, hr⟩, hu⟩
  have HU := Lib.hid hu
  clear S1 hn hr hu
  go_wp2_with fail
  go_ret
  exact ⟨rfl, HU.out⟩

end Go.Proofs.YtaahjpmndkcijaaGreatDoor

/-
  Lists of labels: what the program's and the reference's calls return.
-/
namespace Go.Proofs.YtaahjpmndkcijaaGreatDoor
open Go.RowKit

/-- whether a text is a label. -/
def isLab (s : List UInt8) : Bool := (readF s).isSome

set_option maxRecDepth 20000 in
theorem labelS (s : List UInt8) (w : World) (hl : s.length ≤ 2000000) : Calls Tryz.prog 72 #[es s] w fun e w' => e = .returned (.bool (isLab s)) ∧ Upd [] w w' := by
  have S1 := Lib.hid (valuesS s w hl)
  go_enter Tryz.func72, Tryz.ntmps72
  go_wp2_with fail
  refine S1.out.mono ?_
  rintro e w1 ⟨⟨v, vs, rfl, hn, -⟩, hu⟩
  have HU := Lib.hid hu
  clear S1 hn hu
  go_wp2_with fail
  go_ret
  exact ⟨rfl, HU.out⟩

end Go.Proofs.YtaahjpmndkcijaaGreatDoor

/-
  Binary images, plainly: numbers, texts, the check value, the seal.
-/
namespace Go.Proofs.YtaahjpmndkcijaaGreatDoor
open Go.RowKit

end Go.Proofs.YtaahjpmndkcijaaGreatDoor

/-
  Formulas, plainly: their shape, their fields, what binds a variable; validity as the program and as the reference reckon it.
-/
namespace Go.Proofs.YtaahjpmndkcijaaGreatDoor
open Go.RowKit

/-- a pattern: nothing, a label, or a name before a star. -/
def patF (s : List UInt8) : Bool := s == [] || isLab s || (s.getLast? == some 42 && actF s.dropLast)
end Go.Proofs.YtaahjpmndkcijaaGreatDoor

/-
  The kind of an image and its contents, plainly.
-/
namespace Go.Proofs.YtaahjpmndkcijaaGreatDoor
open Go.RowKit

end Go.Proofs.YtaahjpmndkcijaaGreatDoor

/-
  The check value: what both sides' calls return.
-/
namespace Go.Proofs.YtaahjpmndkcijaaGreatDoor
open Go.RowKit

end Go.Proofs.YtaahjpmndkcijaaGreatDoor

/-
  The kind of an image, and the reader of its contents: what both sides' calls return.
-/
namespace Go.Proofs.YtaahjpmndkcijaaGreatDoor
open Go.RowKit

end Go.Proofs.YtaahjpmndkcijaaGreatDoor

/-
  The reader of the contents of a formula's image: what both sides' calls return.
-/
namespace Go.Proofs.YtaahjpmndkcijaaGreatDoor
open Go.RowKit

end Go.Proofs.YtaahjpmndkcijaaGreatDoor

/-
  Images of formulas read back, plainly.
-/
namespace Go.Proofs.YtaahjpmndkcijaaGreatDoor
open Go.RowKit

end Go.Proofs.YtaahjpmndkcijaaGreatDoor

/-
  The text of a formula, plainly.
-/
namespace Go.Proofs.YtaahjpmndkcijaaGreatDoor
open Go.RowKit

end Go.Proofs.YtaahjpmndkcijaaGreatDoor

/-
  Regular expressions, plainly: their elements.
-/
namespace Go.Proofs.YtaahjpmndkcijaaGreatDoor
open Go.RowKit

/-- an element: kind, label, and whether the label is negated. -/
structure Rg where
  kd : Int
  lb : List UInt8
  nt : Bool
deriving DecidableEq
end Go.Proofs.YtaahjpmndkcijaaGreatDoor

/-
  The text of a regular expression, plainly.
-/
namespace Go.Proofs.YtaahjpmndkcijaaGreatDoor
open Go.RowKit

end Go.Proofs.YtaahjpmndkcijaaGreatDoor

/-
  The laws' helper functions over lists of elements of regular expressions.
-/
namespace Go.Proofs.YtaahjpmndkcijaaGreatDoor
open Go.RowKit Go.ChangeShapes

abbrev R_G1 : Rp (List Rg) := slF 3 (fun t => [ei t.kd, es t.lb, .bool t.nt])
theorem R_G1k : Kept R_G1 := slF_kept _ _
def mkF_G1 (x : List Rg) : Int := 3 * x.length
theorem mkF_G1_nonneg (x : List Rg) : 0 ≤ mkF_G1 x := by unfold mkF_G1; omega
theorem Tryz.infoRg : (Tryz.prog.info? 53).map (fun i => (i.zero, i.size, i.bytes)) = some (some (.agg #[.int .i64 0, .string ⟨#[]⟩, .bool false]), 3, 32) := by kernel_rfl

set_option maxRecDepth 20000 in
set_option maxHeartbeats 800000 in
theorem eqReg (a : Int) (c : List UInt8) (d : Bool) (w : World) : Calls Tryz.prog 20 #[.agg #[ei a, es c, .bool d], .agg #[ei a, es c, .bool d]] w fun e w' => e = .returned (.bool true) ∧ Upd [] w w' := by
  have h1 : (a != a) = false := by simp
  have h3 : (c != c) = false := by simp
  have h3' : (c == c) = true := by simp
  have h4 : (d != d) = false := by simp
  have h4' : (d == d) = true := by simp
  go_enter Tryz.func20, Tryz.ntmps20
  go_wp2
  go_ret
  exact ⟨rfl, ((Upd.refl _ _).alloc _).alloc _⟩

set_option maxRecDepth 20000 in
set_option maxHeartbeats 800000 in
theorem eq_G1 (v1 v2 : Value) (xs : List Rg) (w : World) (f1 f2 : List Nat) (h1 : R_G1 f1 w [v1] xs) (h2 : R_G1 f2 w [v2] xs) :
    Calls Tryz.prog 7 #[v1, v2] w fun e w' => e = .returned (.bool true) ∧ Upd [] w w' := by
  obtain ⟨a1, c1, rfl, hl1, hm1, hc1⟩ := slF3_open h1
  obtain ⟨a2, c2, rfl, hl2, hm2, hc2⟩ := slF3_open h2
  unfold maxLen at hm1 hm2
  have HC1 := Lib.hid hc1
  have HC2 := Lib.hid hc2
  have hbe : ((xs.length : Int) != (xs.length : Int)) = false := by simp
  clear h1 h2 hc1 hc2
  go_enter Tryz.func7, Tryz.ntmps7
  go_wp2
  go_loopw [5] (fun i wr => ∃ k : Nat, k ≤ xs.length ∧ i = .int .i64 k ∧ Upd [] w wr) (fun i _ => xs.length - (intOf i).toNat)
  case atStart => exact ⟨0, Nat.zero_le _, rfl, Upd.refl _ _⟩
  case round =>
    obtain ⟨k, hk, rfl, hU⟩ := hrel
    by_cases hlt : k < xs.length
    · obtain ⟨b1, o1, rfl, -, hb1, p1, p3, p4⟩ := HC1.out k hlt
      obtain ⟨b2, o2, rfl, -, hb2, p5, p7, p8⟩ := HC2.out k hlt
      have q1 := hU.keep p1
      have q3 := hU.keep p3
      have q4 := hU.keep p4
      have q5 := hU.keep p5
      have q7 := hU.keep p7
      have q8 := hU.keep p8
      have HU := Lib.hid hU
      clear p1 p3 p4 p5 p7 p8 hU
      generalize xs[k] = x at *
      obtain ⟨x1, x3, x4⟩ := x
      simp only at q1 q3 q4 q5 q7 q8
      have S1 := Lib.hid (fun W => eqReg x1 x3 x4 W)
      go_wp2
      go_region_held3 (fun w' => w'.cell? ⟨b1, o1 + k * 3, none⟩ = some (ei x1) ∧ w'.cell? ⟨b1, o1 + k * 3 + 1, none⟩ = some (es x3) ∧ w'.cell? ⟨b1, o1 + k * 3 + 2, none⟩ = some (.bool x4) ∧ w'.cell? ⟨b2, o2 + k * 3, none⟩ = some (ei x1) ∧ w'.cell? ⟨b2, o2 + k * 3 + 1, none⟩ = some (es x3) ∧ w'.cell? ⟨b2, o2 + k * 3 + 2, none⟩ = some (.bool x4)) (go_keep) (((with_reducible refine (S1.out _).mono ?_); rintro e w1 ⟨rfl, hu1⟩; have t1 := hu1.keep q1; have t3 := hu1.keep q3; have t4 := hu1.keep q4; have t5 := hu1.keep q5; have t7 := hu1.keep q7; have t8 := hu1.keep q8))
      have HU1 := Lib.hid (HU.out.drew.trans hu1)
      clear hu1 HU
      go_wp2_with fail
      go_roundw
      case rel => exact ⟨k + 1, by omega, by go_num, HU1.out⟩
      case measure => simp [intOf]; omega
    · have hge : xs.length ≤ k := by omega
      go_wp2
      go_ret
      exact ⟨rfl, hU⟩

end Go.Proofs.YtaahjpmndkcijaaGreatDoor

/-
  Regular expressions as trees: a tree out of elements: what each call returns and makes.
-/
namespace Go.Proofs.YtaahjpmndkcijaaGreatDoor
open Go.RowKit

abbrev encR (t : Rg) : List Value := [ei t.kd, es t.lb, .bool t.nt]
abbrev R_Y : Rp (Tr Rg) := R_T encR
theorem R_Yk : Kept R_Y := R_Tk _
theorem R_Y_open {fp : List Nat} {w : World} {v : Value} {t : Rg} {args : List (Tr Rg)} (h : R_Y fp w [v] (.mk t args)) :
    ∃ b s fa, v = .pointer (some ⟨b, 0, none⟩) ∧ fp = b :: fa ∧ w.cell? ⟨b, 0, none⟩ = some (ei t.kd) ∧ w.cell? ⟨b, 1, none⟩ = some (es t.lb) ∧ w.cell? ⟨b, 2, none⟩ = some (.bool t.nt) ∧ w.cell? ⟨b, 3, none⟩ = some s ∧ slP R_Y fa w [s] args := by
  obtain ⟨b, s, fa, rfl, rfl, -, h1, h2⟩ := R_T_open h
  exact ⟨b, s, fa, rfl, rfl, h1 0 _ rfl, h1 1 _ rfl, h1 2 _ rfl, h1 3 _ rfl, h2⟩
theorem R_Y_mk {w : World} {t : Rg} {args : List (Tr Rg)} {b : Nat} {s : Value} {fa : List Nat} (c0 : w.cell? ⟨b, 0, none⟩ = some (ei t.kd)) (c2 : w.cell? ⟨b, 1, none⟩ = some (es t.lb)) (c3 : w.cell? ⟨b, 2, none⟩ = some (.bool t.nt)) (c4 : w.cell? ⟨b, 3, none⟩ = some s)
    (h : slP R_Y fa w [s] args) : R_Y (b :: fa) w [.pointer (some ⟨b, 0, none⟩)] (.mk t args) := by
  refine R_T_mk (World.block_lt_of_cell? w _ c0) (fun j u hj => ?_) h
  match j, hj with
  | 0, hj => cases hj; exact c0
  | 1, hj => cases hj; exact c2
  | 2, hj => cases hj; exact c3
  | 3, hj => cases hj; exact c4

end Go.Proofs.YtaahjpmndkcijaaGreatDoor

/-
  Regular expressions parsed, plainly: the parser of a text.
-/
namespace Go.Proofs.YtaahjpmndkcijaaGreatDoor
open Go.RowKit

/-- the offset of the first byte from n on that does not meet p. -/
def runE (p : UInt8 → Bool) (s : List UInt8) (n : Nat) : Nat := n + ((s.drop n).takeWhile p).length
theorem runE_le {p : UInt8 → Bool} {s : List UInt8} {n : Nat} (h : n ≤ s.length) : n ≤ runE p s n ∧ runE p s n ≤ s.length := by
  unfold runE
  have := (List.takeWhile_prefix (p := p) (l := s.drop n)).length_le
  rw [List.length_drop] at this
  omega
theorem runE_step {p : UInt8 → Bool} {s : List UInt8} {n : Nat} (h : n < s.length) : runE p s n = if p s[n] then runE p s (n + 1) else n := by
  unfold runE
  rw [List.drop_eq_getElem_cons h, List.takeWhile_cons]
  by_cases hb : p s[n] = true
  · rw [if_pos hb, if_pos hb, List.length_cons]; omega
  · rw [if_neg hb, if_neg hb]; rfl
theorem runE_end {p : UInt8 → Bool} {s : List UInt8} : runE p s s.length = s.length := by
  unfold runE; rw [List.drop_of_length_le (Nat.le_refl _)]; rfl
theorem runE_not {p : UInt8 → Bool} {s : List UInt8} : ∀ (k n : Nat), s.length - n ≤ k → n ≤ s.length → ∀ h : runE p s n < s.length, p s[runE p s n] = false
  | 0, n, hk, hn, h => by have := (runE_le (p := p) hn).1; omega
  | k + 1, n, hk, hn, h => by
    by_cases hlt : n < s.length
    · have h1 := runE_step (p := p) hlt
      by_cases hb : p s[n] = true
      · rw [if_pos hb] at h1
        simp only [h1] at h ⊢
        exact runE_not k (n + 1) (by omega) (by omega) h
      · rw [if_neg hb] at h1
        simp only [h1]
        simpa using hb
    · have := (runE_le (p := p) hn).1; omega
theorem runE_run {p : UInt8 → Bool} {s : List UInt8} : ∀ (k n : Nat), s.length - n ≤ k → n ≤ s.length → ∀ j, n ≤ j → j < runE p s n → ∀ h : j < s.length, p s[j] = true
  | 0, n, hk, hn, j, h1, h2, h => by omega
  | k + 1, n, hk, hn, j, h1, h2, h => by
    by_cases hlt : n < s.length
    · have e := runE_step (p := p) hlt
      by_cases hb : p s[n] = true
      · rw [if_pos hb] at e
        rcases (by omega : j = n ∨ n + 1 ≤ j) with rfl | hj
        · exact hb
        · exact runE_run k (n + 1) (by omega) (by omega) j hj (by omega) h
      · rw [if_neg hb] at e; omega
    · omega

/-- the offset of the first byte from n on that is no blank. -/
def skR (s : List UInt8) (n : Nat) : Nat := runE (· == 32) s n
theorem skR_idem {s : List UInt8} {n : Nat} (h : n ≤ s.length) : skR s (skR s n) = skR s n := by
  unfold skR
  have h2 := (runE_le (p := (· == (32 : UInt8))) h).2
  by_cases hlt : runE (· == 32) s n < s.length
  · rw [runE_step hlt, runE_not _ n (Nat.le_refl _) h hlt]; rfl
  · have : runE (· == 32) s n = s.length := by omega
    rw [this, runE_end]
theorem skR_le {s : List UInt8} {n : Nat} (h : n ≤ s.length) : n ≤ skR s n ∧ skR s n ≤ s.length := runE_le h

def isB (s : List UInt8) (n : Nat) (b : UInt8) : Bool := s[n]? == some b
theorem isB_lt {s : List UInt8} {n : Nat} {b : UInt8} (h : isB s n b = true) : n < s.length := by
  unfold isB at h
  rcases Nat.lt_or_ge n s.length with h1 | h1
  · exact h1
  · rw [List.getElem?_eq_none h1] at h; cases h
theorem isB_at {s : List UInt8} {n : Nat} (h : n < s.length) (b : UInt8) : isB s n b = (s[n] == b) := by
  unfold isB
  rw [List.getElem?_eq_getElem h]; rfl

def wch (c : UInt8) : Bool := sml c || isDig c
/-- the end of the word at n: a small letter, letters and digits; n if none begins there. -/
def wordE (s : List UInt8) (n : Nat) : Nat := if (s[n]?).any sml then runE wch s (n + 1) else n
theorem wordE_le {s : List UInt8} {n : Nat} (h : n ≤ s.length) : n ≤ wordE s n ∧ wordE s n ≤ s.length := by
  unfold wordE
  split
  · rename_i h1
    have hlt : n < s.length := by
      rcases Nat.lt_or_ge n s.length with h2 | h2
      · exact h2
      · rw [List.getElem?_eq_none h2] at h1; cases h1
    have := runE_le (p := wch) (s := s) (n := n + 1) (by omega)
    omega
  · omega

def cutS (s : List UInt8) (a b : Nat) : List UInt8 := (s.drop a).take (b - a)
/-- the pattern of a token, if it is one. -/
def patO (t : List UInt8) : Option (List UInt8) :=
  if Lib.hasSuffix t [40, 42, 41] then (if actF (t.take (t.length - 3)) then some (t.take (t.length - 3) ++ [42]) else none)
  else if isLab t then some t else none
/-- the pattern at n and the offset behind it, if one begins there. -/
def labF (s : List UInt8) (n : Nat) : Option (List UInt8 × Nat) :=
  if isB s (wordE s n) 40 then
    (if runE (· != 41) s (wordE s n) < s.length then (patO (cutS s n (runE (· != 41) s (wordE s n) + 1))).map (fun t => (t, runE (· != 41) s (wordE s n) + 1)) else none)
  else (patO (cutS s n (wordE s n))).map (fun t => (t, wordE s n))

theorem name_no {l : List UInt8} (h : nameF l = true) : (40 : UInt8) ∉ l ∧ (42 : UInt8) ∉ l := ⟨name_char h 40 (by decide) (by decide), name_char h 42 (by decide) (by decide)⟩
theorem isLab_labT {s : List UInt8} (h : isLab s = true) : ∃ name vs, labT name vs = some s := by
  unfold isLab at h
  obtain ⟨⟨name, vs⟩, hx⟩ := Option.isSome_iff_exists.1 h
  exact ⟨name, vs, readF_some hx⟩
theorem joinC_mem {b c : UInt8} : ∀ (L : List (List UInt8)), c ∈ joinC b L → c = b ∨ ∃ x ∈ L, c ∈ x
  | [], h => by simp [joinC] at h
  | [x], h => Or.inr ⟨x, by simp, by simpa [joinC] using h⟩
  | x :: y :: L, h => by
    rw [joinC, List.mem_append, List.mem_cons] at h
    rcases h with h | h | h
    · exact Or.inr ⟨x, by simp, h⟩
    · exact Or.inl h
    · rcases joinC_mem (y :: L) h with h | ⟨z, hz, h⟩
      · exact Or.inl h
      · exact Or.inr ⟨z, List.mem_cons_of_mem _ hz, h⟩
/-- what a label begins and ends with. -/
theorem lab_form {s : List UInt8} (h : isLab s = true) : s ≠ [] ∧ (42 : UInt8) ∉ s ∧ s.head? ≠ some 40 := by
  obtain ⟨name, vs, hl⟩ := isLab_labT h
  have hhd : ∀ l : List UInt8, nameF l = true → l ≠ [] ∧ (42 : UInt8) ∉ l ∧ l.head? ≠ some 40 := fun l hn => by
    refine ⟨fun e => by subst e; simp [nameF] at hn, (name_no hn).2, fun e => (name_no hn).1 (List.mem_of_mem_head? e)⟩
  unfold labT at hl
  split at hl
  · split at hl
    · cases hl; exact hhd _ nameF_tau
    · cases hl
  · split at hl
    · rename_i hc
      simp only [Bool.and_eq_true, decide_eq_true_eq] at hc
      have hn := hhd _ (actF_name hc.1.1).1
      split at hl
      · cases hl; exact hn
      · cases hl
        refine ⟨by simp, fun hm => ?_, ?_⟩
        · simp only [List.mem_append, List.mem_cons, List.not_mem_nil, or_false] at hm
          rcases hm with ((hm | hm) | hm) | hm
          · exact hn.2.1 hm
          · cases hm
          · unfold txtV at hm
            rcases joinC_mem _ hm with e | ⟨x, hx, hm⟩
            · cases e
            · obtain ⟨n, -, rfl⟩ := List.mem_map.1 hx
              exact itoa_no n 42 (by decide) (by decide) hm
          · cases hm
        · cases name with
          | nil => exact absurd rfl hn.1
          | cons a tl => simpa using hn.2.2
    · cases hl
theorem patO_nil : patO [] = none := by decide
theorem patO_open {t : List UInt8} (h : t.head? = some 40) : patO t = none := by
  unfold patO
  split
  · rename_i hs
    rw [if_neg]
    intro ha
    have hn := (actF_name ha).1
    cases t with
    | nil => cases h
    | cons a tl =>
      cases h
      cases hx : (40 :: tl : List UInt8).length - 3 with
      | zero => rw [hx, List.take_zero] at hn; simp [nameF] at hn
      | succ k => rw [hx, List.take_succ_cons] at hn; exact (name_no hn).1 (by simp)
  · rw [if_neg]
    intro hl
    exact (lab_form hl).2.2 h

/-- an element with nothing behind it, with one tree, with two. -/
def leafR (l : List UInt8) (nt : Bool) : Tr Rg := .mk ⟨0, l, nt⟩ []
def starR (x : Tr Rg) : Tr Rg := .mk ⟨3, [], false⟩ [x]
def twoR (k : Int) (x y : Tr Rg) : Tr Rg := .mk ⟨k, [], false⟩ [x, y]
def starsF (s : List UInt8) : Nat → Tr Rg → Nat → Tr Rg × Nat
  | 0, x, n => (x, skR s n)
  | k + 1, x, n => if isB s (skR s n) 42 then starsF s k (starR x) (skR s n + 1) else (x, skR s n)
/-- a test, with or without '!'. -/
def testP (s : List UInt8) (m : Nat) : Except Nat (Tr Rg × Nat) :=
  if isB s (if isB s m 33 then skR s (m + 1) else m) 95 then .ok (leafR [] (isB s m 33), (if isB s m 33 then skR s (m + 1) else m) + 1)
  else match labF s (if isB s m 33 then skR s (m + 1) else m) with
    | none => .error (if isB s m 33 then skR s (m + 1) else m)
    | some (l, e) => .ok (leafR l (isB s m 33), e)
mutual
def atomF (s : List UInt8) : Nat → Nat → Except Nat (Tr Rg × Nat)
  | 0, n => .error n
  | k + 1, n =>
    if isB s (skR s n) 40 then
      match eitherF s k (skR s n + 1) with
      | .error e => .error e
      | .ok (x, p) => if isB s p 41 then .ok (starsF s s.length x (p + 1)) else .error p
    else match testP s (skR s n) with
      | .error e => .error e
      | .ok (x, p) => .ok (starsF s s.length x p)
def thenF (s : List UInt8) : Nat → Nat → Except Nat (Tr Rg × Nat)
  | 0, n => .error n
  | k + 1, n =>
    match atomF s k n with
    | .error e => .error e
    | .ok (x, p) =>
      if isB s p 46 then
        match thenF s k (p + 1) with
        | .error e => .error e
        | .ok (y, q) => .ok (twoR 1 x y, q)
      else .ok (x, p)
def eitherF (s : List UInt8) : Nat → Nat → Except Nat (Tr Rg × Nat)
  | 0, n => .error n
  | k + 1, n =>
    match thenF s k n with
    | .error e => .error e
    | .ok (x, p) =>
      if isB s p 43 then
        match eitherF s k (p + 1) with
        | .error e => .error e
        | .ok (y, q) => .ok (twoR 2 x y, q)
      else .ok (x, p)
end

/-- an offset behind what was read, no blank at it. -/
def PosOk (s : List UInt8) (n p : Nat) : Prop := n < p ∧ p ≤ s.length ∧ skR s p = p
theorem starsF_pos {s : List UInt8} : ∀ (k : Nat) (x : Tr Rg) (n : Nat), n ≤ s.length → n ≤ (starsF s k x n).2 ∧ (starsF s k x n).2 ≤ s.length ∧ skR s (starsF s k x n).2 = (starsF s k x n).2
  | 0, x, n, h => ⟨(skR_le h).1, (skR_le h).2, skR_idem h⟩
  | k + 1, x, n, h => by
    rw [starsF]
    split
    · rename_i hb
      have hlt := isB_lt hb
      have := (skR_le h).1
      obtain ⟨h1, h2, h3⟩ := starsF_pos (s := s) k (starR x) (skR s n + 1) (by omega)
      exact ⟨by omega, h2, h3⟩
    · exact ⟨(skR_le h).1, (skR_le h).2, skR_idem h⟩
theorem labF_pos {s : List UInt8} {n : Nat} {t : List UInt8} {e : Nat} (hn : n ≤ s.length) (h : labF s n = some (t, e)) : n < e ∧ e ≤ s.length := by
  unfold labF at h
  have hw := wordE_le hn
  split at h
  · split at h
    · rename_i hlt
      have := (runE_le (p := (· != (41 : UInt8))) hw.2).1
      cases hp : patO (cutS s n (runE (· != 41) s (wordE s n) + 1)) with
      | none => rw [hp] at h; cases h
      | some t' => rw [hp] at h; cases h; omega
    · cases h
  · cases hp : patO (cutS s n (wordE s n)) with
    | none => rw [hp] at h; cases h
    | some t' =>
      rw [hp] at h; cases h
      refine ⟨?_, hw.2⟩
      rcases Nat.lt_or_ge n (wordE s n) with h9 | h9
      · exact h9
      · have : cutS s n (wordE s n) = [] := by unfold cutS; rw [show wordE s n - n = 0 by omega]; rfl
        rw [this, patO_nil] at hp; cases hp
theorem testP_pos {s : List UInt8} {m : Nat} {x : Tr Rg} {p : Nat} (hm : m ≤ s.length) (h : testP s m = .ok (x, p)) : m < p ∧ p ≤ s.length := by
  unfold testP at h
  have h2 : m ≤ (if isB s m 33 then skR s (m + 1) else m) ∧ (if isB s m 33 then skR s (m + 1) else m) ≤ s.length := by
    split
    · rename_i hb
      have := isB_lt hb
      have := skR_le (s := s) (n := m + 1) (by omega)
      omega
    · omega
  generalize (if isB s m 33 then skR s (m + 1) else m) = m2 at *
  split at h
  · rename_i hb; cases h; have := isB_lt hb; omega
  · split at h
    · cases h
    · rename_i l e hl; cases h; have := labF_pos h2.2 hl; omega
mutual
theorem atomF_pos {s : List UInt8} : ∀ (k n : Nat) (x : Tr Rg) (p : Nat), n ≤ s.length → atomF s k n = .ok (x, p) → PosOk s n p
  | 0, n, x, p, hn, h => by simp [atomF] at h
  | k + 1, n, x, p, hn, h => by
    have hs := skR_le hn
    rw [atomF] at h
    split at h
    · rename_i hb
      have hlt := isB_lt hb
      cases he : eitherF s k (skR s n + 1) with
      | error e => rw [he] at h; cases h
      | ok r =>
        obtain ⟨y, q⟩ := r
        rw [he] at h
        have hq := eitherF_pos k _ y q (by omega) he
        simp only at h
        split at h
        · rename_i hb2
          have := isB_lt hb2
          have h3 := starsF_pos (s := s) s.length y (q + 1) (by omega)
          simp only [Except.ok.injEq] at h
          rw [h] at h3
          exact ⟨by have := hq.1; omega, h3.2.1, h3.2.2⟩
        · cases h
    · cases ht : testP s (skR s n) with
      | error e => rw [ht] at h; cases h
      | ok r =>
        obtain ⟨y, q⟩ := r
        rw [ht] at h
        have hq := testP_pos hs.2 ht
        have h3 := starsF_pos (s := s) s.length y q hq.2
        simp only [Except.ok.injEq] at h
        rw [h] at h3
        exact ⟨by omega, h3.2.1, h3.2.2⟩
theorem thenF_pos {s : List UInt8} : ∀ (k n : Nat) (x : Tr Rg) (p : Nat), n ≤ s.length → thenF s k n = .ok (x, p) → PosOk s n p
  | 0, n, x, p, hn, h => by simp [thenF] at h
  | k + 1, n, x, p, hn, h => by
    rw [thenF] at h
    cases he : atomF s k n with
    | error e => rw [he] at h; cases h
    | ok r =>
      obtain ⟨y, q⟩ := r
      rw [he] at h
      have hq := atomF_pos k n y q hn he
      simp only at h
      split at h
      · rename_i hb
        have := isB_lt hb
        cases h2 : thenF s k (q + 1) with
        | error e => rw [h2] at h; cases h
        | ok r2 =>
          obtain ⟨y2, q2⟩ := r2
          rw [h2] at h
          have hq2 := thenF_pos k _ y2 q2 (by omega) h2
          cases h
          exact ⟨by have := hq.1; have := hq2.1; omega, hq2.2⟩
      · cases h; exact hq
theorem eitherF_pos {s : List UInt8} : ∀ (k n : Nat) (x : Tr Rg) (p : Nat), n ≤ s.length → eitherF s k n = .ok (x, p) → PosOk s n p
  | 0, n, x, p, hn, h => by simp [eitherF] at h
  | k + 1, n, x, p, hn, h => by
    rw [eitherF] at h
    cases he : thenF s k n with
    | error e => rw [he] at h; cases h
    | ok r =>
      obtain ⟨y, q⟩ := r
      rw [he] at h
      have hq := thenF_pos k n y q hn he
      simp only at h
      split at h
      · rename_i hb
        have := isB_lt hb
        cases h2 : eitherF s k (q + 1) with
        | error e => rw [h2] at h; cases h
        | ok r2 =>
          obtain ⟨y2, q2⟩ := r2
          rw [h2] at h
          have hq2 := eitherF_pos k _ y2 q2 (by omega) h2
          cases h
          exact ⟨by have := hq.1; have := hq2.1; omega, hq2.2⟩
      · cases h; exact hq
end

end Go.Proofs.YtaahjpmndkcijaaGreatDoor

/-
  Regular expressions parsed, plainly: both sides' ways to read a pattern agree; parts joined by an operator.
-/
namespace Go.Proofs.YtaahjpmndkcijaaGreatDoor
open Go.RowKit

theorem tw_head {p r u q : List UInt8} (hp : (40 : UInt8) ∉ p) (hu : (40 : UInt8) ∉ u) (h : p ++ 40 :: r = u ++ 40 :: q) : p = u := by
  induction p generalizing u with
  | nil =>
    cases u with
    | nil => rfl
    | cons b u => simp at h; exact absurd (by rw [h.1]; simp) hu
  | cons a p ih =>
    cases u with
    | nil => simp at h; exact absurd (by rw [h.1]; simp) hp
    | cons b u =>
      simp only [List.cons_append, List.cons.injEq] at h
      rw [h.1, ih (fun hm => hp (List.mem_cons_of_mem _ hm)) (fun hm => hu (List.mem_cons_of_mem _ hm)) h.2]
theorem suffix_at {t : List UInt8} (h : Lib.hasSuffix t [40, 42, 41] = true) : t = t.take (t.length - 3) ++ [40, 42, 41] := by
  have h' : ([40, 42, 41] : List UInt8) <:+ t := by simpa [Lib.hasSuffix] using h
  obtain ⟨u, rfl⟩ := h'
  simp
theorem suffix_mk (u : List UInt8) : Lib.hasSuffix (u ++ [40, 42, 41]) [40, 42, 41] = true := by simp [Lib.hasSuffix]
/-- the pattern of a token that a name begins, as the reference reads it. -/
def labQ (name t : List UInt8) : List UInt8 := if t = name ++ [40, 42, 41] then name ++ [42] else t
theorem patO_eq {name r : List UInt8} (h40 : (40 : UInt8) ∉ name) (hr : r = [] ∨ r.head? = some 40) (h1 : name ≠ []) (hl : (name ++ r).getLast? ≠ some 42) :
    patO (name ++ r) = (if (labQ name (name ++ r) != []) && patF (labQ name (name ++ r)) then some (labQ name (name ++ r)) else none) := by
  by_cases hx : r = [40, 42, 41]
  · subst hx
    have e : labQ name (name ++ [40, 42, 41]) = name ++ [42] := by unfold labQ; rw [if_pos rfl]
    have e2 : isLab (name ++ [42]) = false := by
      cases hc : isLab (name ++ [42]) with
      | false => rfl
      | true => exact absurd (by simp) (lab_form hc).2.1
    have e3 : patF (name ++ [42]) = actF name := by unfold patF; rw [e2]; simp
    rw [e, e3]
    unfold patO
    rw [if_pos (suffix_mk name)]
    have : (name ++ [40, 42, 41]).take ((name ++ [40, 42, 41]).length - 3) = name := by simp
    rw [this]
    simp
  · have e : labQ name (name ++ r) = name ++ r := by unfold labQ; rw [if_neg (by simpa using hx)]
    rw [e]
    have hne : name ++ r ≠ [] := by simp [h1]
    have e3 : patF (name ++ r) = isLab (name ++ r) := by
      have b1 : ((name ++ r) == ([] : List UInt8)) = false := by simpa using fun h => absurd h h1
      have b2 : ((name ++ r).getLast? == some 42) = false := by simpa using hl
      unfold patF; rw [b1, b2]; simp
    rw [e3]
    have b3 : ((name ++ r) != ([] : List UInt8)) = true := by simp [h1]
    rw [b3, Bool.true_and]
    unfold patO
    split
    · rename_i hs
      have hu := suffix_at hs
      have hlf : isLab (name ++ r) = false := by
        cases hc : isLab (name ++ r) with
        | false => rfl
        | true => exact absurd (by rw [hu]; simp) (lab_form hc).2.1
      rw [hlf]
      generalize hU : (name ++ r).take ((name ++ r).length - 3) = u at *
      rw [if_neg]
      · simp
      · intro ha
        have hnu := (name_no (actF_name ha).1).1
        rcases hr with rfl | hr
        · rw [List.append_nil] at hu; exact h40 (by rw [hu]; simp)
        · obtain ⟨r', rfl⟩ : ∃ r', r = 40 :: r' := by cases r with | nil => cases hr | cons a r => cases hr; exact ⟨r, rfl⟩
          have := tw_head h40 hnu (r := r') (q := [42, 41]) hu
          subst this
          exact hx (by simpa using hu)
    · rfl

theorem cutS_split {s : List UInt8} {a b c : Nat} (h1 : a ≤ b) (h2 : b ≤ c) : cutS s a c = cutS s a b ++ cutS s b c := by
  unfold cutS
  rw [show c - a = (b - a) + (c - b) by omega, List.take_add, List.drop_drop, show a + (b - a) = b by omega]
theorem cutS_len {s : List UInt8} {a b : Nat} (h2 : b ≤ s.length) : (cutS s a b).length = b - a := by
  unfold cutS; rw [List.length_take, List.length_drop]; omega
theorem cutS_get {s : List UInt8} {a b j : Nat} (h : j < (cutS s a b).length) : ∃ h2 : a + j < s.length, (cutS s a b)[j] = s[a + j] ∧ a + j < b := by
  unfold cutS at h ⊢
  rw [List.length_take, List.length_drop] at h
  refine ⟨by omega, ?_, by omega⟩
  rw [List.getElem_take, List.getElem_drop]
theorem word_all {s : List UInt8} {n : Nat} (hn : n ≤ s.length) : ∀ c ∈ cutS s n (wordE s n), wch c = true := by
  intro c hc
  obtain ⟨j, hj, rfl⟩ := List.mem_iff_getElem.1 hc
  obtain ⟨h1, h2, h3⟩ := cutS_get hj
  rw [h2]
  unfold wordE at h3
  split at h3
  · rename_i ha
    have hlt : n < s.length := by omega
    rw [List.getElem?_eq_getElem hlt] at ha
    cases j with
    | zero => simp only [Nat.add_zero] at *; unfold wch; rw [show sml s[n] = true from ha]; rfl
    | succ j => exact runE_run (p := wch) _ (n + 1) (Nat.le_refl _) (by omega) (n + (j + 1)) (by omega) h3 h1
  · omega
/-- the pattern at n, as the reference reads it. -/
theorem labF_eq {s : List UInt8} {n : Nat} (hn : n < s.length) (hs : sml s[n] = true) :
    n < wordE s n ∧ wordE s n ≤ s.length ∧ wordE s n = runE wch s (n + 1) ∧
    labF s n = if isB s (wordE s n) 40 then (if runE (· != 41) s (wordE s n) < s.length then
        (if (labQ (cutS s n (wordE s n)) (cutS s n (runE (· != 41) s (wordE s n) + 1)) != []) && patF (labQ (cutS s n (wordE s n)) (cutS s n (runE (· != 41) s (wordE s n) + 1))) then some (labQ (cutS s n (wordE s n)) (cutS s n (runE (· != 41) s (wordE s n) + 1)), runE (· != 41) s (wordE s n) + 1) else none) else none)
      else (if (labQ (cutS s n (wordE s n)) (cutS s n (wordE s n)) != []) && patF (labQ (cutS s n (wordE s n)) (cutS s n (wordE s n))) then some (labQ (cutS s n (wordE s n)) (cutS s n (wordE s n)), wordE s n) else none) := by
  have hw := wordE_le (s := s) (n := n) (by omega)
  have he : wordE s n = runE wch s (n + 1) := by unfold wordE; rw [List.getElem?_eq_getElem hn, if_pos (by simpa using hs)]
  have hlt : n < wordE s n := by have := (runE_le (p := wch) (s := s) (n := n + 1) (by omega)).1; omega
  refine ⟨hlt, hw.2, he, ?_⟩
  have hall := word_all (s := s) (n := n) (by omega)
  have h40 : (40 : UInt8) ∉ cutS s n (wordE s n) := fun h => absurd (hall _ h) (by decide)
  have h42 : (42 : UInt8) ∉ cutS s n (wordE s n) := fun h => absurd (hall _ h) (by decide)
  have hne : cutS s n (wordE s n) ≠ [] := fun h => by have := cutS_len (s := s) (a := n) hw.2; rw [h] at this; simp at this; omega
  unfold labF
  by_cases hb : isB s (wordE s n) 40 = true
  · rw [if_pos hb, if_pos hb]
    have hwl := isB_lt hb
    have hr := runE_le (p := (· != (41 : UInt8))) hw.2
    by_cases hc : runE (· != 41) s (wordE s n) < s.length
    · rw [if_pos hc, if_pos hc]
      have hnot := runE_not (p := (· != (41 : UInt8))) _ (wordE s n) (Nat.le_refl _) hw.2 hc
      have h41 : s[runE (· != 41) s (wordE s n)] = 41 := by simpa using hnot
      have hsp := cutS_split (s := s) (a := n) (b := wordE s n) (c := runE (· != 41) s (wordE s n) + 1) (by omega) (by omega)
      have hhd : (cutS s (wordE s n) (runE (· != 41) s (wordE s n) + 1)).head? = some 40 := by
        unfold cutS
        rw [List.drop_eq_getElem_cons hwl, show runE (· != 41) s (wordE s n) + 1 - wordE s n = (runE (· != 41) s (wordE s n) - wordE s n) + 1 by omega, List.take_succ_cons, List.head?_cons]
        rw [isB_at hwl] at hb; simpa using hb
      have hlast : (cutS s n (wordE s n) ++ cutS s (wordE s n) (runE (· != 41) s (wordE s n) + 1)).getLast? ≠ some 42 := by
        rw [← hsp]
        have hl := cutS_len (s := s) (a := n) (b := runE (· != 41) s (wordE s n) + 1) (by omega)
        rw [List.getLast?_eq_getElem?]
        have hj : (cutS s n (runE (· != 41) s (wordE s n) + 1)).length - 1 < (cutS s n (runE (· != 41) s (wordE s n) + 1)).length := by omega
        rw [List.getElem?_eq_getElem hj]
        obtain ⟨g1, g2, -⟩ := cutS_get hj
        rw [g2]
        have : n + ((cutS s n (runE (· != 41) s (wordE s n) + 1)).length - 1) = runE (· != 41) s (wordE s n) := by omega
        simp only [this, h41]
        decide
      have := patO_eq h40 (Or.inr hhd) hne hlast
      rw [← hsp] at this
      rw [this]
      split <;> rfl
    · rw [if_neg hc, if_neg hc]
  · rw [if_neg hb, if_neg hb]
    have hlast : (cutS s n (wordE s n) ++ []).getLast? ≠ some 42 := by
      rw [List.append_nil]
      intro h
      exact h42 (List.mem_of_getLast? h)
    have := patO_eq h40 (Or.inl rfl) hne hlast
    rw [List.append_nil] at this
    rw [this]
    split <;> rfl
theorem labF_no {s : List UInt8} {n : Nat} (h : (s[n]?).any sml = false) : labF s n = none := by
  have hw : wordE s n = n := by unfold wordE; rw [h]; rfl
  unfold labF
  rw [hw]
  by_cases hb : isB s n 40 = true
  · rw [if_pos hb]
    have hlt := isB_lt hb
    split
    · have hr := (runE_le (p := (· != (41 : UInt8))) (s := s) (n := n) (by omega)).1
      rw [patO_open]
      · rfl
      · unfold cutS
        rw [List.drop_eq_getElem_cons hlt, show runE (· != 41) s n + 1 - n = (runE (· != 41) s n - n) + 1 by omega, List.take_succ_cons, List.head?_cons]
        rw [isB_at hlt] at hb; simpa using hb
    · rfl
  · rw [if_neg hb]
    have : cutS s n n = [] := by unfold cutS; rw [Nat.sub_self]; rfl
    rw [this, patO_nil]; rfl

/-- parts, an operator ahead of each, and what follows. -/
def chP' (op : Rg) (P : List (List Rg)) (l : List Rg) : List Rg := P.foldr (fun x acc => op :: (x ++ acc)) l
theorem chP_push (op : Rg) (P : List (List Rg)) (x l : List Rg) : chP' op (P ++ [x]) l = chP' op P (op :: (x ++ l)) := by
  unfold chP'; rw [List.foldr_append]; rfl
/-- all parts joined. -/
def chainF (op : Rg) : List (List Rg) → List Rg
  | [] => []
  | [x] => x
  | x :: y :: r => op :: (x ++ chainF op (y :: r))
theorem chain_push (op : Rg) : ∀ (P : List (List Rg)) (x : List Rg), chainF op (P ++ [x]) = chP' op P x
  | [], x => rfl
  | [y], x => by simp [chainF, chP']
  | y :: z :: r, x => by
    have := chain_push op (z :: r) x
    rw [List.cons_append, List.cons_append, chainF, show z :: (r ++ [x]) = z :: r ++ [x] from rfl, this]
    rfl
/-- what is parsed, as elements in order. -/
def flR : Except Nat (Tr Rg × Nat) → Except Nat (List Rg × Nat)
  | .error e => .error e
  | .ok (x, p) => .ok (flatT x, p)
/-- what is parsed behind parts that stand already. -/
def flP (op : Rg) (P : List (List Rg)) : Except Nat (Tr Rg × Nat) → Except Nat (List Rg × Nat)
  | .error e => .error e
  | .ok (x, p) => .ok (chP' op P (flatT x), p)
theorem flP_nil (op : Rg) (r : Except Nat (Tr Rg × Nat)) : flP op [] r = flR r := by cases r <;> rfl

end Go.Proofs.YtaahjpmndkcijaaGreatDoor

/-
  Regular expressions parsed, plainly: how many elements a text gives.
-/
namespace Go.Proofs.YtaahjpmndkcijaaGreatDoor
open Go.RowKit

theorem starsF_len {s : List UInt8} : ∀ (k : Nat) (x : Tr Rg) (n : Nat), n ≤ s.length → (flatT (starsF s k x n).1).length + n ≤ (flatT x).length + (starsF s k x n).2
  | 0, x, n, h => by have := (skR_le h).1; rw [starsF]; simp only; omega
  | k + 1, x, n, h => by
    have h1 := (skR_le h).1
    rw [starsF]
    split
    · rename_i hb
      have hlt := isB_lt hb
      have := starsF_len (s := s) k (starR x) (skR s n + 1) (by omega)
      have e : (flatT (starR x)).length = (flatT x).length + 1 := by simp [starR, flatT, flatTs]
      omega
    · simp only; omega
theorem testP_len {s : List UInt8} {m : Nat} {x : Tr Rg} {p : Nat} (h : testP s m = .ok (x, p)) : (flatT x).length = 1 := by
  unfold testP at h
  generalize (if isB s m 33 then skR s (m + 1) else m) = m2 at *
  split at h
  · cases h; rfl
  · split at h
    · cases h
    · cases h; rfl
mutual
theorem atomF_len {s : List UInt8} : ∀ (k n : Nat) (x : Tr Rg) (p : Nat), n ≤ s.length → atomF s k n = .ok (x, p) → (flatT x).length + n ≤ p
  | 0, n, x, p, hn, h => by simp [atomF] at h
  | k + 1, n, x, p, hn, h => by
    have hs := skR_le hn
    rw [atomF] at h
    split at h
    · rename_i hb
      have hlt := isB_lt hb
      cases he : eitherF s k (skR s n + 1) with
      | error e => rw [he] at h; cases h
      | ok r =>
        obtain ⟨y, q⟩ := r
        rw [he] at h
        have hq := eitherF_pos k _ y q (by omega) he
        have hl := eitherF_len k _ y q (by omega) he
        simp only at h
        split at h
        · rename_i hb2
          have := isB_lt hb2
          have h3 := starsF_len (s := s) s.length y (q + 1) (by omega)
          simp only [Except.ok.injEq] at h
          rw [h] at h3
          simp only at h3
          omega
        · cases h
    · cases ht : testP s (skR s n) with
      | error e => rw [ht] at h; cases h
      | ok r =>
        obtain ⟨y, q⟩ := r
        rw [ht] at h
        have hq := testP_pos hs.2 ht
        have hl := testP_len ht
        have h3 := starsF_len (s := s) s.length y q hq.2
        simp only [Except.ok.injEq] at h
        rw [h] at h3
        simp only at h3
        omega
theorem thenF_len {s : List UInt8} : ∀ (k n : Nat) (x : Tr Rg) (p : Nat), n ≤ s.length → thenF s k n = .ok (x, p) → (flatT x).length + n ≤ p
  | 0, n, x, p, hn, h => by simp [thenF] at h
  | k + 1, n, x, p, hn, h => by
    rw [thenF] at h
    cases he : atomF s k n with
    | error e => rw [he] at h; cases h
    | ok r =>
      obtain ⟨y, q⟩ := r
      rw [he] at h
      have hl := atomF_len k n y q hn he
      simp only at h
      split at h
      · rename_i hb
        have := isB_lt hb
        cases h2 : thenF s k (q + 1) with
        | error e => rw [h2] at h; cases h
        | ok r2 =>
          obtain ⟨y2, q2⟩ := r2
          rw [h2] at h
          have hl2 := thenF_len k _ y2 q2 (by omega) h2
          cases h
          simp only [twoR, flatT, flatTs, List.append_nil, List.length_cons, List.length_append]
          omega
      · cases h; exact hl
theorem eitherF_len {s : List UInt8} : ∀ (k n : Nat) (x : Tr Rg) (p : Nat), n ≤ s.length → eitherF s k n = .ok (x, p) → (flatT x).length + n ≤ p
  | 0, n, x, p, hn, h => by simp [eitherF] at h
  | k + 1, n, x, p, hn, h => by
    rw [eitherF] at h
    cases he : thenF s k n with
    | error e => rw [he] at h; cases h
    | ok r =>
      obtain ⟨y, q⟩ := r
      rw [he] at h
      have hl := thenF_len k n y q hn he
      simp only at h
      split at h
      · rename_i hb
        have := isB_lt hb
        cases h2 : eitherF s k (q + 1) with
        | error e => rw [h2] at h; cases h
        | ok r2 =>
          obtain ⟨y2, q2⟩ := r2
          rw [h2] at h
          have hl2 := eitherF_len k _ y2 q2 (by omega) h2
          cases h
          simp only [twoR, flatT, flatTs, List.append_nil, List.length_cons, List.length_append]
          omega
      · cases h; exact hl
end

/-- an expression of any length, from n on. -/
abbrev regP (s : List UInt8) (n : Nat) : Except Nat (Tr Rg × Nat) := eitherF s (3 * s.length + 3) n
/-- what ParseRegular returns: elements, an offset, a code. -/
def regF (s : List UInt8) : List Rg × Int × Int :=
  if 400 < s.length then ([], 0, 2)
  else match regP s 0 with
    | .error a => ([], a, 8)
    | .ok (x, p) => if p < s.length then ([], p, 8) else if 20 < (flatT x).length then ([], 0, 5) else (flatT x, 0, 0)


end Go.Proofs.YtaahjpmndkcijaaGreatDoor

/-
  The laws' helper functions over lists of nodes.
-/
namespace Go.Proofs.YtaahjpmndkcijaaGreatDoor
open Go.RowKit Go.ChangeShapes

end Go.Proofs.YtaahjpmndkcijaaGreatDoor

/-
  The reference's checks of nodes and of a formula's shape: what the calls return.
-/
namespace Go.Proofs.YtaahjpmndkcijaaGreatDoor
open Go.RowKit

set_option maxRecDepth 20000 in
set_option maxHeartbeats 2000000 in
theorem patS (s : List UInt8) (w : World) (hl : s.length ≤ 2000000) : Calls Tryz.prog 64 #[es s] w fun e w' => e = .returned (.bool (patF s)) ∧ Upd [] w w' := by
  have S1 := Lib.hid (labelS s w hl)
  have HP := Lib.hid (show patF s = (s == [] || isLab s || (s.getLast? == some 42 && actF s.dropLast)) from rfl)
  by_cases h0 : s = []
  · subst h0
    have HR := Lib.hid (show patF [] = true from rfl)
    clear S1 HP
    go_enter Tryz.func64, Tryz.ntmps64
    go_wp2_with fail
    go_ret
    exact ⟨by rw [HR.out]; rfl, Upd.refl _ _⟩
  · have b0 : (s == ([] : List UInt8)) = false := by simpa using h0
    cases hlab : isLab s with
    | true =>
      rw [hlab] at S1
      have HR := Lib.hid (show patF s = true by rw [HP.out, hlab]; simp)
      clear HP hlab h0
      go_enter Tryz.func64, Tryz.ntmps64
      go_wp2_with fail
      refine S1.out.mono ?_
      rintro e w1 ⟨rfl, hu⟩
      have HU := Lib.hid hu
      clear S1 hu
      go_wp2_with fail
      go_ret
      exact ⟨by rw [HR.out]; rfl, HU.out⟩
    | false =>
      rw [hlab] at S1
      obtain ⟨l, x, rfl⟩ : ∃ l x, s = l ++ [x] := by
        rcases List.eq_nil_or_concat s with h | ⟨l, x, h⟩
        · exact absurd h h0
        · exact ⟨l, x, by rw [h]; simp⟩
      have HR := Lib.hid (show patF (l ++ [x]) = (x == 42 && actF l) by rw [HP.out, hlab, b0]; simp)
      have hlen : (l ++ [x]).length = l.length + 1 := by simp
      have hll : l.length ≤ 2000000 := by rw [hlen] at hl; omega
      have S2 := Lib.hid (fun W => actionS l W hll)
      have hext := extract_list (l ++ [x]) 0 l.length
      have e1 : ((l ++ [x]).drop 0).take (l.length - 0) = l := by simp
      rw [e1] at hext
      have hix : (⟨(l ++ [x]).toArray⟩ : ByteArray)[l.length]'(by simp [ByteArray.size]) = x := by simp [ByteArray.getElem_eq_getElem_data]
      have hm1 : ((l.length : Int) + 1) - 1 = (l.length : Int) := by omega
      have hm4 : (l.length : Int) ≤ (l.length : Int) + 1 := by omega
      have hzz : l.length < (l ++ [x]).length := by omega
      clear HP hlab h0 e1
      obtain ⟨S, hS⟩ : ∃ S, S = l ++ [x] := ⟨_, rfl⟩
      have hix2 : ∃ hh, (⟨S.toArray⟩ : ByteArray)[l.length]'hh = x := by subst hS; exact ⟨_, hix⟩
      rw [← hS] at S1 HR hlen hext b0 hzz hl
      rw [← hS]
      clear hix hS
      obtain ⟨hh, hix⟩ := hix2
      by_cases hx : x = 42
      · have bx : ((x.toNat : Int) == 42) = true := by rw [hx]; rfl
        have HR2 := Lib.hid (show patF S = actF l by rw [HR.out, hx]; simp)
        clear HR hx
        generalize actF l = q at *
        go_enter Tryz.func64, Tryz.ntmps64
        go_wp2_with fail
        refine S1.out.mono ?_
        rintro e w1 ⟨rfl, hu⟩
        have HU := Lib.hid hu
        clear S1 hu
        go_wp2_with fail
        refine (S2.out _).mono ?_
        rintro e w2 ⟨rfl, rfl⟩
        clear S2
        go_wp2_with fail
        go_ret
        exact ⟨by rw [HR2.out]; rfl, HU.out⟩
      · have bx : ((x.toNat : Int) == 42) = false := by
          simp; intro h; apply hx; exact UInt8.toNat_inj.1 (by rw [show (42 : UInt8).toNat = 42 from rfl]; omega)
        have HR2 := Lib.hid (show patF S = false by rw [HR.out]; simp [hx])
        clear HR hx S2
        go_enter Tryz.func64, Tryz.ntmps64
        go_wp2_with fail
        refine S1.out.mono ?_
        rintro e w1 ⟨rfl, hu⟩
        have HU := Lib.hid hu
        clear S1 hu
        go_wp2_with fail
        go_ret
        exact ⟨by rw [HR2.out]; rfl, HU.out⟩

end Go.Proofs.YtaahjpmndkcijaaGreatDoor

/-
  Regular expressions parsed: the reference reads a pattern.
-/
namespace Go.Proofs.YtaahjpmndkcijaaGreatDoor
open Go.RowKit

set_option maxRecDepth 20000 in
set_option maxHeartbeats 1000000 in
theorem isBS (s : List UInt8) (n : Nat) (c : UInt8) (z : Int) (hz : z = c.toNat) (w : World) (_hs : s.length ≤ 2000000) (hn : n ≤ s.length) :
    Calls Tryz.prog 28 #[es s, .int .i64 n, .int .u8 z] w fun e w' => e = .returned (.bool (isB s n c)) ∧ w = w' := by
  by_cases hlt : n < s.length
  · obtain ⟨b, hb⟩ : ∃ b, s[n] = b := ⟨_, rfl⟩
    have hix : (⟨s.toArray⟩ : ByteArray)[n]'(by simpa [ByteArray.size] using hlt) = b := by rw [← hb]; simp [ByteArray.getElem_eq_getElem_data]
    have hkl : (n : Int) < (s.length : Int) := by omega
    rw [isB_at hlt, hb]
    have hq := byteU b c.toNat c.toNat_lt
    rw [show UInt8.ofNat c.toNat = c by simp, ← hz] at hq
    obtain ⟨q, hqq⟩ : ∃ q, (b == c) = q := ⟨_, rfl⟩
    rw [hqq] at hq ⊢
    clear hb hqq hz
    go_enter Tryz.func28, Tryz.ntmps28
    go_wp2_with fail
    go_ret
    exact ⟨rfl, rfl⟩
  · have hf : isB s n c = false := by unfold isB; rw [List.getElem?_eq_none (by omega)]; rfl
    obtain rfl : n = s.length := by omega
    rw [hf]
    go_enter Tryz.func28, Tryz.ntmps28
    go_wp2_with fail
    go_ret
    exact ⟨rfl, rfl⟩

/-- a test's pattern, the reference's way. -/
def tokF (s : List UInt8) (n : Nat) : Option (List UInt8 × Nat) := if isB s n 95 then some ([], n + 1) else labF s n

set_option maxRecDepth 20000 in
set_option maxHeartbeats 4000000 in
theorem tokenS (s : List UInt8) (m : Nat) (w : World) (hs : s.length ≤ 1000000) (hm : m ≤ s.length) :
    Calls Tryz.prog 50 #[es s, .int .i64 m] w fun e w' => (∃ (t : List UInt8) (q : Nat) (b : Bool), e = .returned (.tuple #[es t, .int .i64 q, .bool b]) ∧ Hid (tokF s m = if b then some (t, q) else none)) ∧ Upd [] w w' := by
  by_cases hlt : m < s.length
  · obtain ⟨b, hb⟩ : ∃ b, s[m] = b := ⟨_, rfl⟩
    have hix : (⟨s.toArray⟩ : ByteArray)[m]'(by simpa [ByteArray.size] using hlt) = b := by rw [← hb]; simp [ByteArray.getElem_eq_getElem_data]
    have hkl : (m : Int) < (s.length : Int) := by omega
    have hq := byteU b 95 (by omega)
    rw [show ((95 : Nat) : Int) = 95 from rfl, show UInt8.ofNat 95 = 95 from rfl] at hq
    cases h95 : (b == (95 : UInt8)) with
    | true =>
      rw [h95] at hq
      have HX := Lib.hid (show tokF s m = some ([], m + 1) by unfold tokF; rw [isB_at hlt, hb, h95]; rfl)
      clear hb h95
      go_enter Tryz.func50, Tryz.ntmps50
      go_wp2_with fail
      go_ret3
      exact ⟨⟨[], m + 1, true, by first | rfl | (simp; rfl), HX⟩, Upd.refl _ _⟩
    | false =>
      rw [h95] at hq
      have HX := Lib.hid (show tokF s m = labF s m by unfold tokF; rw [isB_at hlt, hb, h95]; rfl)
      have M1 := Lib.hid (smallS b w)
      cases hsm : sml b with
      | false =>
        rw [hsm] at M1
        have HY := Lib.hid (show tokF s m = none by rw [HX.out, labF_no (by rw [List.getElem?_eq_getElem hlt, hb]; exact hsm)])
        clear hb h95 HX hsm
        go_enter Tryz.func50, Tryz.ntmps50
        go_wp2_with fail
        refine M1.out.mono ?_
        rintro e w1 ⟨rfl, rfl⟩
        clear M1
        go_wp2_with fail
        go_ret3
        exact ⟨⟨[], m, false, rfl, HY⟩, Upd.refl _ _⟩
      | true =>
        obtain ⟨hZ1, hZ2, hZ3, hLF⟩ := labF_eq hlt (by rw [hb]; exact hsm)
        rw [hsm] at M1
        have HLF := Lib.hid (HX.out.trans hLF)
        obtain ⟨Z, hZ⟩ : ∃ Z, wordE s m = Z := ⟨_, rfl⟩
        have HZ := Lib.hid (show runE wch s m = Z by
          rw [runE_step hlt, if_pos (by rw [hb]; unfold wch; rw [hsm]; rfl), ← hZ3, hZ])
        rw [hZ] at hZ1 hZ2 HLF
        generalize tokF s m = LS at *
        clear hZ3 hLF hZ hb h95 HX hsm
        go_enter Tryz.func50, Tryz.ntmps50
        go_wp2_with fail
        refine M1.out.mono ?_
        rintro e w1 ⟨rfl, hww⟩
        subst hww
        clear M1
        go_upto_block 0 with (fail)
        go_cut [7] (fun s7 wx => s7 = .int .i64 Z ∧ wx = w)
        case first =>
          clear HLF
          have HST := Lib.hid (fun k (h : k < s.length) => runE_step (p := wch) h)
          have HEN := Lib.hid (runE_end (p := wch) (s := s))
          have HSM := Lib.hid smallS
          have HDG := Lib.hid digitS
          go_wp2_with fail
          go_loopw [7] (fun iv wr => ∃ k : Nat, k ≤ s.length ∧ iv = .int .i64 k ∧ Hid (runE wch s k = Z) ∧ wr = w) (fun iv _ => s.length - (intOf iv).toNat)
          case atStart => exact ⟨m, hm, rfl, HZ, rfl⟩
          case round =>
            clear HZ
            obtain ⟨wo, rfl⟩ : ∃ wo : World, wo = wr := ⟨_, rfl⟩
            obtain ⟨k, hk, rfl, HZ, hww⟩ := hrel
            subst hww
            by_cases hlk : k < s.length
            · obtain ⟨c, hc⟩ : ∃ c, s[k] = c := ⟨_, rfl⟩
              have hixk : (⟨s.toArray⟩ : ByteArray)[k]'(by simpa [ByteArray.size] using hlk) = c := by rw [← hc]; simp [ByteArray.getElem_eq_getElem_data]
              have hkk : (k : Int) < (s.length : Int) := by omega
              have h1 := HST.out k hlk
              rw [hc, HZ.out] at h1
              have A1 := Lib.hid (HSM.out c wo)
              have A2 := Lib.hid (HDG.out c wo)
              have HW := Lib.hid (show wch c = (sml c || isDig c) from rfl)
              clear hc HST HEN HZ HSM HDG
              cases hs1 : sml c with
              | true =>
                rw [hs1] at A1 HW
                have HX := Lib.hid (show runE wch s (k + 1) = Z by rw [h1, if_pos (by rw [HW.out]; rfl)])
                clear h1 HW A2 hs1
                go_wp2_with fail
                refine A1.out.mono ?_
                rintro e w2 ⟨rfl, rfl⟩
                clear A1
                go_wp2_with fail
                go_roundw
                case rel => exact ⟨k + 1, by omega, by go_num, HX, by first | rfl | trivial⟩
                case measure => simp [intOf]; omega
              | false =>
                rw [hs1] at A1 HW
                cases hd1 : isDig c with
                | true =>
                  rw [hd1] at A2 HW
                  have HX := Lib.hid (show runE wch s (k + 1) = Z by rw [h1, if_pos (by rw [HW.out]; rfl)])
                  clear h1 HW hs1 hd1
                  go_wp2_with fail
                  refine A1.out.mono ?_
                  rintro e w2 ⟨rfl, rfl⟩
                  clear A1
                  go_wp2_with fail
                  refine A2.out.mono ?_
                  rintro e w2 ⟨rfl, rfl⟩
                  clear A2
                  go_wp2_with fail
                  go_roundw
                  case rel => exact ⟨k + 1, by omega, by go_num, HX, by first | rfl | trivial⟩
                  case measure => simp [intOf]; omega
                | false =>
                  rw [hd1] at A2 HW
                  have HX := Lib.hid (show Z = k by rw [h1, if_neg (by rw [HW.out]; decide)])
                  clear h1 HW hs1 hd1
                  go_wp2_with fail
                  refine A1.out.mono ?_
                  rintro e w2 ⟨rfl, rfl⟩
                  clear A1
                  go_wp2_with fail
                  refine A2.out.mono ?_
                  rintro e w2 ⟨rfl, rfl⟩
                  clear A2
                  go_wp2_with fail
                  go_meet
                  exact ⟨by rw [HX.out], rfl⟩
            · obtain rfl : k = s.length := by omega
              have HX := Lib.hid (show Z = s.length by rw [← HZ.out, HEN.out])
              clear HST HEN HZ HSM HDG
              go_wp2_with fail
              go_meet
              exact ⟨by rw [HX.out], rfl⟩
        case rest =>
          obtain ⟨rfl, hww⟩ := hcut
          replace hww := hww.symm
          subst hww
          clear HZ
          have I1 := Lib.hid (fun W => isBS s Z 40 40 rfl W (by omega) hZ2)
          obtain ⟨q4, hq4⟩ : ∃ q, isB s Z 40 = q := ⟨_, rfl⟩
          rw [hq4] at I1 HLF
          have hx1 := runE_le (p := (· != (41 : UInt8))) hZ2
          obtain ⟨c, hc⟩ : ∃ c, runE (· != 41) s Z = c := ⟨_, rfl⟩
          have HC := Lib.hid hc
          rw [hc] at HLF hx1
          have hextn : (⟨s.toArray⟩ : ByteArray).extract m Z = ⟨(cutS s m Z).toArray⟩ := extract_list s m Z
          have hnl : (cutS s m Z).length ≤ 1000000 := by rw [cutS_len hZ2]; omega
          have hmZ : (m : Int) ≤ (Z : Int) := by omega
          have hZl : (Z : Int) ≤ (s.length : Int) := by omega
          obtain ⟨E, hE1, hE2, hEE⟩ : ∃ E : Nat, Z ≤ E ∧ E ≤ s.length ∧ Hid ((q4 = false → E = Z) ∧ (q4 = true → c < s.length → E = c + 1)) := by
            cases q4 with
            | false => exact ⟨Z, Nat.le_refl _, hZ2, Lib.hid ⟨(fun _ => rfl), (fun h => nomatch h)⟩⟩
            | true =>
              by_cases hcl : c < s.length
              · exact ⟨c + 1, by omega, by omega, Lib.hid ⟨(fun h => nomatch h), (fun _ _ => rfl)⟩⟩
              · exact ⟨Z, Nat.le_refl _, hZ2, Lib.hid ⟨(fun h => nomatch h), (fun _ h => absurd h hcl)⟩⟩
          have HLF2 := Lib.hid (show q4 = true → ¬ c < s.length → LS = none from fun h1 h2 => by rw [HLF.out, h1, if_pos rfl, if_neg h2])
          have HLF3 := Lib.hid (show (q4 = true → c < s.length) → LS = (if (labQ (cutS s m Z) (cutS s m E) != []) && patF (labQ (cutS s m Z) (cutS s m E)) then some (labQ (cutS s m Z) (cutS s m E), E) else none) from fun h => by
            rw [HLF.out]
            cases q4 with
            | false => rw [hEE.out.1 rfl, if_neg (by decide)]
            | true => rw [hEE.out.2 rfl (h rfl), if_pos rfl, if_pos (h rfl)])
          have HPT := Lib.hid (fun (t : List UInt8) (h : t.length ≤ 2000000) => patS t w h)
          clear hc hq4 HLF
          go_upto_region 11 with (fail)
          clear hextn
          go_wp2_with fail
          refine (I1.out _).mono ?_
          rintro e w1 ⟨rfl, hww⟩
          subst hww
          clear I1
          go_upto_if 52 with (fail)
          go_cut [7] (fun s7 wx => s7 = .int .i64 E ∧ (q4 = true → c < s.length) ∧ wx = w)
          case first =>
            clear HLF3 HPT
            cases q4 with
            | false =>
              have HX := Lib.hid (hEE.out.1 rfl)
              clear HLF2 hEE HC
              go_wp2_with fail
              go_meet
              exact ⟨by rw [HX.out], (fun h => nomatch h), rfl⟩
            | true =>
              have HST := Lib.hid (fun k (h : k < s.length) => runE_step (p := (· != (41 : UInt8))) h)
              have HEN := Lib.hid (runE_end (p := (· != (41 : UInt8))) (s := s))
              go_wp2_with fail
              go_loopw [7] (fun iv wr => ∃ k : Nat, k ≤ s.length ∧ iv = .int .i64 k ∧ Hid (runE (· != 41) s k = c) ∧ wr = w) (fun iv _ => s.length - (intOf iv).toNat)
              case atStart => exact ⟨Z, hZ2, rfl, HC, rfl⟩
              case round =>
                clear HC
                obtain ⟨wo, rfl⟩ : ∃ wo : World, wo = wr := ⟨_, rfl⟩
                obtain ⟨k, hk, rfl, HC, hww⟩ := hrel
                subst hww
                by_cases hlk : k < s.length
                · obtain ⟨y, hy⟩ : ∃ y, s[k] = y := ⟨_, rfl⟩
                  have hixk : (⟨s.toArray⟩ : ByteArray)[k]'(by simpa [ByteArray.size] using hlk) = y := by rw [← hy]; simp [ByteArray.getElem_eq_getElem_data]
                  have hkk : (k : Int) < (s.length : Int) := by omega
                  have h1 := HST.out k hlk
                  rw [hy, HC.out] at h1
                  have hqy := byteU y 41 (by omega)
                  rw [show ((41 : Nat) : Int) = 41 from rfl, show UInt8.ofNat 41 = 41 from rfl] at hqy
                  obtain ⟨q, hq'⟩ : ∃ q, (y == (41 : UInt8)) = q := ⟨_, rfl⟩
                  rw [hq'] at hqy
                  have hne : ((y.toNat : Int) != 41) = !q := by rw [bne, hqy]
                  have hpn : (y != (41 : UInt8)) = !q := by rw [bne, hq']
                  rw [hpn] at h1
                  clear hy hq' hpn HST HEN HC
                  cases q with
                  | false =>
                    have HX := Lib.hid (show runE (· != 41) s (k + 1) = c by rw [h1]; rfl)
                    clear h1
                    go_wp2_with fail
                    go_roundw
                    case rel => exact ⟨k + 1, by omega, by go_num, HX, by first | rfl | trivial⟩
                    case measure => simp [intOf]; omega
                  | true =>
                    have HX := Lib.hid (show c = k by rw [h1]; rfl)
                    have HE9 := Lib.hid (show E = k + 1 by rw [hEE.out.2 (by trivial) (by rw [HX.out]; exact hlk), HX.out])
                    have hkne : ((k : Int) == (s.length : Int)) = false := by rw [beq_eq_false_iff_ne]; omega
                    clear h1 HLF2 hEE
                    go_wp2_with fail
                    go_meet
                    exact ⟨by rw [HE9.out]; go_num, (fun _ => by rw [HX.out]; exact hlk), rfl⟩
                · obtain rfl : k = s.length := by omega
                  have HX := Lib.hid (show LS = none from HLF2.out (by trivial) (by rw [← HC.out, HEN.out]; omega))
                  clear HST HEN HC HLF2 hEE
                  go_wp2_with fail
                  go_ret3
                  exact ⟨⟨[], m, false, rfl, HX⟩, Upd.refl _ _⟩
          case rest =>
            obtain ⟨rfl, hqc, hww⟩ := hcut
            replace hww := hww.symm
            subst hww
            have HLS := Lib.hid (HLF3.out hqc)
            clear HLF2 HLF3 hqc hEE HC hx1
            have hextl : (⟨s.toArray⟩ : ByteArray).extract m E = ⟨(cutS s m E).toArray⟩ := extract_list s m E
            have hll : (cutS s m E).length ≤ 1000000 := by rw [cutS_len hE2]; omega
            have hl0 : 0 < (cutS s m E).length := by rw [cutS_len hE2]; omega
            have hmE : (m : Int) ≤ (E : Int) := by omega
            have hEl : (E : Int) ≤ (s.length : Int) := by omega
            have hn0 : 0 < (cutS s m Z).length := by rw [cutS_len hZ2]; omega
            generalize cutS s m E = lb at *
            generalize cutS s m Z = nm at *
            obtain ⟨NX, hNX⟩ : ∃ NX, nm ++ [40, 42, 41] = NX := ⟨_, rfl⟩
            obtain ⟨NY, hNY⟩ : ∃ NY, nm ++ [42] = NY := ⟨_, rfl⟩
            have hcatX : (ByteArray.mk nm.toArray ++ ⟨#[40, 42, 41]⟩) = ByteArray.mk NX.toArray := by rw [← hNX]; exact ByteArray.mk_append_mk nm [40, 42, 41]
            have hcatY : (ByteArray.mk nm.toArray ++ ⟨#[42]⟩) = ByteArray.mk NY.toArray := by rw [← hNY]; exact ByteArray.mk_append_mk nm [42]
            have hz1 : ¬ (9223372036854775807 < nm.length + 3) := by omega
            have hz2 : ¬ (9223372036854775807 < nm.length + 1) := by omega
            have hNYl : NY.length ≤ 2000000 := by rw [← hNY]; simp; omega
            have hNY0 : (NY == ([] : List UInt8)) = false := by rw [← hNY]; simp
            have hlb0 : (lb == ([] : List UInt8)) = false := by rw [beq_eq_false_iff_ne]; intro h; rw [h] at hl0; simp at hl0
            obtain ⟨q7, hq7⟩ : ∃ q, (lb == NX) = q := ⟨_, rfl⟩
            have HLQ := Lib.hid (show labQ nm lb = if q7 then NY else lb by unfold labQ; rw [hNX, hNY, ← hq7]; by_cases h : lb = NX <;> simp [h])
            rw [HLQ.out] at HLS
            clear hNX hNY HLQ hn0 hl0
            cases q7 with
            | true =>
              rw [if_pos rfl, show (NY != ([] : List UInt8)) = true by rw [bne, hNY0]; rfl, Bool.true_and] at HLS
              have P1 := Lib.hid (HPT.out NY hNYl)
              generalize patF NY = pq at *
              clear HPT
              go_wp2_with fail
              refine P1.out.mono ?_
              rintro e w1 ⟨rfl, hu⟩
              have HU := Lib.hid hu
              clear P1 hu
              go_wp2_with fail
              go_ret3
              exact ⟨⟨NY, E, pq, rfl, HLS⟩, HU.out⟩
            | false =>
              rw [if_neg (show ¬ (false = true) by decide), show (lb != ([] : List UInt8)) = true by rw [bne, hlb0]; rfl, Bool.true_and] at HLS
              have P1 := Lib.hid (HPT.out lb (by omega))
              generalize patF lb = pq at *
              clear HPT
              go_wp2_with fail
              refine P1.out.mono ?_
              rintro e w1 ⟨rfl, hu⟩
              have HU := Lib.hid hu
              clear P1 hu
              go_wp2_with fail
              go_ret3
              exact ⟨⟨lb, E, pq, rfl, HLS⟩, HU.out⟩
  · have HX := Lib.hid (show tokF s m = none by
      unfold tokF
      rw [show isB s m 95 = false by unfold isB; rw [List.getElem?_eq_none (by omega)]; rfl]
      exact labF_no (by rw [List.getElem?_eq_none (by omega)]; rfl))
    have hgeq : (s.length : Int) ≤ (m : Int) := by omega
    go_enter Tryz.func50, Tryz.ntmps50
    go_wp2_with fail
    go_ret3
    exact ⟨⟨[], m, false, rfl, HX⟩, Upd.refl _ _⟩

end Go.Proofs.YtaahjpmndkcijaaGreatDoor

/-
  Regular expressions parsed: the reference joins parts by an operator.
-/
namespace Go.Proofs.YtaahjpmndkcijaaGreatDoor
open Go.RowKit

theorem Tryz.infoRgL : (Tryz.prog.info? 22).map (fun i => (i.zero, i.size, i.bytes)) = some (some (.slice none 0 0), 1, 24) := by kernel_rfl
theorem one_G1 (xs : List Rg) : ∀ u ∈ xs.flatMap encR, u.oneCell' = true := by
  intro u hu
  obtain ⟨x, -, hx⟩ := List.mem_flatMap.1 hu
  simp at hx
  rcases hx with rfl | rfl | rfl <;> rfl
theorem Flat.ofG1 {fp : List Nat} {w : World} {v : Value} {xs : List Rg} (h : R_G1 fp w [v] xs) : Flat fp w v 3 xs.length (xs.flatMap encR) := by
  obtain ⟨v', hv, hf⟩ := h
  cases hv; exact hf
theorem chP_len (op : Rg) (P : List (List Rg)) (l : List Rg) : (chP' op P l).length = (chP' op P []).length + l.length := by
  induction P with
  | nil => simp [chP']
  | cons x P ih =>
    have e : ∀ l, chP' op (x :: P) l = op :: (x ++ chP' op P l) := fun _ => rfl
    rw [e, e, List.length_cons, List.length_append, ih, List.length_cons, List.length_append]; omega
theorem chain_drop (op : Rg) (P : List (List Rg)) (k : Nat) (h : k < P.length) : chainF op (P.drop k) = (if k + 1 < P.length then [op] else []) ++ (P[k] ++ chainF op (P.drop (k + 1))) := by
  rw [List.drop_eq_getElem_cons h]
  by_cases h1 : k + 1 < P.length
  · rw [if_pos h1, List.drop_eq_getElem_cons h1]; rfl
  · rw [if_neg h1, List.drop_of_length_le (by omega)]; simp [chainF]

set_option maxRecDepth 20000 in
set_option maxHeartbeats 4000000 in
theorem chainS (v : Value) (P : List (List Rg)) (kd : Int) (w : World) (fp : List Nat) (hR : slP R_G1 fp w [v] P) (hl : (chainF ⟨kd, [], false⟩ P).length ≤ 1000000) (hP : P.length ≤ 1000000) :
    Calls Tryz.prog 29 #[v, .int .i64 kd] w fun e w' => (∃ v', e = .returned v' ∧ New R_G1 w w' v' (chainF ⟨kd, [], false⟩ P)) ∧ Upd [] w w' := by
  obtain ⟨i0, hi, hz0, hz1, hz2⟩ := info_parts Tryz.infoRg
  have hfp := (slP_kept R_G1k).lt hR
  obtain ⟨a, cap, rfl, g1, g2, hc⟩ := slP_open hR
  unfold maxLen at g2
  have HC := Lib.hid hc
  have HFP := Lib.hid hfp
  obtain ⟨B, hB⟩ : ∃ B, w.heap.size = B := ⟨_, rfl⟩
  have hown0 : (w.alloc (.cells #[] 53)).ownsRow B 53 3 (.slice (some ⟨B, 0, none⟩) 0 0) 0 [] := by
    rw [← hB]
    simpa using World.ownsRow_lit (base := w.heap.size) (e := 53) (size := 3) w #[] 0 (Nat.le_refl _) (by simp [maxLen]) (by simp)
  have hbel : Below B w (w.alloc (.cells #[] 53)) := (Below.refl B w).alloc (by omega) _
  have HBB := Lib.hid hB
  obtain ⟨op, hop⟩ : ∃ op : Rg, op = ⟨kd, [], false⟩ := ⟨_, rfl⟩
  have HOP := Lib.hid hop
  have henc : encR op = [ei kd, es [], .bool false] := by rw [hop]
  have HENC := Lib.hid henc
  rw [← hop] at hl ⊢
  clear hR hc hfp henc hop
  go_enter Tryz.func29, Tryz.ntmps29
  go_wp2_with fail
  clear hB
  go_loopw [5, 6] (fun ov iv wr => ∃ (k : Nat) (out : List Rg) (vv : Value), vv = ov ∧ k ≤ P.length ∧ iv = .int .i64 k ∧ Below B w wr ∧ wr.ownsRow B 53 3 vv out.length (out.flatMap encR) ∧ Hid (out ++ chainF op (P.drop k) = chainF op P)) (fun _ iv _ => P.length - (intOf iv).toNat)
  case atStart => exact ⟨0, [], _, rfl, Nat.zero_le _, rfl, hbel, by simpa using hown0, Lib.hid rfl⟩
  case round =>
    clear hown0 hbel
    obtain ⟨k, out, vv, rfl, hk, rfl, hb, hown, HJ⟩ := hrel
    obtain ⟨av, cv, rfl⟩ := ownsRow_form hown
    have hol : out.length ≤ 1000000 := by have := congrArg List.length HJ.out; rw [List.length_append] at this; omega
    by_cases hlt : k < P.length
    · obtain ⟨b, off, u, f, rfl, hbm, hbl, hcell, hsub, hr⟩ := HC.out k hlt
      have hbB : b < B := by rw [← HBB.out]; exact hbl
      have hfB : ∀ c ∈ f, c < B := fun c hc => by rw [← HBB.out]; exact HFP.out c (hsub c hc)
      have hcell' : wr.cell? ⟨b, off + k, none⟩ = some u := (hb.cell (p := ⟨b, off + k, none⟩) hbB).trans hcell
      have hr' : R_G1 f wr [u] P[k] := R_G1k.frame hr hb.size (fun b hm => hb.block b (hfB b hm))
      have hkl : (k : Int) < (P.length : Int) := by omega
      have hcd := chain_drop op P k hlt
      have hlen := congrArg List.length HJ.out
      rw [hcd, List.length_append, List.length_append, List.length_append] at hlen
      have hsz := hb.size
      have hbsz : B ≤ wr.heap.size := by rw [← HBB.out]; exact hsz
      by_cases hk1 : k + 1 < P.length
      · rw [if_pos hk1] at hcd hlen
        simp only [List.length_cons, List.length_nil] at hlen
        have hki : (k : Int) + 1 < (P.length : Int) := by omega
        have HJ2 := Lib.hid (show ((out ++ [op]) ++ P[k]) ++ chainF op (P.drop (k + 1)) = chainF op P by rw [← HJ.out, hcd]; simp)
        have HR := Lib.hid hr'
        have HFB := Lib.hid hfB
        have HCL := Lib.hid hcell'
        have HBB2 := Lib.hid hbB
        clear hcd hr hr' hcell HJ hfB
        go_wp2_with (first
          | (at_builtin; refine wpList_append_tight _ rfl _ _ 22 rfl B 53 i0 (.agg #[.int .i64 0, .string ⟨#[]⟩, .bool false]) 3 32 Tryz.underlying22 hi hz0 hz1 hz2 rfl (by decide) _ _ _ rfl (hown.alloc _) ⟨wr.heap.size, 0, none⟩ 1 1 [ei kd, es [], .bool false] rfl rfl (fun j u hj => by rw [addr_add]; exact cell_new wr #[ei kd, es [], .bool false] _ _ rfl _ _ (by simpa using hj)) (by intro u hu; simp at hu; rcases hu with rfl | rfl | rfl <;> rfl) (by unfold maxLen; omega) (by omega) (by simp; omega) ?_)
          | fail)
        intro v2 w2 hown2 hg2 ht2
        have hB2 : Below B wr w2 := ((Below.refl B wr).alloc hbsz _).grown hg2 (by simp; omega) (fun k hk => (hown.lt k hk).1)
        have hbw2 := hb.trans hB2
        have hown3 : w2.ownsRow B 53 3 v2 (out ++ [op]).length ((out ++ [op]).flatMap encR) := by simpa [HENC.out] using hown2
        obtain ⟨a2, c2, rfl⟩ := ownsRow_form hown3
        have hcell2 := (hB2.cell (p := ⟨b, off + k, none⟩) HBB2.out).trans HCL.out
        have HF := Lib.hid (Flat.ofG1 (R_G1k.frame HR.out hB2.size (fun b hm => hB2.block b (HFB.out b hm))))
        have hsz2 := hB2.size
        have hol2 : (out ++ [op]).length ≤ 1000000 := by simp; omega
        have hpk : (out ++ [op]).length + P[k].length ≤ 1000000 := by simp; omega
        clear hown hown2 hg2 ht2 hB2 hb HR HCL
        generalize hO : out ++ [op] = o2 at *
        generalize hPk : P[k] = pk at *
        obtain ⟨ap, cp, rfl⟩ : ∃ ap cp, u = .slice ap pk.length cp := by obtain ⟨ap, cp, rfl, -⟩ := HF.out; exact ⟨_, _, rfl⟩
        go_wp2_with (first
          | (at_builtin; refine wpList_append_flat rfl _ _ 22 rfl B 53 i0 (.agg #[.int .i64 0, .string ⟨#[]⟩, .bool false]) 3 32 Tryz.underlying22 hi hz0 hz1 hz2 rfl (by decide) _ _ _ rfl hown3 _ pk.length _ rfl _ HF.out (one_G1 pk) (by unfold maxLen; omega) (by omega) (by omega) ?_)
          | fail)
        intro v3 w3 hown4 hg3 ht3
        have hB3 : Below B w w3 := hbw2.grown hg3 (by omega) (fun k hk => (hown3.lt k hk).1)
        have hown5 : w3.ownsRow B 53 3 v3 (o2 ++ pk).length ((o2 ++ pk).flatMap encR) := by simpa using hown4
        clear hown3 hown4 hg3 ht3 HF
        go_wp2_with fail
        go_roundw
        case rel => exact ⟨k + 1, o2 ++ pk, _, rfl, by omega, by go_num, hB3, hown5, HJ2⟩
        case measure => simp [intOf]; omega
      · rw [if_neg hk1] at hcd hlen
        simp only [List.length_nil] at hlen
        have hki : ¬ ((k : Int) + 1 < (P.length : Int)) := by omega
        have HJ2 := Lib.hid (show (out ++ P[k]) ++ chainF op (P.drop (k + 1)) = chainF op P by rw [← HJ.out, hcd]; simp)
        have HF := Lib.hid (Flat.ofG1 hr')
        clear hcd hr hr' HJ hfB hcell
        generalize hPk : P[k] = pk at *
        obtain ⟨ap, cp, rfl⟩ : ∃ ap cp, u = .slice ap pk.length cp := by obtain ⟨ap, cp, rfl, -⟩ := HF.out; exact ⟨_, _, rfl⟩
        go_wp2_with (first
          | (at_builtin; refine wpList_append_flat rfl _ _ 22 rfl B 53 i0 (.agg #[.int .i64 0, .string ⟨#[]⟩, .bool false]) 3 32 Tryz.underlying22 hi hz0 hz1 hz2 rfl (by decide) _ _ _ rfl hown _ pk.length _ rfl _ HF.out (one_G1 pk) (by unfold maxLen; omega) (by omega) (by omega) ?_)
          | fail)
        intro v3 w3 hown4 hg3 ht3
        have hB3 : Below B w w3 := hb.grown hg3 (by omega) (fun k hk => (hown.lt k hk).1)
        have hown5 : w3.ownsRow B 53 3 v3 (out ++ pk).length ((out ++ pk).flatMap encR) := by simpa using hown4
        clear hown hown4 hg3 ht3 HF
        go_wp2_with fail
        go_roundw
        case rel => exact ⟨k + 1, out ++ pk, _, rfl, by omega, by go_num, hB3, hown5, HJ2⟩
        case measure => simp [intOf]; omega
    · obtain rfl : k = P.length := by omega
      have HX := Lib.hid (show out = chainF op P by have := HJ.out; rw [List.drop_of_length_le (Nat.le_refl _)] at this; simpa [chainF] using this)
      clear HJ HC
      go_wp2_with fail
      go_ret
      obtain ⟨fp', q1, q2, q3, -⟩ := Flat.ofOwns hown
      rw [← HX.out]
      exact ⟨⟨_, rfl, fp', ⟨_, rfl, q1⟩, q2, fun b hb => by rw [HBB.out]; exact q3 b hb⟩, by rw [← HBB.out] at hb; exact Upd.ofBelow hb⟩

end Go.Proofs.YtaahjpmndkcijaaGreatDoor

/-
  Regular expressions parsed: the reference reads factors, sequences, alternatives.
-/
namespace Go.Proofs.YtaahjpmndkcijaaGreatDoor
open Go.RowKit

/-- what the reference's reader returns: elements and where it stands, or the first error. -/
def FaS (s : List UInt8) (r : Except Nat (Tr Rg × Nat)) (w : World) (e : Ending) (w' : World) : Prop :=
  (match r with
  | .ok (x, p) => ∃ (v : Value) (q : Nat), e = .returned (.tuple #[v, .int .i64 q, .bool true]) ∧ New R_G1 w w' v (flatT x) ∧ q ≤ s.length ∧ skR s q = p
  | .error a => e = .returned (.tuple #[.slice none 0 0, .int .i64 a, .bool false])) ∧ Upd [] w w'

/-- the same where it stands behind all blanks. -/
def PaS (s : List UInt8) (r : Except Nat (Tr Rg × Nat)) (w : World) (e : Ending) (w' : World) : Prop :=
  (match r with
  | .ok (x, p) => (∃ v : Value, e = .returned (.tuple #[v, .int .i64 p, .bool true]) ∧ New R_G1 w w' v (flatT x)) ∧ p ≤ s.length ∧ skR s p = p
  | .error a => e = .returned (.tuple #[.slice none 0 0, .int .i64 a, .bool false])) ∧ Upd [] w w'
theorem PaS.fa {s : List UInt8} {r : Except Nat (Tr Rg × Nat)} {w : World} {e : Ending} {w' : World} (h : PaS s r w e w') : FaS s r w e w' := by
  cases r with
  | error a => exact h
  | ok r =>
    obtain ⟨x, p⟩ := r
    obtain ⟨⟨⟨v, h1, h2⟩, h3, h4⟩, h5⟩ := h
    exact ⟨⟨v, p, h1, h2, h3, h4⟩, h5⟩
def FlS (s : List UInt8) (A : Except Nat (List Rg × Nat)) (w : World) (e : Ending) (w' : World) : Prop :=
  (match A with
  | .ok (l, p) => (∃ v : Value, e = .returned (.tuple #[v, .int .i64 p, .bool true]) ∧ New R_G1 w w' v l) ∧ p ≤ s.length ∧ skR s p = p
  | .error a => e = .returned (.tuple #[.slice none 0 0, .int .i64 a, .bool false])) ∧ Upd [] w w'
theorem PaS.of {s : List UInt8} {r : Except Nat (Tr Rg × Nat)} {A : Except Nat (List Rg × Nat)} (hA : flR r = A) {w : World} {e : Ending} {w' : World} (h : FlS s A w e w') : PaS s r w e w' := by
  subst hA
  cases r with
  | error a => exact h
  | ok r => exact h

theorem testP_tok (s : List UInt8) (m : Nat) : testP s m = (match tokF s (if isB s m 33 then skR s (m + 1) else m) with
    | none => .error (if isB s m 33 then skR s (m + 1) else m)
    | some (l, e) => .ok (leafR l (isB s m 33), e)) := by
  unfold testP tokF
  generalize (if isB s m 33 then skR s (m + 1) else m) = m2
  by_cases h : isB s m2 95 = true
  · rw [if_pos h, if_pos h]
  · rw [if_neg h, if_neg h]
    all_goals (cases labF s m2 <;> rfl)
theorem tokF_pos {s : List UInt8} {n : Nat} {t : List UInt8} {e : Nat} (hn : n ≤ s.length) (h : tokF s n = some (t, e)) : n < e ∧ e ≤ s.length := by
  unfold tokF at h
  split at h
  · rename_i hb; cases h; have := isB_lt hb; omega
  · exact labF_pos hn h

set_option maxRecDepth 20000 in
set_option maxHeartbeats 8000000 in
theorem factorS (k : Nat) (w : World) (s : List UInt8) (n : Nat) (hs : s.length ≤ 1000000) (hn : n ≤ s.length)
    (hI : ∀ W n', n < n' → n' ≤ s.length → Calls Tryz.prog 15 #[es s, .int .i64 n'] W (FaS s (eitherF s k n') W)) :
    Calls Tryz.prog 39 #[es s, .int .i64 n] w (FaS s (atomF s (k + 1) n) w) := by
  obtain ⟨i0, hi, hz0, hz1, hz2⟩ := info_parts Tryz.infoRg
  have hpos := skR_le hn
  have K0 := l04SkipS s n w (by omega) hn
  rw [show skF s n = skR s n from rfl] at K0
  have hmm : skR s (skR s n) = skR s n := skR_idem hn
  have HA := Lib.hid (show atomF s (k + 1) n = _ from by rw [atomF])
  generalize atomF s (k + 1) n = A at *
  generalize skR s n = m at *
  obtain ⟨q, hq⟩ : ∃ q, isB s m 40 = q := ⟨_, rfl⟩
  have I1 := Lib.hid (fun W => isBS s m 40 40 rfl W (by omega) hpos.2)
  have HSK := Lib.hid (fun (x : Nat) (W : World) (h : x ≤ s.length) => l04SkipS s x W (by omega) h)
  rw [hq] at I1 HA
  have HK0 := Lib.hid K0
  have HI := Lib.hid hI
  clear hI K0
  go_enter Tryz.func39, Tryz.ntmps39
  go_wp2_with fail
  refine HK0.out.mono ?_
  rintro e w1 ⟨rfl, hww⟩
  subst hww
  clear HK0
  go_wp2_with fail
  refine (I1.out _).mono ?_
  rintro e w1 ⟨rfl, hww⟩
  obtain ⟨B, hB⟩ : ∃ B, w.heap.size = B := ⟨_, rfl⟩
  have hown1 : w1.ownsRow B 53 3 (.slice (some ⟨B, 0, none⟩) 0 0) 0 [] := by
    rw [← hww, ← hB]
    simpa using World.ownsRow_lit (base := w.heap.size) (e := 53) (size := 3) w #[] 0 (Nat.le_refl _) (by simp [maxLen]) (by simp)
  have hu1 : Upd [] w w1 := by rw [← hww]; exact (Upd.refl _ _).alloc _
  have HU1 := Lib.hid hu1
  have HO1 := Lib.hid hown1
  rw [hB]
  clear hww I1 hu1 hown1
  go_upto_if 22 with (fail)
  go_cut [1, 7] (fun s1 s7 wx => ∃ (x0 : Tr Rg) (n0 : Nat) (v0 : Value), v0 = s7 ∧ s1 = .int .i64 n0 ∧ New R_G1 w wx v0 (flatT x0) ∧ Upd [] w wx ∧ n0 ≤ s.length ∧ (flatT x0).length ≤ n0 ∧ A = .ok (starsF s s.length x0 n0))
  case first =>
    cases q with
    | true =>
      have hlt := isB_lt hq
      have E1 := HI.out w1 (m + 1) (by omega) (by omega)
      have HA2 := HA.out
      rw [if_pos rfl] at HA2
      cases he : eitherF s k (m + 1) with
      | error a =>
        rw [he] at E1 HA2
        have HX := Lib.hid HA2
        have HE1 := Lib.hid E1
        clear E1 HA2 HA HI he HSK HO1
        go_wp2_with fail
        refine HE1.out.mono ?_
        rintro e w2 ⟨rfl, hu2⟩
        have HU2 := Lib.hid (HU1.out.trans hu2)
        clear HE1 hu2
        go_wp2_with fail
        go_ret3
        rw [HX.out]
        exact ⟨rfl, HU2.out⟩
      | ok r =>
        obtain ⟨x, p⟩ := r
        rw [he] at E1 HA2
        have hp := eitherF_pos k _ x p (by omega) he
        have hpl := eitherF_len k _ x p (by omega) he
        simp only at HA2
        have HX := Lib.hid HA2
        have HE1 := Lib.hid E1
        have hp2 := hp.2.1
        have I2 := Lib.hid (fun W => isBS s p 41 41 rfl W (by omega) hp2)
        clear E1 HA2 HA HI he hp HO1
        go_wp2_with fail
        refine HE1.out.mono ?_
        rintro e w2 ⟨⟨v, q', rfl, hn2, hq', hsk⟩, hu2⟩
        have HU2 := Lib.hid (HU1.out.trans hu2)
        have HN2 := Lib.hid (hn2.mono HU1.out.size)
        have K2 := HSK.out q' w2 hq'
        rw [show skF s q' = p from hsk] at K2
        have HK2 := Lib.hid K2
        clear HE1 hu2 hn2 K2 HSK
        go_wp2_with fail
        refine HK2.out.mono ?_
        rintro e w3 ⟨rfl, hww⟩
        subst hww
        clear HK2
        go_wp2_with fail
        refine (I2.out _).mono ?_
        rintro e w3 ⟨rfl, hww⟩
        subst hww
        clear I2
        cases h41 : isB s p 41 with
        | true =>
          have hpl2 := isB_lt h41
          rw [h41, if_pos rfl] at HX
          clear h41
          go_wp2_with fail
          go_meet
          exact ⟨x, p + 1, _, rfl, by go_num, HN2.out, HU2.out, by omega, by omega, HX.out⟩
        | false =>
          rw [h41, if_neg (by decide)] at HX
          clear h41
          go_wp2_with fail
          go_ret3
          rw [HX.out]
          exact ⟨rfl, HU2.out⟩
    | false =>
      have HA2 := HA.out
      rw [if_neg (by decide)] at HA2
      obtain ⟨nt, hnt⟩ : ∃ nt, isB s m 33 = nt := ⟨_, rfl⟩
      have I2 := Lib.hid (fun W => isBS s m 33 33 rfl W (by omega) hpos.2)
      have HTP := Lib.hid (testP_tok s m)
      rw [hnt] at I2 HTP
      generalize testP s m = TP at *
      have HX := Lib.hid HA2
      clear HA HA2 HI
      go_wp2_with fail
      refine (I2.out _).mono ?_
      rintro e w2 ⟨rfl, hww⟩
      subst hww
      clear I2
      obtain ⟨m2, hm2⟩ : ∃ m2, (if nt = true then skR s (m + 1) else m) = m2 := ⟨_, rfl⟩
      have hm2l : m2 ≤ s.length := by
        rw [← hm2]
        cases nt with
        | false => exact hpos.2
        | true => exact (skR_le (by have := isB_lt hnt; omega)).2
      rw [hm2] at HTP
      go_upto_if 48 with (fail)
      go_cut [1] (fun s1 wx => s1 = .int .i64 m2 ∧ wx = w1)
      case first =>
        cases nt with
        | false =>
          have hm3 : m = m2 := hm2
          subst hm3
          clear HX HTP HO1
          go_wp2_with fail
          go_meet
          exact ⟨rfl, rfl⟩
        | true =>
          have hlt := isB_lt hnt
          have K2 := HSK.out (m + 1) w1 (by omega)
          rw [show skF s (m + 1) = m2 from hm2] at K2
          have HK2 := Lib.hid K2
          clear K2 HX HTP HSK HO1
          go_wp2_with fail
          refine HK2.out.mono ?_
          rintro e w3 ⟨rfl, hww⟩
          subst hww
          go_wp2_with fail
          go_meet
          exact ⟨rfl, rfl⟩
      case rest =>
        obtain ⟨rfl, hww⟩ := hcut
        replace hww := hww.symm
        subst hww
        have T1 := Lib.hid (tokenS s m2 w1 hs hm2l)
        have HPS := Lib.hid (fun t e (h : tokF s m2 = some (t, e)) => tokF_pos hm2l h)
        generalize tokF s m2 = TK at *
        clear hm2 HSK
        go_wp2_with fail
        refine T1.out.mono ?_
        rintro e w2 ⟨⟨t, e2, ok, rfl, htk⟩, hu2⟩
        have HTK := Lib.hid htk.out
        have HU2 := Lib.hid (HU1.out.trans hu2)
        have hown2 := ownsRow_upd HO1.out hu2
        clear T1 hu2 htk
        cases ok with
        | false =>
          have HY := Lib.hid (show A = .error m2 by rw [HX.out, HTP.out, HTK.out]; rfl)
          clear HX HTP HTK hown2 HO1
          go_wp2_with fail
          go_ret3
          rw [HY.out]
          exact ⟨rfl, HU2.out⟩
        | true =>
          have HY := Lib.hid (show A = .ok (starsF s s.length (leafR t nt) e2) by rw [HX.out, HTP.out, HTK.out]; rfl)
          have hpe := HPS.out t e2 (by rw [HTK.out]; rfl)
          have hBs : B ≤ w2.heap.size := by rw [← hB]; exact HU2.out.size
          clear HX HTP HTK HO1 HPS
          go_wp2_with (first
            | (at_builtin; refine wpList_append_tight _ rfl _ _ 22 rfl B 53 i0 (.agg #[.int .i64 0, .string ⟨#[]⟩, .bool false]) 3 32 Tryz.underlying22 hi hz0 hz1 hz2 rfl (by decide) _ _ _ rfl (hown2.alloc _) ⟨w2.heap.size, 0, none⟩ 1 1 [ei 0, es t, .bool nt] rfl rfl (fun j u hj => by rw [addr_add]; exact cell_new w2 #[ei 0, es t, .bool nt] _ _ rfl _ _ (by simpa using hj)) (by intro u hu; simp at hu; rcases hu with rfl | rfl | rfl <;> rfl) (by unfold maxLen; omega) (by omega) (by simp; omega) ?_)
            | fail)
          intro v3 w3 hown3 hg3 ht3
          have hB3 : Below B w2 w3 := ((Below.refl B w2).alloc hBs _).grown hg3 (by simp; omega) (fun k hk => (hown2.lt k hk).1)
          have hb3 : Below w.heap.size w w3 := by rw [hB]; exact (by rw [← hB]; exact HU2.out.below : Below B w w2).trans hB3
          have HU3 := Lib.hid (Upd.ofBelow hb3)
          obtain ⟨fp', q1, q2, q3, -⟩ := Flat.ofOwns hown3
          have HN3 := Lib.hid (show New R_G1 w w3 v3 (flatT (leafR t nt)) from ⟨fp', ⟨_, rfl, by simpa [leafR, flatT, flatTs] using q1⟩, q2, fun b hb => by rw [hB]; exact q3 b hb⟩)
          clear hown2 hown3 hg3 ht3 hB3 hb3 q1 q2 q3
          go_wp2_with fail
          go_meet
          exact ⟨leafR t nt, e2, _, rfl, rfl, HN3.out, HU3.out, hpe.2, by simp [leafR, flatT, flatTs]; omega, HY.out⟩
  case rest =>
    obtain ⟨x0, n0, v0, rfl, rfl, hn0, hu0, hn0l, hxl, hA⟩ := hcut
    have HAE := Lib.hid hA
    have HN0 := Lib.hid hn0
    have HU0 := Lib.hid hu0
    clear hn0 hu0 hA HA HI HU1 HO1
    generalize hS : starsF s s.length x0 n0 = S at *
    go_wp2_with fail
    go_loopw [1, 7] (fun s1 sv wr => ∃ (x' : Tr Rg) (n' j : Nat) (v : Value), v = sv ∧ s1 = .int .i64 n' ∧ n' ≤ s.length ∧ s.length ≤ j + n' ∧ (flatT x').length ≤ n' ∧ Hid (starsF s j x' n' = S) ∧ Hid (New R_G1 w wr v (flatT x')) ∧ Hid (Upd [] w wr)) (fun s1 _ _ => s.length - (intOf s1).toNat)
    case atStart => exact ⟨x0, n0, s.length, _, rfl, rfl, hn0l, by omega, hxl, Lib.hid hS, HN0, HU0⟩
    case round =>
      clear hS HN0 HU0 hn0l hxl
      obtain ⟨x', n', j, v, rfl, rfl, hn', hj, hxl, HS, HN', HU'⟩ := hrel
      have hsk9 := skR_le (s := s) (n := n') hn'
      have K9 := HSK.out n' wr hn'
      rw [show skF s n' = skR s n' from rfl] at K9
      obtain ⟨q9, hq9⟩ : ∃ q, isB s (skR s n') 42 = q := ⟨_, rfl⟩
      have HQ0 := Lib.hid (show q9 = false → S = (x', skR s n') from fun h => by
        rw [← HS.out]
        cases j with
        | zero => rfl
        | succ j => rw [starsF, if_neg (by rw [hq9, h]; decide)])
      have HQ1 := Lib.hid (show q9 = true → ∃ j', s.length ≤ j' + (skR s n' + 1) ∧ skR s n' + 1 ≤ s.length ∧ starsF s j' (starR x') (skR s n' + 1) = S from fun h => by
        rw [h] at hq9
        have hlt := isB_lt hq9
        cases j with
        | zero => omega
        | succ j =>
          refine ⟨j, by omega, by omega, ?_⟩
          rw [← HS.out, starsF, if_pos hq9])
      have HM := Lib.hid (show skR s n' = skR s n' from rfl)
      have I9 := Lib.hid (fun W => isBS s (skR s n') 42 42 rfl W (by omega) hsk9.2)
      rw [hq9] at I9
      have HK9 := Lib.hid K9
      have HSKn := Lib.hid (show ∀ m', skR s n' = m' → skR s n' = m' from fun _ h => h)
      clear HS K9 hq9 HSK HM
      obtain ⟨m', hm'⟩ : ∃ m', skR s n' = m' := ⟨_, rfl⟩
      have HMM := Lib.hid hm'
      rw [hm'] at HQ0 HQ1 I9 HK9 hsk9
      clear hm' HSKn
      go_wp2_with fail
      refine HK9.out.mono ?_
      rintro e w2 ⟨rfl, hww⟩
      subst hww
      clear HK9
      go_wp2_with fail
      refine (I9.out _).mono ?_
      rintro e w2 ⟨rfl, hww⟩
      subst hww
      clear I9
      cases q9 with
      | true =>
        obtain ⟨j', j1, j2, j3⟩ := HQ1.out rfl
        have HJ3 := Lib.hid j3
        obtain ⟨fv, r1, o1, g1⟩ := HN'.out
        have hsz : w.heap.size ≤ wr.heap.size := HU'.out.size
        have hlit : (wr.alloc (.cells #[.int .i64 3, .string ⟨#[]⟩, .bool false] 53)).ownsRow wr.heap.size 53 3 (.slice (some ⟨wr.heap.size, 0, none⟩) 1 1) 1 [.int .i64 3, .string ⟨#[]⟩, .bool false] :=
          World.ownsRow_lit (base := wr.heap.size) (e := 53) (size := 3) wr #[.int .i64 3, .string ⟨#[]⟩, .bool false] 1 (Nat.le_refl _) (by simp [maxLen]) (by simp)
        have HF := Lib.hid (Flat.ofG1 (R_G1k.upd r1 ((Upd.refl [] wr).alloc (.cells #[.int .i64 3, .string ⟨#[]⟩, .bool false] 53)) (by simp)))
        obtain ⟨av, cv, rfl⟩ := HN'.out.form
        have HFL := Lib.hid (show flatT (starR x') = ⟨3, [], false⟩ :: flatT x' by simp [starR, flatT, flatTs])
        generalize hfx : flatT x' = fx at *
        clear HQ0 HQ1 j3 r1 o1 g1 HN'
        go_wp2_with (first
          | (at_builtin; refine wpList_append_flat rfl _ _ 22 rfl wr.heap.size 53 i0 (.agg #[.int .i64 0, .string ⟨#[]⟩, .bool false]) 3 32 Tryz.underlying22 hi hz0 hz1 hz2 rfl (by decide) _ _ _ rfl hlit _ fx.length _ rfl _ HF.out (one_G1 fx) (by unfold maxLen; omega) (by omega) (by simp) ?_)
          | fail)
        intro v3 w3 hown3 hg3 ht3
        have hB3 : Below wr.heap.size wr w3 := ((Below.refl wr.heap.size wr).alloc (Nat.le_refl _) _).grown hg3 (by simp) (fun k hk => (hlit.lt k hk).1)
        have HU3 := Lib.hid (HU'.out.trans (Upd.ofBelow hB3))
        obtain ⟨fp', q1, q2, q3, -⟩ := Flat.ofOwns hown3
        have HN3 := Lib.hid (show New R_G1 w w3 v3 (flatT (starR x')) from ⟨fp', ⟨_, rfl, by rw [HFL.out]; simpa [Nat.add_comm] using q1⟩, q2, fun b hb => by have := q3 b hb; omega⟩)
        have hlx : (flatT (starR x')).length ≤ m' + 1 := by rw [HFL.out]; simp; omega
        clear hlit hown3 hg3 ht3 hB3 q1 q2 q3 HF
        go_wp2_with fail
        go_roundw
        case rel => exact ⟨starR x', m' + 1, j', _, rfl, by go_num, j2, j1, hlx, HJ3, HN3, HU3⟩
        case measure => simp [intOf]; omega
      | false =>
        have HX := Lib.hid (show A = .ok (x', m') by rw [HAE.out, HQ0.out rfl])
        clear HQ0 HQ1 HAE
        go_wp2_with fail
        go_ret3
        rw [HX.out]
        exact ⟨⟨_, n', rfl, HN'.out, hn', HMM.out⟩, HU'.out⟩

set_option maxRecDepth 20000 in
set_option maxHeartbeats 8000000 in
theorem thenW (K : Nat) (w : World) (s : List UInt8) (n : Nat) (hs : s.length ≤ 1000000) (hn : n ≤ s.length) (hk : 3 * (s.length - n) + 2 ≤ K)
    (hI : ∀ W k' n', k' < K → n' ≤ s.length → 3 * (s.length - n') + 1 ≤ k' → Calls Tryz.prog 39 #[es s, .int .i64 n'] W (FaS s (atomF s k' n') W)) :
    Calls Tryz.prog 26 #[es s, .int .i64 n] w (PaS s (thenF s K n) w) := by
  obtain ⟨i1, li, lz0, lz1, lz2⟩ := info_parts Tryz.infoRgL
  obtain ⟨op, hop⟩ : ∃ op : Rg, op = ⟨1, [], false⟩ := ⟨_, rfl⟩
  have HOP := Lib.hid hop
  have HSK := Lib.hid (fun (x : Nat) (W : World) (h : x ≤ s.length) => l04SkipS s x W (by omega) h)
  have HIS := Lib.hid (fun (x : Nat) (W : World) (h : x ≤ s.length) => isBS s x 46 46 rfl W (by omega) h)
  have HI := Lib.hid hI
  obtain ⟨A, hA⟩ : ∃ A, flP op [] (thenF s K n) = A := ⟨_, rfl⟩
  have HA := Lib.hid (show flR (thenF s K n) = A by rw [← flP_nil op]; exact hA)
  have HA0 := Lib.hid hA
  obtain ⟨B, hB⟩ : ∃ B, w.heap.size = B := ⟨_, rfl⟩
  have HBB := Lib.hid hB
  have hacc0 : Acc R_G1 w 22 (w.alloc (.cells #[] 22)) (.slice (some ⟨w.heap.size, 0, none⟩) 0 0) [] := Acc.lit0 R_G1 w 22 w (Nat.le_refl _)
  have HAC := Lib.hid hacc0
  have HFIN := Lib.hid (show ∀ (e : Ending) (w' : World), FlS s A w e w' → PaS s (thenF s K n) w e w' from fun e w' h => PaS.of HA.out h)
  clear hop hI hA hB hacc0 HA
  go_enter Tryz.func26, Tryz.ntmps26
  go_wp2_with fail
  go_loopw [1, 7] (fun s1 pv wr => ∃ (P : List (List Rg)) (n' k' : Nat) (v : Value), v = pv ∧ s1 = .int .i64 n' ∧ n' ≤ s.length ∧ k' ≤ K ∧ 3 * (s.length - n') + 2 ≤ k' ∧ (chP' op P []).length ≤ n' ∧ P.length ≤ n' ∧ Hid (flP op P (thenF s k' n') = A) ∧ Hid (Acc R_G1 w 22 wr v P) ∧ Hid (Upd [] w wr)) (fun s1 _ _ => s.length - (intOf s1).toNat)
  case atStart => exact ⟨[], n, K, _, rfl, rfl, hn, Nat.le_refl _, hk, by simp [chP'], by simp, HA0, HAC, Lib.hid ((Upd.refl _ _).alloc _)⟩
  case round =>
    clear HA0 HAC
    obtain ⟨wo, rfl⟩ : ∃ wo : World, wo = wr := ⟨_, rfl⟩
    obtain ⟨P, n', k', v, rfl, rfl, hn', hkk, hk', hPl, hPn, HE, HAC, HU⟩ := hrel
    obtain ⟨k2, rfl⟩ : ∃ k2, k' = k2 + 1 := ⟨k' - 1, by omega⟩
    have S1 := HI.out wo k2 n' (by omega) hn' (by omega)
    have hE := HE.out
    rw [thenF] at hE
    cases hf : atomF s k2 n' with
    | error a =>
      rw [hf] at S1 hE
      have HX := Lib.hid (show A = .error a from hE.symm)
      have HS := Lib.hid S1
      clear hf S1 hE HE HI HSK HIS HAC
      go_wp2_with fail
      refine HS.out.mono ?_
      rintro e w2 ⟨rfl, hu2⟩
      have HU2 := Lib.hid (HU.out.trans hu2)
      clear HS hu2
      go_wp2_with fail
      go_ret3
      refine HFIN.out _ _ ?_
      rw [HX.out]
      exact ⟨rfl, HU2.out⟩
    | ok r =>
      obtain ⟨x, p⟩ := r
      rw [hf] at S1 hE
      have hp := atomF_pos k2 _ x p hn' hf
      have hpl := atomF_len k2 _ x p hn' hf
      have hp2 := hp.2.1
      have hp1 := hp.1
      have hp3 := hp.2.2
      have HE2 := Lib.hid (show flP op P (if isB s p 46 then (match thenF s k2 (p + 1) with | .error e => .error e | .ok (y, q) => .ok (twoR 1 x y, q)) else .ok (x, p)) = A from hE)
      have HS := Lib.hid S1
      obtain ⟨q5, hq5⟩ : ∃ q, isB s p 46 = q := ⟨_, rfl⟩
      have I5 := Lib.hid (fun W => HIS.out p W hp2)
      rw [hq5] at I5 HE2
      obtain ⟨us, hown, hrows⟩ := HAC.out
      have HRW := Lib.hid hrows
      have HOU := Lib.hid hown
      have hsz : B ≤ wo.heap.size := by rw [← HBB.out]; exact HU.out.size
      obtain ⟨av, cv, rfl⟩ := ownsRow_form hown
      clear hf S1 hE HE HIS HAC hp hown hrows
      go_wp2_with fail
      refine HS.out.mono ?_
      rintro e w2 ⟨⟨vx, q, rfl, hnx, hql, hqp⟩, hu2⟩
      have K2 := HSK.out q
      have HNX := Lib.hid hnx
      have HUP := Lib.hid hu2
      have HU2 := Lib.hid (HU.out.trans hu2)
      have hsz2 := hu2.size
      obtain ⟨ax, cx, rfl⟩ := hnx.form
      have hown2 := (ownsRow_upd HOU.out hu2).alloc (.cells #[.slice ax (flatT x).length cx] 22)
      have HQP := Lib.hid hqp
      clear HS hnx hu2 hqp HU
      generalize hfx : flatT x = fx at *
      go_wp2_with (first
        | (at_builtin; refine wpList_append_tight _ rfl _ _ 59 rfl w.heap.size 22 i1 (.slice none 0 0) 1 24 Tryz.underlying59 li lz0 lz1 lz2 rfl (by decide) _ _ _ rfl hown2 ⟨w2.heap.size, 0, none⟩ 1 1 [.slice ax fx.length cx] rfl rfl (fun j u hj => by rw [addr_add]; exact cell_new w2 #[.slice ax fx.length cx] _ _ rfl _ _ (by simpa using hj)) (by intro u hu; simp at hu; subst hu; rfl) (by unfold maxLen; omega) (by omega) (by have := HU2.out.size; simp; omega) ?_)
        | fail)
      intro v3 w3 hown3 hg3 ht3
      have hacc3 := Acc.push R_G1k HOU.out HRW.out (by have := HBB.out; omega) HUP.out HNX.out _ (by simpa using hown3) hg3 (by simpa using ht3)
      have hb3 : Below w.heap.size w w3 := (HU2.out.below).trans (((Below.refl w.heap.size w2).alloc HU2.out.size _).grown hg3 (by have := HU2.out.size; simp; omega) (fun k hk => (hown2.lt k hk).1))
      have HU3 := Lib.hid (Upd.ofBelow hb3)
      have HAC3 := Lib.hid hacc3
      have HK := Lib.hid (K2 w3 hql)
      have hqq : skF s q = p := HQP.out
      rw [hqq] at HK
      clear hown3 hg3 ht3 hacc3 hb3 hown2 HOU HRW HUP HNX K2 HQP hqq
      go_wp2_with fail
      refine HK.out.mono ?_
      rintro e w4 ⟨rfl, hww⟩
      subst hww
      clear HK
      go_wp2_with fail
      refine (I5.out _).mono ?_
      rintro e w4 ⟨rfl, hww⟩
      subst hww
      clear I5
      have hcl := chP_len op P fx
      cases q5 with
      | true =>
        have hlt := isB_lt hq5
        have HJ := Lib.hid (show flP op (P ++ [fx]) (thenF s k2 (p + 1)) = A by
          rw [← HE2.out, if_pos rfl]
          cases thenF s k2 (p + 1) with
          | error e => rfl
          | ok r =>
            obtain ⟨y, q⟩ := r
            unfold flP
            simp only
            rw [chP_push, show flatT (twoR 1 x y) = op :: (fx ++ flatT y) by rw [HOP.out, ← hfx]; simp [twoR, flatT, flatTs]])
        have hc2 : (chP' op (P ++ [fx]) []).length ≤ p + 1 := by
          rw [chP_push, chP_len]; simp; omega
        clear HE2 hq5
        go_wp2_with fail
        go_roundw
        case rel => exact ⟨P ++ [fx], p + 1, k2, _, rfl, by go_num, by omega, by omega, by omega, hc2, by simp; omega, HJ, HAC3, HU3⟩
        case measure => simp [intOf]; omega
      | false =>
        have HX := Lib.hid (show A = .ok (chainF op (P ++ [fx]), p) by rw [← HE2.out, if_neg (by decide), chain_push]; unfold flP; simp only [hfx])
        obtain ⟨fpa, r3, o3, g3⟩ := (HAC3.out).new
        have C1 := chainS _ (P ++ [fx]) 1 w3 fpa r3 (by rw [← HOP.out, chain_push, hcl]; omega) (by simp; omega)
        rw [← HOP.out] at C1
        have HC := Lib.hid C1
        clear HE2 hq5 r3 o3 g3 C1
        go_wp2_with fail
        refine HC.out.mono ?_
        rintro e w4 ⟨⟨v4, rfl, hn4⟩, hu4⟩
        have HN4 := Lib.hid (hn4.mono HU3.out.size)
        have HU4 := Lib.hid (HU3.out.trans hu4)
        clear HC hn4 hu4
        go_wp2_with fail
        go_ret3
        refine HFIN.out _ _ ?_
        rw [HX.out]
        exact ⟨⟨⟨_, rfl, HN4.out⟩, hp2, hp3⟩, HU4.out⟩

set_option maxRecDepth 20000 in
set_option maxHeartbeats 8000000 in
theorem eitherW (K : Nat) (w : World) (s : List UInt8) (n : Nat) (hs : s.length ≤ 1000000) (hn : n ≤ s.length) (hk : 3 * (s.length - n) + 3 ≤ K)
    (hI : ∀ W k' n', k' < K → n' ≤ s.length → 3 * (s.length - n') + 2 ≤ k' → Calls Tryz.prog 26 #[es s, .int .i64 n'] W (FaS s (thenF s k' n') W)) :
    Calls Tryz.prog 15 #[es s, .int .i64 n] w (PaS s (eitherF s K n) w) := by
  obtain ⟨i1, li, lz0, lz1, lz2⟩ := info_parts Tryz.infoRgL
  obtain ⟨op, hop⟩ : ∃ op : Rg, op = ⟨2, [], false⟩ := ⟨_, rfl⟩
  have HOP := Lib.hid hop
  have HSK := Lib.hid (fun (x : Nat) (W : World) (h : x ≤ s.length) => l04SkipS s x W (by omega) h)
  have HIS := Lib.hid (fun (x : Nat) (W : World) (h : x ≤ s.length) => isBS s x 43 43 rfl W (by omega) h)
  have HI := Lib.hid hI
  obtain ⟨A, hA⟩ : ∃ A, flP op [] (eitherF s K n) = A := ⟨_, rfl⟩
  have HA := Lib.hid (show flR (eitherF s K n) = A by rw [← flP_nil op]; exact hA)
  have HA0 := Lib.hid hA
  obtain ⟨B, hB⟩ : ∃ B, w.heap.size = B := ⟨_, rfl⟩
  have HBB := Lib.hid hB
  have hacc0 : Acc R_G1 w 22 (w.alloc (.cells #[] 22)) (.slice (some ⟨w.heap.size, 0, none⟩) 0 0) [] := Acc.lit0 R_G1 w 22 w (Nat.le_refl _)
  have HAC := Lib.hid hacc0
  have HFIN := Lib.hid (show ∀ (e : Ending) (w' : World), FlS s A w e w' → PaS s (eitherF s K n) w e w' from fun e w' h => PaS.of HA.out h)
  clear hop hI hA hB hacc0 HA
  go_enter Tryz.func15, Tryz.ntmps15
  go_wp2_with fail
  go_loopw [1, 7] (fun s1 pv wr => ∃ (P : List (List Rg)) (n' k' : Nat) (v : Value), v = pv ∧ s1 = .int .i64 n' ∧ n' ≤ s.length ∧ k' ≤ K ∧ 3 * (s.length - n') + 3 ≤ k' ∧ (chP' op P []).length ≤ n' ∧ P.length ≤ n' ∧ Hid (flP op P (eitherF s k' n') = A) ∧ Hid (Acc R_G1 w 22 wr v P) ∧ Hid (Upd [] w wr)) (fun s1 _ _ => s.length - (intOf s1).toNat)
  case atStart => exact ⟨[], n, K, _, rfl, rfl, hn, Nat.le_refl _, hk, by simp [chP'], by simp, HA0, HAC, Lib.hid ((Upd.refl _ _).alloc _)⟩
  case round =>
    clear HA0 HAC
    obtain ⟨wo, rfl⟩ : ∃ wo : World, wo = wr := ⟨_, rfl⟩
    obtain ⟨P, n', k', v, rfl, rfl, hn', hkk, hk', hPl, hPn, HE, HAC, HU⟩ := hrel
    obtain ⟨k2, rfl⟩ : ∃ k2, k' = k2 + 1 := ⟨k' - 1, by omega⟩
    have S1 := HI.out wo k2 n' (by omega) hn' (by omega)
    have hE := HE.out
    rw [eitherF] at hE
    cases hf : thenF s k2 n' with
    | error a =>
      rw [hf] at S1 hE
      have HX := Lib.hid (show A = .error a from hE.symm)
      have HS := Lib.hid S1
      clear hf S1 hE HE HI HSK HIS HAC
      go_wp2_with fail
      refine HS.out.mono ?_
      rintro e w2 ⟨rfl, hu2⟩
      have HU2 := Lib.hid (HU.out.trans hu2)
      clear HS hu2
      go_wp2_with fail
      go_ret3
      refine HFIN.out _ _ ?_
      rw [HX.out]
      exact ⟨rfl, HU2.out⟩
    | ok r =>
      obtain ⟨x, p⟩ := r
      rw [hf] at S1 hE
      have hp := thenF_pos k2 _ x p hn' hf
      have hpl := thenF_len k2 _ x p hn' hf
      have hp2 := hp.2.1
      have hp1 := hp.1
      have hp3 := hp.2.2
      have HE2 := Lib.hid (show flP op P (if isB s p 43 then (match eitherF s k2 (p + 1) with | .error e => .error e | .ok (y, q) => .ok (twoR 2 x y, q)) else .ok (x, p)) = A from hE)
      have HS := Lib.hid S1
      obtain ⟨q5, hq5⟩ : ∃ q, isB s p 43 = q := ⟨_, rfl⟩
      have I5 := Lib.hid (fun W => HIS.out p W hp2)
      rw [hq5] at I5 HE2
      obtain ⟨us, hown, hrows⟩ := HAC.out
      have HRW := Lib.hid hrows
      have HOU := Lib.hid hown
      have hsz : B ≤ wo.heap.size := by rw [← HBB.out]; exact HU.out.size
      obtain ⟨av, cv, rfl⟩ := ownsRow_form hown
      clear hf S1 hE HE HIS HAC hp hown hrows
      go_wp2_with fail
      refine HS.out.mono ?_
      rintro e w2 ⟨⟨vx, q, rfl, hnx, hql, hqp⟩, hu2⟩
      have K2 := HSK.out q
      have HNX := Lib.hid hnx
      have HUP := Lib.hid hu2
      have HU2 := Lib.hid (HU.out.trans hu2)
      have hsz2 := hu2.size
      obtain ⟨ax, cx, rfl⟩ := hnx.form
      have hown2 := (ownsRow_upd HOU.out hu2).alloc (.cells #[.slice ax (flatT x).length cx] 22)
      have HQP := Lib.hid hqp
      clear HS hnx hu2 hqp HU
      generalize hfx : flatT x = fx at *
      go_wp2_with (first
        | (at_builtin; refine wpList_append_tight _ rfl _ _ 59 rfl w.heap.size 22 i1 (.slice none 0 0) 1 24 Tryz.underlying59 li lz0 lz1 lz2 rfl (by decide) _ _ _ rfl hown2 ⟨w2.heap.size, 0, none⟩ 1 1 [.slice ax fx.length cx] rfl rfl (fun j u hj => by rw [addr_add]; exact cell_new w2 #[.slice ax fx.length cx] _ _ rfl _ _ (by simpa using hj)) (by intro u hu; simp at hu; subst hu; rfl) (by unfold maxLen; omega) (by omega) (by have := HU2.out.size; simp; omega) ?_)
        | fail)
      intro v3 w3 hown3 hg3 ht3
      have hacc3 := Acc.push R_G1k HOU.out HRW.out (by have := HBB.out; omega) HUP.out HNX.out _ (by simpa using hown3) hg3 (by simpa using ht3)
      have hb3 : Below w.heap.size w w3 := (HU2.out.below).trans (((Below.refl w.heap.size w2).alloc HU2.out.size _).grown hg3 (by have := HU2.out.size; simp; omega) (fun k hk => (hown2.lt k hk).1))
      have HU3 := Lib.hid (Upd.ofBelow hb3)
      have HAC3 := Lib.hid hacc3
      have HK := Lib.hid (K2 w3 hql)
      have hqq : skF s q = p := HQP.out
      rw [hqq] at HK
      clear hown3 hg3 ht3 hacc3 hb3 hown2 HOU HRW HUP HNX K2 HQP hqq
      go_wp2_with fail
      refine HK.out.mono ?_
      rintro e w4 ⟨rfl, hww⟩
      subst hww
      clear HK
      go_wp2_with fail
      refine (I5.out _).mono ?_
      rintro e w4 ⟨rfl, hww⟩
      subst hww
      clear I5
      have hcl := chP_len op P fx
      cases q5 with
      | true =>
        have hlt := isB_lt hq5
        have HJ := Lib.hid (show flP op (P ++ [fx]) (eitherF s k2 (p + 1)) = A by
          rw [← HE2.out, if_pos rfl]
          cases eitherF s k2 (p + 1) with
          | error e => rfl
          | ok r =>
            obtain ⟨y, q⟩ := r
            unfold flP
            simp only
            rw [chP_push, show flatT (twoR 2 x y) = op :: (fx ++ flatT y) by rw [HOP.out, ← hfx]; simp [twoR, flatT, flatTs]])
        have hc2 : (chP' op (P ++ [fx]) []).length ≤ p + 1 := by
          rw [chP_push, chP_len]; simp; omega
        clear HE2 hq5
        go_wp2_with fail
        go_roundw
        case rel => exact ⟨P ++ [fx], p + 1, k2, _, rfl, by go_num, by omega, by omega, by omega, hc2, by simp; omega, HJ, HAC3, HU3⟩
        case measure => simp [intOf]; omega
      | false =>
        have HX := Lib.hid (show A = .ok (chainF op (P ++ [fx]), p) by rw [← HE2.out, if_neg (by decide), chain_push]; unfold flP; simp only [hfx])
        obtain ⟨fpa, r3, o3, g3⟩ := (HAC3.out).new
        have C1 := chainS _ (P ++ [fx]) 2 w3 fpa r3 (by rw [← HOP.out, chain_push, hcl]; omega) (by simp; omega)
        rw [← HOP.out] at C1
        have HC := Lib.hid C1
        clear HE2 hq5 r3 o3 g3 C1
        go_wp2_with fail
        refine HC.out.mono ?_
        rintro e w4 ⟨⟨v4, rfl, hn4⟩, hu4⟩
        have HN4 := Lib.hid (hn4.mono HU3.out.size)
        have HU4 := Lib.hid (HU3.out.trans hu4)
        clear HC hn4 hu4
        go_wp2_with fail
        go_ret3
        refine HFIN.out _ _ ?_
        rw [HX.out]
        exact ⟨⟨⟨_, rfl, HN4.out⟩, hp2, hp3⟩, HU4.out⟩

/-- the reference's three readers together, by the measure of what is left. -/
theorem specR (s : List UInt8) (hs : s.length ≤ 1000000) : ∀ (k n : Nat) (w : World), n ≤ s.length →
    (3 * (s.length - n) + 1 ≤ k → Calls Tryz.prog 39 #[es s, .int .i64 n] w (FaS s (atomF s k n) w)) ∧
    (3 * (s.length - n) + 2 ≤ k → Calls Tryz.prog 26 #[es s, .int .i64 n] w (PaS s (thenF s k n) w)) ∧
    (3 * (s.length - n) + 3 ≤ k → Calls Tryz.prog 15 #[es s, .int .i64 n] w (PaS s (eitherF s k n) w)) := by
  intro k
  induction k using Nat.strongRecOn with
  | ind k ih =>
    intro n w hn
    refine ⟨fun h => ?_, fun h => ?_, fun h => ?_⟩
    · obtain ⟨k2, rfl⟩ : ∃ k2, k = k2 + 1 := ⟨k - 1, by omega⟩
      exact factorS k2 w s n hs hn (fun W n' h1 h2 => ((ih k2 (by omega) n' W h2).2.2 (by omega)).mono fun _ _ h => h.fa)
    · exact thenW k w s n hs hn h (fun W k' n' h1 h2 h3 => (ih k' h1 n' W h2).1 h3)
    · exact eitherW k w s n hs hn h (fun W k' n' h1 h2 h3 => ((ih k' h1 n' W h2).2.1 h3).mono fun _ _ h => h.fa)

end Go.Proofs.YtaahjpmndkcijaaGreatDoor

/-
  Regular expressions parsed: the reference's ParseRegular.
-/
namespace Go.Proofs.YtaahjpmndkcijaaGreatDoor
open Go.RowKit

set_option maxRecDepth 20000 in
set_option maxHeartbeats 4000000 in
theorem parseRS (s : List UInt8) (w : World) (hs : s.length ≤ 1048576) :
    Calls Tryz.prog 5 #[es s] w fun e w' => (∃ v, e = .returned (.tuple #[v, .int .i64 (regF s).2.1, .int .i64 (regF s).2.2]) ∧ New R_G1 w w' v (regF s).1) ∧ Upd [] w w' := by
  by_cases hlong : 400 < s.length
  · have HX := Lib.hid (show regF s = ([], 0, 2) by unfold regF; rw [if_pos hlong])
    have hl : (400 : Int) < (s.length : Int) := by omega
    go_enter Tryz.func5, Tryz.ntmps5
    go_wp2_with fail
    go_ret3
    rw [HX.out]
    exact ⟨⟨_, rfl, New.nilF 3 _ _ _⟩, Upd.refl _ _⟩
  · have hl : ¬ (400 : Int) < (s.length : Int) := by omega
    have S1 := ((specR s (by omega) (3 * s.length + 3) 0 w (Nat.zero_le _)).2.2 (by omega))
    have HRG := Lib.hid (show regF s = _ from by rw [regF, if_neg hlong])
    unfold regP at HRG
    cases he : eitherF s (3 * s.length + 3) 0 with
    | error a =>
      rw [he] at S1 HRG
      have HX := Lib.hid (show regF s = ([], (a : Int), 8) from HRG.out)
      have HS := Lib.hid S1
      clear S1 HRG he
      go_enter Tryz.func5, Tryz.ntmps5
      go_wp2_with fail
      refine HS.out.mono ?_
      rintro e w1 ⟨rfl, hu⟩
      have HU := Lib.hid hu
      clear HS hu
      go_wp2_with fail
      go_ret3
      rw [HX.out]
      exact ⟨⟨_, rfl, New.nilF 3 _ _ _⟩, HU.out⟩
    | ok r =>
      obtain ⟨x, p⟩ := r
      rw [he] at S1 HRG
      have HG := Lib.hid (show regF s = (if p < s.length then ([], (p : Int), 8) else if 20 < (flatT x).length then ([], 0, 5) else (flatT x, 0, 0)) from HRG.out)
      have HS := Lib.hid S1
      clear S1 HRG he
      go_enter Tryz.func5, Tryz.ntmps5
      go_wp2_with fail
      refine HS.out.mono ?_
      rintro e w1 ⟨⟨⟨v, rfl, hn⟩, hp2, -⟩, hu⟩
      obtain ⟨a1, c1, rfl⟩ := hn.form
      have HN := Lib.hid hn
      have HU := Lib.hid hu
      clear HS hu hn
      by_cases hpl : p < s.length
      · have hpi : (p : Int) < (s.length : Int) := by omega
        have HX := Lib.hid (show regF s = ([], (p : Int), 8) by rw [HG.out, if_pos hpl])
        clear HG HN
        go_wp2_with fail
        go_ret3
        rw [HX.out]
        exact ⟨⟨_, rfl, New.nilF 3 _ _ _⟩, HU.out⟩
      · have hpi : ¬ (p : Int) < (s.length : Int) := by omega
        by_cases h20 : 20 < (flatT x).length
        · have h20i : (20 : Int) < ((flatT x).length : Int) := by omega
          have HX := Lib.hid (show regF s = ([], 0, 5) by rw [HG.out, if_neg hpl, if_pos h20])
          clear HG HN
          go_wp2_with fail
          go_ret3
          rw [HX.out]
          exact ⟨⟨_, rfl, New.nilF 3 _ _ _⟩, HU.out⟩
        · have h20i : ¬ (20 : Int) < ((flatT x).length : Int) := by omega
          have HX := Lib.hid (show regF s = (flatT x, 0, 0) by rw [HG.out, if_neg hpl, if_neg h20])
          clear HG
          go_wp2_with fail
          go_ret3
          rw [HX.out]
          exact ⟨⟨_, rfl, HN.out⟩, HU.out⟩

end Go.Proofs.YtaahjpmndkcijaaGreatDoor

/-
  The program's checks of a node and of a formula's shape: what the calls return.
-/
namespace Go.Proofs.YtaahjpmndkcijaaGreatDoor
open Go.RowKit

end Go.Proofs.YtaahjpmndkcijaaGreatDoor

/-
  Formulas as trees: the nodes of a tree in order; a tree out of nodes: what each call returns and makes.
-/
namespace Go.Proofs.YtaahjpmndkcijaaGreatDoor
open Go.RowKit

theorem Below.keepX {α : Type} {R : Rp α} (K : Kept R) {B : Nat} {w w' : World} {fp cs x} (h : R fp w cs x) (hb : Below B w w') (hf : ∀ b ∈ fp, b < B) : R fp w' cs x :=
  K.frame h hb.size fun b hm => hb.block b (hf b hm)

end Go.Proofs.YtaahjpmndkcijaaGreatDoor

/-
  The elements of a tree of a regular expression in order, appended to a slice: what the program's call returns and makes.
-/
namespace Go.Proofs.YtaahjpmndkcijaaGreatDoor
open Go.RowKit

set_option maxRecDepth 20000 in
set_option maxHeartbeats 1000000 in
theorem elementsY (n : Nat) : ∀ (x : Tr Rg) (w : World) (v vo : Value) (fp : List Nat) (B : Nat) (out : List Rg), (flatT x).length ≤ n → out.length + (flatT x).length ≤ 1000000 →
    R_Y fp w [v] x → (∀ b ∈ fp, b < B) → B ≤ w.heap.size → w.ownsRow B 53 3 vo out.length (out.flatMap encR) →
    Calls Tryz.prog 19 #[v, vo] w fun e w' => (∃ v', e = .returned v' ∧ w'.ownsRow B 53 3 v' (out ++ flatT x).length ((out ++ flatT x).flatMap encR)) ∧ Below B w w' := by
  induction n with
  | zero => intro x w v vo fp B out hn; have := flatT_pos x; omega
  | succ n ih =>
    intro x w v vo fp B out hn hlen hR hfp hB hown
    obtain ⟨i0, hi, hz0, hz1, hz2⟩ := info_parts Tryz.infoRg
    obtain ⟨t, args⟩ := x
    obtain ⟨b0, s, fa, rfl, rfl, c0, c2, c3, c4, hargs⟩ := R_Y_open hR
    obtain ⟨a, cap, rfl, h1, h2, hc⟩ := slP_open hargs
    unfold maxLen at h2
    simp only [flatT, List.length_cons] at hn hlen
    have hfx : ∀ k, (flatTs (args.take k)).length ≤ (flatTs args).length := flatTs_take_le args
    have HFX := Lib.hid hfx
    have HFP := Lib.hid hfp
    have HIH := Lib.hid ih
    have hb0 : b0 < B := hfp b0 (by simp)
    obtain ⟨t1, t3, t4⟩ := t
    simp only at c0 c2 c3
    clear hfx hfp ih hR
    go_enter Tryz.func19, Tryz.ntmps19
    go_wp2_with (first
      | (at_builtin; refine wpList_append_tight _ rfl _ _ 22 rfl B 53 i0 (.agg #[.int .i64 0, .string ⟨#[]⟩, .bool false]) 3 32 Tryz.underlying22 hi hz0 hz1 hz2 rfl (by decide) _ _ _ rfl (hown.alloc _) ⟨w.heap.size, 0, none⟩ 1 1 [ei t1, es t3, .bool t4] rfl rfl (fun j u hj => by rw [addr_add]; exact cell_new w #[ei t1, es t3, .bool t4] _ _ rfl _ _ (by simpa using hj)) (by intro u hu; simp at hu; rcases hu with rfl | rfl | rfl <;> rfl) (by unfold maxLen; omega) (by omega) (by simp; omega) ?_)
      | fail)
    intro v2 w2 hown2 hg2 ht2
    have hB2 : Below B w w2 := ((Below.refl B w).alloc hB _).grown hg2 (by simp; omega) (fun k hk => (hown.lt k hk).1)
    have hown3 : w2.ownsRow B 53 3 v2 (out ++ [(⟨t1, t3, t4⟩ : Rg)]).length ((out ++ [(⟨t1, t3, t4⟩ : Rg)]).flatMap encR) := by simpa using hown2
    have c4' : w2.cell? ⟨b0, 3, none⟩ = some (.slice a args.length cap) := (hB2.cell (p := ⟨b0, 3, none⟩) hb0).trans c4
    have hsz := hB2.size
    clear hown hown2 hg2 ht2 c0 c2 c3 c4
    go_wp2_with fail
    go_loopw [1, 19] (fun vv i wr => ∃ k : Nat, k ≤ args.length ∧ i = .int .i64 k ∧ Below B w wr ∧ wr.ownsRow B 53 3 vv (out ++ (⟨t1, t3, t4⟩ : Rg) :: flatTs (args.take k)).length ((out ++ (⟨t1, t3, t4⟩ : Rg) :: flatTs (args.take k)).flatMap encR)) (fun _ i _ => args.length - (intOf i).toNat)
    case atStart => exact ⟨0, Nat.zero_le _, rfl, hB2, by simpa [flatTs] using hown3⟩
    case round =>
      clear hB2 hown3 c4' hsz
      obtain ⟨k, hk, rfl, hB2, hown⟩ := hrel
      by_cases hlt : k < args.length
      · obtain ⟨b, off, u, f, rfl, hbm, hbl, hcell, hsub, hr⟩ := hc k hlt
        have hbB : b < B := HFP.out b (by simp [hbm])
        have hcell' : wr.cell? ⟨b, off + k, none⟩ = some u := (hB2.cell (p := ⟨b, off + k, none⟩) hbB).trans hcell
        have hr' : R_Y f wr [u] args[k] := Below.keepX R_Yk hr hB2 (fun b hb => HFP.out b (by simp [hsub b hb]))
        have hsz := hB2.size
        have hft := flatTs_take args k hlt
        have q1 := HFX.out (k + 1)
        rw [hft, List.length_append] at q1
        have S2 := Lib.hid (HIH.out args[k] wr u _ f B _ (by omega) (by simp only [List.length_append, List.length_cons]; omega) hr' (fun b hb => HFP.out b (by simp [hsub b hb])) (by omega) hown)
        have HFT := Lib.hid hft
        clear hft hc hown hr hr' hcell
        go_wp2_with fail
        refine S2.out.mono ?_
        rintro e w3 ⟨⟨v3, rfl, hown3⟩, hb3⟩
        have hB3 := hB2.trans hb3
        rw [List.append_assoc, List.cons_append, ← HFT.out] at hown3
        clear S2 hB2 hb3
        go_wp2_with fail
        go_roundw
        case rel => exact ⟨k + 1, by omega, by go_num, hB3, hown3⟩
        case measure => simp [intOf]; omega
      · obtain rfl : args.length = k := by omega
        rw [List.take_length] at hown
        clear hc
        go_wp2_with fail
        go_ret
        exact ⟨⟨_, rfl, hown⟩, hB2⟩

/-- the elements of a tree in a list of their own. -/
theorem elemsY (x : Tr Rg) (w : World) (v : Value) (fp : List Nat) (hl : (flatT x).length ≤ 1000000) (hR : R_Y fp w [v] x) :
    Calls Tryz.prog 19 #[v, .slice none 0 0] w fun e w' => (∃ v', e = .returned v' ∧ New R_G1 w w' v' (flatT x)) ∧ Upd [] w w' := by
  have S2 := elementsY _ x w v (.slice none 0 0) fp w.heap.size [] (Nat.le_refl _) (by simpa using hl) hR (R_Yk.lt hR) (Nat.le_refl _) (World.ownsRow_nil _ _ _ _)
  refine S2.mono ?_
  rintro e w1 ⟨⟨v1, rfl, hown⟩, hb⟩
  obtain ⟨fp', g1, g2, g3, -⟩ := Flat.ofOwns hown
  exact ⟨⟨_, rfl, fp', ⟨_, rfl, by simpa using g1⟩, g2, g3⟩, Upd.ofBelow hb⟩

end Go.Proofs.YtaahjpmndkcijaaGreatDoor

/-
  Regular expressions parsed: the program's reader: blanks, one byte, the first error.
-/
namespace Go.Proofs.YtaahjpmndkcijaaGreatDoor
open Go.RowKit

/-- the reader at P: the text, where it stands, whether something is too long, the first variable that is not bound. -/
structure RdAt (P : Nat) (w : World) (s : List UInt8) (n : Nat) (f : Bool) (u : Int) : Prop where
  own : Own [P] w
  c0 : w.cell? ⟨P, 0, none⟩ = some (es s)
  c2 : w.cell? ⟨P, 2, none⟩ = some (.int .i64 n)
  c9 : w.cell? ⟨P, 9, none⟩ = some (.bool f)
  c10 : w.cell? ⟨P, 10, none⟩ = some (.int .i64 u)
  le : n ≤ s.length
variable {P : Nat} {w w' : World} {s : List UInt8} {n : Nat} {f : Bool} {u : Int}
theorem RdAt.keep (h : RdAt P w s n f u) (hu : Upd [] w w') : RdAt P w' s n f u :=
  ⟨h.own.upd hu (by simp), hu.keep h.c0, hu.keep h.c2, hu.keep h.c9, hu.keep h.c10, h.le⟩
theorem RdAt.lt (h : RdAt P w s n f u) : P < w.heap.size := h.own.lt P (by simp)
theorem RdAt.far (h : RdAt P w s n f u) {g : List Nat} (hu : Upd g w w') (hg : P ∉ g) : RdAt P w' s n f u := by
  have hb := hu.block P h.lt hg
  have hc : ∀ o, w'.cell? ⟨P, o, none⟩ = w.cell? ⟨P, o, none⟩ := fun o => World.cell?_of_block (w := w) hb
  exact ⟨h.own.upd hu (by simpa using hg), (hc 0).trans h.c0, (hc 2).trans h.c2, (hc 9).trans h.c9, (hc 10).trans h.c10, h.le⟩
theorem RdAt.put (h : RdAt P w s n f u) {m : Nat} (hm : m ≤ s.length) {z : Int} (hz : z = m) : RdAt P (w.setCell ⟨P, 2, none⟩ (.int .i64 z)) s m f u := by
  subst hz
  have far : ∀ o, o ≠ 2 → (w.setCell ⟨P, 2, none⟩ (.int .i64 m)).cell? ⟨P, o, none⟩ = w.cell? ⟨P, o, none⟩ := fun o ho => World.cell?_setCell_other _ _ _ _ (by simp)
  exact ⟨h.own.setCell _ _, (far 0 (by decide)).trans h.c0, World.cell?_setCell_same _ _ _ h.c2, (far 9 (by decide)).trans h.c9, (far 10 (by decide)).trans h.c10, hm⟩
theorem RdAt.putF (h : RdAt P w s n f u) (g : Bool) : RdAt P (w.setCell ⟨P, 9, none⟩ (.bool g)) s n g u := by
  have far : ∀ o, o ≠ 9 → (w.setCell ⟨P, 9, none⟩ (.bool g)).cell? ⟨P, o, none⟩ = w.cell? ⟨P, o, none⟩ := fun o ho => World.cell?_setCell_other _ _ _ _ (by simp)
  exact ⟨h.own.setCell _ _, (far 0 (by decide)).trans h.c0, (far 2 (by decide)).trans h.c2, World.cell?_setCell_same _ _ _ h.c9, (far 10 (by decide)).trans h.c10, h.le⟩
theorem RdAt.putU (h : RdAt P w s n f u) (z : Int) : RdAt P (w.setCell ⟨P, 10, none⟩ (.int .i64 z)) s n f z := by
  have far : ∀ o, o ≠ 10 → (w.setCell ⟨P, 10, none⟩ (.int .i64 z)).cell? ⟨P, o, none⟩ = w.cell? ⟨P, o, none⟩ := fun o ho => World.cell?_setCell_other _ _ _ _ (by simp)
  exact ⟨h.own.setCell _ _, (far 0 (by decide)).trans h.c0, (far 2 (by decide)).trans h.c2, (far 9 (by decide)).trans h.c9, World.cell?_setCell_same _ _ _ h.c10, h.le⟩

/-- the panic at an offset. -/
abbrev synE (n : Nat) : Ending := .panicked [{ v := .iface 64 (.agg #[.int .i64 n]), recovered := false }]

set_option maxRecDepth 20000 in
set_option maxHeartbeats 2000000 in
theorem skipR (P : Nat) (w : World) (s : List UInt8) (n : Nat) (f : Bool) (u : Int) (hs : s.length ≤ 1000000) (hR : RdAt P w s n f u) :
    Calls Tryz.prog 40 #[.pointer (some ⟨P, 0, none⟩)] w fun e w' => e = .returned (.tuple #[]) ∧ RdAt P w' s (skR s n) f u ∧ Upd [P] w w' := by
  have HST := Lib.hid (fun k (h : k < s.length) => runE_step (p := (· == (32 : UInt8))) h)
  have HEN := Lib.hid (runE_end (p := (· == (32 : UInt8))) (s := s))
  obtain ⟨Z, hZ⟩ : ∃ Z, skR s n = Z := ⟨_, rfl⟩
  rw [hZ]
  have HZ := Lib.hid (show runE (· == 32) s n = Z from hZ)
  have HR := Lib.hid hR
  clear hZ hR
  go_enter Tryz.func40, Tryz.ntmps40
  go_wp2_with fail
  go_loopw [] (fun wr => ∃ k : Nat, k ≤ s.length ∧ Hid (runE (· == 32) s k = Z) ∧ Hid (RdAt P wr s k f u) ∧ Hid (Upd [P] w wr)) (fun wr => s.length - (intOf ((wr.cell? ⟨P, 2, none⟩).getD undef)).toNat)
  case atStart => exact ⟨n, HR.out.le, HZ, HR, Lib.hid (Upd.refl _ _)⟩
  case round =>
    clear HZ HR
    obtain ⟨wo, rfl⟩ : ∃ wo : World, wo = wr := ⟨_, rfl⟩
    obtain ⟨k, hk, HZ, HR, HU⟩ := hrel
    have c0 := HR.out.c0
    have c2 := HR.out.c2
    have hfz : wo.frozen? ⟨P, 2, none⟩ = false := HR.out.own.frozen (by simp) _
    have HM := Lib.hid (show intOf ((wo.cell? ⟨P, 2, none⟩).getD undef) = k by rw [c2]; rfl)
    by_cases hlt : k < s.length
    · obtain ⟨b, hb⟩ : ∃ b, s[k] = b := ⟨_, rfl⟩
      have hix : (⟨s.toArray⟩ : ByteArray)[k]'(by simpa [ByteArray.size] using hlt) = b := by rw [← hb]; simp [ByteArray.getElem_eq_getElem_data]
      have hkl : (k : Int) < (s.length : Int) := by omega
      have h1 := HST.out k hlt
      rw [hb, HZ.out] at h1
      have hq := byteU b 32 (by omega)
      rw [show ((32 : Nat) : Int) = 32 from rfl] at hq
      by_cases h32 : b = 32
      · have HX := Lib.hid (show runE (· == 32) s (k + 1) = Z by rw [h1, if_pos (by simpa using h32)])
        have hq2 : ((b.toNat : Int) == 32) = true := by rw [hq, h32]; rfl
        have HP := Lib.hid (fun n z hz => (HR.out.keep ((Upd.refl _ _).drewN n)).put (m := k + 1) (by omega) (z := z) hz)
        have HV := Lib.hid (fun n (z : Int) => (HU.out.drewN n).setCell (p := ⟨P, 2, none⟩) (Or.inr (by simp)) (.int .i64 z))
        clear h1 hb hq HST HEN HZ HR HU h32
        go_wp2_with fail
        go_quiet (fail)
        go_wp2_with fail
        go_roundw
        case rel => exact ⟨k + 1, by omega, HX, Lib.hid (HP.out _ _ (by omega)), Lib.hid (HV.out _ _)⟩
        case measure =>
          rw [HM.out, (HP.out _ _ (by omega)).c2]
          simp [intOf]; omega
      · have HX := Lib.hid (show Z = k by rw [h1, if_neg (by simpa using h32)])
        have hq2 : ((b.toNat : Int) == 32) = false := by rw [hq]; exact beq_eq_false_iff_ne.2 h32
        clear h1 hb hq HST HEN HZ h32
        go_wp2_with fail
        go_quiet (fail)
        go_wp2_with fail
        go_end0
        rw [HX.out]
        exact ⟨rfl, HR.out.keep ((Upd.refl _ _).drewN _), HU.out.drewN _⟩
    · obtain rfl : k = s.length := by omega
      have HX := Lib.hid (show Z = s.length by rw [← HZ.out, HEN.out])
      clear HST HEN HZ
      go_wp2_with fail
      go_quiet (fail)
      go_wp2_with fail
      go_end0
      rw [HX.out]
      exact ⟨rfl, HR.out.keep ((Upd.refl _ _).drewN _), HU.out.drewN _⟩

set_option maxRecDepth 20000 in
set_option maxHeartbeats 2000000 in
theorem failR (P : Nat) (w : World) (s : List UInt8) (n : Nat) (f : Bool) (u : Int) (hs : s.length ≤ 1000000) (hR : RdAt P w s n f u) :
    Calls Tryz.prog 41 #[.pointer (some ⟨P, 0, none⟩)] w fun e w' => e = synE (skR s n) ∧ Upd [P] w w' := by
  have S1 := Lib.hid (skipR P w s n f u hs hR)
  clear hR
  go_enter Tryz.func41, Tryz.ntmps41
  go_wp2_with fail
  refine S1.out.mono ?_
  rintro e w1 ⟨rfl, hr, hu⟩
  have c2 := hr.c2
  have HU := Lib.hid hu
  clear S1 hr hu
  go_wp2_with fail
  exact ⟨rfl, rfl, HU.out⟩

set_option maxRecDepth 20000 in
set_option maxHeartbeats 2000000 in
theorem endedR (P : Nat) (w : World) (s : List UInt8) (n : Nat) (f : Bool) (u : Int) (hs : s.length ≤ 1000000) (hR : RdAt P w s n f u) :
    Calls Tryz.prog 31 #[.pointer (some ⟨P, 0, none⟩)] w fun e w' => (if skR s n = s.length then e = .returned (.tuple #[]) ∧ RdAt P w' s s.length f u else e = synE (skR s n)) ∧ Upd [P] w w' := by
  have S1 := Lib.hid (skipR P w s n f u hs hR)
  have hle := (skR_le hR.le).2
  have S2 := Lib.hid (fun W (h : RdAt P W s (skR s n) f u) => by have := failR P W s (skR s n) f u hs h; rw [skR_idem hR.le] at this; exact this)
  generalize skR s n = Z at *
  clear hR
  by_cases hz : Z = s.length
  · subst hz
    simp only [↓reduceIte]
    clear S2
    go_enter Tryz.func31, Tryz.ntmps31
    go_wp2_with fail
    refine S1.out.mono ?_
    rintro e w1 ⟨rfl, hr, hu⟩
    have c0 := hr.c0
    have c2 := hr.c2
    have HU := Lib.hid hu
    have HR := Lib.hid hr
    clear S1 hr hu
    go_wp2_with fail
    go_quiet (fail)
    go_wp2_with fail
    go_end0
    exact ⟨⟨rfl, HR.out.keep ((Upd.refl _ _).drewN _)⟩, HU.out.drewN _⟩
  · simp only [if_neg hz]
    have hlt : (Z : Int) < (s.length : Int) := by omega
    go_enter Tryz.func31, Tryz.ntmps31
    go_wp2_with fail
    refine S1.out.mono ?_
    rintro e w1 ⟨rfl, hr, hu⟩
    have c0 := hr.c0
    have c2 := hr.c2
    have HU := Lib.hid hu
    have HR := Lib.hid hr
    clear S1 hr hu
    go_wp2_with fail
    go_quiet (fail)
    go_wp2_with fail
    refine (S2.out _ (HR.out.keep ((Upd.refl _ _).drewN _))).mono ?_
    rintro e w2 ⟨rfl, hu2⟩
    have HU2 := Lib.hid ((HU.out.drewN _).trans hu2)
    clear S2 hu2
    go_wp2_with fail
    exact ⟨rfl, rfl, HU2.out⟩

/-- one byte, if it stands behind the blanks. -/
def ByR (P : Nat) (w : World) (s : List UInt8) (n : Nat) (f : Bool) (u : Int) (c : UInt8) (e : Ending) (w' : World) : Prop :=
  e = .returned (.bool (isB s (skR s n) c)) ∧ RdAt P w' s (if isB s (skR s n) c then skR s n + 1 else skR s n) f u ∧ Upd [P] w w'

set_option maxRecDepth 20000 in
set_option maxHeartbeats 2000000 in
theorem byteR (P : Nat) (w : World) (s : List UInt8) (n : Nat) (f : Bool) (u : Int) (c : UInt8) (hs : s.length ≤ 1000000) (hR : RdAt P w s n f u) :
    Calls Tryz.prog 37 #[.pointer (some ⟨P, 0, none⟩), .int .u8 c.toNat] w (ByR P w s n f u c) := by
  have S1 := Lib.hid (skipR P w s n f u hs hR)
  have hle := (skR_le hR.le).2
  unfold ByR
  generalize skR s n = Z at *
  clear hR
  by_cases hlt : Z < s.length
  · obtain ⟨b, hb⟩ : ∃ b, s[Z] = b := ⟨_, rfl⟩
    have hix : (⟨s.toArray⟩ : ByteArray)[Z]'(by simpa [ByteArray.size] using hlt) = b := by rw [← hb]; simp [ByteArray.getElem_eq_getElem_data]
    have hkl : (Z : Int) < (s.length : Int) := by omega
    have hne : ((Z : Int) == (s.length : Int)) = false := by rw [beq_eq_false_iff_ne]; omega
    rw [isB_at hlt, hb]
    have hq := byteU b c.toNat c.toNat_lt
    rw [show UInt8.ofNat c.toNat = c by simp] at hq
    clear hb
    obtain ⟨q, hqq⟩ : ∃ q, (b == c) = q := ⟨_, rfl⟩
    rw [hqq] at hq ⊢
    obtain ⟨x, hx⟩ : ∃ x : Int, (c.toNat : Int) = x := ⟨_, rfl⟩
    rw [hx] at hq ⊢
    obtain ⟨y, hy⟩ : ∃ y : Int, (b.toNat : Int) = y := ⟨_, rfl⟩
    rw [hy] at hq
    have hneq : (y != x) = !q := by rw [bne, hq]
    cases q with
    | true =>
      go_enter Tryz.func37, Tryz.ntmps37
      go_wp2_with fail
      refine S1.out.mono ?_
      rintro e w1 ⟨rfl, hr, hu⟩
      have c0 := hr.c0
      have c2 := hr.c2
      have hfz : w1.frozen? ⟨P, 2, none⟩ = false := hr.own.frozen (by simp) _
      have HP := Lib.hid (fun W (h : Upd [] w1 W) z hz => (hr.keep h).put (m := Z + 1) (by omega) (z := z) hz)
      have HV := Lib.hid (fun n (z : Int) => (hu.drewN n).setCell (p := ⟨P, 2, none⟩) (Or.inr (by simp)) (.int .i64 z))
      clear S1 hr hu
      go_wp2_with fail
      go_quiet (fail)
      go_wp2_with fail
      go_ret
      exact ⟨rfl, HP.out _ ((Upd.refl _ _).drewN _) _ (by omega), HV.out _ _⟩
    | false =>
      go_enter Tryz.func37, Tryz.ntmps37
      go_wp2_with fail
      refine S1.out.mono ?_
      rintro e w1 ⟨rfl, hr, hu⟩
      have c0 := hr.c0
      have c2 := hr.c2
      have HR := Lib.hid hr
      have HU := Lib.hid hu
      clear S1 hr hu
      go_wp2_with fail
      go_quiet (fail)
      go_wp2_with fail
      go_ret
      exact ⟨rfl, HR.out.keep ((Upd.refl _ _).drewN _), HU.out.drewN _⟩
  · have hf : isB s Z c = false := by unfold isB; rw [List.getElem?_eq_none (by omega)]; rfl
    rw [hf]
    obtain rfl : Z = s.length := by omega
    have hne : ((s.length : Int) == (s.length : Int)) = true := by simp
    clear hf
    go_enter Tryz.func37, Tryz.ntmps37
    go_wp2_with fail
    refine S1.out.mono ?_
    rintro e w1 ⟨rfl, hr, hu⟩
    have c0 := hr.c0
    have c2 := hr.c2
    have HR := Lib.hid hr
    have HU := Lib.hid hu
    clear S1 hr hu
    go_wp2_with fail
    go_quiet (fail)
    go_wp2_with fail
    go_ret
    exact ⟨rfl, HR.out.keep ((Upd.refl _ _).drewN _), HU.out.drewN _⟩

set_option maxRecDepth 20000 in
set_option maxHeartbeats 2000000 in
theorem needR (P : Nat) (w : World) (s : List UInt8) (n : Nat) (f : Bool) (u : Int) (c : UInt8) (hs : s.length ≤ 1000000) (hR : RdAt P w s n f u) :
    Calls Tryz.prog 58 #[.pointer (some ⟨P, 0, none⟩), .int .u8 c.toNat] w fun e w' =>
      (if isB s (skR s n) c then e = .returned (.tuple #[]) ∧ RdAt P w' s (skR s n + 1) f u else e = synE (skR s n)) ∧ Upd [P] w w' := by
  have S1 := Lib.hid (byteR P w s n f u c hs hR)
  have S2 := Lib.hid (fun W (h : RdAt P W s (skR s n) f u) => by have := failR P W s (skR s n) f u hs h; rw [skR_idem hR.le] at this; exact this)
  unfold ByR at S1
  generalize skR s n = Z at *
  generalize isB s Z c = q at *
  clear hR
  cases q with
  | true =>
    simp only [↓reduceIte]
    rw [if_pos rfl] at S1
    clear S2
    go_enter Tryz.func58, Tryz.ntmps58
    go_wp2_with fail
    refine S1.out.mono ?_
    rintro e w1 ⟨rfl, hr, hu⟩
    have HR := Lib.hid hr
    have HU := Lib.hid hu
    clear S1 hr hu
    go_wp2_with fail
    go_end0
    exact ⟨⟨rfl, HR.out⟩, HU.out⟩
  | false =>
    simp only [Bool.false_eq_true, ↓reduceIte]
    rw [if_neg (by decide)] at S1
    go_enter Tryz.func58, Tryz.ntmps58
    go_wp2_with fail
    refine S1.out.mono ?_
    rintro e w1 ⟨rfl, hr, hu⟩
    have HR := Lib.hid hr
    have HU := Lib.hid hu
    clear S1 hr hu
    go_wp2_with fail
    refine (S2.out _ HR.out).mono ?_
    rintro e w2 ⟨rfl, hu2⟩
    have HU2 := Lib.hid (HU.out.trans hu2)
    clear S2 hu2
    go_wp2_with fail
    exact ⟨rfl, rfl, HU2.out⟩

end Go.Proofs.YtaahjpmndkcijaaGreatDoor

/-
  Regular expressions parsed: the program reads a pattern.
-/
namespace Go.Proofs.YtaahjpmndkcijaaGreatDoor
open Go.RowKit

theorem trim_sfx {t : List UInt8} (h : Lib.hasSuffix t [40, 42, 41] = true) : Lib.trimSuffix t [40, 42, 41] = t.take (t.length - 3) := by
  unfold Lib.trimSuffix
  rw [if_pos h]; rfl

set_option maxRecDepth 20000 in
set_option maxHeartbeats 2000000 in
theorem patternOfI (t : List UInt8) (w : World) (hl : t.length ≤ 1000000) (he : Env w) :
    Calls Tryz.prog 75 #[es t] w fun e w' => (∃ q b, e = .returned (.tuple #[es q, .bool b]) ∧ Hid (patO t = if b then some q else none)) ∧ Upd [] w w' := by
  have S0 := Tryz.strings_CutSuffix ⟨t.toArray⟩ ⟨#[40, 42, 41]⟩ w (by have : (⟨t.toArray⟩ : ByteArray).size = t.length := rfl; omega)
  have e0 : (⟨#[40, 42, 41]⟩ : ByteArray).data.toList = [40, 42, 41] := rfl
  have e1 : (⟨t.toArray⟩ : ByteArray).data.toList = t := by simp
  rw [e0, e1] at S0
  cases hs : Lib.hasSuffix t [40, 42, 41] with
  | true =>
    rw [hs, trim_sfx hs] at S0
    have HP := Lib.hid (show patO t = if actF (t.take (t.length - 3)) then some (t.take (t.length - 3) ++ [42]) else none by unfold patO; rw [hs]; rfl)
    have hnl : (t.take (t.length - 3)).length ≤ 1000000 := by rw [List.length_take]; omega
    generalize t.take (t.length - 3) = nm at *
    have S1 := Lib.hid (isActionI nm w (by omega))
    have hcat : (ByteArray.mk nm.toArray ++ ⟨#[42]⟩) = ByteArray.mk (nm ++ [42]).toArray := ByteArray.mk_append_mk nm [42]
    have hz : ¬ (9223372036854775807 < nm.length + 1) := by omega
    have HS := Lib.hid S0
    obtain ⟨R, hR⟩ : ∃ R, nm ++ [42] = R := ⟨_, rfl⟩
    rw [hR] at HP hcat
    clear S0 hs hR e0 e1
    generalize actF nm = q at *
    go_enter Tryz.func75, Tryz.ntmps75
    go_wp2_with fail
    refine HS.out.mono ?_
    rintro e w1 ⟨rfl, rfl⟩
    clear HS
    go_wp2_with fail
    refine S1.out.mono ?_
    rintro e w2 ⟨rfl, rfl⟩
    clear S1
    go_wp2_with fail
    go_ret2
    exact ⟨⟨R, q, rfl, HP⟩, Upd.refl _ _⟩
  | false =>
    rw [hs] at S0
    have HP := Lib.hid (show patO t = if isLab t then some t else none by unfold patO; rw [hs]; rfl)
    have S1 := Lib.hid (fun W (h : W = w) => by subst h; exact isLabelI t W (by omega) he)
    rw [show isLab t = (readF t).isSome from rfl] at HP
    have HS := Lib.hid S0
    clear S0 hs e0 e1 he
    generalize (readF t).isSome = q at *
    generalize Lib.trimSuffix t [40, 42, 41] = tr at *
    go_enter Tryz.func75, Tryz.ntmps75
    go_wp2_with fail
    refine HS.out.mono ?_
    rintro e w1 ⟨rfl, rfl⟩
    clear HS
    go_wp2_with fail
    refine (S1.out _ rfl).mono ?_
    rintro e w2 ⟨rfl, hu⟩
    have HU := Lib.hid hu
    clear S1 hu
    go_wp2_with fail
    go_ret2
    exact ⟨⟨t, q, rfl, HP⟩, HU.out⟩

/-- the end of the word at m, from k on. -/
def wE (s : List UInt8) (m k : Nat) : Nat := if k = m then wordE s m else runE wch s k
theorem wE_at {s : List UInt8} {m k : Nat} (h : k < s.length) (hm : m ≤ k) : wE s m k = if sml s[k] || (decide (m < k) && isDig s[k]) then wE s m (k + 1) else k := by
  have e2 : wE s m (k + 1) = runE wch s (k + 1) := by unfold wE; rw [if_neg (by omega)]
  rw [e2]
  by_cases hk : k = m
  · subst hk
    have : decide (k < k) = false := by simp
    rw [this, Bool.false_and, Bool.or_false]
    unfold wE wordE
    rw [if_pos rfl, List.getElem?_eq_getElem h]
    rfl
  · have : decide (m < k) = true := decide_eq_true (by omega)
    rw [this, Bool.true_and]
    unfold wE
    rw [if_neg hk, runE_step h]
    rfl
theorem wE_end {s : List UInt8} {m : Nat} : wE s m s.length = s.length := by
  unfold wE
  split
  · rename_i h
    unfold wordE
    rw [← h, List.getElem?_eq_none (Nat.le_refl _)]; rfl
  · exact runE_end
theorem index_run (c : UInt8) : ∀ l : List UInt8, Lib.indexByte l c = if (l.takeWhile (· != c)).length < l.length then ((l.takeWhile (· != c)).length : Int) else -1
  | [] => rfl
  | b :: l => by
    rw [Lib.indexByte, List.takeWhile_cons]
    by_cases hb : b = c
    · subst hb; simp
    · have h1 : (b == c) = false := by simpa using hb
      have h2 : (b != c) = true := by simp [hb]
      rw [h1, h2, index_run c l]
      simp only [Bool.false_eq_true, if_false, if_true, List.length_cons]
      split
      · rw [if_neg (by rw [beq_iff_eq]; omega), if_pos (by omega)]; omega
      · rw [if_pos (by simp), if_neg (by omega)]

/-- the pattern at m, or the first error there. -/
def LbR (P : Nat) (w : World) (s : List UInt8) (m : Nat) (f : Bool) (u : Int) (r : Option (List UInt8 × Nat)) (e : Ending) (w' : World) : Prop :=
  (match r with
  | some (t, p) => e = .returned (es t) ∧ RdAt P w' s p f u
  | none => e = synE m) ∧ Upd [P] w w'

set_option maxRecDepth 20000 in
set_option maxHeartbeats 4000000 in
theorem labelR (P : Nat) (w : World) (s : List UInt8) (n : Nat) (f : Bool) (u : Int) (hs : s.length ≤ 1000000) (hR : RdAt P w s n f u) (hE : ∀ W, Upd [P] w W → Env W) :
    Calls Tryz.prog 65 #[.pointer (some ⟨P, 0, none⟩)] w (LbR P w s (skR s n) f u (labF s (skR s n))) := by
  have S1 := Lib.hid (skipR P w s n f u hs hR)
  have hle := (skR_le hR.le).2
  have S2 := Lib.hid (fun W (h : RdAt P W s (skR s n) f u) => by have := failR P W s (skR s n) f u hs h; rw [skR_idem hR.le] at this; exact this)
  generalize skR s n = m at *
  have hw := wordE_le hle
  have HLB := Lib.hid (show labF s m = _ from rfl)
  obtain ⟨Z, hZ⟩ : ∃ Z, wordE s m = Z := ⟨_, rfl⟩
  have HZ := Lib.hid (show wE s m m = Z by unfold wE; rw [if_pos rfl, hZ])
  have HLF := Lib.hid (show labF s m = if isB s Z 40 then (if runE (· != 41) s Z < s.length then (patO (cutS s m (runE (· != 41) s Z + 1))).map (fun t => (t, runE (· != 41) s Z + 1)) else none) else (patO (cutS s m Z)).map (fun t => (t, Z)) by unfold labF; rw [hZ])
  rw [hZ] at hw
  generalize labF s m = LF at *
  have HST := Lib.hid (fun k (h : k < s.length) (hm : m ≤ k) => wE_at h hm)
  have HEN := Lib.hid (wE_end (s := s) (m := m))
  have HE := Lib.hid hE
  have HD := Lib.hid isDigitI
  clear HLB hZ hR hE
  go_enter Tryz.func65, Tryz.ntmps65
  go_wp2_with fail
  refine S1.out.mono ?_
  rintro e w1 ⟨rfl, hr, hu⟩
  have c0 := hr.c0
  have c2 := hr.c2
  have HR := Lib.hid hr
  have HU := Lib.hid hu
  clear S1 hr hu
  go_upto_block 0 with (fail)
  go_cut [3] (fun s3 wx => s3 = .int .i64 Z ∧ wx = w1)
  case first =>
    clear HLF S2 HE
    go_wp2_with fail
    go_loopw [3] (fun iv wr => ∃ k : Nat, m ≤ k ∧ k ≤ s.length ∧ iv = .int .i64 k ∧ Hid (wE s m k = Z) ∧ wr = w1) (fun iv _ => s.length - (intOf iv).toNat)
    case atStart => exact ⟨m, Nat.le_refl _, hle, rfl, HZ, rfl⟩
    case round =>
      clear HZ
      obtain ⟨wo, rfl⟩ : ∃ wo : World, wo = wr := ⟨_, rfl⟩
      obtain ⟨k, hmk, hk, rfl, HZ, hww⟩ := hrel
      subst hww
      by_cases hlt : k < s.length
      · obtain ⟨b, hb⟩ : ∃ b, s[k] = b := ⟨_, rfl⟩
        have hix : (⟨s.toArray⟩ : ByteArray)[k]'(by simpa [ByteArray.size] using hlt) = b := by rw [← hb]; simp [ByteArray.getElem_eq_getElem_data]
        have hkl : (k : Int) < (s.length : Int) := by omega
        have h1 := HST.out k hlt hmk
        rw [hb, HZ.out] at h1
        have D1 := Lib.hid (HD.out b wo)
        have HX1 := Lib.hid (show (sml b || (decide (m < k) && isDig b)) = true → wE s m (k + 1) = Z from fun h => by rw [h1, if_pos h])
        have HX0 := Lib.hid (show (sml b || (decide (m < k) && isDig b)) = false → Z = k from fun h => by rw [h1, if_neg (by rw [h]; decide)])
        clear h1 hb HST HEN HZ
        by_cases hs : sml b = true
        · have hs' : 97 ≤ b.toNat ∧ b.toNat ≤ 122 := by simpa [sml] using hs
          have g1 : (97 : Int) ≤ (b.toNat : Int) := by omega
          have g2 : (b.toNat : Int) ≤ 122 := by omega
          have HX := Lib.hid (HX1.out (by rw [hs]; rfl))
          clear hs hs' HX1 HX0 D1
          go_wp2_with fail
          go_roundw
          case rel => exact ⟨k + 1, by omega, by omega, by go_num, HX, by first | rfl | trivial⟩
          case measure => simp [intOf]; omega
        · have hs0 : sml b = false := by simpa using hs
          have hs' : ¬ (97 ≤ b.toNat ∧ b.toNat ≤ 122) := by simpa [sml] using hs
          rw [hs0, Bool.false_or] at HX1 HX0
          generalize isDig b = q at *
          clear hs hs0
          by_cases hmk2 : m = k
          · subst hmk2
            have HX := Lib.hid (HX0.out (by simp))
            clear HX1 HX0 D1
            by_cases g1 : (97 : Int) ≤ (b.toNat : Int)
            · have g2 : ¬ (b.toNat : Int) ≤ 122 := by omega
              go_wp2_with fail
              go_meet
              exact ⟨by rw [HX.out], rfl⟩
            · go_wp2_with fail
              go_meet
              exact ⟨by rw [HX.out], rfl⟩
          · have hmk3 : (m : Int) < (k : Int) := by omega
            have hd : decide (m < k) = true := decide_eq_true (by omega)
            rw [hd, Bool.true_and] at HX1 HX0
            clear hd
            cases q with
            | true =>
              have HX := Lib.hid (HX1.out rfl)
              clear HX1 HX0
              by_cases g1 : (97 : Int) ≤ (b.toNat : Int)
              · have g2 : ¬ (b.toNat : Int) ≤ 122 := by omega
                go_wp2_with fail
                refine D1.out.mono ?_
                rintro e w2 ⟨rfl, rfl⟩
                clear D1
                go_wp2_with fail
                go_roundw
                case rel => exact ⟨k + 1, by omega, by omega, by go_num, HX, by first | rfl | trivial⟩
                case measure => simp [intOf]; omega
              · go_wp2_with fail
                refine D1.out.mono ?_
                rintro e w2 ⟨rfl, rfl⟩
                clear D1
                go_wp2_with fail
                go_roundw
                case rel => exact ⟨k + 1, by omega, by omega, by go_num, HX, by first | rfl | trivial⟩
                case measure => simp [intOf]; omega
            | false =>
              have HX := Lib.hid (HX0.out rfl)
              clear HX1 HX0
              by_cases g1 : (97 : Int) ≤ (b.toNat : Int)
              · have g2 : ¬ (b.toNat : Int) ≤ 122 := by omega
                go_wp2_with fail
                refine D1.out.mono ?_
                rintro e w2 ⟨rfl, rfl⟩
                clear D1
                go_wp2_with fail
                go_meet
                exact ⟨by rw [HX.out], rfl⟩
              · go_wp2_with fail
                refine D1.out.mono ?_
                rintro e w2 ⟨rfl, rfl⟩
                clear D1
                go_wp2_with fail
                go_meet
                exact ⟨by rw [HX.out], rfl⟩
      · obtain rfl : k = s.length := by omega
        have HX := Lib.hid (show Z = s.length by rw [← HZ.out, HEN.out])
        clear HST HEN HZ
        go_wp2_with fail
        go_meet
        exact ⟨by rw [HX.out], rfl⟩
  case rest =>
    obtain ⟨rfl, hww⟩ := hcut
    replace hww := hww.symm
    subst hww
    clear HST HEN HZ HD
    obtain ⟨x, hx⟩ : ∃ x, ((s.drop Z).takeWhile (· != 41)).length = x := ⟨_, rfl⟩
    have hri : runE (· != 41) s Z = Z + x := by unfold runE; rw [hx]
    have hxl := (runE_le (p := (· != (41 : UInt8))) hw.2).2
    rw [hri] at hxl
    have HIX := Lib.hid (show Lib.indexByte (s.drop Z) 41 = if Z + x < s.length then (x : Int) else -1 by
      rw [index_run, hx, List.length_drop]
      by_cases h : Z + x < s.length
      · rw [if_pos h, if_pos (by omega)]
      · rw [if_neg h, if_neg (by omega)])
    have HLF2 := HLF
    rw [hri] at HLF2
    clear HLF hri hx
    by_cases hlt : Z < s.length
    · obtain ⟨b, hb⟩ : ∃ b, s[Z] = b := ⟨_, rfl⟩
      have hix : (⟨s.toArray⟩ : ByteArray)[Z]'(by simpa [ByteArray.size] using hlt) = b := by rw [← hb]; simp [ByteArray.getElem_eq_getElem_data]
      have hkl : (Z : Int) < (s.length : Int) := by omega
      have hq := byteU b 40 (by omega)
      rw [show ((40 : Nat) : Int) = 40 from rfl, show UInt8.ofNat 40 = 40 from rfl] at hq
      obtain ⟨q4, hq4⟩ : ∃ q, (b == (40 : UInt8)) = q := ⟨_, rfl⟩
      rw [hq4] at hq
      obtain ⟨E, cl, hE1, hE2, hLF, hEE⟩ : ∃ (E : Nat) (cl : Bool), Z ≤ E ∧ E ≤ s.length ∧ LF = (if cl then (patO (cutS s m E)).map (fun t => (t, E)) else none) ∧
          Hid ((q4 = false → E = Z ∧ cl = true) ∧ (q4 = true → Z + x < s.length → E = Z + (x + 1) ∧ cl = true) ∧ (q4 = true → ¬ Z + x < s.length → E = Z ∧ cl = false)) := by
        have h0 := HLF2.out
        rw [isB_at hlt, hb, hq4] at h0
        cases q4 with
        | false => exact ⟨Z, true, Nat.le_refl _, hw.2, by rw [h0]; rfl, Lib.hid ⟨fun _ => ⟨rfl, rfl⟩, (fun h => nomatch h), (fun h => nomatch h)⟩⟩
        | true =>
          by_cases hc : Z + x < s.length
          · exact ⟨Z + (x + 1), true, by omega, by omega, by rw [h0, if_pos rfl, if_pos hc]; rfl, Lib.hid ⟨(fun h => nomatch h), fun _ _ => ⟨rfl, rfl⟩, fun _ h => absurd hc h⟩⟩
          · exact ⟨Z, false, by omega, by omega, by rw [h0, if_pos rfl, if_neg hc]; rfl, Lib.hid ⟨(fun h => nomatch h), fun _ h => absurd h hc, fun _ _ => ⟨rfl, rfl⟩⟩⟩
      clear HLF2 hb hq4
      go_upto_if 83 with (fail)
      go_cut [3, 4] (fun s3 s4 wx => s3 = .int .i64 E ∧ s4 = .bool cl ∧ wx = w1)
      case first =>
        clear S2 HE hLF HU HR
        cases q4 with
        | false =>
          obtain ⟨rfl, rfl⟩ := hEE.out.1 rfl
          go_wp2_with fail
          go_meet
          exact ⟨rfl, rfl, rfl⟩
        | true =>
          have hext2 : (⟨s.toArray⟩ : ByteArray).extract Z s.length = ⟨(s.drop Z).toArray⟩ := by
            rw [extract_list, List.take_of_length_le (by rw [List.length_drop]; omega)]
          have S3 := Tryz.strings_IndexByte ⟨(s.drop Z).toArray⟩ 41 w1
          rw [show (⟨(s.drop Z).toArray⟩ : ByteArray).data.toList = s.drop Z by simp, show (41 : Int).toNat.toUInt8 = 41 from rfl, HIX.out] at S3
          by_cases hc : Z + x < s.length
          · rw [if_pos hc] at S3
            obtain ⟨rfl, rfl⟩ := hEE.out.2.1 rfl hc
            have S4 := Lib.hid S3
            clear S3 HIX hEE
            generalize s.drop Z = D at *
            go_wp2_with fail
            refine S4.out.mono ?_
            rintro e w2 ⟨rfl, rfl⟩
            clear S4
            go_wp2_with fail
            go_meet
            exact ⟨by go_num, rfl, rfl⟩
          · rw [if_neg hc] at S3
            obtain ⟨hE0, rfl⟩ := hEE.out.2.2 rfl hc
            replace hE0 := hE0.symm
            subst hE0
            have S4 := Lib.hid S3
            clear S3 HIX hEE
            generalize s.drop Z = D at *
            go_wp2_with fail
            refine S4.out.mono ?_
            rintro e w2 ⟨rfl, rfl⟩
            clear S4
            go_wp2_with fail
            go_meet
            exact ⟨by go_num, rfl, rfl⟩
      case rest =>
        obtain ⟨rfl, rfl, hww⟩ := hcut
        replace hww := hww.symm
        subst hww
        clear HIX hEE
        have hext : (⟨s.toArray⟩ : ByteArray).extract m E = ⟨(cutS s m E).toArray⟩ := extract_list s m E
        have hcl : (cutS s m E).length ≤ 1000000 := by rw [cutS_len hE2]; omega
        have T1 := Lib.hid (fun W (h : Upd [] w1 W) => patternOfI (cutS s m E) W hcl (HE.out W (HU.out.trans (h.mono (by simp)))))
        have hmE : (m : Int) ≤ (E : Int) := by omega
        have hEl : (E : Int) ≤ (s.length : Int) := by omega
        generalize cutS s m E = t at *
        clear HE hcl
        go_upto_region 10 with (fail)
        go_region_held3 (fun w' => w'.cell? ⟨P, 0, none⟩ = some (es s) ∧ w'.cell? ⟨P, 2, none⟩ = some (.int .i64 m)) (go_keep)
          (first
            | (go_at_call 75; (with_reducible refine (T1.out _ ((Upd.refl _ _).drew)).mono ?_); rintro e w2 ⟨⟨q, b, rfl, hp⟩, hu2⟩; have hV2 : Upd [] w1 w2 := Upd.trans ((Upd.refl _ _).drew) hu2; have x0 := hV2.keep c0; have x2 := hV2.keep c2))
        all_goals
          have HP := Lib.hid hp
          have HR2 := Lib.hid (HR.out.keep hV2)
          have HU2 := Lib.hid (HU.out.trans (hV2.mono (by simp)))
          have hfz : w2.frozen? ⟨P, 2, none⟩ = false := HR2.out.own.frozen (by simp) _
          clear hp hV2 hu2 T1 HR HU
          cases cl with
          | false =>
            have HX := Lib.hid (show LF = none by rw [hLF]; rfl)
            clear HP hLF
            cases b
            all_goals
              go_wp2_with fail
              refine (S2.out _ HR2.out).mono ?_
              rintro e w3 ⟨rfl, hu3⟩
              have HU3 := Lib.hid (HU2.out.trans hu3)
              clear S2 hu3
              go_wp2_with fail
              refine ⟨rfl, ?_⟩
              rw [HX.out]
              exact ⟨rfl, HU3.out⟩
          | true =>
            cases b with
            | false =>
              have HX := Lib.hid (show LF = none by rw [hLF, if_pos rfl, HP.out.out]; rfl)
              clear HP hLF
              go_wp2_with fail
              refine (S2.out _ HR2.out).mono ?_
              rintro e w3 ⟨rfl, hu3⟩
              have HU3 := Lib.hid (HU2.out.trans hu3)
              clear S2 hu3
              go_wp2_with fail
              refine ⟨rfl, ?_⟩
              rw [HX.out]
              exact ⟨rfl, HU3.out⟩
            | true =>
              have HX := Lib.hid (show LF = some (q, E) by rw [hLF, if_pos rfl, HP.out.out]; rfl)
              clear HP hLF S2
              have HQ := Lib.hid (HR2.out.put (m := E) hE2 (z := (E : Int)) rfl)
              have HV := Lib.hid (HU2.out.setCell (p := ⟨P, 2, none⟩) (Or.inr (by simp)) (.int .i64 (E : Int)))
              clear HR2 HU2
              go_wp2_with fail
              go_ret
              rw [HX.out]
              exact ⟨⟨rfl, HQ.out⟩, HV.out⟩
    · obtain rfl : Z = s.length := by omega
      obtain ⟨E, cl, hE1, hE2, hLF, hEE, hcl1⟩ : ∃ (E : Nat) (cl : Bool), s.length ≤ E ∧ E ≤ s.length ∧ LF = (if cl then (patO (cutS s m E)).map (fun t => (t, E)) else none) ∧ s.length = E ∧ cl = true := by
        have h0 := HLF2.out
        rw [show isB s s.length 40 = false by unfold isB; rw [List.getElem?_eq_none (Nat.le_refl _)]; rfl] at h0
        exact ⟨s.length, true, Nat.le_refl _, Nat.le_refl _, by rw [h0]; rfl, rfl, rfl⟩
      clear HLF2 HIX
      subst hEE
      go_upto_if 83 with (fail)
      go_cut [3, 4] (fun s3 s4 wx => s3 = .int .i64 s.length ∧ s4 = .bool cl ∧ wx = w1)
      case first =>
        clear S2 HE hLF HU HR
        subst hcl1
        go_wp2_with fail
        go_meet
        exact ⟨rfl, rfl, rfl⟩
      case rest =>
        obtain ⟨rfl, rfl, hww⟩ := hcut
        replace hww := hww.symm
        subst hww
        clear hcl1
        have hext : (⟨s.toArray⟩ : ByteArray).extract m s.length = ⟨(cutS s m s.length).toArray⟩ := extract_list s m s.length
        have hcl : (cutS s m s.length).length ≤ 1000000 := by rw [cutS_len hE2]; omega
        have T1 := Lib.hid (fun W (h : Upd [] w1 W) => patternOfI (cutS s m s.length) W hcl (HE.out W (HU.out.trans (h.mono (by simp)))))
        have hmE : (m : Int) ≤ (s.length : Int) := by omega
        have hEl : (s.length : Int) ≤ (s.length : Int) := by omega
        generalize cutS s m s.length = t at *
        clear HE hcl
        go_upto_region 10 with (fail)
        go_region_held3 (fun w' => w'.cell? ⟨P, 0, none⟩ = some (es s) ∧ w'.cell? ⟨P, 2, none⟩ = some (.int .i64 m)) (go_keep)
          (first
            | (go_at_call 75; (with_reducible refine (T1.out _ ((Upd.refl _ _).drew)).mono ?_); rintro e w2 ⟨⟨q, b, rfl, hp⟩, hu2⟩; have hV2 : Upd [] w1 w2 := Upd.trans ((Upd.refl _ _).drew) hu2; have x0 := hV2.keep c0; have x2 := hV2.keep c2))
        all_goals
          have HP := Lib.hid hp
          have HR2 := Lib.hid (HR.out.keep hV2)
          have HU2 := Lib.hid (HU.out.trans (hV2.mono (by simp)))
          have hfz : w2.frozen? ⟨P, 2, none⟩ = false := HR2.out.own.frozen (by simp) _
          clear hp hV2 hu2 T1 HR HU
          cases cl with
          | false =>
            have HX := Lib.hid (show LF = none by rw [hLF]; rfl)
            clear HP hLF
            cases b
            all_goals
              go_wp2_with fail
              refine (S2.out _ HR2.out).mono ?_
              rintro e w3 ⟨rfl, hu3⟩
              have HU3 := Lib.hid (HU2.out.trans hu3)
              clear S2 hu3
              go_wp2_with fail
              refine ⟨rfl, ?_⟩
              rw [HX.out]
              exact ⟨rfl, HU3.out⟩
          | true =>
            cases b with
            | false =>
              have HX := Lib.hid (show LF = none by rw [hLF, if_pos rfl, HP.out.out]; rfl)
              clear HP hLF
              go_wp2_with fail
              refine (S2.out _ HR2.out).mono ?_
              rintro e w3 ⟨rfl, hu3⟩
              have HU3 := Lib.hid (HU2.out.trans hu3)
              clear S2 hu3
              go_wp2_with fail
              refine ⟨rfl, ?_⟩
              rw [HX.out]
              exact ⟨rfl, HU3.out⟩
            | true =>
              have HX := Lib.hid (show LF = some (q, s.length) by rw [hLF, if_pos rfl, HP.out.out]; rfl)
              clear HP hLF S2
              have HQ := Lib.hid (HR2.out.put (m := s.length) hE2 (z := (s.length : Int)) rfl)
              have HV := Lib.hid (HU2.out.setCell (p := ⟨P, 2, none⟩) (Or.inr (by simp)) (.int .i64 (s.length : Int)))
              clear HR2 HU2
              go_wp2_with fail
              go_ret
              rw [HX.out]
              exact ⟨⟨rfl, HQ.out⟩, HV.out⟩

end Go.Proofs.YtaahjpmndkcijaaGreatDoor

/-
  Regular expressions parsed: a tree over trees that are made anew.
-/
namespace Go.Proofs.YtaahjpmndkcijaaGreatDoor
open Go.RowKit

/-- a tree over nothing, made anew. -/
theorem nodY0 (w : World) (a : Int) (l : List UInt8) (nt : Bool) (T : TypeId) : New R_Y w (w.alloc (.cells #[ei a, es l, .bool nt, .slice none 0 0] T)) (.pointer (some ⟨w.heap.size, 0, none⟩)) (.mk ⟨a, l, nt⟩ []) := by
  refine ⟨[w.heap.size], R_Y_mk (cell_new w _ _ _ rfl 0 _ rfl) (cell_new w _ _ _ rfl 1 _ rfl) (cell_new w _ _ _ rfl 2 _ rfl) (cell_new w _ _ _ rfl 3 _ rfl) ⟨_, [], [], [], rfl, flat_nil _ 1, rfl, rfl, by simp⟩, ⟨by simp, fun b hb => ?_⟩, by simp⟩
  obtain rfl : b = w.heap.size := by simpa using hb
  exact ⟨_, _, heap_alloc_new w _⟩

theorem nodYK {w0 w : World} {us : List Value} {fps : List (List Nat)} {xs : List (Tr Rg)} (hn : 0 < xs.length) (hn2 : xs.length ≤ 100) (h1 : us.length = xs.length) (h2 : fps.length = xs.length) (hs : w0.heap.size ≤ w.heap.size)
    (hr : ∀ i (h : i < xs.length) u (f : List Nat), us[i]? = some u → fps[i]? = some f → R_Y f w [u] xs[i]) (ho : Own fps.flatten w) (hg : ∀ b ∈ fps.flatten, w0.heap.size ≤ b) (a : Int) (l : List UInt8) (nt : Bool) (T1 T : TypeId) :
    New R_Y w0 ((w.alloc (.cells us.toArray T1)).alloc (.cells #[ei a, es l, .bool nt, .slice (some ⟨w.heap.size, 0, none⟩) xs.length xs.length] T)) (.pointer (some ⟨w.heap.size + 1, 0, none⟩)) (.mk ⟨a, l, nt⟩ xs) := by
  obtain ⟨w2, hw2⟩ : ∃ w2, (w.alloc (.cells us.toArray T1)).alloc (.cells #[ei a, es l, .bool nt, .slice (some ⟨w.heap.size, 0, none⟩) xs.length xs.length] T) = w2 := ⟨_, rfl⟩
  have hz : (w.alloc (.cells us.toArray T1)).heap.size = w.heap.size + 1 := by simp
  have c0 := cell_new (w.alloc (.cells us.toArray T1)) #[ei a, es l, .bool nt, .slice (some ⟨w.heap.size, 0, none⟩) xs.length xs.length] T _ rfl 0 _ rfl
  have c1 := cell_new (w.alloc (.cells us.toArray T1)) #[ei a, es l, .bool nt, .slice (some ⟨w.heap.size, 0, none⟩) xs.length xs.length] T _ rfl 1 _ rfl
  have c2 := cell_new (w.alloc (.cells us.toArray T1)) #[ei a, es l, .bool nt, .slice (some ⟨w.heap.size, 0, none⟩) xs.length xs.length] T _ rfl 2 _ rfl
  have c3 := cell_new (w.alloc (.cells us.toArray T1)) #[ei a, es l, .bool nt, .slice (some ⟨w.heap.size, 0, none⟩) xs.length xs.length] T _ rfl 3 _ rfl
  have hu : Upd [] w w2 := by rw [← hw2]; exact ((Upd.refl _ _).alloc _).alloc _
  have hb1 : w2.heap[w.heap.size]? = some (.cells us.toArray T1) := by rw [← hw2, Below.heap_alloc _ _ _ (by rw [hz]; omega)]; exact heap_alloc_new w _
  have hb2 : w2.heap[w.heap.size + 1]? = some (.cells #[ei a, es l, .bool nt, .slice (some ⟨w.heap.size, 0, none⟩) xs.length xs.length] T) := by rw [← hw2, ← hz]; exact heap_alloc_new _ _
  have hsz : w2.heap.size = w.heap.size + 2 := by rw [← hw2]; simp
  rw [hw2] at c0 c1 c2 c3 ⊢
  rw [hz] at c0 c1 c2 c3
  clear hw2
  have hfl : ∀ c ∈ fps.flatten, c < w.heap.size := ho.lt
  refine ⟨(w.heap.size + 1) :: ([w.heap.size] ++ fps.flatten), R_Y_mk c0 c1 c2 c3 ⟨_, us, [w.heap.size], fps, rfl, ⟨_, xs.length, rfl, Nat.le_refl _, by unfold maxLen; omega, by omega, Or.inr ⟨_, 0, rfl, rfl, by omega, fun j u hu => ?_⟩⟩, h2, rfl, fun i hi u f hu' hf => ?_⟩, ⟨?_, fun c hc => ?_⟩, fun c hc => ?_⟩
  · rw [Nat.zero_add]
    simp [World.cell?, hb1, hu]
  · exact R_Yk.upd (hr i hi u f hu' hf) hu (by simp)
  · rw [List.singleton_append, List.nodup_cons, List.nodup_cons]
    refine ⟨fun hm => ?_, fun hm => ?_, ho.1⟩
    · rcases List.mem_cons.1 hm with h | h
      · omega
      · have := hfl _ h; omega
    · have := hfl _ hm; omega
  · rcases List.mem_cons.1 hc with rfl | hc
    · exact ⟨_, _, hb2⟩
    · rcases List.mem_append.1 hc with hc | hc
      · obtain rfl : c = w.heap.size := by simpa using hc
        exact ⟨_, _, hb1⟩
      · obtain ⟨q, t, hq⟩ := ho.2 c hc
        exact ⟨q, t, by rw [hu.block c (hfl c hc) (by simp)]; exact hq⟩
  · rcases List.mem_cons.1 hc with rfl | hc
    · omega
    · rcases List.mem_append.1 hc with hc | hc
      · obtain rfl : c = w.heap.size := by simpa using hc
        omega
      · exact hg c hc

/-- a tree over one tree. -/
theorem nodY1 {w0 w : World} {v : Value} {x : Tr Rg} (h : New R_Y w0 w v x) (hs : w0.heap.size ≤ w.heap.size) (a : Int) (l : List UInt8) (nt : Bool) (T1 T : TypeId) :
    New R_Y w0 ((w.alloc (.cells #[v] T1)).alloc (.cells #[ei a, es l, .bool nt, .slice (some ⟨w.heap.size, 0, none⟩) 1 1] T)) (.pointer (some ⟨w.heap.size + 1, 0, none⟩)) (.mk ⟨a, l, nt⟩ [x]) := by
  obtain ⟨fp, h1, h2, h3⟩ := h
  exact nodYK (us := [v]) (fps := [fp]) (xs := [x]) (by simp) (by simp) rfl rfl hs (fun i hi u f hu hf => by
    match i, hi, hu, hf with
    | 0, _, hu, hf => simp at hu hf; subst hu hf; exact h1) (by simpa using h2) (by simpa using h3) a l nt T1 T
/-- a tree over two trees; the second is made behind the first. -/
theorem nodY2 {w0 w1 w : World} {u v : Value} {x y : Tr Rg} {f : List Nat} (hx : New R_Y w0 w1 u x) (hu : Upd f w1 w) (hf : ∀ b ∈ f, b < w0.heap.size) (hy : New R_Y w1 w v y) (hs : w0.heap.size ≤ w1.heap.size) (a : Int) (l : List UInt8) (nt : Bool) (T1 T : TypeId) :
    New R_Y w0 ((w.alloc (.cells #[u, v] T1)).alloc (.cells #[ei a, es l, .bool nt, .slice (some ⟨w.heap.size, 0, none⟩) 2 2] T)) (.pointer (some ⟨w.heap.size + 1, 0, none⟩)) (.mk ⟨a, l, nt⟩ [x, y]) := by
  obtain ⟨fx, x1, x2, x3⟩ := hx
  obtain ⟨fy, y1, y2, y3⟩ := hy
  have hd : ∀ b ∈ fx, b ∉ f := fun b hb hm => by have := hf b hm; have := x3 b hb; omega
  have x1' := R_Yk.upd x1 hu hd
  have x2' := x2.upd hu hd
  have hxl := x2.lt
  refine nodYK (us := [u, v]) (fps := [fx, fy]) (xs := [x, y]) (by simp) (by simp) rfl rfl (by have := hu.size; omega) (fun i hi q g hq hg => ?_) ⟨?_, fun c hc => ?_⟩ (fun c hc => ?_) a l nt T1 T
  · match i, hi, hq, hg with
    | 0, _, hq, hg => simp at hq hg; subst hq hg; exact x1'
    | 1, _, hq, hg => simp at hq hg; subst hq hg; exact y1
  · simp only [List.flatten_cons, List.flatten_nil, List.append_nil]
    exact List.nodup_append.2 ⟨x2'.1, y2.1, fun p hp q hq e => by subst e; have := hxl p hp; have := y3 p hq; omega⟩
  · simp only [List.flatten_cons, List.flatten_nil, List.append_nil, List.mem_append] at hc
    rcases hc with h | h
    · exact x2'.2 c h
    · exact y2.2 c h
  · simp only [List.flatten_cons, List.flatten_nil, List.append_nil, List.mem_append] at hc
    rcases hc with h | h
    · exact x3 c h
    · have := y3 c h; omega

end Go.Proofs.YtaahjpmndkcijaaGreatDoor

/-
  Regular expressions parsed: the program reads atoms, sequences, alternatives.
-/
namespace Go.Proofs.YtaahjpmndkcijaaGreatDoor
open Go.RowKit

/-- what is parsed: a tree made anew and where the reader stands behind it, or the first error. -/
def ParR (P : Nat) (w : World) (s : List UInt8) (f : Bool) (u : Int) (r : Except Nat (Tr Rg × Nat)) (e : Ending) (w' : World) : Prop :=
  (match r with
  | .ok (x, p) => (∃ v, e = .returned v ∧ New R_Y w w' v x) ∧ RdAt P w' s p f u
  | .error a => e = synE a) ∧ Upd [P] w w'

theorem heap_lt {w : World} {b : Nat} {o : Obj} (h : w.heap[b]? = some o) : b < w.heap.size := (Array.getElem?_eq_some_iff.1 h).1
theorem New.leaf {w0 w : World} {v : Value} {l0 l : List UInt8} {nt : Bool} {b : Nat} {T : TypeId} (h : w.heap[b]? = some (.cells #[ei 0, es l0, .bool nt, .slice none 0 0] T)) (hb : w0.heap.size ≤ b) (hv : v = .pointer (some ⟨b, 0, none⟩)) :
    New R_Y w0 (w.setCell ⟨b, 1, none⟩ (es l)) v (leafR l nt) := by
  subst hv
  have h2 := heap_setCell_same w b 1 _ _ (es l) h
  have hc : ∀ j, (w.setCell ⟨b, 1, none⟩ (es l)).cell? ⟨b, j, none⟩ = (#[ei 0, es l0, .bool nt, .slice none 0 0].setIfInBounds 1 (es l))[j]? := fun j => by simp [World.cell?, h2]
  refine ⟨[b], R_Y_mk (by rw [hc]; rfl) (by rw [hc]; rfl) (by rw [hc]; rfl) (by rw [hc]; rfl) (slP_nilv _ _), ⟨by simp, fun c hcc => ?_⟩, fun c hcc => (by simp at hcc; omega)⟩
  obtain rfl : c = b := by simpa using hcc
  exact ⟨_, _, h2⟩

set_option maxRecDepth 20000 in
set_option maxHeartbeats 8000000 in
theorem atomR (k P : Nat) (w : World) (s : List UInt8) (n : Nat) (f : Bool) (u : Int) (hs : s.length ≤ 1000000) (hR : RdAt P w s n f u) (hE : ∀ W, Upd [P] w W → Env W)
    (hI : ∀ W n', n < n' → n' ≤ s.length → RdAt P W s n' f u → Upd [P] w W → Calls Tryz.prog 32 #[.pointer (some ⟨P, 0, none⟩)] W (ParR P W s f u (eitherF s k n'))) :
    Calls Tryz.prog 51 #[.pointer (some ⟨P, 0, none⟩)] w (ParR P w s f u (atomF s (k + 1) n)) := by
  have hpos := skR_le hR.le
  have B1 := byteR P w s n f u 40 hs hR
  unfold ByR at B1
  rw [show (((40 : UInt8).toNat : Nat) : Int) = 40 from rfl] at B1
  have hmm : skR s (skR s n) = skR s n := skR_idem hR.le
  have hPl := hR.lt
  have HA := Lib.hid (show atomF s (k + 1) n = _ from by rw [atomF])
  generalize atomF s (k + 1) n = A at *
  generalize skR s n = m at *
  obtain ⟨q, hq⟩ : ∃ q, isB s m 40 = q := ⟨_, rfl⟩
  rw [hq] at B1 HA
  have HI := Lib.hid hI
  have HE := Lib.hid hE
  have HB1 := Lib.hid B1
  clear hI hE hR B1
  go_enter Tryz.func51, Tryz.ntmps51
  go_wp2_with fail
  refine HB1.out.mono ?_
  rintro e w1 ⟨rfl, hr, hu⟩
  have HR1 := Lib.hid hr
  have HU1 := Lib.hid hu
  clear HB1 hr hu
  go_upto_if 6 with (fail)
  go_cut [3] (fun s3 wx => ∃ x0 n0, New R_Y w wx s3 x0 ∧ RdAt P wx s n0 f u ∧ Upd [P] w wx ∧ n0 ≤ s.length ∧ A = .ok (starsF s s.length x0 n0))
  case first =>
    cases q with
    | true =>
      have hlt := isB_lt hq
      rw [if_pos rfl] at HR1
      have E1 := HI.out w1 (m + 1) (by omega) (by omega) HR1.out HU1.out
      have HA2 := HA.out
      rw [if_pos rfl] at HA2
      cases he : eitherF s k (m + 1) with
      | error a =>
        rw [he] at E1 HA2
        have HX := Lib.hid HA2
        have HE1 := Lib.hid E1
        clear E1 HA2 HA HI HE HR1 he
        go_wp2_with fail
        refine HE1.out.mono ?_
        rintro e w2 ⟨rfl, hu2⟩
        have HU2 := Lib.hid (HU1.out.trans hu2)
        clear HE1 hu2
        go_wp2_with fail
        refine ⟨rfl, ?_⟩
        rw [HX.out]
        exact ⟨rfl, HU2.out⟩
      | ok r =>
        obtain ⟨x, p⟩ := r
        rw [he] at E1 HA2
        have hp := eitherF_pos k _ x p (by omega) he
        simp only at HA2
        have HX := Lib.hid HA2
        have HE1 := Lib.hid E1
        have hp3 := hp.2.2
        have hp1 : n ≤ p := by have := hp.1; omega
        have hp2 := hp.2.1
        clear E1 HA2 HA HI HE HR1 he hp
        go_wp2_with fail
        refine HE1.out.mono ?_
        rintro e w2 ⟨⟨⟨v, rfl, hn⟩, hr2⟩, hu2⟩
        have HN := Lib.hid (hn.mono HU1.out.size)
        have HU2 := Lib.hid (HU1.out.trans hu2)
        have N1 := needR P w2 s p f u 41 hs hr2
        rw [hp3, show (((41 : UInt8).toNat : Nat) : Int) = 41 from rfl] at N1
        clear HE1 hu2 hn hr2
        cases h41 : isB s p 41 with
        | true =>
          rw [h41] at N1 HX
          rw [if_pos rfl] at HX
          simp only [↓reduceIte] at N1
          have hpl := isB_lt h41
          have HN1 := Lib.hid N1
          clear N1 h41
          go_wp2_with fail
          refine HN1.out.mono ?_
          rintro e w3 ⟨⟨rfl, hr3⟩, hu3⟩
          have HU3 := Lib.hid (HU2.out.trans hu3)
          have HN3 := Lib.hid (R_Yk.new HN.out hu3 (by simp; exact hPl))
          have HR3 := Lib.hid hr3
          clear HN1 hu3 hr3 HN HU2
          go_wp2_with fail
          go_meet
          exact ⟨x, p + 1, HN3.out, HR3.out, HU3.out, by omega, HX.out⟩
        | false =>
          rw [h41] at N1 HX
          rw [if_neg (by decide)] at HX
          simp only [Bool.false_eq_true, ↓reduceIte] at N1
          have HN1 := Lib.hid N1
          clear N1 h41
          go_wp2_with fail
          refine HN1.out.mono ?_
          rintro e w3 ⟨rfl, hu3⟩
          have HU3 := Lib.hid (HU2.out.trans hu3)
          clear HN1 hu3 HN HU2
          go_wp2_with fail
          refine ⟨rfl, ?_⟩
          rw [HX.out]
          exact ⟨rfl, HU3.out⟩
    | false =>
      rw [if_neg (by decide)] at HR1
      have HA2 := HA.out
      rw [if_neg (by decide)] at HA2
      have B2 := byteR P w1 s m f u 33 hs HR1.out
      unfold ByR at B2
      rw [hmm, show (((33 : UInt8).toNat : Nat) : Int) = 33 from rfl] at B2
      obtain ⟨nt, hnt⟩ : ∃ nt, isB s m 33 = nt := ⟨_, rfl⟩
      rw [hnt] at B2
      have HTP := Lib.hid (show testP s m = _ from by rw [testP, hnt])
      generalize testP s m = TP at *
      have HB2 := Lib.hid B2
      have HX := Lib.hid HA2
      clear HA HI HA2 B2
      go_wp2_with fail
      refine HB2.out.mono ?_
      rintro e w2 ⟨rfl, hr2, hu2⟩
      have HU2 := Lib.hid (HU1.out.trans hu2)
      -- where the reader stands behind the blanks that follow '!'
      have hm2 : (if nt then m + 1 else m) ≤ s.length := hr2.le
      obtain ⟨m2, hm2e⟩ : ∃ m2, (if nt = true then skR s (m + 1) else m) = m2 := ⟨_, rfl⟩
      have hsk : skR s (if nt = true then m + 1 else m) = m2 := by
        rw [← hm2e]
        cases nt
        · exact hmm
        · rfl
      rw [hm2e] at HTP
      have hm2l : m2 ≤ s.length := by rw [← hsk]; exact (skR_le hm2).2
      have hmm2 : skR s m2 = m2 := by rw [← hsk]; exact skR_idem hm2
      have HR2 := Lib.hid hr2
      clear HB2 hu2 hr2 hm2e
      go_upto_region 7 with (fail)
      obtain ⟨B, hB⟩ : ∃ B, w2.heap.size = B := ⟨_, rfl⟩
      obtain ⟨w3, hw3⟩ : ∃ w3, w3 = w2.alloc (.cells #[.int .i64 0, .string ⟨#[]⟩, .bool nt, .slice none 0 0] 68) := ⟨_, rfl⟩
      have hu3 : Upd [] w2 w3 := by rw [hw3]; exact (Upd.refl _ _).alloc _
      have hb3 : w3.heap[B]? = some (.cells #[ei 0, es [], .bool nt, .slice none 0 0] 68) := by rw [hw3, ← hB]; exact heap_alloc_new w2 _
      have hn3 : New R_Y w2 w3 (.pointer (some ⟨B, 0, none⟩)) (leafR [] nt) := by rw [hw3, ← hB]; exact nodY0 w2 0 [] nt _
      have hBw : w.heap.size ≤ B := by rw [← hB]; exact HU2.out.size
      have hPB : P ≠ B := by omega
      have HN3 := Lib.hid (hn3.mono HU2.out.size)
      have HR3 := Lib.hid (HR2.out.keep hu3)
      have HU3 := Lib.hid (HU2.out.trans (hu3.mono (by simp)))
      have B3 := byteR P w3 s _ f u 95 hs HR3.out
      unfold ByR at B3
      rw [hsk, show (((95 : UInt8).toNat : Nat) : Int) = 95 from rfl] at B3
      obtain ⟨q5, hq5⟩ : ∃ q, isB s m2 95 = q := ⟨_, rfl⟩
      rw [hq5] at B3 HTP
      have HB3 := Lib.hid B3
      have H3 := Lib.hid hb3
      rw [← hw3, hB]
      clear hw3 hB hu3 hb3 hn3 B3 HR3 HR2 HU2
      go_wp2_with fail
      refine HB3.out.mono ?_
      rintro e w4 ⟨rfl, hr4, hu4⟩
      have HU4 := Lib.hid (HU3.out.trans hu4)
      have HN4 := Lib.hid (R_Yk.new HN3.out hu4 (by simp; exact hPl))
      have H4 := Lib.hid ((hu4.block B (heap_lt H3.out) (by simp; omega)).trans H3.out)
      cases q5 with
      | true =>
        have hl5 := isB_lt hq5
        rw [if_pos rfl] at hr4
        have HR4 := Lib.hid hr4
        have HX2 := Lib.hid (show A = .ok (starsF s s.length (leafR [] nt) (m2 + 1)) by rw [HX.out, HTP.out]; rfl)
        clear HB3 HX HTP H3 HN3 HU3 hr4 hu4 H4 HE
        go_wp2_with fail
        go_meet
        exact ⟨leafR [] nt, m2 + 1, HN4.out, HR4.out, HU4.out, by omega, HX2.out⟩
      | false =>
        rw [if_neg (by decide)] at hr4
        have L5 := labelR P w4 s m2 f u hs hr4 (fun W h => HE.out W (HU4.out.trans h))
        rw [hmm2] at L5
        have HLp := Lib.hid (fun t p (h : labF s m2 = some (t, p)) => labF_pos hm2l h)
        have HTP2 := Lib.hid (show TP = (match labF s m2 with | none => .error m2 | some (l, e) => .ok (leafR l nt, e)) by rw [HTP.out]; rfl)
        clear HB3 HTP H3 HN3 HU3 hr4 hu4 HN4 HE
        cases hlf : labF s m2 with
        | none =>
          rw [hlf] at L5 HTP2
          have HX2 := Lib.hid (show A = .error m2 by rw [HX.out, HTP2.out])
          have HL5 := Lib.hid L5
          clear L5 HTP2 HX HLp hlf H4
          go_wp2_with fail
          refine HL5.out.mono ?_
          rintro e w5 ⟨rfl, hu5⟩
          have HU5 := Lib.hid (HU4.out.trans hu5)
          clear HL5 hu5
          go_wp2_with fail
          refine ⟨rfl, ?_⟩
          rw [HX2.out]
          exact ⟨rfl, HU5.out⟩
        | some r =>
          obtain ⟨l, p⟩ := r
          rw [hlf] at L5 HTP2
          have HX2 := Lib.hid (show A = .ok (starsF s s.length (leafR l nt) p) by rw [HX.out, HTP2.out])
          have HL5 := Lib.hid L5
          have hpp := (HLp.out l p hlf).2
          clear L5 HTP2 HX HLp hlf
          go_wp2_with fail
          refine HL5.out.mono ?_
          rintro e w5 ⟨⟨rfl, hr5⟩, hu5⟩
          have h5 := (hu5.block B (heap_lt H4.out) (by simp; omega)).trans H4.out
          have c51 : w5.cell? ⟨B, 1, none⟩ = some (es []) := by simp [World.cell?, h5]
          have f51 : w5.frozen? ⟨B, 1, none⟩ = false := by simp [World.frozen?, h5]
          have HU5 := Lib.hid (HU4.out.trans hu5)
          have HN5 := Lib.hid (New.leaf (w0 := w) (l := l) h5 hBw rfl)
          have HV5 := Lib.hid (show Upd [B] w5 (w5.setCell ⟨B, 1, none⟩ (es l)) from (Upd.refl _ _).setCell (Or.inr (by simp)) _)
          have HR5 := Lib.hid (hr5.far HV5.out (by simp; exact hPB))
          have HU6 := Lib.hid (show Upd [P] w (w5.setCell ⟨B, 1, none⟩ (es l)) from HU5.out.setCell (Or.inl hBw) _)
          clear HL5 hu5 hr5 h5 H4 HV5 HU5
          go_wp2_with fail
          go_meet
          exact ⟨leafR l nt, p, HN5.out, HR5.out, HU6.out, hpp, HX2.out⟩
  case rest =>
    obtain ⟨x0, n0, hn0, hr0, hu0, hn0l, hA⟩ := hcut
    have HAE := Lib.hid hA
    have HN0 := Lib.hid hn0
    have HR0 := Lib.hid hr0
    have HU0 := Lib.hid hu0
    clear hn0 hr0 hu0 hA HA HI HE HR1 HU1
    generalize hS : starsF s s.length x0 n0 = S at *
    go_wp2_with fail
    go_loopw [3] (fun sv wr => ∃ (v : Value) (x' : Tr Rg) (n' j : Nat), v = sv ∧ n' ≤ s.length ∧ s.length ≤ j + n' ∧ Hid (starsF s j x' n' = S) ∧ Hid (New R_Y w wr v x') ∧ Hid (RdAt P wr s n' f u) ∧ Hid (Upd [P] w wr)) (fun _ wr => s.length - (intOf ((wr.cell? ⟨P, 2, none⟩).getD undef)).toNat)
    case atStart => exact ⟨_, x0, n0, s.length, rfl, hn0l, by omega, Lib.hid hS, HN0, HR0, HU0⟩
    case round =>
      clear hS HN0 HR0 HU0 hn0l
      obtain ⟨wo, rfl⟩ : ∃ wo : World, wo = wr := ⟨_, rfl⟩
      obtain ⟨v, x', n', j, rfl, hn', hj, HS, HN', HR', HU'⟩ := hrel
      obtain ⟨bv, rfl⟩ : ∃ b, v = .pointer (some ⟨b, 0, none⟩) := by obtain ⟨fp, h, -⟩ := HN'.out; exact R_T_form h
      have B9 := byteR P wo s n' f u 42 hs HR'.out
      unfold ByR at B9
      rw [show (((42 : UInt8).toNat : Nat) : Int) = 42 from rfl] at B9
      have hsk9 := skR_le (s := s) (n := n') hn'
      have hM := HR'.out.c2
      have HM := Lib.hid (show intOf ((wo.cell? ⟨P, 2, none⟩).getD undef) = n' by rw [hM]; rfl)
      obtain ⟨q9, hq9⟩ : ∃ q, isB s (skR s n') 42 = q := ⟨_, rfl⟩
      have HQ0 := Lib.hid (show q9 = false → S = (x', skR s n') from fun h => by
        rw [← HS.out]
        cases j with
        | zero => rfl
        | succ j => rw [starsF, if_neg (by rw [hq9, h]; decide)])
      have HQ1 := Lib.hid (show q9 = true → ∃ j', s.length ≤ j' + (skR s n' + 1) ∧ skR s n' + 1 ≤ s.length ∧ starsF s j' (starR x') (skR s n' + 1) = S from fun h => by
        rw [h] at hq9
        have hlt := isB_lt hq9
        cases j with
        | zero => omega
        | succ j =>
          refine ⟨j, by omega, by omega, ?_⟩
          rw [← HS.out, starsF, if_pos hq9])
      rw [hq9] at B9
      have HB9 := Lib.hid B9
      clear HS B9 hq9 hM HR'
      generalize skR s n' = m' at *
      go_wp2_with fail
      refine HB9.out.mono ?_
      rintro e w2 ⟨rfl, hr2, hu2⟩
      have HU2 := Lib.hid (HU'.out.trans hu2)
      have HN2 := Lib.hid (R_Yk.new HN'.out hu2 (by simp; exact hPl))
      clear HB9 HU' HN' hu2
      cases q9 with
      | true =>
        obtain ⟨j', j1, j2, j3⟩ := HQ1.out rfl
        have HJ3 := Lib.hid j3
        rw [if_pos rfl] at hr2
        have HW := Lib.hid (nodY1 HN2.out HU2.out.size 3 [] false 48 68)
        have HV := Lib.hid (show Upd [] w2 ((w2.alloc (.cells #[.pointer (some ⟨bv, 0, none⟩)] 48)).alloc (.cells #[ei 3, es [], .bool false, .slice (some ⟨w2.heap.size, 0, none⟩) 1 1] 68)) from ((Upd.refl _ _).alloc _).alloc _)
        have HR2 := Lib.hid (hr2.keep HV.out)
        have HV2 := Lib.hid (HU2.out.trans (HV.out.mono (by simp)))
        have HM2 := Lib.hid (show intOf ((((w2.alloc (.cells #[.pointer (some ⟨bv, 0, none⟩)] 48)).alloc (.cells #[ei 3, es [], .bool false, .slice (some ⟨w2.heap.size, 0, none⟩) 1 1] 68)).cell? ⟨P, 2, none⟩).getD undef) = (m' + 1 : Nat) by rw [HR2.out.c2]; rfl)
        clear HQ0 HQ1 j3 HU2 HN2 hr2 HV
        go_wp2_with fail
        go_roundw
        case rel => exact ⟨_, starR x', m' + 1, j', rfl, j2, j1, HJ3, HW, HR2, HV2⟩
        case measure =>
          have h1 := HM.out
          have h2 := HM2.out
          refine (show s.length - (intOf _).toNat < s.length - (intOf _).toNat from ?_)
          rw [h1]
          refine Nat.lt_of_le_of_lt (Nat.le_of_eq (congrArg (fun z : Int => s.length - z.toNat) h2)) ?_
          simp; omega
      | false =>
        have HX := Lib.hid (show A = .ok (x', m') by rw [HAE.out, HQ0.out rfl])
        rw [if_neg (by decide)] at hr2
        have HR2 := Lib.hid hr2
        clear HQ0 HQ1 hr2 HAE
        go_wp2_with fail
        go_ret
        rw [HX.out]
        exact ⟨⟨⟨_, rfl, HN2.out⟩, HR2.out⟩, HU2.out⟩

set_option maxRecDepth 20000 in
set_option maxHeartbeats 8000000 in
theorem thenR (k P : Nat) (w : World) (s : List UInt8) (n : Nat) (f : Bool) (u : Int) (hs : s.length ≤ 1000000) (hR : RdAt P w s n f u)
    (hA : Calls Tryz.prog 51 #[.pointer (some ⟨P, 0, none⟩)] w (ParR P w s f u (atomF s k n)))
    (hI : ∀ W n', n < n' → n' ≤ s.length → RdAt P W s n' f u → Upd [P] w W → Calls Tryz.prog 42 #[.pointer (some ⟨P, 0, none⟩)] W (ParR P W s f u (thenF s k n'))) :
    Calls Tryz.prog 42 #[.pointer (some ⟨P, 0, none⟩)] w (ParR P w s f u (thenF s (k + 1) n)) := by
  have hPl := hR.lt
  have hnl := hR.le
  have HX := Lib.hid (show thenF s (k + 1) n = _ from by rw [thenF])
  generalize thenF s (k + 1) n = A at *
  have HI := Lib.hid hI
  clear hI hR
  cases ha : atomF s k n with
  | error a =>
    rw [ha] at hA HX
    have HA := Lib.hid hA
    have HY := Lib.hid (show A = .error a from HX.out)
    clear ha hA HX HI
    go_enter Tryz.func42, Tryz.ntmps42
    go_wp2_with fail
    refine HA.out.mono ?_
    rintro e w1 ⟨rfl, hu⟩
    have HU := Lib.hid hu
    clear HA hu
    go_wp2_with fail
    refine ⟨rfl, ?_⟩
    rw [HY.out]
    exact ⟨rfl, HU.out⟩
  | ok r =>
    obtain ⟨x, p⟩ := r
    rw [ha] at hA HX
    have hp := atomF_pos k _ x p hnl ha
    have hp3 := hp.2.2
    have hp1 := hp.1
    have hp2 := hp.2.1
    have HA := Lib.hid hA
    have HY := Lib.hid (show A = (if isB s p 46 then (match thenF s k (p + 1) with | .error e => .error e | .ok (y, q) => .ok (twoR 1 x y, q)) else .ok (x, p)) from HX.out)
    clear ha hA HX hp
    go_enter Tryz.func42, Tryz.ntmps42
    go_wp2_with fail
    refine HA.out.mono ?_
    rintro e w1 ⟨⟨⟨v, rfl, hn⟩, hr⟩, hu⟩
    obtain ⟨bv, rfl⟩ : ∃ b, v = .pointer (some ⟨b, 0, none⟩) := by obtain ⟨fp, h, -⟩ := hn; exact R_T_form h
    have B2 := byteR P w1 s p f u 46 hs hr
    unfold ByR at B2
    rw [hp3, show (((46 : UInt8).toNat : Nat) : Int) = 46 from rfl] at B2
    obtain ⟨q, hq⟩ : ∃ q, isB s p 46 = q := ⟨_, rfl⟩
    rw [hq] at B2 HY
    have HB2 := Lib.hid B2
    have HN := Lib.hid hn
    have HU := Lib.hid hu
    clear HA B2 hn hu hr
    go_wp2_with fail
    refine HB2.out.mono ?_
    rintro e w2 ⟨rfl, hr2, hu2⟩
    have HU2 := Lib.hid (HU.out.trans hu2)
    have HN2 := Lib.hid (R_Yk.new HN.out hu2 (by simp; exact hPl))
    clear HB2 hu2 HN HU
    cases q with
    | false =>
      rw [if_neg (by decide)] at hr2
      have HR2 := Lib.hid hr2
      have HZ := Lib.hid (show A = .ok (x, p) by rw [HY.out]; rfl)
      clear hr2 HY HI
      go_wp2_with fail
      go_ret
      rw [HZ.out]
      exact ⟨⟨⟨_, rfl, HN2.out⟩, HR2.out⟩, HU2.out⟩
    | true =>
      have hlt := isB_lt hq
      rw [if_pos rfl] at hr2
      have E1 := HI.out w2 (p + 1) (by omega) (by omega) hr2 HU2.out
      have hY2 := HY.out
      rw [if_pos rfl] at hY2
      clear HI hr2 HY
      cases he : thenF s k (p + 1) with
      | error a =>
        rw [he] at E1 hY2
        have HE1 := Lib.hid E1
        have HZ := Lib.hid hY2
        clear E1 hY2 he
        go_wp2_with fail
        refine HE1.out.mono ?_
        rintro e w3 ⟨rfl, hu3⟩
        have HU3 := Lib.hid (HU2.out.trans hu3)
        clear HE1 hu3
        go_wp2_with fail
        refine ⟨rfl, ?_⟩
        rw [HZ.out]
        exact ⟨rfl, HU3.out⟩
      | ok r =>
        obtain ⟨y, q'⟩ := r
        rw [he] at E1 hY2
        have HE1 := Lib.hid E1
        have HZ := Lib.hid (show A = .ok (twoR 1 x y, q') from hY2)
        clear E1 hY2 he
        go_wp2_with fail
        refine HE1.out.mono ?_
        rintro e w3 ⟨⟨⟨v2, rfl, hn3⟩, hr3⟩, hu3⟩
        obtain ⟨bw, rfl⟩ : ∃ b, v2 = .pointer (some ⟨b, 0, none⟩) := by obtain ⟨fp, h, -⟩ := hn3; exact R_T_form h
        have hs2 := HU2.out.size
        have HN3 := Lib.hid (nodY2 HN2.out hu3 (by simp; exact hPl) hn3 hs2 1 [] false 48 68)
        have HV := Lib.hid (show Upd [] w3 ((w3.alloc (.cells #[.pointer (some ⟨bv, 0, none⟩), .pointer (some ⟨bw, 0, none⟩)] 48)).alloc (.cells #[ei 1, es [], .bool false, .slice (some ⟨w3.heap.size, 0, none⟩) 2 2] 68)) from ((Upd.refl _ _).alloc _).alloc _)
        have HR3 := Lib.hid (hr3.keep HV.out)
        have HU3 := Lib.hid ((HU2.out.trans hu3).trans (HV.out.mono (by simp)))
        clear HE1 hu3 hr3 hn3 HU2 HN2 HV
        go_wp2_with fail
        go_ret
        rw [HZ.out]
        exact ⟨⟨⟨_, rfl, HN3.out⟩, HR3.out⟩, HU3.out⟩

set_option maxRecDepth 20000 in
set_option maxHeartbeats 8000000 in
theorem eitherR (k P : Nat) (w : World) (s : List UInt8) (n : Nat) (f : Bool) (u : Int) (hs : s.length ≤ 1000000) (hR : RdAt P w s n f u)
    (hA : Calls Tryz.prog 42 #[.pointer (some ⟨P, 0, none⟩)] w (ParR P w s f u (thenF s k n)))
    (hI : ∀ W n', n < n' → n' ≤ s.length → RdAt P W s n' f u → Upd [P] w W → Calls Tryz.prog 32 #[.pointer (some ⟨P, 0, none⟩)] W (ParR P W s f u (eitherF s k n'))) :
    Calls Tryz.prog 32 #[.pointer (some ⟨P, 0, none⟩)] w (ParR P w s f u (eitherF s (k + 1) n)) := by
  have hPl := hR.lt
  have hnl := hR.le
  have HX := Lib.hid (show eitherF s (k + 1) n = _ from by rw [eitherF])
  generalize eitherF s (k + 1) n = A at *
  have HI := Lib.hid hI
  clear hI hR
  cases ha : thenF s k n with
  | error a =>
    rw [ha] at hA HX
    have HA := Lib.hid hA
    have HY := Lib.hid (show A = .error a from HX.out)
    clear ha hA HX HI
    go_enter Tryz.func32, Tryz.ntmps32
    go_wp2_with fail
    refine HA.out.mono ?_
    rintro e w1 ⟨rfl, hu⟩
    have HU := Lib.hid hu
    clear HA hu
    go_wp2_with fail
    refine ⟨rfl, ?_⟩
    rw [HY.out]
    exact ⟨rfl, HU.out⟩
  | ok r =>
    obtain ⟨x, p⟩ := r
    rw [ha] at hA HX
    have hp := thenF_pos k _ x p hnl ha
    have hp3 := hp.2.2
    have hp1 := hp.1
    have hp2 := hp.2.1
    have HA := Lib.hid hA
    have HY := Lib.hid (show A = (if isB s p 43 then (match eitherF s k (p + 1) with | .error e => .error e | .ok (y, q) => .ok (twoR 2 x y, q)) else .ok (x, p)) from HX.out)
    clear ha hA HX hp
    go_enter Tryz.func32, Tryz.ntmps32
    go_wp2_with fail
    refine HA.out.mono ?_
    rintro e w1 ⟨⟨⟨v, rfl, hn⟩, hr⟩, hu⟩
    obtain ⟨bv, rfl⟩ : ∃ b, v = .pointer (some ⟨b, 0, none⟩) := by obtain ⟨fp, h, -⟩ := hn; exact R_T_form h
    have B2 := byteR P w1 s p f u 43 hs hr
    unfold ByR at B2
    rw [hp3, show (((43 : UInt8).toNat : Nat) : Int) = 43 from rfl] at B2
    obtain ⟨q, hq⟩ : ∃ q, isB s p 43 = q := ⟨_, rfl⟩
    rw [hq] at B2 HY
    have HB2 := Lib.hid B2
    have HN := Lib.hid hn
    have HU := Lib.hid hu
    clear HA B2 hn hu hr
    go_wp2_with fail
    refine HB2.out.mono ?_
    rintro e w2 ⟨rfl, hr2, hu2⟩
    have HU2 := Lib.hid (HU.out.trans hu2)
    have HN2 := Lib.hid (R_Yk.new HN.out hu2 (by simp; exact hPl))
    clear HB2 hu2 HN HU
    cases q with
    | false =>
      rw [if_neg (by decide)] at hr2
      have HR2 := Lib.hid hr2
      have HZ := Lib.hid (show A = .ok (x, p) by rw [HY.out]; rfl)
      clear hr2 HY HI
      go_wp2_with fail
      go_ret
      rw [HZ.out]
      exact ⟨⟨⟨_, rfl, HN2.out⟩, HR2.out⟩, HU2.out⟩
    | true =>
      have hlt := isB_lt hq
      rw [if_pos rfl] at hr2
      have E1 := HI.out w2 (p + 1) (by omega) (by omega) hr2 HU2.out
      have hY2 := HY.out
      rw [if_pos rfl] at hY2
      clear HI hr2 HY
      cases he : eitherF s k (p + 1) with
      | error a =>
        rw [he] at E1 hY2
        have HE1 := Lib.hid E1
        have HZ := Lib.hid hY2
        clear E1 hY2 he
        go_wp2_with fail
        refine HE1.out.mono ?_
        rintro e w3 ⟨rfl, hu3⟩
        have HU3 := Lib.hid (HU2.out.trans hu3)
        clear HE1 hu3
        go_wp2_with fail
        refine ⟨rfl, ?_⟩
        rw [HZ.out]
        exact ⟨rfl, HU3.out⟩
      | ok r =>
        obtain ⟨y, q'⟩ := r
        rw [he] at E1 hY2
        have HE1 := Lib.hid E1
        have HZ := Lib.hid (show A = .ok (twoR 2 x y, q') from hY2)
        clear E1 hY2 he
        go_wp2_with fail
        refine HE1.out.mono ?_
        rintro e w3 ⟨⟨⟨v2, rfl, hn3⟩, hr3⟩, hu3⟩
        obtain ⟨bw, rfl⟩ : ∃ b, v2 = .pointer (some ⟨b, 0, none⟩) := by obtain ⟨fp, h, -⟩ := hn3; exact R_T_form h
        have hs2 := HU2.out.size
        have HN3 := Lib.hid (nodY2 HN2.out hu3 (by simp; exact hPl) hn3 hs2 2 [] false 48 68)
        have HV := Lib.hid (show Upd [] w3 ((w3.alloc (.cells #[.pointer (some ⟨bv, 0, none⟩), .pointer (some ⟨bw, 0, none⟩)] 48)).alloc (.cells #[ei 2, es [], .bool false, .slice (some ⟨w3.heap.size, 0, none⟩) 2 2] 68)) from ((Upd.refl _ _).alloc _).alloc _)
        have HR3 := Lib.hid (hr3.keep HV.out)
        have HU3 := Lib.hid ((HU2.out.trans hu3).trans (HV.out.mono (by simp)))
        clear HE1 hu3 hr3 hn3 HU2 HN2 HV
        go_wp2_with fail
        go_ret
        rw [HZ.out]
        exact ⟨⟨⟨_, rfl, HN3.out⟩, HR3.out⟩, HU3.out⟩

/-- the three readers together, by the measure of what is left. -/
theorem parR (s : List UInt8) (P : Nat) (f : Bool) (u : Int) (hs : s.length ≤ 1000000) : ∀ (k n : Nat) (w : World), RdAt P w s n f u → (∀ W, Upd [P] w W → Env W) →
    (3 * (s.length - n) + 1 ≤ k → Calls Tryz.prog 51 #[.pointer (some ⟨P, 0, none⟩)] w (ParR P w s f u (atomF s k n))) ∧
    (3 * (s.length - n) + 2 ≤ k → Calls Tryz.prog 42 #[.pointer (some ⟨P, 0, none⟩)] w (ParR P w s f u (thenF s k n))) ∧
    (3 * (s.length - n) + 3 ≤ k → Calls Tryz.prog 32 #[.pointer (some ⟨P, 0, none⟩)] w (ParR P w s f u (eitherF s k n)))
  | 0, n, w, hR, hE => ⟨fun h => absurd h (by omega), fun h => absurd h (by omega), fun h => absurd h (by omega)⟩
  | k + 1, n, w, hR, hE => by
    refine ⟨fun h => ?_, fun h => ?_, fun h => ?_⟩
    · exact atomR k P w s n f u hs hR hE (fun W n' h1 h2 hr hu => (parR s P f u hs k n' W hr (fun W' h' => hE W' (hu.trans h'))).2.2 (by omega))
    · exact thenR k P w s n f u hs hR ((parR s P f u hs k n w hR hE).1 (by omega)) (fun W n' h1 h2 hr hu => (parR s P f u hs k n' W hr (fun W' h' => hE W' (hu.trans h'))).2.1 (by omega))
    · exact eitherR k P w s n f u hs hR ((parR s P f u hs k n w hR hE).2.1 (by omega)) (fun W n' h1 h2 hr hu => (parR s P f u hs k n' W hr (fun W' h' => hE W' (hu.trans h'))).2.2 (by omega))

end Go.Proofs.YtaahjpmndkcijaaGreatDoor

/-
  Regular expressions parsed: the program's run over a whole text: its deferred closure takes the panic.
-/
namespace Go.Proofs.YtaahjpmndkcijaaGreatDoor
open Go.RowKit

set_option maxRecDepth 20000 in
set_option maxHeartbeats 1000000 in
theorem caughtR (A : Nat) (a : Nat) (z : Value) (older : List PanicEntry) (w : World) (hc : w.cell? ⟨A, 0, none⟩ = some z) (hz : w.frozen? ⟨A, 0, none⟩ = false) :
    CallsD Tryz.prog 30 #[.pointer (some ⟨A, 0, none⟩)] (.panicking ({ v := .iface 64 (.agg #[.int .i64 a]), recovered := false } :: older)) w fun e u' w' =>
      e = .returned (.tuple #[]) ∧ u' = .panicking ({ v := .iface 64 (.agg #[.int .i64 a]), recovered := true } :: older) ∧ w'.cell? ⟨A, 0, none⟩ = some (.int .i64 a) ∧ Upd [A] w w' := by
  have hA : A < w.heap.size := World.block_lt_of_cell? w _ hc
  have hb2 : ∀ o, (w.alloc o).heap[A]? = w.heap[A]? := fun o => Below.heap_alloc _ _ _ hA
  have hc2 : ∀ o, (w.alloc o).cell? ⟨A, 0, none⟩ = some z := fun o => (World.cell?_of_block (w := w) (hb2 o)).trans hc
  have hz2 : ∀ o, (w.alloc o).frozen? ⟨A, 0, none⟩ = false := fun o => by rw [← hz]; simp only [World.frozen?, hb2 o]
  have hta : ∀ W : World, (Instr.typeAssert (.iface 64 (.agg #[.int .i64 a])) 20 64 true).run Tryz.prog W = .ok (.tuple #[.agg #[.int .i64 a], .bool true]) W := fun _ => by kernel_rfl
  refine callsD_of_wpS Tryz.func30 rfl fun c₀ cs hu => ?_
  apply wpS_seq
  apply wpS_region
  simp [wpOpsS, go_sem, recoverD, hu, Tryz.ntmps30, Exit.thenS]
  refine wpS_of_wp ?_
  simp [Array.replicate, List.replicate]
  go_wp2_with fail
  have h3 : ((w.setCell ⟨A, 0, none⟩ (.int .i64 a)).alloc (.cells #[.int .i64 a] 64)).cell? ⟨A, 0, none⟩ = some (.int .i64 a) := by
    rw [World.cell?_alloc_lt _ _ _ (by simpa using hA)]
    exact World.cell?_setCell_same _ _ _ hc
  have h4 : Upd [A] w ((w.setCell ⟨A, 0, none⟩ (.int .i64 a)).alloc (.cells #[.int .i64 a] 64)) := ((Upd.refl _ _).setCell (Or.inr (by simp)) _).alloc _
  simp [bodyPostS, results, Tryz.results30]
  exact ⟨h3, h4⟩

theorem idleR (A : Nat) (w : World) :
    CallsD Tryz.prog 30 #[.pointer (some ⟨A, 0, none⟩)] .returning w fun e u' w' => e = .returned (.tuple #[]) ∧ u' = .returning ∧ w' = w := by
  refine callsD_of_wpS Tryz.func30 rfl fun c₀ cs hu => ?_
  apply wpS_seq
  apply wpS_region
  simp [wpOpsS, go_sem, recoverD, hu, Tryz.ntmps30, Exit.thenS]
  refine wpS_of_wp ?_
  simp [Array.replicate, List.replicate]
  go_wp2_with fail
  cases c₀
  simp_all [bodyPostS, results, Tryz.results30]

theorem RdAt.putText {P : Nat} {w : World} {s0 : List UInt8} {f : Bool} {u : Int} (h : RdAt P w s0 0 f u) (s : List UInt8) : RdAt P (w.setCell ⟨P, 0, none⟩ (es s)) s 0 f u := by
  have far : ∀ o, o ≠ 0 → (w.setCell ⟨P, 0, none⟩ (es s)).cell? ⟨P, o, none⟩ = w.cell? ⟨P, o, none⟩ := fun o ho => World.cell?_setCell_other _ _ _ _ (by simp)
  exact ⟨h.own.setCell _ _, World.cell?_setCell_same _ _ _ h.c0, (far 2 (by decide)).trans h.c2, (far 9 (by decide)).trans h.c9, (far 10 (by decide)).trans h.c10, Nat.zero_le _⟩

/-- what a reading leaves: where the reader stands, or the first error. -/
def ClR (P C : Nat) (s : List UInt8) (r : Except Nat (Nat × Bool × Int)) (K : World → Prop) (w : World) (e : Ending) (w' : World) : Prop :=
  (match r with
  | .ok (p, f, u) => e = .returned (.tuple #[]) ∧ RdAt P w' s p f u ∧ K w'
  | .error a => e = synE a) ∧ Upd [P, C] w w'
/-- what the run returns: the first error's offset or -1. -/
def RnR (P C : Nat) (s : List UInt8) (r : Except Nat (Nat × Bool × Int)) (K : World → Prop) (w : World) (e : Ending) (w' : World) : Prop :=
  (match r with
  | .ok (p, f, u) => if skR s p = s.length then e = .returned (.int .i64 (-1)) ∧ RdAt P w' s s.length f u ∧ K w' else e = .returned (.int .i64 (skR s p))
  | .error a => e = .returned (.int .i64 a)) ∧ Upd [P, C] w w'

set_option maxRecDepth 20000 in
set_option maxHeartbeats 4000000 in
theorem runR (fn : FuncId) (caps : Array Value) (P C : Nat) (w : World) (s : List UInt8) (r : Except Nat (Nat × Bool × Int)) (K : World → Prop) (hs : s.length ≤ 1000000) (hR : RdAt P w [] 0 false 0) (hC : C < w.heap.size)
    (hent : ∀ args w, Sem.run Tryz.prog (callFunc fn args) w = .ok (.enter fn args) w)
    (hcl : ∀ W, RdAt P W s 0 false (-1) → Upd [P] w W → w.heap.size < W.heap.size → Calls Tryz.prog fn caps W (ClR P C s r K W))
    (hK : ∀ W W', K W → Upd [P, w.heap.size] W W' → K W') :
    Calls Tryz.prog 16 #[.pointer (some ⟨P, 0, none⟩), es s, .func (.func fn) #[] caps] w (RnR P C s r K w) := by
  have hmf : ∀ (fn : Fn) (first cap : Array Value) (w : World), (Instr.makeFunc fn first cap).run Tryz.prog w = .ok (.func fn first cap) w := fun _ _ _ _ => rfl
  have hA := hR.keep ((Upd.refl [] w).alloc (.cells #[.int .i64 0] 3))
  have a1 := hA.c0
  have a2 : (w.alloc (.cells #[.int .i64 0] 3)).frozen? ⟨P, 0, none⟩ = false := hA.own.frozen (by simp) _
  have b1 := hA.c10
  have b2 : (w.alloc (.cells #[.int .i64 0] 3)).frozen? ⟨P, 10, none⟩ = false := hA.own.frozen (by simp) _
  clear hA
  have HR := Lib.hid hR
  have HCL := Lib.hid hcl
  have HK := Lib.hid hK
  clear hR hcl hK
  go_enter_defers Tryz.func16, Tryz.ntmps16
  go_wp2_with fail
  obtain ⟨W0, hW0⟩ : ∃ W0, ((w.alloc (.cells #[.int .i64 0] 3)).setCell ⟨P, 0, none⟩ (.string ⟨s.toArray⟩)).setCell ⟨P, 10, none⟩ (.int .i64 (-1)) = W0 := ⟨_, rfl⟩
  obtain ⟨A, hAe⟩ : ∃ A, w.heap.size = A := ⟨_, rfl⟩
  have hPA : P < A := by rw [← hAe]; exact HR.out.lt
  have hr0 : RdAt P W0 s 0 false (-1) := by rw [← hW0]; exact ((HR.out.keep ((Upd.refl [] w).alloc _)).putText s).putU (-1)
  have hu0 : Upd [P] w W0 := by rw [← hW0]; exact (((Upd.refl [P] w).alloc _).setCell (Or.inr (by simp)) _).setCell (Or.inr (by simp)) _
  have hb0 : W0.heap[A]? = some (.cells #[.int .i64 0] 3) := by
    have e1 : (w.alloc (.cells #[.int .i64 0] 3)).heap[A]? = some (.cells #[.int .i64 0] 3) := by rw [← hAe]; exact heap_alloc_new w _
    have hv : Upd [P] (w.alloc (.cells #[.int .i64 0] 3)) W0 := by rw [← hW0]; exact ((Upd.refl [P] _).setCell (Or.inr (by simp)) _).setCell (Or.inr (by simp)) _
    exact (hv.block A (heap_lt e1) (by simp; omega)).trans e1
  have hsz : A < W0.heap.size := heap_lt hb0
  have S1 := HCL.out W0 hr0 hu0 (by rw [hAe]; exact hsz)
  have HU0 := Lib.hid (hu0.mono (g := [P, C]) (by simp))
  have HB0 := Lib.hid hb0
  rw [hW0, hAe]
  rw [hAe] at HK hC
  clear hW0 hr0 hu0 hb0 HCL HR a1 a2 b1 b2
  cases r with
  | error a =>
    refine S1.mono ?_
    rintro e w2 ⟨rfl, hu2⟩
    have hb2 := (hu2.block A hsz (by simp; omega)).trans HB0.out
    have hc2 : w2.cell? ⟨A, 0, none⟩ = some (.int .i64 0) := by simp [World.cell?, hb2]
    have hz2 : w2.frozen? ⟨A, 0, none⟩ = false := by simp [World.frozen?, hb2]
    have HU2 := Lib.hid (HU0.out.trans hu2)
    clear S1 hu2 HU0
    go_wp2_with fail
    refine leaves_cons (f := 30) (args := #[.pointer (some ⟨A, 0, none⟩)]) (by simp) (by simp [go_sem]) ?_
    refine (caughtR A a _ [] w2 hc2 hz2).mono ?_
    rintro e u' w3 ⟨rfl, rfl, hc3, hu3⟩
    have HU3 := Lib.hid (HU2.out.fresh hu3 (fun b hb => Or.inl (by simp at hb; omega)))
    simp [Leaves, settle, results, Tryz.results16, go_sem, hc3]
    exact ⟨rfl, HU3.out⟩
  | ok x =>
    obtain ⟨p, f', u'⟩ := x
    refine S1.mono ?_
    rintro e w2 ⟨⟨rfl, hr2, hk2⟩, hu2⟩
    have hb2 := (hu2.block A hsz (by simp; omega)).trans HB0.out
    have E1 := Lib.hid (endedR P w2 s p f' u' hs hr2)
    have HU2 := Lib.hid (HU0.out.trans hu2)
    have HK2 := Lib.hid hk2
    have hsz2 : A < w2.heap.size := heap_lt hb2
    have HB2 := Lib.hid hb2
    clear S1 hu2 HU0 hk2 hr2 hb2
    by_cases hp : skR s p = s.length
    · simp only [if_pos hp] at E1
      go_wp2_with fail
      refine E1.out.mono ?_
      rintro e w3 ⟨⟨rfl, hr3⟩, hu3⟩
      have hb3 := (hu3.block A hsz2 (by simp; omega)).trans HB2.out
      have hc3 : w3.cell? ⟨A, 0, none⟩ = some (.int .i64 0) := by simp [World.cell?, hb3]
      have hz3 : w3.frozen? ⟨A, 0, none⟩ = false := by simp [World.frozen?, hb3]
      have hc4 : (w3.setCell ⟨A, 0, none⟩ (.int .i64 (-1))).cell? ⟨A, 0, none⟩ = some (.int .i64 (-1)) := World.cell?_setCell_same _ _ _ hc3
      have hv : Upd [A] w3 (w3.setCell ⟨A, 0, none⟩ (.int .i64 (-1))) := (Upd.refl _ _).setCell (Or.inr (by simp)) _
      have HR4 := Lib.hid (hr3.far hv (by simp; omega))
      have HK4 := Lib.hid (HK.out _ _ HK2.out ((hu3.mono (g := [P, A]) (by simp)).trans (hv.mono (by simp))))
      have HU4 := Lib.hid ((HU2.out.trans (hu3.mono (by simp))).fresh hv (fun b hb => Or.inl (by simp at hb; omega)))
      clear E1 hr3 hu3 hv HK HK2 HU2
      go_wp2_with fail
      refine leaves_cons (f := 30) (args := #[.pointer (some ⟨A, 0, none⟩)]) (by simp) (by simp [go_sem]) ?_
      refine (idleR A _).mono ?_
      rintro e u' w3 ⟨rfl, rfl, rfl⟩
      simp [Leaves, settle, results, Tryz.results16, go_sem, hc4]
      refine ⟨?_, HU4.out⟩
      simp only [if_pos hp]
      exact ⟨trivial, HR4.out, HK4.out⟩
    · simp only [if_neg hp] at E1
      go_wp2_with fail
      refine E1.out.mono ?_
      rintro e w3 ⟨rfl, hu3⟩
      have hb3 := (hu3.block A hsz2 (by simp; omega)).trans HB2.out
      have hc3 : w3.cell? ⟨A, 0, none⟩ = some (.int .i64 0) := by simp [World.cell?, hb3]
      have hz3 : w3.frozen? ⟨A, 0, none⟩ = false := by simp [World.frozen?, hb3]
      have HU3 := Lib.hid (HU2.out.trans (hu3.mono (by simp)))
      clear E1 hu3 HK HK2 HU2
      go_wp2_with fail
      refine leaves_cons (f := 30) (args := #[.pointer (some ⟨A, 0, none⟩)]) (by simp) (by simp [go_sem]) ?_
      refine (caughtR A _ _ [] w3 hc3 hz3).mono ?_
      rintro e u' w4 ⟨rfl, rfl, hc4, hu4⟩
      have HU4 := Lib.hid (HU3.out.fresh hu4 (fun b hb => Or.inl (by simp at hb; omega)))
      simp [Leaves, settle, results, Tryz.results16, go_sem, hc4]
      refine ⟨?_, HU4.out⟩
      simp only [if_neg hp]

end Go.Proofs.YtaahjpmndkcijaaGreatDoor

/-
  Regular expressions parsed: the program's ParseRegular.
-/
namespace Go.Proofs.YtaahjpmndkcijaaGreatDoor
open Go.RowKit

/-- what the program's reader of a whole expression leaves. -/
def RgR (P : Nat) (w : World) (s : List UInt8) (f : Bool) (u : Int) (r : Except Nat (Tr Rg × Nat)) (e : Ending) (w' : World) : Prop :=
  (match r with
  | .ok (x, p) => (∃ v, e = .returned v ∧ New R_Y w w' v x) ∧ RdAt P w' s p (f || decide (20 < (flatT x).length)) u
  | .error a => e = synE a) ∧ Upd [P] w w'

set_option maxRecDepth 20000 in
set_option maxHeartbeats 4000000 in
theorem regularR (P : Nat) (w : World) (s : List UInt8) (n : Nat) (f : Bool) (u : Int) (hs : s.length ≤ 1000000) (hR : RdAt P w s n f u) (hE : ∀ W, Upd [P] w W → Env W) :
    Calls Tryz.prog 18 #[.pointer (some ⟨P, 0, none⟩)] w (RgR P w s f u (regP s n)) := by
  have S1 := (parR s P f u hs (3 * s.length + 3) n w hR hE).2.2 (by omega)
  have hPl := hR.lt
  have hLN := Lib.hid (fun x p (h : eitherF s (3 * s.length + 3) n = .ok (x, p)) => eitherF_len _ n x p hR.le h)
  have hPS := Lib.hid (fun x p (h : eitherF s (3 * s.length + 3) n = .ok (x, p)) => eitherF_pos _ n x p hR.le h)
  unfold regP
  clear hE hR
  cases he : eitherF s (3 * s.length + 3) n with
  | error a =>
    rw [he] at S1
    have HS := Lib.hid S1
    clear S1 hLN hPS he
    go_enter Tryz.func18, Tryz.ntmps18
    go_wp2_with fail
    refine HS.out.mono ?_
    rintro e w1 ⟨rfl, hu⟩
    have HU := Lib.hid hu
    clear HS hu
    go_wp2_with fail
    exact ⟨rfl, rfl, HU.out⟩
  | ok r =>
    obtain ⟨x, p⟩ := r
    rw [he] at S1
    have hl := hLN.out x p he
    have hp2 := (hPS.out x p he).2.1
    have hxl : (flatT x).length ≤ 1000000 := by omega
    have HS := Lib.hid S1
    clear S1 hLN hPS he
    cases f with
    | true =>
      go_enter Tryz.func18, Tryz.ntmps18
      go_wp2_with fail
      refine HS.out.mono ?_
      rintro e w1 ⟨⟨⟨v, rfl, hn⟩, hr⟩, hu⟩
      have c9 := hr.c9
      have f9 : w1.frozen? ⟨P, 9, none⟩ = false := hr.own.frozen (by simp) _
      have hv : Upd [P] w1 (w1.setCell ⟨P, 9, none⟩ (.bool true)) := (Upd.refl _ _).setCell (Or.inr (by simp)) _
      have HR := Lib.hid (hr.putF true)
      have HN := Lib.hid (R_Yk.new hn hv (by simp; exact hPl))
      have HU := Lib.hid (hu.trans hv)
      clear HS hn hr hu hv
      go_wp2_with fail
      go_ret
      exact ⟨⟨⟨_, rfl, HN.out⟩, by rw [Bool.true_or]; exact HR.out⟩, HU.out⟩
    | false =>
      go_enter Tryz.func18, Tryz.ntmps18
      go_wp2_with fail
      refine HS.out.mono ?_
      rintro e w1 ⟨⟨⟨v, rfl, hn⟩, hr⟩, hu⟩
      have c9 := hr.c9
      obtain ⟨fv, r1, o1, g1⟩ := id hn
      obtain ⟨L, hL⟩ : ∃ L, (flatT x).length = L := ⟨_, rfl⟩
      have S2 := Lib.hid ((elemsY x w1 v fv hxl r1).mono (R' := fun e w' => (∃ a cp, e = .returned (.slice a L cp)) ∧ Upd [] w1 w') (by
        rintro e w2 ⟨⟨v2, rfl, hn2⟩, hu2⟩
        obtain ⟨a2, cp2, rfl⟩ := hn2.form
        exact ⟨⟨a2, cp2, by rw [hL]⟩, hu2⟩))
      have HL := Lib.hid hL
      clear hL
      have HR := Lib.hid hr
      have HN := Lib.hid hn
      have HU := Lib.hid hu
      clear HS hn hr hu r1 o1 g1
      go_wp2_with fail
      refine S2.out.mono ?_
      rintro e w2 ⟨⟨a2, cp2, rfl⟩, hu2⟩
      have hr2 := HR.out.keep hu2
      have f9 : w2.frozen? ⟨P, 9, none⟩ = false := hr2.own.frozen (by simp) _
      have c92 := hr2.c9
      obtain ⟨q, hq⟩ : ∃ q, decide (20 < L) = q := ⟨_, rfl⟩
      have hq2 : decide ((20 : Int) < (L : Int)) = q := by rw [← hq]; exact decide_eq_decide.2 (by omega)
      have HQ := Lib.hid (show decide (20 < (flatT x).length) = q by rw [HL.out]; exact hq)
      have hv : Upd [P] w2 (w2.setCell ⟨P, 9, none⟩ (.bool q)) := (Upd.refl _ _).setCell (Or.inr (by simp)) _
      have HR2 := Lib.hid (hr2.putF q)
      have HN2 := Lib.hid (R_Yk.new (R_Yk.new HN.out hu2 (by simp)) hv (by simp; exact hPl))
      have HU2 := Lib.hid ((HU.out.trans (hu2.mono (by simp))).trans hv)
      clear S2 hr2 hu2 hv hq HR HN HU
      go_wp2_with fail
      go_ret
      exact ⟨⟨⟨_, rfl, HN2.out⟩, by rw [Bool.false_or, HQ.out]; exact HR2.out⟩, HU2.out⟩

end Go.Proofs.YtaahjpmndkcijaaGreatDoor
