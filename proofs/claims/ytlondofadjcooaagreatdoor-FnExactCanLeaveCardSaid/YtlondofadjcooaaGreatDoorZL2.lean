/-
  Texts joined in one file: LabSw, IdxI, Norm, BisK, FunM, FunN, Mat, RelW, Lib3, HarnW, Lib4, Lib5, HarnM, OpenC, OpenL.
-/
import Derived.Test.YtlondofadjcooaaGreatDoorZL1
import Derived.Maps.OwnSet
import Derived.Maps.OwnOps
import Derived.Maps.RangeWalk
import Derived.DeepKeys5
import Derived.StillTailTactics
import Derived.Deep.MidRow
import Derived.Lib.SliceRun
import Derived.Deep.AppendLies
import Derived.Deep.RegionLaw
import Derived.Lib.SmallJoins
import Derived.Deep.Strs
/-
  The values of a label, read by the reference.
-/
namespace Go.Proofs.YtlondofadjcooaaGreatDoor
open Go.RowKit

theorem inS (n : Int) (w : World) : Calls Tryz.prog 68 #[.int .i64 n, .int .i64 0, .int .i64 63] w fun e w' => e = .returned (.bool (isV n)) ∧ w = w' := by
  by_cases h1 : 0 ≤ n
  · by_cases h2 : n ≤ 63
    · have HR := Lib.hid (show isV n = true from inB_mk ⟨h1, h2⟩)
      go_enter Tryz.func68, Tryz.ntmps68
      go_wp2_with fail
      go_ret
      exact ⟨by rw [HR.out]; rfl, rfl⟩
    · have HR := Lib.hid (show isV n = false by
        cases h : isV n with
        | false => rfl
        | true => have := inB_true h; omega)
      go_enter Tryz.func68, Tryz.ntmps68
      go_wp2_with fail
      go_ret
      exact ⟨by rw [HR.out]; rfl, rfl⟩
  · have HR := Lib.hid (show isV n = false by
      cases h : isV n with
      | false => rfl
      | true => have := inB_true h; omega)
    go_enter Tryz.func68, Tryz.ntmps68
    go_wp2_with fail
    go_ret
    exact ⟨by rw [HR.out]; rfl, rfl⟩

def ValuesS (s : List UInt8) (w : World) (e : Ending) (w' : World) : Prop :=
  (∃ v' vs, e = .returned (.tuple #[v', .bool (readF s).isSome]) ∧ New R1 w w' v' vs ∧ Hid (∀ us, (readF s).map (·.2) = some us → vs = us)) ∧ Upd [] w w'

theorem splitC_len' (c : UInt8) : ∀ l : List UInt8, (splitC c l).length ≤ l.length + 1 ∧ ∀ p ∈ splitC c l, p.length ≤ l.length
  | [] => by simp [splitC]
  | b :: l => by
    obtain ⟨h1, h2⟩ := splitC_len' c l
    by_cases hb : b = c
    · subst hb
      have e : splitC b (b :: l) = [] :: splitC b l := by rw [splitC, if_pos rfl]
      rw [e]
      refine ⟨by simp; omega, fun p hp => ?_⟩
      rcases List.mem_cons.1 hp with rfl | hp
      · simp
      · have := h2 p hp; simp; omega
    · obtain ⟨p, ps, e1, e2⟩ := splitC_cons c b l hb
      rw [e2]
      rw [e1] at h1 h2
      refine ⟨by simp at h1 ⊢; omega, fun q hq => ?_⟩
      rcases List.mem_cons.1 hq with rfl | hq
      · have := h2 p (by simp); simp; omega
      · have := h2 q (by simp [hq]); simp; omega

/-- what the loop over the words gives. -/
def loopV (ps : List (List UInt8)) : Option (List Int) := match numsF ps with
  | none => none
  | some vs => if vs.all isV then some vs else none

theorem loopV_cons (p : List UInt8) (ps : List (List UInt8)) : loopV (p :: ps) = (numF p).bind fun n => if isV n then (loopV ps).map (n :: ·) else none := by
  unfold loopV
  rw [numsF_cons]
  cases numF p with
  | none => rfl
  | some n =>
    cases numsF ps with
    | none => simp
    | some vs =>
      cases h1 : isV n <;> cases h2 : vs.all isV <;> simp [h1, h2]

theorem readF_isSome (s : List UInt8) : (readF s).isSome = (specV s).isSome := by rw [specV_readF]; cases readF s <;> rfl

set_option maxRecDepth 20000 in
set_option maxHeartbeats 4000000 in
theorem valuesS (l : List UInt8) (w : World) (hl : l.length ≤ 2000000) : Calls Tryz.prog 100 #[es l] w (ValuesS l w) := by
  obtain ⟨i1, ki, kz0, kz1, kz2⟩ := info_parts Tryz.info2
  have S1 := Lib.hid (openS l w hl)
  have hle := open_le l
  have HV := Lib.hid (show (readF l).map (·.2) = specV l from (specV_readF l).symm)
  have HI := Lib.hid (readF_isSome l)
  by_cases hat : openAt l = l.length
  · have hsp : specV l = if nameF l = true then some [] else none := by unfold specV; rw [if_pos hat]
    have S2 := Lib.hid (fun w1 : World => nameS l w1 hl)
    obtain ⟨f0, hR0, hO0, hG0⟩ := new_lit (enc := ei) w 2 [] (by simp [maxLen])
    have HN := Lib.hid (show New R1 w (w.alloc (.cells #[] 2)) (.slice (some ⟨w.heap.size, 0, none⟩) 0 0) [] from ⟨f0, hR0, hO0, hG0⟩)
    rw [hat] at S1
    have HS := Lib.hid (show (readF l).isSome = nameF l by rw [HI.out, hsp]; cases nameF l <;> rfl)
    have HU := Lib.hid (show ∀ us, (readF l).map (·.2) = some us → ([] : List Int) = us by
      intro us hus
      rw [HV.out, hsp] at hus
      split at hus
      · simpa using hus
      · cases hus)
    clear hsp hR0 hO0 hG0 HV HI hat hle
    go_enter Tryz.func100, Tryz.ntmps100
    go_wp2_with fail
    refine S1.out.mono ?_
    rintro e w1 ⟨rfl, rfl⟩
    clear S1
    have S2 := Lib.hid (S2.out (w.alloc (.cells #[] 2)))
    go_wp2_with fail
    refine S2.out.mono ?_
    rintro e w1 ⟨rfl, rfl⟩
    clear S2
    go_wp2_with fail
    go_ret2
    exact ⟨⟨_, [], by rw [HS.out]; rfl, HN.out, HU⟩, (Upd.refl _ _).alloc _⟩
  · obtain ⟨hs40, hno⟩ := open_lt hat
    obtain ⟨A, hA⟩ : ∃ A, openAt l = A := ⟨_, rfl⟩
    obtain ⟨m, hm⟩ : ∃ m, l.length = m + 1 := ⟨l.length - 1, by omega⟩
    have hAm : A ≤ m := by omega
    obtain ⟨b, hb⟩ : ∃ b, l[m]'(by omega) = b := ⟨_, rfl⟩
    have hix : (⟨l.toArray⟩ : ByteArray)[m]'(by simp [ByteArray.size]; omega) = b := by rw [← hb]; simp [ByteArray.getElem_eq_getElem_data]
    have hlast : l.getLast? = some b := by
      rw [List.getLast?_eq_getElem?, ← hb, List.getElem?_eq_getElem (by omega)]
      congr 1
      simp [hm]
    have hext := extract_list l 0 A
    rw [List.drop_zero, Nat.sub_zero] at hext
    have hsp : specV l = if actF (l.take A) = true ∧ b = 41 then (loopV (splitC 44 ((l.drop (A + 1)).take (m - (A + 1))))).bind (fun vs => if vs.length ≤ 2 then some vs else none) else none := by
      unfold specV
      rw [if_neg hat, hA, hlast, hm]
      simp only [Option.some.injEq, Nat.add_sub_cancel]
      by_cases hc : actF (l.take A) = true ∧ b = 41
      · rw [if_pos hc, if_pos hc]
        unfold loopV
        cases numsF (splitC 44 ((l.drop (A + 1)).take (m - (A + 1)))) with
        | none => rfl
        | some vs => by_cases h1 : vs.all isV = true <;> by_cases h2 : vs.length ≤ 2 <;> simp [h1, h2]
      · rw [if_neg hc, if_neg hc]
    have hA40 : A = m → b = 40 := by
      intro e
      rw [hA] at hs40
      have h1 : l[A]? = some 40 := by
        have hl1 : (l.take A).length = A := by simp; omega
        rw [hs40, List.getElem?_append_right (by omega), hl1]; simp
      subst e
      rw [List.getElem?_eq_getElem (by omega), hb] at h1
      exact Option.some.inj h1
    have hext2 := extract_list l (A + 1) m
    rw [hA] at S1
    have hnl : (l.take A).length ≤ 2000000 := by simp; omega
    have hil : ((l.drop (A + 1)).take (m - (A + 1))).length ≤ 2000000 := by simp; omega
    have S2 := Lib.hid (actionS (l.take A) w hnl)
    have S3 := Lib.hid (show Calls Tryz.prog 116 #[es ((l.drop (A + 1)).take (m - (A + 1))), .int .u8 ((44 : UInt8).toNat : Int)] w (fun e w' => (∃ v', e = .returned v' ∧ New RS w w' v' (splitC 44 ((l.drop (A + 1)).take (m - (A + 1))))) ∧ Upd [] w w') from splitS _ 44 w hil)
    generalize l.take A = nm at *
    generalize (l.drop (A + 1)).take (m - (A + 1)) = inr5 at *
    obtain ⟨hpc1, hpc2⟩ := splitC_len' 44 inr5
    have HPC := Lib.hid (show ∀ p ∈ splitC 44 inr5, p.length ≤ 2000000 from fun p hp => Nat.le_trans (hpc2 p hp) hil)
    have hpc3 : (splitC 44 inr5).length ≤ 2000001 := by omega
    generalize splitC 44 inr5 = ps at *
    have gA : ((A : Int) == (m : Int) + 1) = false := by rw [beq_eq_false_iff_ne]; omega
    have hA1 : A < m + 1 := by omega
    clear hat hs40 hno hA hb hlast hpc1 hpc2 hle
    cases ha : actF nm with
    | false =>
      have HS := Lib.hid (show readF l = none by
        have h1 := HI.out
        rw [hsp, if_neg (by rw [ha]; simp)] at h1
        cases hr : readF l with
        | none => rfl
        | some x => rw [hr] at h1; cases h1)
      rw [ha] at S2
      clear hsp ha HV HI hA40 S3
      go_enter Tryz.func100, Tryz.ntmps100
      go_wp2_with fail
      refine S1.out.mono ?_
      rintro e w1 ⟨rfl, rfl⟩
      clear S1
      go_wp2_with fail
      refine S2.out.mono ?_
      rintro e w1 ⟨rfl, rfl⟩
      clear S2
      go_wp2_with fail
      go_ret2
      exact ⟨⟨_, [], by rw [HS.out]; rfl, new_nil _ _, Lib.hid (fun us hus => by rw [HS.out] at hus; cases hus)⟩, Upd.refl _ _⟩
    | true =>
      rw [ha] at S2
      by_cases h41 : b = 41
      · have hAlt : A + 1 ≤ m := by
          rcases Nat.lt_or_ge A m with h | h
          · exact h
          · have := hA40 (by omega); rw [h41] at this; cases this
        rw [if_pos ⟨ha, h41⟩] at hsp
        have HSP := Lib.hid hsp
        subst h41
        clear hsp ha hA40
        go_enter Tryz.func100, Tryz.ntmps100
        go_wp2_with fail
        refine S1.out.mono ?_
        rintro e w1 ⟨rfl, rfl⟩
        clear S1
        go_wp2_with fail
        refine S2.out.mono ?_
        rintro e w1 ⟨rfl, rfl⟩
        clear S2
        go_wp2_with fail
        refine S3.out.mono ?_
        rintro e w3 ⟨⟨v3, rfl, fq, hq1, hq2, hq3⟩, hu3⟩
        obtain ⟨a3, c3, rfl, hc1, hc2, -⟩ := slF1_open hq1
        unfold maxLen at hc2
        have HR := Lib.hid hq1
        have hlit := World.ownsRow_lit (base := w3.heap.size) (e := 2) (size := 1) w3 #[] 0 (Nat.le_refl _) (by simp [maxLen]) (by simp)
        have HLIT := Lib.hid hlit
        have HU3 := Lib.hid hu3
        have hsz3 := hu3.size
        clear S3 hq1 hq2 hq3 hu3 hlit
        go_wp2_with fail
        go_loopw [6, 7] (fun ov iv wr => ∃ (k : Nat) (ns : List Int), k ≤ ps.length ∧ iv = .int .i64 k ∧ ns.length = k ∧ Hid (loopV ps = (loopV (ps.drop k)).map (ns ++ ·)) ∧ Hid (wr.ownsRow w3.heap.size 2 1 ov k (ns.map ei)) ∧ Upd [] w3 wr) (fun _ iv _ => ps.length - (intOf iv).toNat)
        case atStart => exact ⟨0, [], by omega, rfl, rfl, Lib.hid (by simp), HLIT, (Upd.refl _ _).alloc _⟩
        case round =>
          clear HLIT
          obtain ⟨k, ns, hk, rfl, hnl2, hF, hown, hU⟩ := hrel
          have HNL := Lib.hid hnl2
          clear hnl2
          have hszr := hU.size
          by_cases hlt : k < ps.length
          · obtain ⟨a', cap', hv, -, -, hc⟩ := slF1_open ((slF_kept _ _).upd HR.out hU (by simp))
            cases hv
            obtain ⟨b1, o1, rfl, -, -, p1⟩ := hc k hlt
            have hF1 := hF.out
            rw [List.drop_eq_getElem_cons hlt, loopV_cons] at hF1
            have hpk := HPC.out ps[k] (List.getElem_mem hlt)
            have HF := Lib.hid hF1
            have HU := Lib.hid hU
            clear hF1 hF hc hU
            generalize ps[k] = s at *
            have T1 := Lib.hid (numberS s wr hpk)
            cases hn : numF s with
            | none =>
              rw [hn] at HF
              have HRF := Lib.hid (show readF l = none by
                have h1 := HI.out
                rw [HSP.out, HF.out] at h1
                cases hr : readF l with
                | none => rfl
                | some x => rw [hr] at h1; cases h1)
              have T1' := T1.out
              unfold NumS at T1'
              rw [hn] at T1'
              have T2 := Lib.hid T1'
              clear HF T1 T1' hn
              go_wp2_with fail
              refine T2.out.mono ?_
              rintro e w5 ⟨rfl, rfl⟩
              clear T2
              go_wp2_with fail
              go_ret2
              exact ⟨⟨_, [], by rw [HRF.out]; rfl, new_nil _ _, Lib.hid (fun us hus => by rw [HRF.out] at hus; cases hus)⟩, HU3.out.trans HU.out⟩
            | some x =>
              rw [hn] at HF
              have T1' := T1.out
              unfold NumS at T1'
              rw [hn] at T1'
              have T2 := Lib.hid T1'
              have T3 := Lib.hid (inS x wr)
              clear T1 T1' hn
              cases hx : isV x with
              | false =>
                have HRF := Lib.hid (show readF l = none by
                  have h1 := HI.out
                  rw [HSP.out, HF.out] at h1
                  simp only [Option.bind_some, hx, Bool.false_eq_true, if_false] at h1
                  cases hr : readF l with
                  | none => rfl
                  | some x => rw [hr] at h1; cases h1)
                rw [hx] at T3
                clear HF hx
                go_wp2_with fail
                refine T2.out.mono ?_
                rintro e w5 ⟨rfl, rfl⟩
                clear T2
                simp only [Option.getD_some, Option.isSome_some]
                go_wp2_with fail
                refine T3.out.mono ?_
                rintro e w5 ⟨rfl, rfl⟩
                clear T3
                go_wp2_with fail
                go_ret2
                exact ⟨⟨_, [], by rw [HRF.out]; rfl, new_nil _ _, Lib.hid (fun us hus => by rw [HRF.out] at hus; cases hus)⟩, HU3.out.trans HU.out⟩
              | true =>
                have HN := Lib.hid (show loopV ps = (loopV (ps.drop (k + 1))).map ((ns ++ [x]) ++ ·) by
                  rw [HF.out]
                  simp only [Option.bind_some, hx, if_true]
                  cases loopV (ps.drop (k + 1)) <;> simp)
                rw [hx] at T3
                have hown3 := hown.out
                clear HF hx hown
                go_wp2_with fail
                refine T2.out.mono ?_
                rintro e w5 ⟨rfl, rfl⟩
                clear T2
                simp only [Option.getD_some, Option.isSome_some]
                go_wp2_with fail
                refine T3.out.mono ?_
                rintro e w5 ⟨rfl, rfl⟩
                clear T3
                go_wp2_with (first
                  | (at_builtin; refine wpList_append_tight _ rfl _ _ 26 rfl w3.heap.size 2 i1 (.int .i64 0) 1 8 Tryz.underlying26 ki kz0 kz1 kz2 rfl (by decide) _ _ _ rfl (hown3.alloc _) ⟨wr.heap.size, 0, none⟩ 1 1 [ei x] rfl rfl (fun j u hj => by rw [addr_add]; exact cell_new wr #[ei x] _ _ rfl _ _ (by simpa using hj)) (by simp [Value.oneCell']) (by unfold maxLen; omega) (by omega) (by simp; omega) ?_)
                  | fail)
                intro v4 w4 hown4 hg4 ht4
                have hu4 := (HU.out.alloc _).grown hg4 (fun b hb => Or.inl (by have := (hown3.lt b hb).1; omega))
                have HQ := Lib.hid (And.intro hown4 hu4)
                clear hown4 hg4 ht4 hu4 hown3
                go_wp2_with fail
                go_roundw
                case rel => exact ⟨k + 1, ns ++ [x], by omega, by go_num, by simp [HNL.out], HN, Lib.hid (by simpa using HQ.out.1), HQ.out.2⟩
                case measure => simp [intOf]; omega
          · obtain rfl : k = ps.length := by omega
            have hF1 := hF.out
            rw [List.drop_of_length_le (Nat.le_refl _)] at hF1
            have hl0 : loopV ps = some ns := by rw [hF1]; simp [loopV, numsF]
            have hs2 : specV l = if ns.length ≤ 2 then some ns else none := by rw [HSP.out, hl0]; rfl
            rw [HNL.out] at hs2
            have HS := Lib.hid (show (readF l).isSome = decide (ps.length ≤ 2) by
              rw [HI.out, hs2]
              by_cases h : ps.length ≤ 2 <;> simp [h])
            have HU5 := Lib.hid (show ∀ us, (readF l).map (·.2) = some us → ns = us by
              intro us hus
              rw [HV.out, hs2] at hus
              split at hus
              · simpa using hus
              · cases hus)
            obtain ⟨a6, c6, hv6⟩ := ownsRow_form hown.out
            have HQ := Lib.hid (And.intro ((New.ofOwns (w := w3) (e := 2) (enc := ei) (xs := ns) (by rw [HNL.out]; exact hown.out)).mono hsz3) (HU3.out.trans hU))
            subst hv6
            clear hown hU hF hF1 hl0 hs2
            by_cases h2 : ps.length ≤ 2
            · rw [decide_eq_true h2] at HS
              have h2' : (ps.length : Int) ≤ 2 := by omega
              go_wp2_with fail
              go_ret2
              exact ⟨⟨_, ns, by rw [HS.out]; rfl, HQ.out.1, HU5⟩, HQ.out.2⟩
            · rw [decide_eq_false h2] at HS
              have h2' : ¬ (ps.length : Int) ≤ 2 := by omega
              go_wp2_with fail
              go_ret2
              exact ⟨⟨_, ns, by rw [HS.out]; rfl, HQ.out.1, HU5⟩, HQ.out.2⟩
      · have hne : ((b.toNat : Int) == 41) = false := byte_ne (n := 41) (by omega) h41
        have HS := Lib.hid (show readF l = none by
          have h1 := HI.out
          rw [hsp, if_neg (fun h => h41 h.2)] at h1
          cases hr : readF l with
          | none => rfl
          | some x => rw [hr] at h1; cases h1)
        clear hsp ha HV HI hA40 S3
        go_enter Tryz.func100, Tryz.ntmps100
        go_wp2_with fail
        refine S1.out.mono ?_
        rintro e w1 ⟨rfl, rfl⟩
        clear S1
        go_wp2_with fail
        refine S2.out.mono ?_
        rintro e w1 ⟨rfl, rfl⟩
        clear S2
        go_wp2_with fail
        go_ret2
        exact ⟨⟨_, [], by rw [HS.out]; rfl, new_nil _ _, Lib.hid (fun us hus => by rw [HS.out] at hus; cases hus)⟩, Upd.refl _ _⟩

end Go.Proofs.YtlondofadjcooaaGreatDoor

/-
  Whether a number is an index of a list: what the program's call returns.
-/
namespace Go.Proofs.YtlondofadjcooaaGreatDoor
open Go.RowKit

theorem idxI (n : Int) (m : Nat) (w : World) (hm : m ≤ 1000000) : Calls Tryz.prog 83 #[.int .i64 n, .int .i64 m] w fun e w' => e = .returned (.bool (inB n 0 (m - 1))) ∧ w = w' := by
  have S1 := Lib.hid (within n 0 ((m : Int) - 1) w)
  generalize inB n 0 ((m : Int) - 1) = b at *
  go_enter Tryz.func83, Tryz.ntmps83
  go_wp2_with fail
  refine S1.out.mono ?_
  rintro e w1 ⟨rfl, rfl⟩
  clear S1
  go_wp2_with fail
  go_ret
  exact ⟨rfl, rfl⟩

end Go.Proofs.YtlondofadjcooaaGreatDoor

/-
  Numbering by first occurrence: plainly, and the program's walk with a map.
-/
namespace Go.Proofs.YtlondofadjcooaaGreatDoor
open Go.RowKit Go.Maps

theorem idx_new {S s : List Int} {x : Int} (h : s ++ [x] <+: S) (hx : x ∉ s) : S.idxOf x = s.length := by
  obtain ⟨r, rfl⟩ := h
  rw [List.append_assoc, List.idxOf_append, if_neg hx]
  simp
theorem keyI : Keyed Tryz.prog 2 := int_keyed Tryz.underlying2
/-- what a map of numbers reads as, behind k elements. -/
def NMap (S s : List Int) (D : DataW Unit) : Prop := Maps.Tidy D ∧ Maps.size D = s.length ∧ (∀ n : Int, Maps.has D (.int .i64 n) = decide (n ∈ s)) ∧ ∀ n ∈ s, D.atKey (.int .i64 n) (.lit (.int .i64 0)) = .lit (.int .i64 (S.idxOf n))

theorem NMap.put {S s : List Int} {D : DataW Unit} (h : NMap S s D) {x : Int} (hw : (Lit.int .i64 x).wf = true) (hx : x ∉ s) (hp : s ++ [x] <+: S) : NMap S (s ++ [x]) (D.put (.int .i64 x) (.lit (.int .i64 (s.length : Int)))) := by
  obtain ⟨h1, h2, h3, h4⟩ := h
  have hk : WideAt.IsKeyLit (.int .i64 x) := keyI.key (keyOf_int_mk Tryz.underlying2 hw)
  have hxi := idx_new hp hx
  refine ⟨h1.put hk _, ?_, ?_, ?_⟩
  · rw [size_put h1, h3 x, if_neg (by simpa using hx), h2, List.length_append]; rfl
  · intro n
    by_cases hn : n = x
    · subst hn; rw [has_put_same h1.isMap hk]; simp
    · rw [has_put_other (by intro e; injection e with _ e2; exact hn e2), h3 n]; simp [hn]
  · intro n hn
    by_cases hnx : n = x
    · subst hnx; rw [atKey_put_same h1.isMap hk, hxi]
    · rw [atKey_put_other (by intro e; injection e with _ e2; exact hnx e2)]
      exact h4 n (by simpa [hnx] using hn)

end Go.Proofs.YtlondofadjcooaaGreatDoor

/-
  Maps whose keys are pairs of numbers: the program's set of pairs.
-/
namespace Go.Proofs.YtlondofadjcooaaGreatDoor
open Go.RowKit Go.Maps

end Go.Proofs.YtlondofadjcooaaGreatDoor

/-
  slices.IndexFunc and ContainsFunc over rows of numbers, at whatever function value.
-/
namespace Go.Proofs.YtlondofadjcooaaGreatDoor
open Go.RowKit

end Go.Proofs.YtlondofadjcooaaGreatDoor

/-
  slices.IndexFunc and ContainsFunc over numbers, at whatever function value.
-/
namespace Go.Proofs.YtlondofadjcooaaGreatDoor
open Go.RowKit

end Go.Proofs.YtlondofadjcooaaGreatDoor

/-
  Matrices of bools as functions, and the pairs that they list: plain facts.
-/
namespace Go.Proofs.YtlondofadjcooaaGreatDoor

def mat (n : Nat) (f : Nat → Nat → Bool) : List (List Bool) := (List.range n).map fun i => (List.range n).map (f i)
def upd (f : Nat → Nat → Bool) (i j : Nat) (b : Bool) : Nat → Nat → Bool := fun i' j' => if i' = i ∧ j' = j then b else f i' j'
def flat (n : Nat) (f : Nat → Nat → Bool) : List Bool := (List.range (n * n)).map fun k => f (k / n) (k % n)

@[simp] theorem mat_length (n : Nat) (f : Nat → Nat → Bool) : (mat n f).length = n := by simp [mat]
theorem mat_row (n : Nat) (f : Nat → Nat → Bool) (i : Nat) (h : i < n) : (mat n f)[i]'(by simpa using h) = (List.range n).map (f i) := by simp [mat]
@[simp] theorem flat_length (n : Nat) (f : Nat → Nat → Bool) : (flat n f).length = n * n := by simp [flat]
theorem idx_lt {n i j : Nat} (hi : i < n) (hj : j < n) : i * n + j < n * n := by
  have : (i + 1) * n ≤ n * n := Nat.mul_le_mul_right _ hi
  rw [Nat.add_mul] at this; omega
theorem idx_div {n i j : Nat} (hj : j < n) : (i * n + j) / n = i := by
  rw [Nat.mul_comm, Nat.mul_add_div (by omega), Nat.div_eq_of_lt hj, Nat.add_zero]
theorem idx_mod {n i j : Nat} (hj : j < n) : (i * n + j) % n = j := by
  rw [Nat.mul_comm, Nat.mul_add_mod, Nat.mod_eq_of_lt hj]
/-- the pairs of row i up to column k. -/
def rowTo (f : Nat → Nat → Bool) (i k : Nat) : List (List Int) := (List.range k).flatMap fun j => if f i j then [[(i : Int), (j : Int)]] else []
theorem rowTo_succ (f : Nat → Nat → Bool) (i k : Nat) : rowTo f i (k + 1) = rowTo f i k ++ if f i k then [[(i : Int), (k : Int)]] else [] := by
  simp [rowTo, List.range_succ, List.flatMap_append]
theorem rowTo_length (f : Nat → Nat → Bool) (i k : Nat) : (rowTo f i k).length ≤ k := by
  induction k with
  | zero => simp [rowTo]
  | succ k ih => rw [rowTo_succ, List.length_append]; split <;> simp <;> omega
end Go.Proofs.YtlondofadjcooaaGreatDoor

/-
  The matrices behind the relations' functions, made, written and listed.
-/
namespace Go.Proofs.YtlondofadjcooaaGreatDoor
open Go.RowKit

theorem Tryz.infoB : (Tryz.prog.info? 4).map (fun i => (i.zero, i.size, i.bytes)) = some (some (.bool false), 1, 1) := by kernel_rfl
theorem Tryz.infoR : (Tryz.prog.info? 48).map (fun i => (i.zero, i.size, i.bytes)) = some (some (.slice none 0 0), 1, 24) := by kernel_rfl

end Go.Proofs.YtlondofadjcooaaGreatDoor

/-
  Readings of slices whose elements are several cells each and hold memory of their own.
-/
namespace Go.Proofs.YtlondofadjcooaaGreatDoor
open Go.RowKit

theorem flat_len {β : Type} {n : Nat} : ∀ {us : List (List β)}, (∀ u ∈ us, u.length = n) → us.flatten.length = us.length * n
  | [], _ => by simp
  | u :: us, h => by
    rw [List.flatten_cons, List.length_append, h u (by simp), flat_len (fun v hv => h v (by simp [hv])), List.length_cons, Nat.add_mul]
    omega
theorem flat_at {β : Type} {n : Nat} : ∀ {us : List (List β)}, (∀ u ∈ us, u.length = n) → ∀ {i : Nat} {u : List β}, us[i]? = some u → ∀ {j : Nat} {c : β}, u[j]? = some c → us.flatten[i * n + j]? = some c
  | [], _, i, u, hu, _, _, _ => by simp at hu
  | v :: us, h, i, u, hu, j, c, hc => by
    have hv := h v (by simp)
    rw [List.flatten_cons]
    cases i with
    | zero =>
      simp at hu; subst hu
      rw [Nat.zero_mul, Nat.zero_add, List.getElem?_append_left (List.getElem?_eq_some_iff.1 hc).1]; exact hc
    | succ i =>
      simp at hu
      rw [List.getElem?_append_right (by rw [Nat.add_mul]; omega), hv, show (i + 1) * n + j - n = i * n + j by rw [Nat.add_mul]; omega]
      exact flat_at (fun x hx => h x (by simp [hx])) hu hc

/-- A slice whose elements are n cells each, and hold memory of their own. -/
def slQ {α : Type} (n : Nat) (R : Rp α) : Rp (List α) := fun fp w cs xs =>
  ∃ (a : Option Addr) (cap : Nat) (us : List (List Value)) (fb : List Nat) (fps : List (List Nat)), cs = [.slice a xs.length cap] ∧ xs.length ≤ cap ∧ cap ≤ maxLen ∧ us.length = xs.length ∧ (∀ u ∈ us, u.length = n) ∧ fps.length = xs.length ∧ fp = fb ++ fps.flatten ∧
    ((xs.length = 0 ∧ fb = []) ∨ ∃ b off, a = some ⟨b, off, none⟩ ∧ fb = [b] ∧ b < w.heap.size ∧ ∀ (i j : Nat) (u : List Value) (c : Value), us[i]? = some u → u[j]? = some c → w.cell? ⟨b, off + i * n + j, none⟩ = some c) ∧
    ∀ i (h : i < xs.length) u (f : List Nat), us[i]? = some u → fps[i]? = some f → R f w u xs[i]

/-- Elements of several cells each, with memory of their own, from block base on and apart from the blocks ob. -/
def RowsQ {α : Type} (n : Nat) (R : Rp α) (base : Nat) (ob : List Nat) (w : World) (us : List (List Value)) (xs : List α) : Prop :=
  ∃ fps : List (List Nat), fps.length = xs.length ∧ us.length = xs.length ∧ (∀ u ∈ us, u.length = n) ∧ Own fps.flatten w ∧ (∀ b ∈ fps.flatten, base ≤ b ∧ b ∉ ob) ∧
    ∀ i (h : i < xs.length) u (f : List Nat), us[i]? = some u → fps[i]? = some f → R f w u xs[i]

/-- What a call makes anew, as several cells. -/
def NewQ {α : Type} (R : Rp α) (w w' : World) (u : List Value) (x : α) : Prop :=
  ∃ fp, R fp w' u x ∧ Own fp w' ∧ ∀ b ∈ fp, w.heap.size ≤ b

namespace RowsQ
variable {α : Type} {n : Nat} {R : Rp α} {base : Nat} {ob : List Nat} {w w1 : World} {us : List (List Value)} {xs : List α}

theorem nil (n : Nat) (R : Rp α) (base : Nat) (ob : List Nat) (w : World) : RowsQ n R base ob w [] [] := ⟨[], rfl, rfl, by simp, Own.nil w, by simp, by simp⟩
theorem length (h : RowsQ n R base ob w us xs) : us.length = xs.length := by obtain ⟨_, _, h, _⟩ := h; exact h
theorem each (h : RowsQ n R base ob w us xs) : ∀ u ∈ us, u.length = n := by obtain ⟨_, _, _, h, _⟩ := h; exact h
theorem flat (h : RowsQ n R base ob w us xs) : us.flatten.length = xs.length * n := by rw [flat_len h.each, h.length]

theorem upd (K : Kept R) (h : RowsQ n R base ob w us xs) {f : List Nat} (hu : Upd f w w1) (hf : ∀ b ∈ f, b ∈ ob ∨ b < base) : RowsQ n R base ob w1 us xs := by
  obtain ⟨fps, h1, h2, h6, h3, h4, h5⟩ := h
  have hd : ∀ b ∈ fps.flatten, b ∉ f := fun b hb hm => by
    rcases hf b hm with h | h
    · exact (h4 b hb).2 h
    · have := (h4 b hb).1; omega
  refine ⟨fps, h1, h2, h6, h3.upd hu hd, h4, fun i hi u f' hu' hf' => K.upd (h5 i hi u f' hu' hf') hu fun b hb => hd b (List.mem_flatten.2 ⟨_, List.mem_of_getElem? hf', hb⟩)⟩

theorem ob' (h : RowsQ n R base ob w us xs) {ob2 : List Nat} (hb : ∀ b ∈ ob2, b ∈ ob ∨ b < base ∨ w.heap.size ≤ b) : RowsQ n R base ob2 w us xs := by
  obtain ⟨fps, h1, h2, h6, h3, h4, h5⟩ := h
  refine ⟨fps, h1, h2, h6, h3, fun b hb' => ⟨(h4 b hb').1, fun hm => ?_⟩, h5⟩
  rcases hb b hm with h | h | h
  · exact (h4 b hb').2 h
  · have := (h4 b hb').1; omega
  · have := h3.lt b hb'; omega

theorem push (K : Kept R) (h : RowsQ n R base ob w us xs) {u : List Value} {x : α} (hu : Upd [] w w1) (hn : NewQ R w w1 u x) (hl : u.length = n) (hb : base ≤ w.heap.size) (hob : ∀ b ∈ ob, b < w.heap.size) :
    RowsQ n R base ob w1 (us ++ [u]) (xs ++ [x]) := by
  obtain ⟨fps, h1, h2, h6, h3, h4, h5⟩ := h.upd K hu (by simp)
  obtain ⟨fps', h1', h2', h6', h3', h4', h5'⟩ := h
  obtain ⟨fp, g1, g2, g3⟩ := hn
  have hlt : ∀ b ∈ fps'.flatten, b < w.heap.size := h3'.lt
  refine ⟨fps' ++ [fp], by simp [h1'], by simp [h2], ?_, ⟨?_, ?_⟩, ?_, ?_⟩
  · intro v hv
    rcases List.mem_append.1 hv with hv | hv
    · exact h6 v hv
    · simp at hv; subst hv; exact hl
  · rw [List.flatten_append, List.nodup_append]
    refine ⟨h3'.1, by simpa using g2.1, fun a ha b hb' e => ?_⟩
    subst e
    have := hlt a ha
    have := g3 a (by simpa using hb')
    omega
  · intro b hb'
    rw [List.flatten_append] at hb'
    rcases List.mem_append.1 hb' with hb' | hb'
    · exact (h3'.upd hu (by simp)).2 b hb'
    · exact g2.2 b (by simpa using hb')
  · intro b hb'
    rw [List.flatten_append] at hb'
    rcases List.mem_append.1 hb' with hb' | hb'
    · exact h4' b hb'
    · have := g3 b (by simpa using hb')
      exact ⟨by omega, fun hm => by have := hob b hm; omega⟩
  · intro i hi u' f' hu' hf'
    by_cases e : i < xs.length
    · rw [List.getElem?_append_left (by omega)] at hu' hf'
      rw [List.getElem_append_left e]
      exact K.upd (h5' i e u' f' hu' hf') hu (by simp)
    · have ei : i = xs.length := by simp at hi; omega
      subst ei
      rw [List.getElem?_append_right (by omega)] at hu' hf'
      rw [h2, Nat.sub_self] at hu'
      rw [h1', Nat.sub_self] at hf'
      simp at hu' hf'
      subst hu' hf'
      simpa using g1

theorem new (h : RowsQ n R base ob w us xs) {w0 : World} {e : TypeId} {v : Value} (ho : w.ownsRow w0.heap.size e n v xs.length us.flatten) (hob : ∀ b, v.ownBlock = some b → b ∈ ob) (hb : w0.heap.size ≤ base) :
    New (slQ n R) w0 w v xs := by
  obtain ⟨fps, h1, h2, h6, h3, h4, h5⟩ := h
  obtain ⟨fb, ⟨a, cap, rfl, q1, q2, -, q4⟩, g2, g3, g4⟩ := Flat.ofOwns ho
  refine ⟨fb ++ fps.flatten, ⟨a, cap, us, fb, fps, rfl, q1, q2, h2, h6, h1, rfl, ?_, h5⟩, ⟨?_, ?_⟩, ?_⟩
  · rcases q4 with q4 | ⟨b, off, rfl, rfl, hbl, hc⟩
    · exact Or.inl q4
    · refine Or.inr ⟨b, off, rfl, rfl, hbl, fun i j u c hu hj => ?_⟩
      rw [Nat.add_assoc]
      exact hc _ _ (flat_at h6 hu hj)
  · rw [List.nodup_append]
    refine ⟨g2.1, h3.1, fun a ha b hb' e => ?_⟩
    subst e
    exact (h4 a hb').2 (hob a (g4 a ha))
  · intro b hb'
    rcases List.mem_append.1 hb' with hb' | hb'
    · exact g2.2 b hb'
    · exact h3.2 b hb'
  · intro b hb'
    rcases List.mem_append.1 hb' with hb' | hb'
    · exact g3 b hb'
    · have := (h4 b hb').1; omega
end RowsQ

theorem Upd.keepF {f : List Nat} {w w1 : World} {b o : Nat} {v : Value} (hu : Upd f w w1) (hb : b ∉ f) (h : w.cell? ⟨b, o, none⟩ = some v) : w1.cell? ⟨b, o, none⟩ = some v := by
  have hl := World.block_lt_of_cell? w _ h
  unfold World.cell? at h ⊢
  rw [hu.block b hl hb]; exact h
theorem Upd.cellF {f : List Nat} {w w1 : World} {b : Nat} (hu : Upd f w w1) (hb : b ∉ f) (hl : b < w.heap.size) (o : Nat) : w1.cell? ⟨b, o, none⟩ = w.cell? ⟨b, o, none⟩ := by
  unfold World.cell?
  rw [hu.block b hl hb]
theorem Upd.row {f : List Nat} {w w1 : World} (h : Upd f w w1) {g : Nat} (hg : w.heap.size ≤ g ∨ g ∈ f) (cs : Array Value) : Upd f w (w1.setRow g cs) :=
  h.fresh (f := [g]) ⟨rfl, rfl, rfl, by simp [World.setRow], fun k _ hf => setRow_other _ _ _ _ (by simpa using hf)⟩ (by simpa using hg)
/-- memory made between two worlds, as it lies later. -/
structure Part {α : Type} (R : Rp α) (lo hi : Nat) (w : World) (v : Value) (x : α) (fp : List Nat) : Prop where
  r : R fp w [v] x
  o : Own fp w
  b : ∀ b ∈ fp, lo ≤ b ∧ b < hi
theorem Part.of {α : Type} {R : Rp α} (K : Kept R) {w w1 : World} {v : Value} {x : α} (h : New R w w1 v x) : ∃ fp, Part R w.heap.size w1.heap.size w1 v x fp := by
  obtain ⟨fp, h1, h2, h3⟩ := h
  exact ⟨fp, h1, h2, fun b hb => ⟨h3 b hb, K.lt h1 b hb⟩⟩
theorem Part.upd {α : Type} {R : Rp α} (K : Kept R) {lo hi : Nat} {w w1 : World} {v : Value} {x : α} {fp f : List Nat} (h : Part R lo hi w v x fp) (hu : Upd f w w1) (hf : ∀ b ∈ f, b < lo ∨ hi ≤ b) : Part R lo hi w1 v x fp := by
  have hd : ∀ b ∈ fp, b ∉ f := fun b hb hm => by have := h.b b hb; have := hf b hm; omega
  exact ⟨K.upd h.r hu hd, h.o.upd hu hd, h.b⟩
/-- outside of a part of block b the cells are as they were. -/
def FarEq (w w' : World) (b lo hi : Nat) : Prop := ∀ o, (o < lo ∨ hi ≤ o) → w'.cell? ⟨b, o, none⟩ = w.cell? ⟨b, o, none⟩
theorem FarEq.refl (w : World) (b lo hi : Nat) : FarEq w w b lo hi := fun _ _ => rfl
theorem FarEq.upd {w w1 w2 : World} {b lo hi : Nat} {f : List Nat} (h : FarEq w w1 b lo hi) (hu : Upd f w1 w2) (hb : b ∉ f) (hl : b < w1.heap.size) : FarEq w w2 b lo hi := fun o ho => (hu.cellF hb hl o).trans (h o ho)
theorem FarEq.put {w w1 w2 : World} {b lo hi j : Nat} (h : FarEq w w1 b lo hi) (hc : ∀ o, o ≠ j → w2.cell? ⟨b, o, none⟩ = w1.cell? ⟨b, o, none⟩) (hj : lo ≤ j ∧ j < hi) : FarEq w w2 b lo hi := fun o ho => (hc o (by omega)).trans (h o ho)

/-- three blocks in a row: what came in, the result's, and the one under way. -/
structure Three (w W : World) (T1 T2 : TypeId) (B : Nat) (p z o : List Value) : Prop where
  base : w.heap.size = B
  upd : Upd [] w W
  h0 : W.heap[B]? = some (.cells p.toArray T1 (0, 0))
  h1 : W.heap[B + 1]? = some (.cells z.toArray T2 (0, 0))
  h2 : W.heap[B + 2]? = some (.cells o.toArray T2 (0, 0))
namespace Three
variable {w W W' : World} {T1 T2 : TypeId} {B : Nat} {p z o : List Value}
theorem size (h : Three w W T1 T2 B p z o) : B + 2 < W.heap.size := (Array.getElem?_eq_some_iff.1 h.h2).1
theorem call (h : Three w W T1 T2 B p z o) (hu : Upd [] W W') : Three w W' T1 T2 B p z o :=
  ⟨h.base, h.upd.trans hu, by rw [hu.block _ (Array.getElem?_eq_some_iff.1 h.h0).1 (by simp)]; exact h.h0, by rw [hu.block _ (Array.getElem?_eq_some_iff.1 h.h1).1 (by simp)]; exact h.h1, by rw [hu.block _ (Array.getElem?_eq_some_iff.1 h.h2).1 (by simp)]; exact h.h2⟩
theorem store (h : Three w W T1 T2 B p z o) (j : Nat) (v : Value) : Three w (W.setCell ⟨B + 2, j, none⟩ v) T1 T2 B p z (o.set j v) := by
  refine ⟨h.base, h.upd.setCell (Or.inl (by rw [h.base]; simp)) _, ?_, ?_, ?_⟩
  · rw [Below.heap_setCell _ _ _ _ (by simp)]; exact h.h0
  · rw [Below.heap_setCell _ _ _ _ (by simp)]; exact h.h1
  · simp [World.setCell, Array.getElem?_modify, h.h2]
theorem pc (h : Three w W T1 T2 B p z o) (j : Nat) (c : Value) (hc : p[j]? = some c) : W.cell? ⟨B, j, none⟩ = some c := by simp [World.cell?, h.h0, hc]
theorem oc (h : Three w W T1 T2 B p z o) (j : Nat) (c : Value) (hc : o[j]? = some c) : W.cell? ⟨B + 2, j, none⟩ = some c := by simp [World.cell?, h.h2, hc]
theorem fz (h : Three w W T1 T2 B p z o) (j : Nat) : W.frozen? ⟨B + 2, j, none⟩ = false := by simp [World.frozen?, h.h2]
end Three

end Go.Proofs.YtlondofadjcooaaGreatDoor

/-
  Lists of numbers and lists of expressions under the names that the printed texts want.
-/
namespace Go.Proofs.YtlondofadjcooaaGreatDoor
open Go.RowKit

end Go.Proofs.YtlondofadjcooaaGreatDoor

/-
  Append of a whole slice to an owned row, whatever the slice: a law for the walks; slices.Clone and the reference's copies.
-/
namespace Go.Proofs.YtlondofadjcooaaGreatDoor
open Go.RowKit

section
variable {P : Program} {w : World}
end

end Go.Proofs.YtlondofadjcooaaGreatDoor

/-
  A row of cells known whole; elements of several cells collected by append.
-/
namespace Go.Proofs.YtlondofadjcooaaGreatDoor
open Go.RowKit

/-- block T holds these cells, and none is frozen. -/
def RowAt (W : World) (T : Nat) (ty : TypeId) (cs : List Value) : Prop := W.heap[T]? = some (.cells cs.toArray ty (0, 0))
namespace RowAt
variable {W W' : World} {T : Nat} {ty : TypeId} {cs : List Value}
theorem new (W : World) (ty : TypeId) (cs : List Value) : RowAt (W.alloc (.cells cs.toArray ty)) W.heap.size ty cs := heap_alloc_new W _
theorem lt (h : RowAt W T ty cs) : T < W.heap.size := (Array.getElem?_eq_some_iff.1 h).1
theorem upd (h : RowAt W T ty cs) {f : List Nat} (hu : Upd f W W') (hT : T ∉ f) : RowAt W' T ty cs := by
  unfold RowAt; rw [hu.block T h.lt hT]; exact h
theorem cell (h : RowAt W T ty cs) (j : Nat) (c : Value) (hc : cs[j]? = some c) : W.cell? ⟨T, j, none⟩ = some c := by unfold RowAt at h; simp [World.cell?, h, hc]
theorem fz (h : RowAt W T ty cs) (j : Nat) : W.frozen? ⟨T, j, none⟩ = false := by unfold RowAt at h; simp [World.frozen?, h]
theorem store (h : RowAt W T ty cs) (j : Nat) (v : Value) : RowAt (W.setCell ⟨T, j, none⟩ v) T ty (cs.set j v) := by
  unfold RowAt at h ⊢; simp [World.setCell, Array.getElem?_modify, h]
theorem other (h : RowAt W T ty cs) (g j : Nat) (v : Value) (hg : g ≠ T) : RowAt (W.setCell ⟨g, j, none⟩ v) T ty cs := by
  unfold RowAt at h ⊢; rw [Below.heap_setCell _ _ _ _ (by simpa using fun e => hg e.symm)]; exact h
theorem row (h : RowAt W T ty cs) (ds : List Value) : RowAt (W.setRow T ds.toArray) T ty ds := setRow_heap W T _ _ _ _ h
theorem own (h : RowAt W T ty cs) : Own [T] W := ⟨by simp, by intro b hb; obtain rfl : b = T := (by simpa using hb); exact ⟨_, _, h⟩⟩
end RowAt

/-- A slice of elements of n cells each, with memory of their own, that a call collects by append: e is the element's type. -/
def AccQ {α : Type} (n : Nat) (R : Rp α) (w0 : World) (e : TypeId) (w : World) (v : Value) (xs : List α) : Prop :=
  ∃ us, w.ownsRow w0.heap.size e n v xs.length (List.flatten us) ∧ RowsQ n R w0.heap.size v.ownBlock.toList w us xs

namespace AccQ
variable {α : Type} {n : Nat} {R : Rp α} {w0 w w1 w2 : World} {e : TypeId} {v : Value} {xs : List α}

theorem nil (n : Nat) (R : Rp α) (w0 : World) (e : TypeId) (w : World) : AccQ n R w0 e w (.slice none 0 0) [] := ⟨[], World.ownsRow_nil _ _ _ _, RowsQ.nil _ _ _ _ _⟩
theorem lit0 (n : Nat) (R : Rp α) (w0 : World) (e : TypeId) (w : World) (h : w0.heap.size ≤ w.heap.size) : AccQ n R w0 e (w.alloc (.cells #[] e)) (.slice (some ⟨w.heap.size, 0, none⟩) 0 0) [] :=
  ⟨[], by simpa using World.ownsRow_lit (base := w0.heap.size) (e := e) (size := n) w #[] 0 h (by simp [maxLen]) (by simp), RowsQ.nil _ _ _ _ _⟩
theorem upd (K : Kept R) (h : AccQ n R w0 e w v xs) (hu : Upd [] w w1) : AccQ n R w0 e w1 v xs := by
  obtain ⟨us, h1, h2⟩ := h
  exact ⟨us, ownsRow_upd h1 hu, h2.upd K hu (by simp)⟩
theorem other (K : Kept R) (h : AccQ n R w0 e w v xs) {b : Nat} (hu : Upd [b] w w1) (hb : b < w0.heap.size) : AccQ n R w0 e w1 v xs := by
  obtain ⟨us, h1, h2⟩ := h
  refine ⟨us, h1.kept (row := some b) ⟨hu.os, hu.tape, hu.output, hu.size, fun k hk hne => hu.block k hk (by simpa using hne)⟩ ?_, h2.upd K hu (by simp; omega)⟩
  cases hv : v.ownBlock with
  | none => exact Or.inl rfl
  | some g =>
    right
    have := (h1.lt g hv).1
    intro e; cases e; omega
theorem new (h : AccQ n R w0 e w v xs) : New (slQ n R) w0 w v xs := by
  obtain ⟨us, h1, h2⟩ := h
  exact h2.new h1 (fun b hb => by simp [hb]) (Nat.le_refl _)
theorem own (h : AccQ n R w0 e w v xs) : ∃ us, w.ownsRow w0.heap.size e n v xs.length us := by obtain ⟨us, h1, -⟩ := h; exact ⟨_, h1⟩
theorem form (h : AccQ n R w0 e w v xs) : ∃ a c, v = .slice a xs.length c := by obtain ⟨us, h1, -⟩ := h; exact ownsRow_form h1
/-- Behind an append of one element, its cells made between w and w1 and laid into a new block: what the append's law leaves. -/
theorem push (K : Kept R) {us : List (List Value)} (hown : w.ownsRow w0.heap.size e n v xs.length us.flatten) (hrows : RowsQ n R w0.heap.size v.ownBlock.toList w us xs) (hs : w0.heap.size ≤ w.heap.size) {u : List Value} {x : α} (hu : Upd [] w w1) (hn : NewQ R w w1 u x) (hl : u.length = n) (o : Obj) {v2 : Value}
    (h2 : w2.ownsRow w0.heap.size e n v2 (xs.length + 1) (us.flatten ++ u)) (hg : (w1.alloc o).grownBy w2 v.ownBlock)
    (ht : ∀ b, v2.ownBlock = some b → v.ownBlock = some b ∨ (w1.alloc o).heap.size ≤ b) : AccQ n R w0 e w2 v2 (xs ++ [x]) := by
  refine ⟨us ++ [u], by simpa using h2, ?_⟩
  have hob : ∀ b ∈ v.ownBlock.toList, b < w.heap.size := fun b hb => (hown.lt b (by simpa using hb)).2
  have hr1 := hrows.push K hu hn hl hs hob
  have hu2 : Upd [] w1 (w1.alloc o) := (Upd.refl _ _).alloc o
  have hr2 := hr1.upd K hu2 (by simp)
  have hu3 : Upd v.ownBlock.toList (w1.alloc o) w2 := (Upd.refl _ _).grown hg (fun k hk => Or.inr (by simp [hk]))
  have hr3 := RowsQ.ob' hr2 (ob2 := v.ownBlock.toList ++ v2.ownBlock.toList) (by
    intro b hb
    rcases List.mem_append.1 hb with hb | hb
    · exact Or.inl hb
    · rcases ht b (by simpa using hb) with h | h
      · exact Or.inl (by simp [h])
      · exact Or.inr (Or.inr h))
  have hr4 := hr3.upd K hu3 (fun b hb => Or.inl (List.mem_append_left _ hb))
  exact hr4.ob' (fun b hb => Or.inl (List.mem_append_right _ hb))
end AccQ

end Go.Proofs.YtlondofadjcooaaGreatDoor

/-
  Edges and systems marked and found marked by the laws' helper functions.
-/
namespace Go.Proofs.YtlondofadjcooaaGreatDoor
open Go.RowKit Go.ChangeShapes

/-- n marked edges from k on. -/
def upE (k : Int) : Nat → List Ed
  | 0 => []
  | n + 1 => ⟨k, k + 1, k + 1 + 1⟩ :: upE (k + 3) n
@[simp] theorem upE_length (k : Int) (n : Nat) : (upE k n).length = n := by
  induction n generalizing k with
  | zero => rfl
  | succ n ih => simp [upE, ih]
theorem upE_snoc (k : Int) (n : Nat) : upE k (n + 1) = upE k n ++ [⟨k + 3 * n, k + 3 * n + 1, k + 3 * n + 1 + 1⟩] := by
  induction n generalizing k with
  | zero => simp [upE]
  | succ n ih =>
    rw [upE, ih (k + 3)]
    simp only [upE, List.cons_append, List.cons.injEq, List.append_cancel_left_eq, Ed.mk.injEq, and_true, true_and]
    omega
theorem upE_set (xs : List Ed) (k0 : Int) (k : Nat) (hk : k < xs.length) :
    (upE k0 k ++ xs.drop k).set k ⟨k0 + 3 * k, k0 + 3 * k + 1, k0 + 3 * k + 1 + 1⟩ = upE k0 (k + 1) ++ xs.drop (k + 1) := by
  rw [List.set_append_right _ _ (by simp), upE_length, Nat.sub_self, List.drop_eq_getElem_cons hk, List.set_cons_zero, upE_snoc]
  simp

set_option maxRecDepth 20000 in
set_option maxHeartbeats 1600000 in
theorem mark_E1 (v : Value) (xs : List Ed) (k0 : Int) (w : World) (fp : List Nat) (hk0 : 0 ≤ k0) (hk1 : k0 + mkF_E1 xs ≤ 4611686018427387904) (hR : R_E1 fp w [v] xs) (hO : Own fp w) :
    Calls Tryz.prog 37 #[v, .int .i64 k0] w fun e w' => e = .returned (.int .i64 (k0 + mkF_E1 xs)) ∧ R_E1 fp w' [v] (upE k0 xs.length) ∧ Own fp w' ∧ Upd fp w w' := by
  obtain ⟨a, cap, rfl, h1, h2, -⟩ := slF3_open hR
  unfold maxLen at h2
  unfold mkF_E1 at hk1 ⊢
  go_enter Tryz.func37, Tryz.ntmps37
  go_wp2
  go_loopw [1, 5] (fun kk i wr => ∃ k : Nat, k ≤ xs.length ∧ i = .int .i64 k ∧ kk = .int .i64 (k0 + 3 * k) ∧ Upd fp w wr ∧ Own fp wr ∧
      R_E1 fp wr [.slice a xs.length cap] (upE k0 k ++ xs.drop k))
    (fun _ i _ => xs.length - (intOf i).toNat)
  case atStart => exact ⟨0, Nat.zero_le _, rfl, by simp, Upd.refl _ _, hO, by simpa [upE] using hR⟩
  case round =>
    clear hR hO
    obtain ⟨k, hk, rfl, rfl, hU, hO, hT⟩ := hrel
    have hlen : (upE k0 k ++ xs.drop k).length = xs.length := by simp; omega
    by_cases hlt : k < xs.length
    · have hT' := hT
      obtain ⟨a', cap', hv, -, -, hcell⟩ := slF3_open hT'
      obtain ⟨b, off, rfl, hfo, hb', r1, r2, r3⟩ := hcell k (by omega)
      simp only [Value.slice.injEq] at hv
      obtain ⟨rfl, -, rfl⟩ := hv
      have hfr1 : wr.frozen? ⟨b, off + k * 3, none⟩ = false := hO.frozen (by rw [hfo]; simp) _
      have hfr2 : wr.frozen? ⟨b, off + k * 3 + 1, none⟩ = false := hO.frozen (by rw [hfo]; simp) _
      have hfr3 : wr.frozen? ⟨b, off + k * 3 + 2, none⟩ = false := hO.frozen (by rw [hfo]; simp) _
      have hset := slF3_set (b := b) (off := off) (cap := cap) (by rw [hlen]; exact hT) k (by omega) (⟨k0 + 3 * k, k0 + 3 * k + 1, k0 + 3 * k + 1 + 1⟩ : Ed)
      rw [hlen, upE_set xs k0 k hlt] at hset
      have HS := Lib.hid (And.intro hset (((hO.setCell ⟨b, off + k * 3, none⟩ (ei (k0 + 3 * k))).setCell ⟨b, off + k * 3 + 1, none⟩ (ei (k0 + 3 * k + 1))).setCell ⟨b, off + k * 3 + 2, none⟩ (ei (k0 + 3 * k + 1 + 1))))
      have hin : b ∈ fp := by rw [hfo]; simp
      generalize (upE k0 k ++ xs.drop k)[k]'_ = el at r1 r2 r3
      clear hset hT hT' hcell hfo hO hlen
      go_wp2
      go_roundw
      case rel => exact ⟨k + 1, by omega, by go_num, by go_num, ((hU.setCell (Or.inr hin) _).setCell (Or.inr hin) _).setCell (Or.inr hin) _, HS.out.2, HS.out.1⟩
      case measure => simp [intOf]; omega
    · obtain rfl : k = xs.length := by omega
      go_wp2
      go_ret
      refine ⟨rfl, by simpa using hT, hO, hU⟩

/-- a marked system. -/
def upL (k : Int) (x : Sys) : Sys := ⟨x.st, x.ini, mkS k x.labs.length, upE (k + mkF_S1 x.labs) x.eds.length⟩

set_option maxRecDepth 20000 in
set_option maxHeartbeats 1600000 in
theorem mark_Lts (v : Value) (x : Sys) (k0 : Int) (w : World) (fp : List Nat) (hk0 : 0 ≤ k0) (hk1 : k0 + mkF_L1 x ≤ 4611686018427387904) (hR : R_L1 fp w [v] x) (hO : Own fp w) :
    Calls Tryz.prog 12 #[v, .int .i64 k0] w fun e w' => e = .returned (.int .i64 (k0 + mkF_L1 x)) ∧ R_L1 fp w' [v] (upL k0 x) ∧ Own fp w' ∧ Upd fp w w' := by
  obtain ⟨v1, v2, f1, f2, hv, r1, r2, rfl⟩ := hR
  cases hv
  unfold mkF_L1 at hk1
  have hz1 := mkF_S1_nonneg x.labs
  have hz2 := mkF_E1_nonneg x.eds
  have HMK := Lib.hid (show mkF_L1 x = mkF_S1 x.labs + mkF_E1 x.eds from rfl)
  have hd0 := List.nodup_append.1 hO.1
  have o1 : Own f1 w := ⟨hd0.1, fun b hb => hO.2 b (by simp [hb])⟩
  have o2 : Own f2 w := ⟨hd0.2.1, fun b hb => hO.2 b (by simp [hb])⟩
  have l1 := RSk.lt r1
  have l2 := R_E1k.lt r2
  obtain ⟨wA, hwA⟩ : ∃ wA, wA = w.alloc (.cells #[ei x.st, ei x.ini, v1, v2] 30) := ⟨_, rfl⟩
  have uA : Upd [] w wA := by rw [hwA]; exact (Upd.refl _ _).alloc _
  have S1 := Lib.hid (mark_S1 v1 x.labs k0 wA f1 hk0 (by omega) (RSk.upd r1 uA (by simp)) (o1.upd uA (by simp)))
  have HC := Lib.hid (show wA.cell? ⟨w.heap.size, 3, none⟩ = some v2 ∧ w.heap.size < wA.heap.size from by
    rw [hwA]; exact ⟨cell_new w _ _ _ rfl 3 _ rfl, by simp⟩)
  have S2 := Lib.hid (fun W (hu : Upd f1 wA W) => mark_E1 v2 x.eds (k0 + mkF_S1 x.labs) W f2 (by omega) (by omega) (R_E1k.upd (R_E1k.upd r2 uA (by simp)) hu (fun b hb hc => hd0.2.2 b hc b hb rfl)) ((o2.upd uA (by simp)).upd hu (fun b hb hc => hd0.2.2 b hc b hb rfl)))
  have HL := Lib.hid (And.intro l1 (And.intro l2 uA))
  have HD := Lib.hid hd0
  clear r1 r2 hO o1 o2 l1 l2 hd0
  go_enter Tryz.func12, Tryz.ntmps12
  go_wp2_with fail
  rw [← hwA]
  clear hwA
  refine S1.out.mono ?_
  rintro e w1 ⟨rfl, hr1, ho1, hu1⟩
  have T2 := Lib.hid (S2.out w1 hu1)
  have c3 : w1.cell? ⟨w.heap.size, 3, none⟩ = some v2 := by
    have h := HC.out.1
    unfold World.cell? at h ⊢
    rw [hu1.block w.heap.size HC.out.2 (fun hb => absurd (HL.out.1 _ hb) (Nat.lt_irrefl _))]; exact h
  have HH := Lib.hid (And.intro hr1 (And.intro ho1 hu1))
  clear S1 S2 hr1 ho1 hu1 HC uA
  go_wp2_with fail
  refine T2.out.mono ?_
  rintro e w2 ⟨rfl, hr2, ho2, hu2⟩
  have HJ := Lib.hid (And.intro hr2 (And.intro ho2 hu2))
  clear T2 hr2 ho2 hu2
  go_wp2_with fail
  go_ret
  obtain ⟨l1, l2, uA⟩ := HL.out
  obtain ⟨hr1, ho1, hu1⟩ := HH.out
  obtain ⟨hr2, ho2, hu2⟩ := HJ.out
  have hdd := HD.out.2.2
  have ho1' := ho1.upd hu2 (fun b hb hc => hdd b hb b hc rfl)
  refine ⟨?_, ⟨v1, v2, f1, f2, rfl, RSk.upd hr1 hu2 (fun b hb hc => hdd b hb b hc rfl), hr2, rfl⟩, ⟨HD.out |> List.nodup_append.2, fun b hb => ?_⟩, ?_⟩
  · rw [HMK.out, Int.add_assoc]; rfl
  · rcases List.mem_append.1 hb with hb | hb
    · exact ho1'.2 b hb
    · exact ho2.2 b hb
  · exact ((uA.mono (by simp)).trans (hu1.mono (by intro b hb; simp [hb]))).trans (hu2.mono (by intro b hb; simp [hb]))

end Go.Proofs.YtlondofadjcooaaGreatDoor

/-
  The form's reading of texts and lists of texts.
-/
namespace Go.Proofs.YtlondofadjcooaaGreatDoor
open Go.RowKit Go.ChangeShapes Go.WideShapes Go.Deep

theorem opens_S1 : Opens Tryz.prog 22 R_S1 (fun xs => ∀ p ∈ xs, p.length ≤ maxLen) :=
  opens_slF1 Tryz.underlying22 (by kernel_rfl) (by
    intro H enc w fuel v x hx
    obtain ⟨s, hv, -, hs⟩ := DataW.trod_string Tryz.underlying9 hx
    simp at hv
    exact ⟨s.data.toList, hv, hs⟩)
theorem strs_of {xs : List (List UInt8)} (h : ∀ p ∈ xs, p.length ≤ maxLen) : strsOk xs := fun p hp => by
  have := h p hp
  simp only [maxLen] at this
  omega
end Go.Proofs.YtlondofadjcooaaGreatDoor

/-
  The form's reading of systems.
-/
namespace Go.Proofs.YtlondofadjcooaaGreatDoor
open Go.RowKit Go.ChangeShapes Go.WideShapes Go.Deep

theorem cells3 {w : World} {a : Addr} {cs : List Value} (h : w.cells? 0 a 3 = some cs) : ∃ c0 c1 c2, cs = [c0, c1, c2] ∧ w.cell? a = some c0 ∧ w.cell? (a.add 1) = some c1 ∧ w.cell? (a.add 2) = some c2 := by
  rw [World.cells?, if_pos (Nat.zero_le _), show List.range 3 = [0, 1, 2] from rfl] at h
  simp only [List.mapM_cons, List.mapM_nil, Addr.add, if_true] at h
  cases h0 : w.cell? a with
  | none => simp [h0] at h
  | some c0 =>
    cases h1 : w.cell? (a.add 1) with
    | none => simp [Addr.add] at h1; simp [h0, h1] at h
    | some c1 =>
      cases h2 : w.cell? (a.add 2) with
      | none => simp [Addr.add] at h1 h2; simp [h0, h1, h2] at h
      | some c2 =>
        refine ⟨c0, c1, c2, ?_, rfl, rfl, rfl⟩
        simp [Addr.add] at h1 h2
        simpa [h0, h1, h2] using h.symm

/-- slices of structs of three plain fields. -/
theorem opens_slF3 {α : Type} {P : Program} {t e : TypeId} {e1 e2 e3 : α → Value} {φ : α → Prop} (ht : P.underlying t = some (.slice e)) (hc : P.cellsOf e = 3)
    (h : ∀ {H : Type} {enc : TypeId × Value → H} {w : World} {fuel : Nat} {u v z : Value} {x : DataW H × List MemPlace}, DataW.trod enc P w 0 (fun _ => true) true fuel e [u, v, z] = some x → ∃ a, u = e1 a ∧ v = e2 a ∧ z = e3 a ∧ φ a) :
    Opens P t (slF 3 (fun x => [e1 x, e2 x, e3 x])) (fun xs => ∀ x ∈ xs, φ x) := by
  intro H enc w fuel cs x hx
  rcases open_slice ht hx with ⟨rfl, -⟩ | ⟨a, len, cap, m, n, D, Pl, rfl, -, hl, hm, hmm, -, hel⟩
  · exact ⟨[], [], ⟨_, rfl, flat_nil w 3⟩, by simp⟩
  · have hlm : len ≤ m := by subst hmm; simpa using hl
    rw [hc] at hel
    obtain ⟨l, hll, hlq⟩ := list_choice (fun i (y : α) => w.cell? (a.add (i * 3)) = some (e1 y) ∧ w.cell? ((a.add (i * 3)).add 1) = some (e2 y) ∧ w.cell? ((a.add (i * 3)).add 2) = some (e3 y) ∧ φ y) len (fun i hi => by
      obtain ⟨cs', h1, h2⟩ := hel i (by omega)
      obtain ⟨c0, c1, c2, rfl, g0, g1, g2⟩ := cells3 h1
      obtain ⟨y, rfl, rfl, rfl, hy⟩ := h h2
      exact ⟨y, g0, g1, g2, hy⟩)
    by_cases h0 : len = 0
    · subst h0
      obtain rfl : l = [] := List.eq_nil_of_length_eq_zero hll
      exact ⟨[], [], ⟨_, rfl, some a, cap, rfl, hl, hm, by simp, Or.inl ⟨rfl, rfl⟩⟩, by simp⟩
    · have hc0 := (hlq 0 l[0] (by simp)).1
      have hs : a.spot = none := by simpa [Addr.add] using World.cell?_spot hc0
      obtain ⟨b, off, spot⟩ := a
      simp at hs
      subst hs
      refine ⟨l, [b], ⟨_, rfl, some ⟨b, off, none⟩, cap, by rw [hll], by omega, hm, by rw [flatMap_three_length], Or.inr ⟨b, off, rfl, rfl, ?_, fun j u hu => ?_⟩⟩, fun x hx => ?_⟩
      · exact World.block_lt_of_cell? w ⟨b, off, none⟩ (by simpa [Addr.add] using hc0)
      · have hj : j < l.length * 3 := by rw [← flatMap_three_length e1 e2 e3]; exact (List.getElem?_eq_some_iff.1 hu).1
        have hi : j / 3 < l.length := by omega
        obtain ⟨g1, g2, g3⟩ := flatMap_three_get e1 e2 e3 l (j / 3) hi
        obtain ⟨q1, q2, q3, -⟩ := hlq (j / 3) l[j / 3] (by simp)
        have ha : (⟨b, off, none⟩ : Addr).add (j / 3 * 3) = ⟨b, off + j / 3 * 3, none⟩ := by simp only [Addr.add]; split <;> simp_all
        rw [ha] at q1 q2 q3
        have hmod : j % 3 = 0 ∨ j % 3 = 1 ∨ j % 3 = 2 := by omega
        rcases hmod with hmod | hmod | hmod
        · have e : j / 3 * 3 = j := by omega
          rw [e] at g1 q1
          rw [g1] at hu; cases hu; exact q1
        · have e : j / 3 * 3 + 1 = j := by omega
          rw [e] at g2
          rw [g2] at hu; cases hu
          simp [Addr.add] at q2
          rw [show off + j = off + j / 3 * 3 + 1 from by omega]; exact q2
        · have e : j / 3 * 3 + 2 = j := by omega
          rw [e] at g3
          rw [g3] at hu; cases hu
          simp [Addr.add] at q3
          rw [show off + j = off + j / 3 * 3 + 2 from by omega]; exact q3
      · obtain ⟨i, hi, rfl⟩ := List.mem_iff_getElem.1 hx
        exact (hlq i _ (by simp)).2.2.2

theorem opens_E1 : Opens Tryz.prog 23 R_E1 (fun xs => ∀ x ∈ xs, True) :=
  opens_slF3 Tryz.underlying23 (by kernel_rfl) (by
    intro H enc w fuel u v z x hx
    obtain ⟨y0, y1, y2, n, -, -, h0, h1, h2⟩ := trod_struct3 Tryz.underlying83 hx
    obtain ⟨a, e0, -, -⟩ := DataW.trod_int Tryz.underlying2 h0
    obtain ⟨b, e1, -, -⟩ := DataW.trod_int Tryz.underlying2 h1
    obtain ⟨c, e2, -, -⟩ := DataW.trod_int Tryz.underlying2 h2
    have c1 : Tryz.prog.cellsOf 2 = 1 := by kernel_rfl
    simp [c1] at e0 e1 e2
    exact ⟨⟨a, b, c⟩, e0, e1, e2, trivial⟩)

theorem open_L1 {H : Type} {enc : TypeId × Value → H} {w : World} {v : Value} {d : DataW H} {ps : List MemPlace} (hv : ∃ cs, v = .agg cs ∧ cs.size = Tryz.prog.cellsOf 25)
    (hd : DataW.Trod enc Tryz.prog w 0 (fun _ => true) true 25 v d ps) : ∃ x fp, R_L1 fp w [v] x ∧ strsOk x.labs := by
  obtain ⟨cs, rfl, hcs⟩ := hv
  rw [show Tryz.prog.cellsOf 25 = 4 by kernel_rfl] at hcs
  obtain ⟨l, rfl⟩ : ∃ l : List Value, cs = l.toArray := ⟨cs.toList, by simp⟩
  match l, hcs with
  | [a, b, c, e], _ =>
    obtain ⟨fuel, hf⟩ := hd
    obtain ⟨y0, y1, y2, y3, n, -, -, h0, h1, h2, h3⟩ := Go.Joins.trod_struct4 Tryz.underlying25 hf
    obtain ⟨s, e0, -, -⟩ := DataW.trod_int Tryz.underlying2 h0
    obtain ⟨i, e1, -, -⟩ := DataW.trod_int Tryz.underlying2 h1
    have c1 : Tryz.prog.cellsOf 2 = 1 := by kernel_rfl
    have c2 : Tryz.prog.cellsOf 22 = 1 := by kernel_rfl
    have c3 : Tryz.prog.cellsOf 23 = 1 := by kernel_rfl
    simp [c1, c2, c3, Value.cells] at e0 e1 h2 h3
    obtain ⟨labs, f1, r1, g1⟩ := opens_S1 h2
    obtain ⟨eds, f2, r2, -⟩ := opens_E1 h3
    exact ⟨⟨s, i, labs, eds⟩, f1 ++ f2, ⟨c, e, f1, f2, by rw [e0, e1], r1, r2, rfl⟩, strs_of g1⟩

end Go.Proofs.YtlondofadjcooaaGreatDoor
