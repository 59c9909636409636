/-
  Texts joined in one file: LabSw, LabI, LabE, LabJ, LabN, LabL, LabM, HarnS, TrT, FunN, LinkD, Tree, TreeW, Ops, Post, Fold, Value, FoldW, FoldS, OpenB, Draw, Canon, CanonW, CanonV, Forms, Vals, Eval, EvalS, R8, R8V, LabC, LabR, LinkR, LinkL, LabQ, LawDelivered, LabZ.
-/
import Derived.Test.YtkhifpgpkklokaaGreatDoorZD1
import Derived.Test.YtkhifpgpkklokaaGreatDoorShelf
import Derived.Deep.RegionHeld3
import Derived.IntWalk
import Derived.Deep.RegionLaw
import Derived.Laws.AppendOwnNone
import Derived.Lib.LaidTab
import Derived.Stop.LaidErr
import Derived.HandedShaped
import Derived.Handed
import Derived.Shelf.Vars
/-
  The values of a label, read by the reference.
-/
namespace Go.Proofs.YtkhifpgpkklokaaGreatDoor
open Go.RowKit

theorem inS (n : Int) (w : World) : Calls Tryz.prog 78 #[.int .i64 n, .int .i64 0, .int .i64 63] w fun e w' => e = .returned (.bool (isV n)) ∧ w = w' := by
  by_cases h1 : 0 ≤ n
  · by_cases h2 : n ≤ 63
    · have HR := Lib.hid (show isV n = true from inB_mk ⟨h1, h2⟩)
      go_enter Tryz.func78, Tryz.ntmps78
      go_wp2_with fail
      go_ret
      exact ⟨by rw [HR.out]; rfl, rfl⟩
    · have HR := Lib.hid (show isV n = false by
        cases h : isV n with
        | false => rfl
        | true => have := inB_true h; omega)
      go_enter Tryz.func78, Tryz.ntmps78
      go_wp2_with fail
      go_ret
      exact ⟨by rw [HR.out]; rfl, rfl⟩
  · have HR := Lib.hid (show isV n = false by
      cases h : isV n with
      | false => rfl
      | true => have := inB_true h; omega)
    go_enter Tryz.func78, Tryz.ntmps78
    go_wp2_with fail
    go_ret
    exact ⟨by rw [HR.out]; rfl, rfl⟩

def ValuesS (s : List UInt8) (w : World) (e : Ending) (w' : World) : Prop :=
  (∃ v' vs, e = .returned (.tuple #[v', .bool (readF s).isSome]) ∧ New R1 w w' v' vs ∧ Hid (∀ us, (readF s).map (·.2) = some us → vs = us)) ∧ Upd [] w w'

theorem splitC_len' (c : UInt8) : ∀ l : List UInt8, (splitC c l).length ≤ l.length + 1 ∧ ∀ p ∈ splitC c l, p.length ≤ l.length
  | [] => by simp [splitC]
  | b :: l => by
    obtain ⟨h1, h2⟩ := splitC_len' c l
    by_cases hb : b = c
    · subst hb
      have e : splitC b (b :: l) = [] :: splitC b l := by rw [splitC, if_pos rfl]
      rw [e]
      refine ⟨by simp; omega, fun p hp => ?_⟩
      rcases List.mem_cons.1 hp with rfl | hp
      · simp
      · have := h2 p hp; simp; omega
    · obtain ⟨p, ps, e1, e2⟩ := splitC_cons c b l hb
      rw [e2]
      rw [e1] at h1 h2
      refine ⟨by simp at h1 ⊢; omega, fun q hq => ?_⟩
      rcases List.mem_cons.1 hq with rfl | hq
      · have := h2 p (by simp); simp; omega
      · have := h2 q (by simp [hq]); simp; omega

/-- what the loop over the words gives. -/
def loopV (ps : List (List UInt8)) : Option (List Int) := match numsF ps with
  | none => none
  | some vs => if vs.all isV then some vs else none

theorem loopV_cons (p : List UInt8) (ps : List (List UInt8)) : loopV (p :: ps) = (numF p).bind fun n => if isV n then (loopV ps).map (n :: ·) else none := by
  unfold loopV
  rw [numsF_cons]
  cases numF p with
  | none => rfl
  | some n =>
    cases numsF ps with
    | none => simp
    | some vs =>
      cases h1 : isV n <;> cases h2 : vs.all isV <;> simp [h1, h2]

theorem readF_isSome (s : List UInt8) : (readF s).isSome = (specV s).isSome := by rw [specV_readF]; cases readF s <;> rfl

set_option maxRecDepth 20000 in
set_option maxHeartbeats 4000000 in
theorem valuesS (l : List UInt8) (w : World) (hl : l.length ≤ 2000000) : Calls Tryz.prog 103 #[es l] w (ValuesS l w) := by
  obtain ⟨i1, ki, kz0, kz1, kz2⟩ := info_parts Tryz.info2
  have S1 := Lib.hid (openS l w hl)
  have hle := open_le l
  have HV := Lib.hid (show (readF l).map (·.2) = specV l from (specV_readF l).symm)
  have HI := Lib.hid (readF_isSome l)
  by_cases hat : openAt l = l.length
  · have hsp : specV l = if nameF l = true then some [] else none := by unfold specV; rw [if_pos hat]
    have S2 := Lib.hid (fun w1 : World => nameS l w1 hl)
    obtain ⟨f0, hR0, hO0, hG0⟩ := new_lit (enc := ei) w 2 [] (by simp [maxLen])
    have HN := Lib.hid (show New R1 w (w.alloc (.cells #[] 2)) (.slice (some ⟨w.heap.size, 0, none⟩) 0 0) [] from ⟨f0, hR0, hO0, hG0⟩)
    rw [hat] at S1
    have HS := Lib.hid (show (readF l).isSome = nameF l by rw [HI.out, hsp]; cases nameF l <;> rfl)
    have HU := Lib.hid (show ∀ us, (readF l).map (·.2) = some us → ([] : List Int) = us by
      intro us hus
      rw [HV.out, hsp] at hus
      split at hus
      · simpa using hus
      · cases hus)
    clear hsp hR0 hO0 hG0 HV HI hat hle
    go_enter Tryz.func103, Tryz.ntmps103
    go_wp2_with fail
    refine S1.out.mono ?_
    rintro e w1 ⟨rfl, rfl⟩
    clear S1
    have S2 := Lib.hid (S2.out (w.alloc (.cells #[] 2)))
    go_wp2_with fail
    refine S2.out.mono ?_
    rintro e w1 ⟨rfl, rfl⟩
    clear S2
    go_wp2_with fail
    go_ret2
    exact ⟨⟨_, [], by rw [HS.out]; rfl, HN.out, HU⟩, (Upd.refl _ _).alloc _⟩
  · obtain ⟨hs40, hno⟩ := open_lt hat
    obtain ⟨A, hA⟩ : ∃ A, openAt l = A := ⟨_, rfl⟩
    obtain ⟨m, hm⟩ : ∃ m, l.length = m + 1 := ⟨l.length - 1, by omega⟩
    have hAm : A ≤ m := by omega
    obtain ⟨b, hb⟩ : ∃ b, l[m]'(by omega) = b := ⟨_, rfl⟩
    have hix : (⟨l.toArray⟩ : ByteArray)[m]'(by simp [ByteArray.size]; omega) = b := by rw [← hb]; simp [ByteArray.getElem_eq_getElem_data]
    have hlast : l.getLast? = some b := by
      rw [List.getLast?_eq_getElem?, ← hb, List.getElem?_eq_getElem (by omega)]
      congr 1
      simp [hm]
    have hext := extract_list l 0 A
    rw [List.drop_zero, Nat.sub_zero] at hext
    have hsp : specV l = if actF (l.take A) = true ∧ b = 41 then (loopV (splitC 44 ((l.drop (A + 1)).take (m - (A + 1))))).bind (fun vs => if vs.length ≤ 2 then some vs else none) else none := by
      unfold specV
      rw [if_neg hat, hA, hlast, hm]
      simp only [Option.some.injEq, Nat.add_sub_cancel]
      by_cases hc : actF (l.take A) = true ∧ b = 41
      · rw [if_pos hc, if_pos hc]
        unfold loopV
        cases numsF (splitC 44 ((l.drop (A + 1)).take (m - (A + 1)))) with
        | none => rfl
        | some vs => by_cases h1 : vs.all isV = true <;> by_cases h2 : vs.length ≤ 2 <;> simp [h1, h2]
      · rw [if_neg hc, if_neg hc]
    have hA40 : A = m → b = 40 := by
      intro e
      rw [hA] at hs40
      have h1 : l[A]? = some 40 := by
        have hl1 : (l.take A).length = A := by simp; omega
        rw [hs40, List.getElem?_append_right (by omega), hl1]; simp
      subst e
      rw [List.getElem?_eq_getElem (by omega), hb] at h1
      exact Option.some.inj h1
    have hext2 := extract_list l (A + 1) m
    rw [hA] at S1
    have hnl : (l.take A).length ≤ 2000000 := by simp; omega
    have hil : ((l.drop (A + 1)).take (m - (A + 1))).length ≤ 2000000 := by simp; omega
    have S2 := Lib.hid (actionS (l.take A) w hnl)
    have S3 := Lib.hid (show Calls Tryz.prog 76 #[es ((l.drop (A + 1)).take (m - (A + 1))), .int .u8 ((44 : UInt8).toNat : Int)] w (fun e w' => (∃ v', e = .returned v' ∧ New RS w w' v' (splitC 44 ((l.drop (A + 1)).take (m - (A + 1))))) ∧ Upd [] w w') from splitS _ 44 w hil)
    generalize l.take A = nm at *
    generalize (l.drop (A + 1)).take (m - (A + 1)) = inr5 at *
    obtain ⟨hpc1, hpc2⟩ := splitC_len' 44 inr5
    have HPC := Lib.hid (show ∀ p ∈ splitC 44 inr5, p.length ≤ 2000000 from fun p hp => Nat.le_trans (hpc2 p hp) hil)
    have hpc3 : (splitC 44 inr5).length ≤ 2000001 := by omega
    generalize splitC 44 inr5 = ps at *
    have gA : ((A : Int) == (m : Int) + 1) = false := by rw [beq_eq_false_iff_ne]; omega
    have hA1 : A < m + 1 := by omega
    clear hat hs40 hno hA hb hlast hpc1 hpc2 hle
    cases ha : actF nm with
    | false =>
      have HS := Lib.hid (show readF l = none by
        have h1 := HI.out
        rw [hsp, if_neg (by rw [ha]; simp)] at h1
        cases hr : readF l with
        | none => rfl
        | some x => rw [hr] at h1; cases h1)
      rw [ha] at S2
      clear hsp ha HV HI hA40 S3
      go_enter Tryz.func103, Tryz.ntmps103
      go_wp2_with fail
      refine S1.out.mono ?_
      rintro e w1 ⟨rfl, rfl⟩
      clear S1
      go_wp2_with fail
      refine S2.out.mono ?_
      rintro e w1 ⟨rfl, rfl⟩
      clear S2
      go_wp2_with fail
      go_ret2
      exact ⟨⟨_, [], by rw [HS.out]; rfl, new_nil _ _, Lib.hid (fun us hus => by rw [HS.out] at hus; cases hus)⟩, Upd.refl _ _⟩
    | true =>
      rw [ha] at S2
      by_cases h41 : b = 41
      · have hAlt : A + 1 ≤ m := by
          rcases Nat.lt_or_ge A m with h | h
          · exact h
          · have := hA40 (by omega); rw [h41] at this; cases this
        rw [if_pos ⟨ha, h41⟩] at hsp
        have HSP := Lib.hid hsp
        subst h41
        clear hsp ha hA40
        go_enter Tryz.func103, Tryz.ntmps103
        go_wp2_with fail
        refine S1.out.mono ?_
        rintro e w1 ⟨rfl, rfl⟩
        clear S1
        go_wp2_with fail
        refine S2.out.mono ?_
        rintro e w1 ⟨rfl, rfl⟩
        clear S2
        go_wp2_with fail
        refine S3.out.mono ?_
        rintro e w3 ⟨⟨v3, rfl, fq, hq1, hq2, hq3⟩, hu3⟩
        obtain ⟨a3, c3, rfl, hc1, hc2, -⟩ := slF1_open hq1
        unfold maxLen at hc2
        have HR := Lib.hid hq1
        have hlit := World.ownsRow_lit (base := w3.heap.size) (e := 2) (size := 1) w3 #[] 0 (Nat.le_refl _) (by simp [maxLen]) (by simp)
        have HLIT := Lib.hid hlit
        have HU3 := Lib.hid hu3
        have hsz3 := hu3.size
        clear S3 hq1 hq2 hq3 hu3 hlit
        go_wp2_with fail
        go_loopw [6, 7] (fun ov iv wr => ∃ (k : Nat) (ns : List Int), k ≤ ps.length ∧ iv = .int .i64 k ∧ ns.length = k ∧ Hid (loopV ps = (loopV (ps.drop k)).map (ns ++ ·)) ∧ Hid (wr.ownsRow w3.heap.size 2 1 ov k (ns.map ei)) ∧ Upd [] w3 wr) (fun _ iv _ => ps.length - (intOf iv).toNat)
        case atStart => exact ⟨0, [], by omega, rfl, rfl, Lib.hid (by simp), HLIT, (Upd.refl _ _).alloc _⟩
        case round =>
          clear HLIT
          obtain ⟨k, ns, hk, rfl, hnl2, hF, hown, hU⟩ := hrel
          have HNL := Lib.hid hnl2
          clear hnl2
          have hszr := hU.size
          by_cases hlt : k < ps.length
          · obtain ⟨a', cap', hv, -, -, hc⟩ := slF1_open ((slF_kept _ _).upd HR.out hU (by simp))
            cases hv
            obtain ⟨b1, o1, rfl, -, -, p1⟩ := hc k hlt
            have hF1 := hF.out
            rw [List.drop_eq_getElem_cons hlt, loopV_cons] at hF1
            have hpk := HPC.out ps[k] (List.getElem_mem hlt)
            have HF := Lib.hid hF1
            have HU := Lib.hid hU
            clear hF1 hF hc hU
            generalize ps[k] = s at *
            have T1 := Lib.hid (numberS s wr hpk)
            cases hn : numF s with
            | none =>
              rw [hn] at HF
              have HRF := Lib.hid (show readF l = none by
                have h1 := HI.out
                rw [HSP.out, HF.out] at h1
                cases hr : readF l with
                | none => rfl
                | some x => rw [hr] at h1; cases h1)
              have T1' := T1.out
              unfold NumS at T1'
              rw [hn] at T1'
              have T2 := Lib.hid T1'
              clear HF T1 T1' hn
              go_wp2_with fail
              refine T2.out.mono ?_
              rintro e w5 ⟨rfl, rfl⟩
              clear T2
              go_wp2_with fail
              go_ret2
              exact ⟨⟨_, [], by rw [HRF.out]; rfl, new_nil _ _, Lib.hid (fun us hus => by rw [HRF.out] at hus; cases hus)⟩, HU3.out.trans HU.out⟩
            | some x =>
              rw [hn] at HF
              have T1' := T1.out
              unfold NumS at T1'
              rw [hn] at T1'
              have T2 := Lib.hid T1'
              have T3 := Lib.hid (inS x wr)
              clear T1 T1' hn
              cases hx : isV x with
              | false =>
                have HRF := Lib.hid (show readF l = none by
                  have h1 := HI.out
                  rw [HSP.out, HF.out] at h1
                  simp only [Option.bind_some, hx, Bool.false_eq_true, if_false] at h1
                  cases hr : readF l with
                  | none => rfl
                  | some x => rw [hr] at h1; cases h1)
                rw [hx] at T3
                clear HF hx
                go_wp2_with fail
                refine T2.out.mono ?_
                rintro e w5 ⟨rfl, rfl⟩
                clear T2
                simp only [Option.getD_some, Option.isSome_some]
                go_wp2_with fail
                refine T3.out.mono ?_
                rintro e w5 ⟨rfl, rfl⟩
                clear T3
                go_wp2_with fail
                go_ret2
                exact ⟨⟨_, [], by rw [HRF.out]; rfl, new_nil _ _, Lib.hid (fun us hus => by rw [HRF.out] at hus; cases hus)⟩, HU3.out.trans HU.out⟩
              | true =>
                have HN := Lib.hid (show loopV ps = (loopV (ps.drop (k + 1))).map ((ns ++ [x]) ++ ·) by
                  rw [HF.out]
                  simp only [Option.bind_some, hx, if_true]
                  cases loopV (ps.drop (k + 1)) <;> simp)
                rw [hx] at T3
                have hown3 := hown.out
                clear HF hx hown
                go_wp2_with fail
                refine T2.out.mono ?_
                rintro e w5 ⟨rfl, rfl⟩
                clear T2
                simp only [Option.getD_some, Option.isSome_some]
                go_wp2_with fail
                refine T3.out.mono ?_
                rintro e w5 ⟨rfl, rfl⟩
                clear T3
                go_wp2_with (first
                  | (at_builtin; refine wpList_append_tight _ rfl _ _ 25 rfl w3.heap.size 2 i1 (.int .i64 0) 1 8 Tryz.underlying25 ki kz0 kz1 kz2 rfl (by decide) _ _ _ rfl (hown3.alloc _) ⟨wr.heap.size, 0, none⟩ 1 1 [ei x] rfl rfl (fun j u hj => by rw [addr_add]; exact cell_new wr #[ei x] _ _ rfl _ _ (by simpa using hj)) (by simp [Value.oneCell']) (by unfold maxLen; omega) (by omega) (by simp; omega) ?_)
                  | fail)
                intro v4 w4 hown4 hg4 ht4
                have hu4 := (HU.out.alloc _).grown hg4 (fun b hb => Or.inl (by have := (hown3.lt b hb).1; omega))
                have HQ := Lib.hid (And.intro hown4 hu4)
                clear hown4 hg4 ht4 hu4 hown3
                go_wp2_with fail
                go_roundw
                case rel => exact ⟨k + 1, ns ++ [x], by omega, by go_num, by simp [HNL.out], HN, Lib.hid (by simpa using HQ.out.1), HQ.out.2⟩
                case measure => simp [intOf]; omega
          · obtain rfl : k = ps.length := by omega
            have hF1 := hF.out
            rw [List.drop_of_length_le (Nat.le_refl _)] at hF1
            have hl0 : loopV ps = some ns := by rw [hF1]; simp [loopV, numsF]
            have hs2 : specV l = if ns.length ≤ 2 then some ns else none := by rw [HSP.out, hl0]; rfl
            rw [HNL.out] at hs2
            have HS := Lib.hid (show (readF l).isSome = decide (ps.length ≤ 2) by
              rw [HI.out, hs2]
              by_cases h : ps.length ≤ 2 <;> simp [h])
            have HU5 := Lib.hid (show ∀ us, (readF l).map (·.2) = some us → ns = us by
              intro us hus
              rw [HV.out, hs2] at hus
              split at hus
              · simpa using hus
              · cases hus)
            obtain ⟨a6, c6, hv6⟩ := ownsRow_form hown.out
            have HQ := Lib.hid (And.intro ((New.ofOwns (w := w3) (e := 2) (enc := ei) (xs := ns) (by rw [HNL.out]; exact hown.out)).mono hsz3) (HU3.out.trans hU))
            subst hv6
            clear hown hU hF hF1 hl0 hs2
            by_cases h2 : ps.length ≤ 2
            · rw [decide_eq_true h2] at HS
              have h2' : (ps.length : Int) ≤ 2 := by omega
              go_wp2_with fail
              go_ret2
              exact ⟨⟨_, ns, by rw [HS.out]; rfl, HQ.out.1, HU5⟩, HQ.out.2⟩
            · rw [decide_eq_false h2] at HS
              have h2' : ¬ (ps.length : Int) ≤ 2 := by omega
              go_wp2_with fail
              go_ret2
              exact ⟨⟨_, ns, by rw [HS.out]; rfl, HQ.out.1, HU5⟩, HQ.out.2⟩
      · have hne : ((b.toNat : Int) == 41) = false := byte_ne (n := 41) (by omega) h41
        have HS := Lib.hid (show readF l = none by
          have h1 := HI.out
          rw [hsp, if_neg (fun h => h41 h.2)] at h1
          cases hr : readF l with
          | none => rfl
          | some x => rw [hr] at h1; cases h1)
        clear hsp ha HV HI hA40 S3
        go_enter Tryz.func103, Tryz.ntmps103
        go_wp2_with fail
        refine S1.out.mono ?_
        rintro e w1 ⟨rfl, rfl⟩
        clear S1
        go_wp2_with fail
        refine S2.out.mono ?_
        rintro e w1 ⟨rfl, rfl⟩
        clear S2
        go_wp2_with fail
        go_ret2
        exact ⟨⟨_, [], by rw [HS.out]; rfl, new_nil _ _, Lib.hid (fun us hus => by rw [HS.out] at hus; cases hus)⟩, Upd.refl _ _⟩

end Go.Proofs.YtkhifpgpkklokaaGreatDoor

/-
  Names and labels: what the program's calls return.
-/
namespace Go.Proofs.YtkhifpgpkklokaaGreatDoor
open Go.RowKit

theorem isDigitI (b : UInt8) (w : World) : Calls Tryz.prog 147 #[.int .u8 (b.toNat : Int)] w fun e w' => e = .returned (.bool (isDig b)) ∧ w = w' := by
  by_cases h1 : 48 ≤ b.toNat
  · by_cases h2 : b.toNat ≤ 57
    · have HR := Lib.hid (show isDig b = true by simp [isDig]; omega)
      have g1 : (48 : Int) ≤ (b.toNat : Int) := by omega
      have g2 : (b.toNat : Int) ≤ 57 := by omega
      go_enter Tryz.func147, Tryz.ntmps147
      go_wp2_with fail
      go_ret
      exact ⟨by rw [HR.out]; rfl, rfl⟩
    · have HR := Lib.hid (show isDig b = false by simp [isDig]; omega)
      have g1 : (48 : Int) ≤ (b.toNat : Int) := by omega
      have g2 : ¬ (b.toNat : Int) ≤ 57 := by omega
      go_enter Tryz.func147, Tryz.ntmps147
      go_wp2_with fail
      go_ret
      exact ⟨by rw [HR.out]; rfl, rfl⟩
  · have HR := Lib.hid (show isDig b = false by simp [isDig]; omega)
    have g1 : ¬ (48 : Int) ≤ (b.toNat : Int) := by omega
    go_enter Tryz.func147, Tryz.ntmps147
    go_wp2_with fail
    go_ret
    exact ⟨by rw [HR.out]; rfl, rfl⟩

set_option maxRecDepth 20000 in
set_option maxHeartbeats 2000000 in
theorem isNameI (l : List UInt8) (w : World) (hl : l.length ≤ 2000000) : Calls Tryz.prog 132 #[es l] w fun e w' => e = .returned (.bool (nameF l)) ∧ w = w' := by
  go_enter Tryz.func132, Tryz.ntmps132
  go_wp2_with fail
  go_loop [7] (fun i => ∃ k : Nat, k ≤ l.length ∧ i = .int .i64 k ∧ Hid (∀ j (hj : j < k) (hj2 : j < l.length), (sml l[j] || (decide (0 < j) && isDig l[j])) = true)) (fun i => l.length - (intOf i).toNat)
  case atStart => exact ⟨0, Nat.zero_le _, rfl, Lib.hid (fun j hj => by omega)⟩
  case round =>
    obtain ⟨k, hk, rfl, HQ⟩ := hrel
    by_cases hlt : k < l.length
    · obtain ⟨b, hb⟩ : ∃ b, l[k] = b := ⟨_, rfl⟩
      have hix : (⟨l.toArray⟩ : ByteArray)[k]'(by simpa [ByteArray.size] using hlt) = b := by rw [← hb]; simp [ByteArray.getElem_eq_getElem_data]
      have HB := Lib.hid hb
      have S1 := Lib.hid (isDigitI b w)
      clear hb
      have hno : (sml b || (decide (0 < k) && isDig b)) = false → nameF l = false := by
        intro h
        cases hn : nameF l with
        | false => rfl
        | true =>
          exfalso
          have hn' := hn
          unfold nameF at hn'
          simp only [Bool.and_eq_true] at hn'
          rw [Bool.or_eq_false_iff] at h
          by_cases h0 : k = 0
          · subst h0
            have e0 : l.headD 0 = b := by rw [← HB.out]; cases l with
              | nil => simp at hlt
              | cons x l => rfl
            have := hn'.1.2
            rw [e0, h.1] at this; cases this
          · have := List.all_eq_true.1 hn'.2 b (by rw [← HB.out]; exact List.getElem_mem hlt)
            rw [h.1] at this
            have h3 := h.2
            rw [decide_eq_true (by omega : 0 < k)] at h3
            simp at h3 this
            rw [h3] at this; cases this
      have HNO := Lib.hid hno
      have hstep : (sml b || (decide (0 < k) && isDig b)) = true → ∀ j (hj : j < k + 1) (hj2 : j < l.length), (sml l[j] || (decide (0 < j) && isDig l[j])) = true := by
        intro h j hj hj2
        by_cases e : j = k
        · subst e; rw [HB.out]; exact h
        · exact HQ.out j (by omega) hj2
      have HST := Lib.hid hstep
      clear hno hstep HQ HB
      by_cases hs : sml b = true
      · have hs' : 97 ≤ b.toNat ∧ b.toNat ≤ 122 := by simpa [sml] using hs
        have g1 : (97 : Int) ≤ (b.toNat : Int) := by omega
        have g2 : (b.toNat : Int) ≤ 122 := by omega
        have g3 : ¬ (122 : Int) < (b.toNat : Int) := by omega
        have HR := Lib.hid (HST.out (by rw [hs]; rfl))
        clear S1 HNO HST hs hs'
        go_wp2_with fail
        go_round
        case rel => exact ⟨k + 1, by omega, by go_num, HR⟩
        case measure => simp [intOf]; omega
      · have hs0 : sml b = false := by simpa using hs
        have HS0 := Lib.hid hs0
        have hs' : ¬ (97 ≤ b.toNat ∧ b.toNat ≤ 122) := by simpa [sml] using hs
        clear hs hs0
        by_cases h0 : k = 0
        · subst h0
          have HR := Lib.hid (HNO.out (by rw [HS0.out]; rfl))
          clear S1 HNO HST
          by_cases g1 : (97 : Int) ≤ (b.toNat : Int)
          · have g2 : ¬ (b.toNat : Int) ≤ 122 := by omega
            have g3 : (122 : Int) < (b.toNat : Int) := by omega
            clear hs'
            go_wp2_with fail
            go_ret
            exact ⟨by rw [HR.out]; rfl, rfl⟩
          · clear hs'
            go_wp2_with fail
            go_ret
            exact ⟨by rw [HR.out]; rfl, rfl⟩
        · have h0' : ((k : Int) == 0) = false := by simp; omega
          cases hd : isDig b with
          | true =>
            have HR := Lib.hid (HST.out (by rw [HS0.out, hd, decide_eq_true (by omega : 0 < k)]; rfl))
            rw [hd] at S1
            clear HNO HST hd
            by_cases g1 : (97 : Int) ≤ (b.toNat : Int)
            · have g2 : ¬ (b.toNat : Int) ≤ 122 := by omega
              have g3 : (122 : Int) < (b.toNat : Int) := by omega
              clear hs'
              go_wp2_with fail
              refine S1.out.mono ?_
              rintro e w1 ⟨rfl, rfl⟩
              go_wp2_with fail
              go_round
              case rel => exact ⟨k + 1, by omega, by go_num, HR⟩
              case measure => simp [intOf]; omega
            · clear hs'
              go_wp2_with fail
              refine S1.out.mono ?_
              rintro e w1 ⟨rfl, rfl⟩
              go_wp2_with fail
              go_round
              case rel => exact ⟨k + 1, by omega, by go_num, HR⟩
              case measure => simp [intOf]; omega
          | false =>
            have HR := Lib.hid (HNO.out (by rw [HS0.out, hd]; simp))
            rw [hd] at S1
            clear HNO HST hd
            by_cases g1 : (97 : Int) ≤ (b.toNat : Int)
            · have g2 : ¬ (b.toNat : Int) ≤ 122 := by omega
              have g3 : (122 : Int) < (b.toNat : Int) := by omega
              clear hs'
              go_wp2_with fail
              refine S1.out.mono ?_
              rintro e w1 ⟨rfl, rfl⟩
              go_wp2_with fail
              go_ret
              exact ⟨by rw [HR.out]; rfl, rfl⟩
            · clear hs'
              go_wp2_with fail
              refine S1.out.mono ?_
              rintro e w1 ⟨rfl, rfl⟩
              go_wp2_with fail
              go_ret
              exact ⟨by rw [HR.out]; rfl, rfl⟩
    · obtain rfl : k = l.length := by omega
      have hfin : nameF l = (decide (1 ≤ l.length) && decide (l.length ≤ 10)) := by
        have hq := HQ.out
        unfold nameF
        by_cases h1 : 1 ≤ l.length
        · have e0 : l.headD 0 = l[0] := by cases l with
            | nil => simp at h1
            | cons x l => rfl
          have q0 := hq 0 (by omega) (by omega)
          simp only [Nat.lt_irrefl, decide_false, Bool.false_and, Bool.or_false] at q0
          have hall : l.all (fun c => sml c || isDig c) = true := by
            rw [List.all_eq_true]
            intro x hx
            obtain ⟨j, hj, rfl⟩ := List.mem_iff_getElem.1 hx
            have := hq j hj hj
            revert this
            cases sml l[j] <;> cases isDig l[j] <;> simp
          rw [e0, q0, hall]; simp
        · rw [decide_eq_false h1]; simp
      have HF := Lib.hid hfin
      clear hfin HQ
      by_cases h1 : 1 ≤ l.length
      · have g1 : (1 : Int) ≤ (l.length : Int) := by omega
        by_cases h2 : l.length ≤ 10
        · have HR := Lib.hid (show nameF l = true by rw [HF.out, decide_eq_true h1, decide_eq_true h2]; rfl)
          have g2 : (l.length : Int) ≤ 10 := by omega
          go_wp2_with fail
          go_ret
          exact ⟨by rw [HR.out]; rfl, rfl⟩
        · have HR := Lib.hid (show nameF l = false by rw [HF.out, decide_eq_true h1, decide_eq_false h2]; rfl)
          have g2 : ¬ (l.length : Int) ≤ 10 := by omega
          go_wp2_with fail
          go_ret
          exact ⟨by rw [HR.out]; rfl, rfl⟩
      · have HR := Lib.hid (show nameF l = false by rw [HF.out, decide_eq_false h1]; rfl)
        have g1 : ¬ (1 : Int) ≤ (l.length : Int) := by omega
        go_wp2_with fail
        go_ret
        exact ⟨by rw [HR.out]; rfl, rfl⟩

end Go.Proofs.YtkhifpgpkklokaaGreatDoor

/-
  Numbers in decimal: what the program's calls return.
-/
namespace Go.Proofs.YtkhifpgpkklokaaGreatDoor
open Go.RowKit

/-- what the calls of the library read of the package's variables. -/
structure Env (w : World) : Prop where
  m : ∃ m : Int, w.cell? ⟨0, 0, none⟩ = some (.int .i64 m)
  tab : Lib.TabIs Tryz.prog w "internal/strconv.uint64pow10" .u64 Lib.pow10Tab
  syn : ∃ tp p, w.var? Tryz.prog "strconv.ErrSyntax" = some #[.iface tp p]
  rng : ∃ tp p, w.var? Tryz.prog "strconv.ErrRange" = some #[.iface tp p]

theorem Upd.var {P : Program} {w w1 : World} {n : String} {cs : Array Value} (hu : Upd [] w w1) (h : w.var? P n = some cs) : w1.var? P n = some cs := by
  unfold World.var? at h ⊢
  cases hg : P.globalNamed n with
  | none => rw [hg] at h; cases h
  | some g =>
    rw [hg] at h
    simp only [Option.bind_some] at h ⊢
    have hlt : g < w.heap.size := by
      rcases Nat.lt_or_ge g w.heap.size with h1 | h1
      · exact h1
      · rw [Array.getElem?_eq_none h1] at h; cases h
    rw [hu.block g hlt (by simp)]
    exact h

theorem Env.upd {w w1 : World} (h : Env w) (hu : Upd [] w w1) : Env w1 :=
  ⟨h.m.imp fun _ hm => hu.keep hm, hu.var h.tab, h.syn.imp fun _ hs => hs.imp fun _ hs => hu.var hs, h.rng.imp fun _ hs => hs.imp fun _ hs => hu.var hs⟩

theorem Upd.grow (w : World) (k : Nat) (os : Array Obj) : Upd [] w (Sort.grow (w.drewN k) os) := by
  refine ⟨rfl, rfl, rfl, ?_, fun i hi _ => ?_⟩
  · show w.heap.size ≤ (w.heap ++ os).size
    rw [Array.size_append]; omega
  · show (w.heap ++ os)[i]? = w.heap[i]?
    rw [Array.getElem?_append_left hi]

theorem decimal (n : Int) (w : World) (h0 : -9223372036854775808 ≤ n) (h1 : n ≤ 9223372036854775807) (he : Env w) :
    Calls Tryz.prog 150 #[.int .i64 n] w fun e w' => e = .returned (es (Lib.itoa n)) ∧ Upd [] w w' := by
  have S1 := Lib.hid (Tryz.strconv_FormatInt_10 n h0 h1 w he.tab)
  clear he h0 h1
  go_enter Tryz.func150, Tryz.ntmps150
  go_wp2_with fail
  refine S1.out.mono ?_
  rintro e w1 ⟨rfl, k, os, rfl⟩
  have HU := Lib.hid (Upd.grow w k os)
  generalize Sort.grow (w.drewN k) os = w1 at *
  clear S1
  go_wp2_with fail
  go_ret
  exact ⟨rfl, HU.out⟩

theorem isActionI (l : List UInt8) (w : World) (hl : l.length ≤ 2000000) :
    Calls Tryz.prog 113 #[es l] w fun e w' => e = .returned (.bool (actF l)) ∧ w = w' := by
  have S1 := Lib.hid (isNameI l w hl)
  cases hn : nameF l with
  | false =>
    have HR := Lib.hid (show actF l = false by simp [actF, hn])
    rw [hn] at S1
    clear hn
    go_enter Tryz.func113, Tryz.ntmps113
    go_wp2_with fail
    refine S1.out.mono ?_
    rintro e w1 ⟨rfl, rfl⟩
    clear S1
    go_wp2_with fail
    go_ret
    exact ⟨by rw [HR.out]; rfl, rfl⟩
  | true =>
    have HR := Lib.hid (show actF l = (l != tauL) by simp [actF, hn])
    rw [hn] at S1
    clear hn
    go_enter Tryz.func113, Tryz.ntmps113
    go_wp2_with fail
    refine S1.out.mono ?_
    rintro e w1 ⟨rfl, rfl⟩
    clear S1
    go_wp2_with fail
    go_ret
    refine ⟨?_, rfl⟩
    rw [HR.out]
    simp [tauL, bne]

theorem parse_range {l : List UInt8} {v : Int} (h : Lib.parseIntB 64 l = .ok v) : -9223372036854775808 ≤ v ∧ v ≤ 9223372036854775807 := by
  unfold Lib.parseIntB at h
  cases l with
  | nil => cases h
  | cons c r =>
    simp only at h
    split at h
    · cases h
    · cases h
    · split at h
      · cases h
      · split at h
        · cases h
        · rename_i h1 h2
          simp only [Lib.NumEnd.ok.injEq] at h
          subst h
          by_cases hc : c.toNat = 45
          · simp only [hc, not_true_eq_false, true_and, false_and, not_false_eq_true] at h1 h2
            simp only [hc, if_true]; omega
          · simp only [hc, not_false_eq_true, true_and, false_and] at h1 h2
            simp only [hc, if_false]; omega

theorem digL_trim (s : List UInt8) : Lib.trimPrefix s [45] = digL s := by
  cases s with
  | nil => rfl
  | cons b r =>
    by_cases hb : b = 45
    · subst hb; simp [Lib.trimPrefix, Lib.hasPrefix, digL, negL, List.isPrefixOf]
    · have h1 : (b == 45) = false := by simpa using hb
      have h2 : ((45 : UInt8) == b) = false := by simpa using fun e => hb e.symm
      simp [Lib.trimPrefix, Lib.hasPrefix, digL, negL, List.isPrefixOf, h1, h2]

def NumV (s : List UInt8) (w : World) (e : Ending) (w' : World) : Prop := e = .returned (.tuple #[.int .i64 ((numF s).getD 0), .bool (numF s).isSome]) ∧ Upd [] w w'

set_option maxRecDepth 20000 in
set_option maxHeartbeats 2000000 in
theorem readDecimalI (s : List UInt8) (w : World) (hl : s.length ≤ 2000000) (he : Env w) : Calls Tryz.prog 137 #[es s] w (NumV s w) := by
  have S1 := Lib.hid (Tryz.strings_TrimPrefix ⟨s.toArray⟩ ⟨#[45]⟩ w)
  have e1 : Lib.trimPrefix (⟨s.toArray⟩ : ByteArray).data.toList (⟨#[45]⟩ : ByteArray).data.toList = digL s := digL_trim s
  rw [e1] at S1
  clear e1
  have hdl : (digL s).length ≤ s.length := by
    unfold digL; split <;> simp
  by_cases hlen : 18 < (digL s).length
  · have HR := Lib.hid (show numF s = none by unfold numF; rw [if_pos (Or.inr (Or.inl hlen))])
    generalize digL s = d at *
    have g1 : (18 : Int) < (d.length : Int) := by omega
    clear hlen he
    go_enter Tryz.func137, Tryz.ntmps137
    go_wp2_with fail
    refine S1.out.mono ?_
    rintro e w1 ⟨rfl, rfl⟩
    clear S1
    go_wp2_with fail
    go_ret2
    exact ⟨by rw [HR.out]; rfl, Upd.refl _ _⟩
  · have hsz : (⟨s.toArray⟩ : ByteArray).size = s.length := rfl
    cases hp : Lib.parseIntB 64 s with
    | «syntax» =>
      have HR := Lib.hid (show numF s = none by
        cases hn : numF s with
        | none => rfl
        | some n =>
          obtain ⟨a, -, b⟩ := numF_some hn
          rw [a, parse_itoa n b] at hp; cases hp)
      obtain ⟨tp, p, hsyn⟩ := he.syn
      have S2 := Lib.hid (Tryz.strconv_ParseInt_10_at64_syntax_var ⟨s.toArray⟩ (by rw [hsz]; omega) hp tp p w hsyn)
      clear hsyn hp hsz he
      generalize digL s = d at *
      have g1 : ¬ (18 : Int) < (d.length : Int) := by omega
      clear hlen
      go_enter Tryz.func137, Tryz.ntmps137
      go_wp2_with fail
      refine S1.out.mono ?_
      rintro e w1 ⟨rfl, rfl⟩
      clear S1
      go_wp2_with fail
      refine S2.out.mono ?_
      rintro e w1 ⟨N, rfl, -, -, hb⟩
      have HU := Lib.hid (Upd.ofBelow hb)
      clear S2 hb
      go_wp2_with fail
      go_ret2
      exact ⟨by rw [HR.out]; rfl, HU.out⟩
    | range =>
      have HR := Lib.hid (show numF s = none by
        cases hn : numF s with
        | none => rfl
        | some n =>
          obtain ⟨a, -, b⟩ := numF_some hn
          rw [a, parse_itoa n b] at hp; cases hp)
      obtain ⟨tp, p, hsyn⟩ := he.rng
      have S2 := Lib.hid (Tryz.strconv_ParseInt_10_at64_range_var ⟨s.toArray⟩ (by rw [hsz]; omega) hp tp p w hsyn)
      clear hsyn hp hsz he
      generalize digL s = d at *
      have g1 : ¬ (18 : Int) < (d.length : Int) := by omega
      clear hlen
      go_enter Tryz.func137, Tryz.ntmps137
      go_wp2_with fail
      refine S1.out.mono ?_
      rintro e w1 ⟨rfl, rfl⟩
      clear S1
      go_wp2_with fail
      refine S2.out.mono ?_
      rintro e w1 ⟨N, rfl, -, -, hb⟩
      have HU := Lib.hid (Upd.ofBelow hb)
      clear S2 hb
      go_wp2_with fail
      go_ret2
      exact ⟨by rw [HR.out]; rfl, HU.out⟩
    | ok v =>
      obtain ⟨v0, v1⟩ := parse_range hp
      have S2 := Lib.hid (Tryz.strconv_ParseInt_10_at64_ok ⟨s.toArray⟩ (by rw [hsz]; omega) v hp w)
      have HR := Lib.hid (show numF s = if Lib.itoa v = s then some v else none by
        split
        · rename_i h
          rw [← h]; exact numF_itoa v (by rw [h]; omega)
        · rename_i h
          cases hn : numF s with
          | none => rfl
          | some n =>
            exfalso
            obtain ⟨a, -, b⟩ := numF_some hn
            rw [a, parse_itoa n b] at hp
            cases hp
            exact h a.symm)
      have S3 := Lib.hid (fun w1 (hu : Upd [] w w1) => decimal v w1 v0 v1 (he.upd hu))
      clear hp hsz he
      generalize digL s = d at *
      have g1 : ¬ (18 : Int) < (d.length : Int) := by omega
      clear hlen
      go_enter Tryz.func137, Tryz.ntmps137
      go_wp2_with fail
      refine S1.out.mono ?_
      rintro e wa ⟨rfl, rfl⟩
      clear S1
      go_wp2_with fail
      refine S2.out.mono ?_
      rintro e w1 ⟨rfl, hw⟩
      have hu : Upd [] wa w1 := by
        rcases hw with rfl | ⟨t, rfl⟩
        · exact Upd.refl _ _
        · exact Upd.ofBelow (Lib.bytesWorld_below _ _ _)
      have S4 := Lib.hid (S3.out w1 hu)
      have HU := Lib.hid hu
      clear S2 S3 hw hu
      go_wp2_with fail
      refine S4.out.mono ?_
      rintro e w2 ⟨rfl, hu2⟩
      have HU2 := Lib.hid (HU.out.trans hu2)
      clear S4 HU hu2
      by_cases heq : Lib.itoa v = s
      · have HR2 := Lib.hid (HR.out.trans (if_pos heq))
        rw [heq]
        clear HR heq
        go_wp2_with fail
        go_ret2
        exact ⟨by rw [HR2.out]; rfl, HU2.out⟩
      · have HR2 := Lib.hid (HR.out.trans (if_neg heq))
        clear HR
        generalize Lib.itoa v = A at *
        have hne : (A == s) = false := by simpa using heq
        go_wp2_with fail
        go_ret2
        exact ⟨by rw [HR2.out]; rfl, HU2.out⟩

end Go.Proofs.YtkhifpgpkklokaaGreatDoor

/-
  Labels made: what the program's calls return.
-/
namespace Go.Proofs.YtkhifpgpkklokaaGreatDoor
open Go.RowKit

set_option maxRecDepth 20000 in
set_option maxHeartbeats 4000000 in
theorem joinedI (v : Value) (xs : List Int) (w : World) (fp : List Nat) (hR : R1 fp w [v] xs) (h0 : 0 < xs.length) (hl : xs.length ≤ 1000000)
    (hv : ∀ x ∈ xs, (-9223372036854775808 ≤ x ∧ x ≤ 9223372036854775807) ∧ (Lib.itoa x).length ≤ 30) (he : Env w) :
    Calls Tryz.prog 140 #[v, es [44]] w fun e w' => e = .returned (es (txtV xs)) ∧ Upd [] w w' := by
  obtain ⟨i0, hi, hz0, hz1, hz2⟩ := info_parts Tryz.info9
  obtain ⟨a, cap, rfl, h1, h2, -⟩ := slF1_open hR
  unfold maxLen at h2
  have HR := Lib.hid hR
  have HV := Lib.hid hv
  have HE := Lib.hid he
  have hm2 : i0.bytes * xs.length ≤ 281474976710656 := by rw [hz2]; omega
  clear hR hv he
  go_enter Tryz.func140, Tryz.ntmps140
  go_wp2_with (first
    | (at_make; refine wpList_make_full _ rfl _ _ 24 rfl w.heap.size 9 i0 (es []) 1 Tryz.underlying24 hi hz0 hz1 .i64 .i64 _ _ xs.length rfl rfl rfl rfl hm2 (by unfold maxLen; omega) (Nat.le_refl _) ?_; intro w2 hrow hgrow)
    | fail)
  rw [made_one _ rfl] at hrow
  have hU : Upd [] w w2 := (Upd.refl _ _).grown hgrow (by simp)
  obtain ⟨fo, ho1, ho2, ho3⟩ := New.ofOwns (w := w) (e := 9) (enc := es) (xs := List.replicate xs.length ([] : List UInt8)) (by simpa using hrow)
  have HST := Lib.hid (And.intro (show RS fo w2 [.slice (some ⟨w.heap.size, 0, none⟩) xs.length xs.length] ((xs.take 0).map Lib.itoa ++ List.replicate (xs.length - 0) []) from by simpa using ho1) ho2)
  clear hrow hgrow ho1 ho2 ho3 hm2
  go_wp2_with fail
  go_loopw [13] (fun i wr => ∃ k : Nat, k ≤ xs.length ∧ i = .int .i64 k ∧ Upd [] w wr ∧ RS fo wr [.slice (some ⟨w.heap.size, 0, none⟩) xs.length xs.length] ((xs.take k).map Lib.itoa ++ List.replicate (xs.length - k) []) ∧ Own fo wr) (fun i _ => xs.length - (intOf i).toNat)
  case atStart => exact ⟨0, Nat.zero_le _, rfl, hU, HST.out.1, HST.out.2⟩
  case round =>
    clear HST hU
    obtain ⟨k, hk, rfl, hU, ho1, ho2⟩ := hrel
    by_cases hlt : k < xs.length
    · obtain ⟨a', cap', hv, -, -, hc⟩ := slF1_open (R1k.upd HR.out hU (by simp))
      cases hv
      obtain ⟨b1, o1, rfl, -, -, p1⟩ := hc k hlt
      have hset := set_fill Lib.itoa [] xs k hlt
      obtain ⟨⟨x0, x1⟩, -⟩ := HV.out xs[k] (List.getElem_mem hlt)
      have hlen : ((xs.take k).map Lib.itoa ++ List.replicate (xs.length - k) ([] : List UInt8)).length = xs.length := by simp; omega
      have HL := Lib.hid hlen
      have HS := Lib.hid hset
      have HU := Lib.hid hU
      have HO := Lib.hid (And.intro ho1 ho2)
      generalize xs[k] = x at *
      have S1 := Lib.hid (decimal x wr x0 x1 (HE.out.upd hU))
      clear hc hset hlen hU ho1 ho2
      go_wp2_with fail
      refine S1.out.mono ?_
      rintro e w3 ⟨rfl, hu3⟩
      obtain ⟨hbl, hcl0, hfz, hos⟩ := rowCellS (RSk.upd HO.out.1 hu3 (by simp)) (HO.out.2.upd hu3 (by simp)) HL.out k hlt
      have hos := hos (Lib.itoa x)
      rw [HS.out] at hos
      obtain ⟨z0, hz0'⟩ : ∃ z0 : List UInt8, w3.cell? ⟨w.heap.size, k, none⟩ = some (es z0) := ⟨_, hcl0⟩
      clear hcl0
      have HP := Lib.hid (And.intro hos (HU.out.trans hu3))
      clear S1 hos HO HU hu3 HS HL
      generalize Lib.itoa x = A at *
      go_wp2_with fail
      go_roundw
      case rel => exact ⟨k + 1, by omega, by go_num, HP.out.2.setCell (Or.inl (Nat.le_refl _)) _, HP.out.1.1, HP.out.1.2⟩
      case measure => simp [intOf]; omega
    · obtain rfl : k = xs.length := by omega
      obtain ⟨ps, hps⟩ : ∃ ps, ps = xs.map Lib.itoa := ⟨_, rfl⟩
      have hpl : ps.length = xs.length := by rw [hps]; simp
      have ho3 : RS fo wr [.slice (some ⟨w.heap.size, 0, none⟩) xs.length xs.length] ps := by rw [hps]; simpa using ho1
      obtain ⟨a', cap', hv, -, hc2, hc⟩ := slF1_open ho3
      simp only [Value.slice.injEq] at hv
      obtain ⟨rfl, -, rfl⟩ := hv
      have hle : (joinC 44 ps).length ≤ ps.length * (30 + 1) := joinC_le 44 30 ps (fun p hp => by
        rw [hps] at hp
        obtain ⟨x, hx, rfl⟩ := List.mem_map.1 hp
        exact (HV.out x hx).2)
      have hbk : w.heap.size < wr.heap.size := by
        obtain ⟨b, off, hb, -, hbl, -⟩ := hc 0 (by omega)
        cases hb; exact hbl
      have hmm : (ps.map (fun p => (⟨p.toArray⟩ : ByteArray))).map (fun b => b.data.toList) = ps := by
        rw [List.map_map]; exact (List.map_congr_left (fun p _ => rfl)).trans (List.map_id _)
      have hj : Lib.join ((ps.map (fun p => (⟨p.toArray⟩ : ByteArray))).map (fun b => b.data.toList)) (⟨#[44]⟩ : ByteArray).data.toList = joinC 44 ps := by
        rw [hmm]; exact join_lib 44 ps
      have S0 := Tryz.strings_Join w.heap.size 0 xs.length (ps.map (fun p => (⟨p.toArray⟩ : ByteArray))) ⟨#[44]⟩ wr (fun j x hx => by
        obtain ⟨hj1, rfl⟩ := List.getElem?_eq_some_iff.1 hx
        have hj2 : j < ps.length := by simpa using hj1
        obtain ⟨b, off, hb, -, -, hcl⟩ := hc j hj2
        cases hb
        rw [hcl]
        simp [es]) hbk (by simp; omega) (by simp; omega) (by rw [hj]; omega)
      rw [hj] at S0
      simp only [List.length_map, hpl] at S0
      have S1 := Lib.hid S0
      have HX := Lib.hid (show joinC 44 ps = txtV xs by rw [hps, txtV])
      have HU := Lib.hid hU
      clear hj hmm hle hc hc2 ho3 ho1 ho2 hps hU S0 HV HE HR
      generalize joinC 44 ps = J at *
      go_wp2_with fail
      refine S1.out.mono ?_
      rintro e w3 ⟨rfl, hb3⟩
      have HP := Lib.hid (HU.out.trans (Upd.ofBelow hb3))
      clear S1 hb3 HU
      go_wp2_with fail
      go_ret
      exact ⟨by rw [← HX.out]; rfl, HP.out⟩

end Go.Proofs.YtkhifpgpkklokaaGreatDoor

/-
  Words read as numbers.
-/
namespace Go.Proofs.YtkhifpgpkklokaaGreatDoor
open Go.RowKit

def NumsV (ps : List (List UInt8)) (w : World) (e : Ending) (w' : World) : Prop :=
  (∃ v', e = .returned (.tuple #[v', .bool (numsF ps).isSome]) ∧ New R1 w w' v' ((numsF ps).getD [])) ∧ Upd [] w w'

set_option maxRecDepth 20000 in
set_option maxHeartbeats 4000000 in
theorem readNumbersI (v : Value) (ps : List (List UInt8)) (w : World) (fp : List Nat) (hR : slF 1 (fun s => [es s]) fp w [v] ps) (hl : ps.length ≤ 2000001) (hp : ∀ p ∈ ps, p.length ≤ 2000000) (he : Env w) :
    Calls Tryz.prog 122 #[v] w (NumsV ps w) := by
  obtain ⟨i1, ki, kz0, kz1, kz2⟩ := info_parts Tryz.info2
  obtain ⟨a, cap, rfl, h1, h2, -⟩ := slF1_open hR
  unfold maxLen at h2
  have hlit := World.ownsRow_nil w w.heap.size 2 1
  have HLIT := Lib.hid hlit
  have HR := Lib.hid hR
  have HP := Lib.hid hp
  have HE := Lib.hid he
  clear hR hp he hlit
  go_enter Tryz.func122, Tryz.ntmps122
  go_wp2_with fail
  go_loopw [4, 11] (fun ov i wr => ∃ (k : Nat) (ns : List Int), k ≤ ps.length ∧ i = .int .i64 k ∧ ns.length = k ∧ Hid (numsF ps = (numsF (ps.drop k)).map (ns ++ ·)) ∧ Hid (wr.ownsRow w.heap.size 2 1 ov k (ns.map ei)) ∧ Upd [] w wr) (fun _ i _ => ps.length - (intOf i).toNat)
  case atStart => exact ⟨0, [], by omega, rfl, rfl, Lib.hid (by simp), HLIT, Upd.refl _ _⟩
  case round =>
    clear HLIT
    obtain ⟨k, ns, hk, rfl, hnl, hF, hown, hU⟩ := hrel
    have HNL := Lib.hid hnl
    clear hnl
    by_cases hlt : k < ps.length
    · obtain ⟨a', cap', hv, -, -, hc⟩ := slF1_open ((slF_kept _ _).upd HR.out hU (by simp))
      cases hv
      obtain ⟨b1, o1, rfl, -, -, p1⟩ := hc k hlt
      have hF1 := hF.out
      rw [List.drop_eq_getElem_cons hlt, numsF_cons] at hF1
      have hpk := HP.out ps[k] (List.getElem_mem hlt)
      have HF := Lib.hid hF1
      have HU := Lib.hid hU
      clear hF1 hF hc
      generalize ps[k] = s at *
      have S1 := Lib.hid (readDecimalI s wr hpk (HE.out.upd hU))
      clear hU
      go_wp2_with fail
      refine S1.out.mono ?_
      rintro e w3 ⟨rfl, hu3⟩
      have HU3 := Lib.hid (HU.out.trans hu3)
      have hown3 := ownsRow_upd hown.out hu3
      have hsz3 := HU3.out.size
      clear S1 HU hu3 hown
      cases hn : numF s with
      | none =>
        rw [hn] at HF
        have HN := Lib.hid (show numsF ps = none from HF.out)
        clear HF hown3
        go_wp2_with fail
        go_ret2
        exact ⟨⟨_, by rw [HN.out]; rfl, by rw [HN.out]; exact new_nil _ _⟩, HU3.out⟩
      | some x =>
        rw [hn] at HF
        have HN := Lib.hid (show numsF ps = (numsF (ps.drop (k + 1))).map ((ns ++ [x]) ++ ·) by
          rw [HF.out]
          simp [Function.comp_def])
        clear HF
        simp only [Option.getD_some, Option.isSome_some]
        go_wp2_with (first
          | (at_builtin; refine wpList_append_tight _ rfl _ _ 25 rfl w.heap.size 2 i1 (.int .i64 0) 1 8 Tryz.underlying25 ki kz0 kz1 kz2 rfl (by decide) _ _ _ rfl (hown3.alloc _) ⟨w3.heap.size, 0, none⟩ 1 1 [ei x] rfl rfl (fun j u hj => by rw [addr_add]; exact cell_new w3 #[ei x] _ _ rfl _ _ (by simpa using hj)) (by simp [Value.oneCell']) (by unfold maxLen; omega) (by omega) (by simp; omega) ?_)
          | fail)
        intro v4 w4 hown4 hg4 ht4
        have hu4 : Upd [] w w4 := (HU3.out.alloc _).grown hg4 (fun b hb => Or.inl (by have := (hown3.lt b hb).1; omega))
        have HQ := Lib.hid (And.intro hown4 hu4)
        clear hown4 hg4 ht4 hu4 hown3
        go_wp2_with fail
        go_roundw
        case rel => exact ⟨k + 1, ns ++ [x], by omega, by go_num, by simp [HNL.out], HN, Lib.hid (by simpa using HQ.out.1), HQ.out.2⟩
        case measure => simp [intOf]; omega
    · obtain rfl : k = ps.length := by omega
      have hF1 := hF.out
      rw [List.drop_of_length_le (Nat.le_refl _)] at hF1
      have HN := Lib.hid (show numsF ps = some ns by rw [hF1]; simp [numsF])
      have HQ := Lib.hid (And.intro (New.ofOwns (w := w) (e := 2) (enc := ei) (xs := ns) (by rw [HNL.out]; exact hown.out)) hU)
      clear hown hU hF hF1
      go_wp2_with fail
      go_ret2
      exact ⟨⟨_, by rw [HN.out]; rfl, by rw [HN.out]; exact HQ.out.1⟩, HQ.out.2⟩

end Go.Proofs.YtkhifpgpkklokaaGreatDoor

/-
  Labels made and read: what the program's calls return.
-/
namespace Go.Proofs.YtkhifpgpkklokaaGreatDoor
open Go.RowKit

def LabV (name : List UInt8) (xs : List Int) (w : World) (e : Ending) (w' : World) : Prop :=
  (∃ t : List UInt8, e = .returned (.tuple #[es t, .bool (labT name xs).isSome]) ∧ Hid (∀ s, labT name xs = some s → t = s)) ∧ Upd [] w w'

theorem isV_itoa {x : Int} (h : isV x = true) : (-9223372036854775808 ≤ x ∧ x ≤ 9223372036854775807) ∧ (Lib.itoa x).length ≤ 30 := by
  have hb := inB_true h
  have h1 := itoa_len64 h
  have h2 : (Lib.itoa x).length ≤ (digL (Lib.itoa x)).length + 1 := by unfold digL; split <;> simp <;> omega
  omega

theorem labT_no {name : List UInt8} {xs : List Int} (ht : name ≠ tauL) (h : (actF name && decide (xs.length ≤ 2) && xs.all isV) = false) : labT name xs = none := by
  unfold labT; rw [if_neg ht, h]; rfl
theorem labT_yes {name : List UInt8} {xs : List Int} (ht : name ≠ tauL) (h : (actF name && decide (xs.length ≤ 2) && xs.all isV) = true) : labT name xs = some (if xs = [] then name else ((name ++ [40]) ++ txtV xs) ++ [41]) := by
  unfold labT; rw [if_neg ht, if_pos h]

set_option maxRecDepth 20000 in
set_option maxHeartbeats 4000000 in
theorem labelOfI (name : List UInt8) (v : Value) (xs : List Int) (w : World) (fp : List Nat) (hn : name.length ≤ 2000000) (hR : R1 fp w [v] xs) (he : Env w) :
    Calls Tryz.prog 124 #[es name, v] w (LabV name xs w) := by
  obtain ⟨a, cap, rfl, h1, h2, -⟩ := slF1_open hR
  unfold maxLen at h2
  by_cases htau : name = tauL
  · have HT := Lib.hid (show labT name xs = if xs = [] then some tauL else none by unfold labT; rw [if_pos htau])
    have e1 : es name = .string ⟨#[116, 97, 117]⟩ := by rw [htau]; rfl
    rw [e1]
    clear hR he e1 htau
    cases xs with
    | nil =>
      go_enter Tryz.func124, Tryz.ntmps124
      go_wp2_with fail
      go_ret2
      exact ⟨⟨tauL, by rw [HT.out]; rfl, Lib.hid (fun s hs => by rw [HT.out] at hs; simpa using hs)⟩, Upd.refl _ _⟩
    | cons x xs =>
      have g0 : ¬ (((x :: xs).length : Int) = 0) := by simp; omega
      have HT2 := Lib.hid (show labT name (x :: xs) = none by rw [HT.out]; rfl)
      clear HT
      generalize x :: xs = ys at *
      have g1 : ((ys.length : Int) == 0) = false := by simpa using g0
      go_enter Tryz.func124, Tryz.ntmps124
      go_wp2_with fail
      go_ret2
      exact ⟨⟨tauL, by rw [HT2.out]; first | rfl | (simp [tauL, g1, es]), Lib.hid (fun s hs => by rw [HT2.out] at hs; cases hs)⟩, Upd.refl _ _⟩
  · have g0 : (name == [116, 97, 117]) = false := by simpa [tauL] using htau
    have HTAU := Lib.hid htau
    have S1 := Lib.hid (isActionI name w hn)
    cases ha : actF name with
    | false =>
      have HT := Lib.hid (labT_no (xs := xs) htau (by rw [ha]; rfl))
      rw [ha] at S1
      clear hR he htau ha
      go_enter Tryz.func124, Tryz.ntmps124
      go_wp2_with fail
      refine S1.out.mono ?_
      rintro e w1 ⟨rfl, rfl⟩
      clear S1
      go_wp2_with fail
      go_ret2
      exact ⟨⟨[], by rw [HT.out]; rfl, Lib.hid (fun s hs => by rw [HT.out] at hs; cases hs)⟩, Upd.refl _ _⟩
    | true =>
      rw [ha] at S1
      by_cases hlen : xs.length ≤ 2
      · have g3 : ¬ ((2 : Int) < (xs.length : Int)) := by omega
        have S2 := Lib.hid (areValues _ xs w fp hR)
        cases hv : xs.all isV with
        | false =>
          have HT := Lib.hid (labT_no (xs := xs) htau (by rw [hv]; simp))
          rw [hv] at S2
          clear hR he htau ha hv hlen
          go_enter Tryz.func124, Tryz.ntmps124
          go_wp2_with fail
          refine S1.out.mono ?_
          rintro e w1 ⟨rfl, rfl⟩
          clear S1
          go_wp2_with fail
          refine S2.out.mono ?_
          rintro e w1 ⟨rfl, rfl⟩
          clear S2
          go_wp2_with fail
          go_ret2
          exact ⟨⟨[], by rw [HT.out]; rfl, Lib.hid (fun s hs => by rw [HT.out] at hs; cases hs)⟩, Upd.refl _ _⟩
        | true =>
          have HT := Lib.hid (labT_yes (xs := xs) htau (by rw [ha, hv, decide_eq_true hlen]; rfl))
          rw [hv] at S2
          by_cases h0 : xs = []
          · have HT2 := Lib.hid (HT.out.trans (by rw [if_pos h0]))
            have g4 : ((xs.length : Int) == 0) = true := by rw [h0]; rfl
            clear hR he htau ha hv hlen h0 HT
            go_enter Tryz.func124, Tryz.ntmps124
            go_wp2_with fail
            refine S1.out.mono ?_
            rintro e w1 ⟨rfl, rfl⟩
            clear S1
            go_wp2_with fail
            refine S2.out.mono ?_
            rintro e w1 ⟨rfl, rfl⟩
            clear S2
            go_wp2_with fail
            go_ret2
            exact ⟨⟨name, by rw [HT2.out]; rfl, Lib.hid (fun s hs => by rw [HT2.out] at hs; simpa using hs)⟩, Upd.refl _ _⟩
          · have HT2 := Lib.hid (HT.out.trans (by rw [if_neg h0]))
            have hpos : 0 < xs.length := List.length_pos_iff.2 h0
            have g4 : ((xs.length : Int) == 0) = false := by simp; omega
            have S3 := Lib.hid (joinedI _ xs w fp hR hpos (by omega) (fun x hx => isV_itoa (List.all_eq_true.1 hv x hx)) he)
            have hjl : (txtV xs).length ≤ 2 * 31 := by
              refine Nat.le_trans (joinC_le 44 30 (xs.map Lib.itoa) (fun p hp => ?_)) ?_
              · obtain ⟨x, hx, rfl⟩ := List.mem_map.1 hp
                exact (isV_itoa (List.all_eq_true.1 hv x hx)).2
              · rw [List.length_map]; omega
            clear hR he htau ha hv hlen h0 HT
            generalize txtV xs = J at *
            go_enter Tryz.func124, Tryz.ntmps124
            go_wp2_with fail
            refine S1.out.mono ?_
            rintro e w1 ⟨rfl, rfl⟩
            clear S1
            go_wp2_with fail
            refine S2.out.mono ?_
            rintro e w1 ⟨rfl, rfl⟩
            clear S2
            go_wp2_with fail
            refine S3.out.mono ?_
            rintro e w3 ⟨rfl, hu3⟩
            have HU := Lib.hid hu3
            clear S3 hu3
            go_wp2_with fail
            go_ret2
            exact ⟨⟨_, by rw [HT2.out]; rfl, Lib.hid (fun s hs => by rw [HT2.out] at hs; simpa using hs)⟩, HU.out⟩
      · have g3 : (2 : Int) < (xs.length : Int) := by omega
        have HT := Lib.hid (labT_no (xs := xs) htau (by rw [decide_eq_false hlen]; simp))
        clear hR he htau ha hlen
        go_enter Tryz.func124, Tryz.ntmps124
        go_wp2_with fail
        refine S1.out.mono ?_
        rintro e w1 ⟨rfl, rfl⟩
        clear S1
        go_wp2_with fail
        go_ret2
        exact ⟨⟨[], by rw [HT.out]; rfl, Lib.hid (fun s hs => by rw [HT.out] at hs; cases hs)⟩, Upd.refl _ _⟩

end Go.Proofs.YtkhifpgpkklokaaGreatDoor

/-
  Labels read: what the program's calls return.
-/
namespace Go.Proofs.YtkhifpgpkklokaaGreatDoor
open Go.RowKit

theorem es_bytes (b : ByteArray) : es b.data.toList = .string b := by simp [es]

theorem splitC_len (c : UInt8) : ∀ l : List UInt8, (splitC c l).length ≤ l.length + 1 ∧ ∀ p ∈ splitC c l, p.length ≤ l.length
  | [] => by simp [splitC]
  | b :: l => by
    obtain ⟨h1, h2⟩ := splitC_len c l
    by_cases hb : b = c
    · subst hb
      have e : splitC b (b :: l) = [] :: splitC b l := by rw [splitC, if_pos rfl]
      rw [e]
      refine ⟨by simp; omega, fun p hp => ?_⟩
      rcases List.mem_cons.1 hp with rfl | hp
      · simp
      · have := h2 p hp; simp; omega
    · obtain ⟨p, ps, e1, e2⟩ := splitC_cons c b l hb
      rw [e2]
      rw [e1] at h1 h2
      refine ⟨by simp at h1 ⊢; omega, fun q hq => ?_⟩
      rcases List.mem_cons.1 hq with rfl | hq
      · have := h2 p (by simp); simp; omega
      · have := h2 q (by simp [hq]); simp; omega

theorem cut_len (s sep : List UInt8) : (Lib.cut s sep).1.length ≤ s.length ∧ (Lib.cut s sep).2.1.length ≤ s.length := by
  unfold Lib.cut
  split <;> simp <;> omega
theorem trim_len (s p : List UInt8) : (Lib.trimSuffix s p).length ≤ s.length := by
  unfold Lib.trimSuffix
  split <;> simp <;> omega
theorem cut_false {s : List UInt8} (h : (Lib.cut s [40]).2.2 = false) : Lib.cut s [40] = (s, [], false) := by
  unfold Lib.cut at h ⊢
  split at h
  · cases h
  · rename_i h1; rw [if_neg h1]

theorem cutI (l : List UInt8) (w : World) (hl : l.length ≤ 2000000) (he : Env w) :
    Calls Tryz.prog 121 #[es l, .string ⟨#[40]⟩] w fun e w' => e = .returned (.tuple #[es (Lib.cut l [40]).1, es (Lib.cut l [40]).2.1, .bool (Lib.cut l [40]).2.2]) ∧ Upd [] w w' := by
  obtain ⟨m, hm⟩ := he.m
  have hsz : (⟨l.toArray⟩ : ByteArray).size = l.length := rfl
  refine (Tryz.strings_Cut ⟨l.toArray⟩ ⟨#[40]⟩ m w (by rw [hsz]; omega) hm).mono ?_
  rintro e w1 ⟨rfl, n, rfl⟩
  exact ⟨rfl, (Upd.refl _ _).drewN n⟩

theorem trimI (l : List UInt8) (w : World) (hl : l.length ≤ 2000000) :
    Calls Tryz.prog 123 #[es l, .string ⟨#[41]⟩] w fun e w' => e = .returned (es (Lib.trimSuffix l [41])) ∧ w' = w := by
  have hsz : (⟨l.toArray⟩ : ByteArray).size = l.length := rfl
  exact (Tryz.strings_TrimSuffix ⟨l.toArray⟩ ⟨#[41]⟩ w (by rw [hsz]; omega)).mono (fun e w1 h => h)

theorem splitI (l : List UInt8) (w : World) (hl : l.length ≤ 2000000) (he : Env w) :
    Calls Tryz.prog 43 #[es l, .string ⟨#[44]⟩] w fun e w' => (∃ v', e = .returned v' ∧ New RS w w' v' (splitC 44 l)) ∧ Upd [] w w' := by
  obtain ⟨m, hm⟩ := he.m
  have hsz : (⟨l.toArray⟩ : ByteArray).size = l.length := rfl
  have hlen := Lib.splitB_all ⟨#[44]⟩ (by decide) 0 (Lib.countB ⟨l.toArray⟩ ⟨#[44]⟩) ⟨l.toArray⟩ rfl
  have hdat : (Lib.splitB ⟨#[44]⟩ 0 (Lib.countB ⟨l.toArray⟩ ⟨#[44]⟩) ⟨l.toArray⟩).map (·.data.toList) = splitC 44 l := by
    rw [Lib.splitB_data]; exact split_lib 44 l
  refine (Tryz.strings_Split ⟨l.toArray⟩ ⟨#[44]⟩ m w (by rw [hsz]; omega) hm (by decide)).mono ?_
  rintro e w1 ⟨rfl, rfl⟩
  generalize Lib.splitB ⟨#[44]⟩ 0 (Lib.countB ⟨l.toArray⟩ ⟨#[44]⟩) ⟨l.toArray⟩ = bs at *
  generalize Lib.countB ⟨l.toArray⟩ ⟨#[44]⟩ = n at *
  have hsp := (splitC_len 44 l).1
  have hmap : bs.map Value.string = (splitC 44 l).map es := by
    rw [← hdat, List.map_map]
    exact List.map_congr_left (fun b _ => (es_bytes b).symm)
  have hn : n + 1 = (splitC 44 l).length := by rw [← hdat, List.length_map, hlen]
  rw [hmap, hn]
  exact ⟨⟨_, rfl, new_lit (enc := es) w 9 (splitC 44 l) (by unfold maxLen; omega)⟩, (Upd.refl _ _).alloc _⟩

def ReadV (s : List UInt8) (w : World) (e : Ending) (w' : World) : Prop :=
  (∃ (n : List UInt8) (v' : Value) (vs : List Int), e = .returned (.tuple #[es n, v', .bool (readF s).isSome]) ∧ New R1 w w' v' vs ∧ (readF s).getD ([], []) = (n, vs)) ∧ Upd [] w w'

set_option maxRecDepth 20000 in
set_option maxHeartbeats 4000000 in
theorem readLabelI (s : List UInt8) (w : World) (hl : s.length ≤ 2000000) (he : Env w) : Calls Tryz.prog 105 #[es s] w (ReadV s w) := by
  have S1 := Lib.hid (cutI s w hl he)
  obtain ⟨hc1, hc2⟩ := cut_len s [40]
  have HE := Lib.hid he
  clear he
  cases hm : (Lib.cut s [40]).2.2 with
  | false =>
    have hcf := cut_false hm
    have HF := Lib.hid (show readF s = if labT s [] = some s then some (s, []) else none by unfold readF; rw [hm]; rfl)
    rw [hcf] at S1
    clear hm hcf hc1 hc2
    go_enter Tryz.func105, Tryz.ntmps105
    go_wp2_with fail
    refine S1.out.mono ?_
    rintro e w1 ⟨rfl, hu1⟩
    obtain ⟨f0, hR0, hO0, hG0⟩ := new_nil w w1
    have S4 := Lib.hid (labelOfI s (.slice none 0 0) [] w1 f0 hl hR0 (HE.out.upd hu1))
    have HU1 := Lib.hid hu1
    have HN := Lib.hid (show New R1 w w1 (.slice none 0 0) [] from ⟨f0, hR0, hO0, hG0⟩)
    clear S1 hu1 hR0 hO0 hG0
    go_wp2_with fail
    refine S4.out.mono ?_
    rintro e w4 ⟨⟨t, rfl, ht⟩, hu4⟩
    have HU := Lib.hid (HU1.out.trans hu4)
    have HN4 := Lib.hid (R1k.new HN.out hu4 (by simp))
    clear S4 HU1 HN hu4
    cases hL : labT s [] with
    | none =>
      have HR := Lib.hid (show readF s = none by rw [HF.out, hL]; rfl)
      clear HF ht hL
      go_wp2_with fail
      go_ret3
      exact ⟨⟨[], _, [], by rw [HR.out]; rfl, new_nil _ _, by rw [HR.out]; rfl⟩, HU.out⟩
    | some s' =>
      obtain rfl := ht.out s' hL
      by_cases heq : t = s
      · have HR := Lib.hid (show readF s = some (s, []) by rw [HF.out, hL, if_pos (by rw [heq])])
        clear HF hL
        subst heq
        clear ht
        go_wp2_with fail
        go_ret3
        exact ⟨⟨t, _, [], by rw [HR.out]; rfl, HN4.out, by rw [HR.out]; rfl⟩, HU.out⟩
      · have HR := Lib.hid (show readF s = none by rw [HF.out, hL, if_neg (by simpa using heq)])
        have hne : (t == s) = false := by simpa using heq
        clear HF ht hL
        go_wp2_with fail
        go_ret3
        exact ⟨⟨[], _, [], by rw [HR.out]; rfl, new_nil _ _, by rw [HR.out]; rfl⟩, HU.out⟩
  | true =>
    have HF := Lib.hid (show readF s = match numsF (splitC 44 (Lib.trimSuffix (Lib.cut s [40]).2.1 [41])) with
      | none => none
      | some vs => if labT (Lib.cut s [40]).1 vs = some s then some ((Lib.cut s [40]).1, vs) else none by unfold readF; rw [hm]; rfl)
    rw [hm] at S1
    clear hm
    generalize (Lib.cut s [40]).1 = nm at *
    generalize (Lib.cut s [40]).2.1 = rest at *
    have htl := trim_len rest [41]
    have hnm : nm.length ≤ 2000000 := by omega
    have S2 := Lib.hid (fun w1 : World => trimI rest w1 (by omega))
    generalize Lib.trimSuffix rest [41] = r2 at *
    obtain ⟨hp1, hp2⟩ := splitC_len 44 r2
    have S3 := Lib.hid (fun (w1 : World) (hu : Upd [] w w1) => splitI r2 w1 (by omega) (HE.out.upd hu))
    generalize splitC 44 r2 = ps at *
    have HPL := Lib.hid (show ∀ p ∈ ps, p.length ≤ 2000000 from fun p hp => by have := hp2 p hp; omega)
    have hpl : ps.length ≤ 2000001 := by omega
    clear hp1 hp2 htl hc1 hc2
    go_enter Tryz.func105, Tryz.ntmps105
    go_wp2_with fail
    refine S1.out.mono ?_
    rintro e w1 ⟨rfl, hu1⟩
    have S2 := Lib.hid (S2.out w1)
    have S3 := Lib.hid (S3.out w1 hu1)
    have HU1 := Lib.hid hu1
    clear S1 hu1
    go_wp2_with fail
    refine S2.out.mono ?_
    rintro e w2 ⟨rfl, rfl⟩
    clear S2
    go_wp2_with fail
    refine S3.out.mono ?_
    rintro e w3 ⟨⟨v3, rfl, fq, hq1, hq2, hq3⟩, hu3⟩
    have HU3 := Lib.hid (HU1.out.trans hu3)
    have S4 := Lib.hid (readNumbersI v3 ps w3 fq hq1 (by omega) HPL.out (HE.out.upd HU3.out))
    have hsz3 := HU3.out.size
    clear S3 HU1 hu3 hq1 hq2 hq3
    go_wp2_with fail
    refine S4.out.mono ?_
    rintro e w4 ⟨⟨v4, rfl, hn4⟩, hu4⟩
    have HU4 := Lib.hid (HU3.out.trans hu4)
    clear S4 HU3 hu4
    cases hN : numsF ps with
    | none =>
      have HR := Lib.hid (show readF s = none by rw [HF.out, hN])
      clear HF hN hn4
      go_wp2_with fail
      go_ret3
      exact ⟨⟨[], _, [], by rw [HR.out]; rfl, new_nil _ _, by rw [HR.out]; rfl⟩, HU4.out⟩
    | some vs =>
      rw [hN] at hn4 HF
      have HF2 := Lib.hid (show readF s = if labT nm vs = some s then some (nm, vs) else none from HF.out)
      obtain ⟨f4, hr4, -, -⟩ := id hn4
      have S5 := Lib.hid (labelOfI nm v4 vs w4 f4 hnm hr4 (HE.out.upd HU4.out))
      have HN := Lib.hid (show New R1 w w4 v4 vs from hn4.mono hsz3)
      clear HF hN hn4 hr4
      go_wp2_with fail
      refine S5.out.mono ?_
      rintro e w5 ⟨⟨t, rfl, ht⟩, hu5⟩
      have HU := Lib.hid (HU4.out.trans hu5)
      have HN5 := Lib.hid (R1k.new HN.out hu5 (by simp))
      clear S5 HU4 HN hu5
      cases hL : labT nm vs with
      | none =>
        have HR := Lib.hid (show readF s = none by rw [HF2.out, hL]; rfl)
        clear HF2 ht hL
        go_wp2_with fail
        go_ret3
        exact ⟨⟨[], _, [], by rw [HR.out]; rfl, new_nil _ _, by rw [HR.out]; rfl⟩, HU.out⟩
      | some s' =>
        obtain rfl := ht.out s' hL
        by_cases heq : t = s
        · have HR := Lib.hid (show readF s = some (nm, vs) by rw [HF2.out, hL, if_pos (by rw [heq])])
          clear HF2 hL
          subst heq
          clear ht
          go_wp2_with fail
          go_ret3
          exact ⟨⟨nm, _, vs, by rw [HR.out]; rfl, HN5.out, by rw [HR.out]; rfl⟩, HU.out⟩
        · have HR := Lib.hid (show readF s = none by rw [HF2.out, hL, if_neg (by simpa using heq)])
          have hne : (t == s) = false := by simpa using heq
          clear HF2 ht hL
          go_wp2_with fail
          go_ret3
          exact ⟨⟨[], _, [], by rw [HR.out]; rfl, new_nil _ _, by rw [HR.out]; rfl⟩, HU.out⟩

set_option maxRecDepth 20000 in
theorem isLabelI (s : List UInt8) (w : World) (hl : s.length ≤ 2000000) (he : Env w) : Calls Tryz.prog 72 #[es s] w fun e w' => e = .returned (.bool (readF s).isSome) ∧ Upd [] w w' := by
  have S1 := Lib.hid (readLabelI s w hl he)
  clear he
  go_enter Tryz.func72, Tryz.ntmps72
  go_wp2_with fail
  refine S1.out.mono ?_
  rintro e w1 ⟨⟨n, v, vs, rfl, hn, hr⟩, hu⟩
  have HU := Lib.hid hu
  clear S1 hn hr hu
  go_wp2_with fail
  go_ret
  exact ⟨rfl, HU.out⟩

def ValuesV (s : List UInt8) (w : World) (e : Ending) (w' : World) : Prop :=
  (∃ (v' : Value), e = .returned (.tuple #[v', .bool (readF s).isSome]) ∧ New R1 w w' v' ((readF s).getD ([], [])).2) ∧ Upd [] w w'

end Go.Proofs.YtkhifpgpkklokaaGreatDoor

/-
  The laws' helper functions over lists of texts.
-/
namespace Go.Proofs.YtkhifpgpkklokaaGreatDoor
open Go.RowKit

abbrev R_S1 : Rp (List (List UInt8)) := RS
theorem R_S1k : Kept R_S1 := RSk
def totS (x : List (List UInt8)) : Int := (x.map (fun r => (r.length : Int))).sum
def szF_S1 (x : List (List UInt8)) : Int := x.length + totS x
def mkF_S1 (x : List (List UInt8)) : Int := x.length
theorem totS_nonneg (x : List (List UInt8)) : 0 ≤ totS x := by
  unfold totS; induction x with
  | nil => simp
  | cons r rs ih => simp only [List.map_cons, List.sum_cons]; omega
theorem totS_snoc (x : List (List UInt8)) (k : Nat) (h : k < x.length) : totS (x.take (k + 1)) = totS (x.take k) + x[k].length := by
  unfold totS; rw [List.take_succ_eq_append_getElem h, List.map_append, List.sum_append]; simp
theorem totS_take_le (x : List (List UInt8)) (k : Nat) : totS (x.take k) ≤ totS x := by
  conv => rhs; rw [← List.take_append_drop k x]
  have := totS_nonneg (x.drop k)
  unfold totS at *; simp only [List.map_append, List.sum_append]; omega
theorem totS_mem (x : List (List UInt8)) (p : List UInt8) (h : p ∈ x) : (p.length : Int) ≤ totS x := by
  obtain ⟨k, hk, rfl⟩ := List.mem_iff_getElem.1 h
  have h1 := totS_snoc x k hk
  have h2 := totS_take_le x (k + 1)
  have h3 := totS_nonneg (x.take k)
  omega
theorem szF_S1_nonneg (x : List (List UInt8)) : 0 ≤ szF_S1 x := by have := totS_nonneg x; unfold szF_S1; omega
theorem mkF_S1_nonneg (x : List (List UInt8)) : 0 ≤ mkF_S1 x := by unfold mkF_S1; omega
theorem mkF_S1_le (x : List (List UInt8)) : mkF_S1 x ≤ 16 * szF_S1 x := by have := totS_nonneg x; unfold mkF_S1 szF_S1; omega
theorem str_cat (a b : List UInt8) : (ByteArray.mk a.toArray ++ ByteArray.mk b.toArray) = ByteArray.mk (a ++ b).toArray := ByteArray.mk_append_mk a b

/-- no text is longer than a machine's memory. -/
def strsOk (x : List (List UInt8)) : Prop := ∀ p ∈ x, p.length ≤ 9223372036854775807

/-- the text that marks the number k. -/
def mtx (k : Int) : List UInt8 := 109 :: Lib.decDigits k.toNat

set_option maxRecDepth 20000 in
set_option maxHeartbeats 2000000 in
theorem markText (k0 : Int) (w : World) (h0 : 0 ≤ k0) (h1 : k0 ≤ 9223372036854775807) :
    Calls Tryz.prog 44 #[.int .i64 k0] w fun e w' => e = .returned (es (mtx k0)) ∧ Upd [] w w' := by
  obtain ⟨k, rfl⟩ : ∃ k : Nat, k0 = k := ⟨k0.toNat, by omega⟩
  by_cases hk : k = 0
  · subst hk
    have HR := Lib.hid (show mtx ((0 : Nat) : Int) = [109, 48] by simp [mtx, Lib.decDigits])
    go_enter Tryz.func44, Tryz.ntmps44
    go_wp2_with fail
    go_ret
    exact ⟨by rw [HR.out]; rfl, Upd.refl _ _⟩
  · have HR := Lib.hid (show mtx (k : Int) = 109 :: Lib.decDigits k by simp [mtx])
    have hpos : 0 < k := by omega
    have HK := Lib.hid hk
    clear hk
    go_enter Tryz.func44, Tryz.ntmps44
    go_wp2_with fail
    go_loopw [0, 3] (fun kv ov wr => ∃ (M j : Nat) (D : List UInt8), kv = .int .i64 M ∧ M ≤ k ∧ ov = es D ∧ D.length + j = 20 ∧ M < 10 ^ j ∧ Hid ((if M = 0 then [] else Lib.decDigits M) ++ D = Lib.decDigits k) ∧ Upd [] w wr) (fun kv _ _ => (intOf kv).toNat)
    case atStart => exact ⟨k, 20, [], rfl, Nat.le_refl _, rfl, rfl, by omega, Lib.hid (by simp [HK.out]), Upd.refl _ _⟩
    case round =>
      obtain ⟨M, j, D, rfl, hM, rfl, hj, hlt, HD, hU⟩ := hrel
      have hDl : D.length ≤ 20 := by omega
      have HJ := Lib.hid (And.intro hj hlt)
      have HU := Lib.hid hU
      have hszr := hU.size
      clear hj hlt hU
      by_cases hM0 : M = 0
      · subst hM0
        have hD : D = Lib.decDigits k := by simpa using HD.out
        have HD2 := Lib.hid hD
        clear hD HD
        go_wp2_with fail
        go_ret
        exact ⟨by rw [HR.out, ← HD2.out]; first | rfl | simp [es], HU.out⟩
      · have hst := dig_step M (by omega) D.reverse
        have HS := Lib.hid (show (if M / 10 = 0 then [] else Lib.decDigits (M / 10)) ++ (UInt8.ofNat (48 + M % 10) :: D) = Lib.decDigits k by
          have h2 := HD.out
          rw [if_neg hM0] at h2
          rw [← h2]
          simpa using hst)
        have hb : eb (UInt8.ofNat (48 + M % 10)) = .int .u8 (48 + (M : Int) % 10) := by
          simp only [Value.int.injEq, true_and]
          rw [UInt8.toNat_ofNat_of_lt' (by show 48 + M % 10 < 256; omega)]; omega
        have hcv := run_convert_bytes_back (P := Tryz.prog) (wr.alloc (.cells #[.int .u8 (48 + (M : Int) % 10)] 5)) 22 9 5 ⟨wr.heap.size, 0, none⟩ 1 [UInt8.ofNat (48 + M % 10)] Tryz.underlying22 Tryz.underlying5 Tryz.underlying9 (fun j hj => by
          obtain rfl : j = 0 := by simpa using hj
          rw [addr_add]
          exact cell_new wr _ _ _ rfl _ _ (by simpa using hb.symm))
        have hMp : 0 < M := by omega
        generalize UInt8.ofNat (48 + M % 10) = b at *
        have hcat := str_cat [b] D
        simp only [List.length_cons, List.length_nil, Nat.zero_add] at hcv
        obtain ⟨S, hS⟩ : ∃ S, S = [b] ++ D := ⟨_, rfl⟩
        rw [← hS] at hcat
        have HSS := Lib.hid hS
        clear hst hb hM0 hS HD
        go_wp2_with fail
        clear hcv hcat
        go_roundw
        case rel =>
          obtain ⟨hq1, hq2⟩ := HJ.out
          obtain ⟨q, rfl⟩ : ∃ q, j = q + 1 := ⟨j - 1, by
            rcases Nat.eq_zero_or_pos j with h | h
            · subst h; simp at hq2; omega
            · omega⟩
          refine ⟨M / 10, q, S, by go_num, by omega, rfl, by rw [HSS.out]; simp; omega, ?_, Lib.hid (by rw [HSS.out]; exact HS.out), HU.out.alloc _⟩
          rw [Nat.pow_succ] at hq2
          omega
        case measure => simp [intOf]; omega

set_option maxRecDepth 20000 in
set_option maxHeartbeats 400000 in
theorem sz_S1 (v : Value) (xs : List (List UInt8)) (left : Int) (w : World) (fp : List Nat) (hl : 0 ≤ left) (hl2 : left ≤ 1048576) (hR : R_S1 fp w [v] xs) (hS : strsOk xs) :
    Calls Tryz.prog 13 #[v, .int .i64 left] w fun e w' => (∃ r : Int, e = .returned (.int .i64 r) ∧ (r = -1 ∨ (0 ≤ r ∧ r + szF_S1 xs = left))) ∧ w = w' := by
  obtain ⟨a, cap, rfl, h1, h2, hc⟩ := slF1_open hR
  unfold maxLen at h2
  unfold szF_S1
  have HS := Lib.hid hS
  clear hR hS
  by_cases hlt : left - (xs.length : Int) < 0
  · go_enter Tryz.func13, Tryz.ntmps13
    go_wp2_with fail
    go_ret
    exact ⟨⟨-1, rfl, Or.inl rfl⟩, rfl⟩
  · have hge : 0 ≤ left - (xs.length : Int) := by omega
    clear hlt
    go_enter Tryz.func13, Tryz.ntmps13
    go_wp2_with fail
    go_loop [1, 5] (fun kk i => ∃ (k : Nat) (l : Int), k ≤ xs.length ∧ i = .int .i64 k ∧ kk = .int .i64 l ∧ 0 ≤ l ∧ Hid (l + xs.length + totS (xs.take k) = left)) (fun _ i => xs.length - (intOf i).toNat)
    case atStart => exact ⟨0, _, Nat.zero_le _, rfl, rfl, hge, Lib.hid (by simp [totS])⟩
    case round =>
      obtain ⟨k, l, hk, rfl, rfl, hl0, HL⟩ := hrel
      by_cases hlt : k < xs.length
      · obtain ⟨b, off, rfl, -, -, hcell⟩ := hc k hlt
        have ht := totS_nonneg (xs.take k)
        have HT := Lib.hid (totS_snoc xs k hlt)
        have hb2 : l ≤ 1048576 := by have := HL.out; omega
        have hx3 := HS.out xs[k] (List.getElem_mem hlt)
        clear hc ht
        generalize xs[k] = x at *
        by_cases hneg : l - (x.length : Int) < 0
        · go_wp2_with fail
          go_ret
          exact ⟨⟨-1, rfl, Or.inl rfl⟩, rfl⟩
        · go_wp2_with fail
          go_round
          case rel => exact ⟨k + 1, l - x.length, by omega, by go_num, rfl, by omega, Lib.hid (by have := HL.out; rw [HT.out]; omega)⟩
          case measure => simp [intOf]; omega
      · obtain rfl : k = xs.length := by omega
        clear hc
        go_wp2_with fail
        go_ret
        exact ⟨⟨l, rfl, Or.inr ⟨hl0, by have := HL.out; rw [List.take_length] at this; omega⟩⟩, rfl⟩

set_option maxRecDepth 20000 in
set_option maxHeartbeats 400000 in
theorem to_S1 (v : Value) (xs : List (List UInt8)) (w : World) (fp : List Nat) (hl : szF_S1 xs ≤ 1048576) (hR : R_S1 fp w [v] xs) :
    Calls Tryz.prog 15 #[v] w fun e w' => (∃ v', e = .returned v' ∧ New R_S1 w w' v' xs) ∧ Upd [] w w' := by
  obtain ⟨i0, hi, hz0, hz1, hz2⟩ := info_parts Tryz.info9
  obtain ⟨a, cap, rfl, h1, h2, hc⟩ := slF1_open hR
  unfold maxLen at h2
  have hxl : xs.length ≤ 1048576 := by have := totS_nonneg xs; unfold szF_S1 at hl; omega
  have hm1 : i0.bytes * xs.length ≤ 281474976710656 := by rw [hz2]; omega
  clear hl hR
  go_enter Tryz.func15, Tryz.ntmps15
  go_wp2_with (first
    | (at_make; refine wpList_make_full _ rfl _ _ 24 rfl w.heap.size 9 i0 (es []) 1 Tryz.underlying24 hi hz0 hz1 .i64 .i64 _ _ xs.length rfl rfl rfl rfl hm1 (by unfold maxLen; omega) (Nat.le_refl _) ?_; intro w1 hown hgrow)
    | fail)
  rw [made_one _ rfl, fill_zero es] at hown
  have hU : Upd [] w w1 := (Upd.refl _ _).grown hgrow (by simp)
  clear hgrow hm1
  go_loopw [4] (fun i wr => ∃ k : Nat, k ≤ xs.length ∧ i = .int .i64 k ∧ Upd [] w wr ∧
      wr.ownsRow w.heap.size 9 1 (.slice (some ⟨w.heap.size, 0, none⟩) xs.length xs.length) xs.length ((xs.take k).map es ++ List.replicate (xs.length - k) (es [])))
    (fun i _ => xs.length - (intOf i).toNat)
  case atStart => exact ⟨0, Nat.zero_le _, rfl, hU, hown⟩
  case round =>
    obtain ⟨k, hk, rfl, hU, hown⟩ := hrel
    by_cases hlt : k < xs.length
    · obtain ⟨b, off, rfl, rfl, hb, hcx⟩ := hc k hlt
      have hcell : wr.cell? ⟨b, off + k, none⟩ = some (es xs[k]) := (hU.below.cell hb).trans hcx
      have hcell2 : wr.cell? ⟨w.heap.size, k, none⟩ = some (es []) := by rw [hown.cellAt k (by omega), fill_at _ _ _ _ hlt]
      have hfr : wr.frozen? ⟨w.heap.size, k, none⟩ = false := hown.frozenAt k
      have hst := (hown.stored k (es xs[k]))
      rw [set_fill _ _ _ _ hlt] at hst
      have HS := Lib.hid hst
      clear hst hown hc
      generalize xs[k] = x at *
      go_wp2
      go_roundw
      case rel => exact ⟨k + 1, by omega, by go_num, hU.setCell (Or.inl (Nat.le_refl _)) _, HS.out.1⟩
      case measure => simp [intOf]; omega
    · obtain rfl : k = xs.length := by omega
      clear hc
      go_wp2
      go_ret
      refine ⟨⟨_, rfl, New.ofOwns (e := 9) ?_⟩, hU⟩
      simpa using hown

set_option maxRecDepth 20000 in
set_option maxHeartbeats 400000 in
theorem eq_S1 (v1 v2 : Value) (xs ys : List (List UInt8)) (w : World) (f1 f2 : List Nat) (h1 : R_S1 f1 w [v1] xs) (h2 : R_S1 f2 w [v2] ys) :
    Calls Tryz.prog 17 #[v1, v2] w fun e w' => e = .returned (.bool (xs == ys)) ∧ Upd [] w w' := by
  obtain ⟨a1, c1, rfl, hl1, hm1, hc1⟩ := slF1_open h1
  obtain ⟨a2, c2, rfl, hl2, hm2, hc2⟩ := slF1_open h2
  unfold maxLen at hm1 hm2
  clear h1 h2
  by_cases hl : xs.length = ys.length
  · have hres : (xs == ys) = (xs.drop 0 == ys.drop 0) := rfl
    have HL := Lib.hid hl
    have hle : xs.length ≤ ys.length := by omega
    have hbe : ((xs.length : Int) != (ys.length : Int)) = false := by rw [hl]; simp
    have HR := Lib.hid hres
    clear hl hres
    go_enter Tryz.func17, Tryz.ntmps17
    go_wp2
    go_loopw [5] (fun i wr => ∃ k n : Nat, k ≤ xs.length ∧ i = .int .i64 k ∧ wr = w.drewN n ∧ (xs.drop k == ys.drop k) = (xs == ys)) (fun i _ => xs.length - (intOf i).toNat)
    case atStart => exact ⟨0, 0, Nat.zero_le _, rfl, rfl, HR.out.symm⟩
    case round =>
      obtain ⟨k, n, hk, rfl, rfl, hF⟩ := hrel
      by_cases hlt : k < xs.length
      · obtain ⟨b1, o1, rfl, -, -, hcell1⟩ := hc1 k hlt
        obtain ⟨b2, o2, rfl, -, -, hcell2⟩ := hc2 k (by omega)
        have hlt2 : k < ys.length := by omega
        have HF := Lib.hid (hF.symm.trans (drop_step xs ys k hlt hlt2))
        clear hF hc1 hc2
        generalize xs[k] = x at *
        generalize ys[k] = y at *
        by_cases hx : x = y
        · have hne : (x != y) = false := by simp [hx]
          have hne2 : (x == y) = true := by simp [hx]
          have HX := Lib.hid hx
          clear hx
          go_wp2
          go_quiet (fail)
          go_wp2
          go_roundw
          case rel => exact ⟨k+1, _, by omega, by go_num, rfl, by rw [HF.out]; simp [HX.out]⟩
          case measure => simp [intOf]; omega
        · have hne : (x != y) = true := by simp [hx]
          have hne2 : (x == y) = false := by simp [hx]
          clear hx
          go_wp2
          go_quiet (fail)
          go_wp2
          go_ret
          exact ⟨by rw [HF.out]; simp [hne2], by rw [drewN_add]; exact (Upd.refl _ _).drewN _⟩
      · have hge : xs.length ≤ k := by omega
        have HF := Lib.hid hF
        clear hF hc1 hc2
        go_wp2
        go_ret
        exact ⟨by rw [← HF.out, List.drop_of_length_le hge, List.drop_of_length_le (by have := HL.out; omega)]; rfl, (Upd.refl _ _).drewN _⟩
  · have hbe : ¬ ((xs.length : Int) != (ys.length : Int)) = false := by simp; omega
    have hne : (xs == ys) = false := by
      rw [beq_eq_false_iff_ne]; intro h; exact hl (by rw [h])
    have HN := Lib.hid hne
    clear hl hne
    go_enter Tryz.func17, Tryz.ntmps17
    go_wp2
    go_ret
    exact ⟨by rw [HN.out]; rfl, Upd.refl _ _⟩

/-- n marks from k on. -/
def mkS (k : Int) (n : Nat) : List (List UInt8) := (upFrom k n).map mtx
@[simp] theorem mkS_length (k : Int) (n : Nat) : (mkS k n).length = n := by simp [mkS]
theorem mkS_get (k : Int) (n i : Nat) (h : i < n) : (mkS k n)[i]? = some (mtx (k + i)) := by
  unfold mkS; rw [List.getElem?_map, upFrom_get k n i h]; rfl
theorem mkS_set (xs : List (List UInt8)) (k0 : Int) (k : Nat) (hk : k < xs.length) : (mkS k0 k ++ xs.drop k).set k (mtx (k0 + k)) = mkS k0 (k + 1) ++ xs.drop (k + 1) := by
  rw [List.set_append_right _ _ (by simp), mkS_length, Nat.sub_self, List.drop_eq_getElem_cons hk, List.set_cons_zero]
  unfold mkS
  rw [upFrom_snoc, List.map_append]
  simp

set_option maxRecDepth 20000 in
set_option maxHeartbeats 400000 in
theorem mark_S1 (v : Value) (xs : List (List UInt8)) (k0 : Int) (w : World) (fp : List Nat) (hk0 : 0 ≤ k0) (hk1 : k0 + mkF_S1 xs ≤ 4611686018427387904) (hR : R_S1 fp w [v] xs) (hO : Own fp w) :
    Calls Tryz.prog 20 #[v, .int .i64 k0] w fun e w' => e = .returned (.int .i64 (k0 + mkF_S1 xs)) ∧ R_S1 fp w' [v] (mkS k0 xs.length) ∧ Own fp w' ∧ Upd fp w w' := by
  obtain ⟨a, cap, rfl, h1, h2, -⟩ := slF1_open hR
  unfold mkF_S1 at hk1
  unfold maxLen at h2
  have HM := Lib.hid (show mkF_S1 xs = xs.length from rfl)
  have HR := Lib.hid hR
  have HO := Lib.hid hO
  clear hR hO
  go_enter Tryz.func20, Tryz.ntmps20
  go_wp2_with fail
  go_loopw [1, 5] (fun kk i wr => ∃ k : Nat, k ≤ xs.length ∧ i = .int .i64 k ∧ kk = .int .i64 (k0 + k) ∧ Upd fp w wr ∧ Own fp wr ∧ RS fp wr [.slice a xs.length cap] (mkS k0 k ++ xs.drop k)) (fun _ i _ => xs.length - (intOf i).toNat)
  case atStart => exact ⟨0, Nat.zero_le _, rfl, by simp, Upd.refl _ _, HO.out, by simpa [mkS, upFrom] using HR.out⟩
  case round =>
    clear HR HO
    obtain ⟨k, hk, rfl, rfl, hU, hO, hF⟩ := hrel
    by_cases hlt : k < xs.length
    · have S1 := Lib.hid (markText (k0 + k) wr (by omega) (by omega))
      have HP := Lib.hid (And.intro hU (And.intro hO hF))
      have HSET := Lib.hid (mkS_set xs k0 k hlt)
      clear hU hO hF
      go_wp2_with fail
      refine S1.out.mono ?_
      rintro e w1 ⟨rfl, hu1⟩
      have hd : ∀ b ∈ fp, b ∉ ([] : List Nat) := by simp
      obtain ⟨b, off, cap', hv, -, -, hfp, hbl, hcell, hset⟩ := slF1_cell (RSk.upd HP.out.2.2 hu1 hd) k (by simp; omega)
      have hlen : (mkS k0 k ++ xs.drop k).length = xs.length := by simp; omega
      rw [hlen] at hv
      simp only [Value.slice.injEq] at hv
      obtain ⟨rfl, -, rfl⟩ := hv
      have hfr : w1.frozen? ⟨b, off + k, none⟩ = false := (HP.out.2.1.upd hu1 hd).frozen (by rw [hfp]; simp) _
      have hs := hset (mtx (k0 + k))
      rw [HSET.out] at hs
      obtain ⟨z, hz⟩ : ∃ z : List UInt8, w1.cell? ⟨b, off + k, none⟩ = some (es z) := ⟨_, hcell⟩
      have HQ := Lib.hid (And.intro ((HP.out.1.trans (hu1.mono (by simp))).setCell (p := ⟨b, off + k, none⟩) (Or.inr (by rw [hfp]; simp)) (es (mtx (k0 + k)))) (And.intro ((HP.out.2.1.upd hu1 hd).setCell ⟨b, off + k, none⟩ (es (mtx (k0 + k)))) hs))
      clear hs hset hcell hlen hd hfp hu1 HP S1 HSET
      generalize mtx (k0 + k) = T at *
      go_wp2_with fail
      go_roundw
      case rel => exact ⟨k + 1, by omega, by go_num, by go_num, HQ.out.1, HQ.out.2.1, HQ.out.2.2⟩
      case measure => simp [intOf]; omega
    · obtain rfl : k = xs.length := by omega
      have HP := Lib.hid (And.intro hU (And.intro hO hF))
      clear hU hO hF
      go_wp2_with fail
      go_ret
      refine ⟨by rw [HM.out]; rfl, by simpa using HP.out.2.2, HP.out.2.1, HP.out.1⟩

set_option maxRecDepth 20000 in
set_option maxHeartbeats 400000 in
theorem held_S1 (v : Value) (xs : List (List UInt8)) (k0 : Int) (w : World) (fp : List Nat) (hk0 : 0 ≤ k0) (hk1 : k0 + mkF_S1 xs ≤ 4611686018427387904) (hR : R_S1 fp w [v] (mkS k0 xs.length)) :
    Calls Tryz.prog 21 #[v, .int .i64 k0] w fun e w' => e = .returned (.int .i64 (k0 + mkF_S1 xs)) ∧ Upd [] w w' := by
  unfold mkF_S1 at *
  generalize xs.length = n at *
  obtain ⟨a, cap, rfl, h1, h2, hc⟩ := slF1_open hR
  simp only [mkS_length] at *
  unfold maxLen at h2
  clear hR
  go_enter Tryz.func21, Tryz.ntmps21
  go_wp2_with fail
  go_loopw [1, 5] (fun kk i wr => ∃ k : Nat, k ≤ n ∧ i = .int .i64 k ∧ kk = .int .i64 (k0 + k) ∧ Upd [] w wr) (fun _ i _ => n - (intOf i).toNat)
  case atStart => exact ⟨0, Nat.zero_le _, rfl, by simp, Upd.refl _ _⟩
  case round =>
    obtain ⟨k, hk, rfl, rfl, hU⟩ := hrel
    by_cases hlt : k < n
    · obtain ⟨b, off, rfl, -, hb, hcell⟩ := hc k hlt
      have e : (mkS k0 n)[k]'(by simpa using hlt) = mtx (k0 + k) := by
        have := mkS_get k0 n k hlt
        rw [List.getElem?_eq_getElem (by simpa using hlt)] at this
        exact Option.some.inj this
      rw [e] at hcell
      have q1 : wr.cell? ⟨b, off + k, none⟩ = some (es (mtx (k0 + k))) := hU.keep hcell
      have S1 := fun (w' : World) => markText (k0 + k) w' (by omega) (by omega)
      have HS1 := Lib.hid S1
      have hne : (mtx (k0 + k) != mtx (k0 + k)) = false := by simp
      have hne2 : (mtx (k0 + k) == mtx (k0 + k)) = true := by simp
      have HU := Lib.hid hU
      generalize mtx (k0 + k) = T at *
      clear hc e hcell S1 hU
      go_wp2_with fail
      go_region_held3 (fun w' => w'.cell? ⟨b, off + k, none⟩ = some (es T)) (go_keep) (((with_reducible refine (HS1.out _).mono ?_); rintro e w1 ⟨rfl, hu1⟩; have t1 := hu1.keep q1))
      have HU1 := Lib.hid (HU.out.drew.trans hu1)
      clear hu1 HU HS1
      go_wp2_with fail
      go_roundw
      case rel => exact ⟨k + 1, by omega, by go_num, by go_num, HU1.out⟩
      case measure => simp [intOf]; omega
    · obtain rfl : k = n := by omega
      clear hc
      go_wp2_with fail
      go_ret
      exact ⟨rfl, hU⟩

end Go.Proofs.YtkhifpgpkklokaaGreatDoor

/-
  Lists of labels: what the program's and the reference's calls return.
-/
namespace Go.Proofs.YtkhifpgpkklokaaGreatDoor
open Go.RowKit

/-- whether a text is a label. -/
def isLab (s : List UInt8) : Bool := (readF s).isSome

set_option maxRecDepth 20000 in
theorem areLabels1 (s : List UInt8) (w : World) (hl : s.length ≤ 2000000) (he : Env w) : Calls Tryz.prog 71 #[es s] w fun e w' => e = .returned (.bool (!isLab s)) ∧ Upd [] w w' := by
  have S1 := Lib.hid (show Calls Tryz.prog 72 #[es s] w fun e w' => e = .returned (.bool (isLab s)) ∧ Upd [] w w' from isLabelI s w hl he)
  clear he
  generalize isLab s = b at *
  go_enter Tryz.func71, Tryz.ntmps71
  go_wp2_with fail
  refine S1.out.mono ?_
  rintro e w1 ⟨rfl, hu⟩
  have HU := Lib.hid hu
  clear S1 hu
  go_wp2_with fail
  go_ret
  exact ⟨rfl, HU.out⟩

def IdxL (xs : List (List UInt8)) (w : World) (e : Ending) (w' : World) : Prop := (∃ q : Int, e = .returned (.int .i64 q) ∧ -1 ≤ q ∧ q ≤ 9223372036854775807 ∧ decide (0 ≤ q) = xs.any (fun n => !isLab n)) ∧ Upd [] w w'

set_option maxRecDepth 20000 in
set_option maxHeartbeats 1000000 in
theorem indexFuncL (v : Value) (xs : List (List UInt8)) (w : World) (fp : List Nat) (hR : RS fp w [v] xs) (hp : ∀ p ∈ xs, p.length ≤ 2000000) (he : Env w) :
    Calls Tryz.prog 104 #[v, .func (.func 71) #[] #[]] w (IdxL xs w) := by
  obtain ⟨a1, c1, rfl, hl1, hm1, -⟩ := slF1_open hR
  unfold maxLen at hm1
  have HR := Lib.hid hR
  have HP := Lib.hid hp
  have HE := Lib.hid he
  clear hR hp he
  go_enter Tryz.func104, Tryz.ntmps104
  go_wp2_with fail
  go_loopw [8] (fun i wr => ∃ k : Nat, k ≤ xs.length ∧ i = .int .i64 k ∧ Hid ((xs.drop k).any (fun n => !isLab n) = xs.any (fun n => !isLab n)) ∧ Upd [] w wr) (fun i _ => xs.length - (intOf i).toNat)
  case atStart => exact ⟨0, Nat.zero_le _, rfl, Lib.hid rfl, Upd.refl _ _⟩
  case round =>
    obtain ⟨k, hk, rfl, hF, hU⟩ := hrel
    by_cases hlt : k < xs.length
    · obtain ⟨a', cap', hv, -, -, hc⟩ := slF1_open (RSk.upd HR.out hU (by simp))
      cases hv
      obtain ⟨b1, o1, rfl, -, -, p1⟩ := hc k hlt
      have hF1 := hF.out
      rw [List.drop_eq_getElem_cons hlt, List.any_cons] at hF1
      have HF := Lib.hid hF1
      have hpk := HP.out xs[k] (List.getElem_mem hlt)
      have HU := Lib.hid hU
      clear hF1 hF hc
      generalize xs[k] = x at *
      have S1 := Lib.hid (areLabels1 x wr hpk (HE.out.upd hU))
      obtain ⟨bb, hbb⟩ : ∃ bb, bb = (!isLab x) := ⟨_, rfl⟩
      rw [← hbb] at S1 HF
      clear hbb hU
      go_wp2_with fail
      refine S1.out.mono ?_
      rintro e w1 ⟨rfl, hu1⟩
      have HU1 := Lib.hid (HU.out.trans hu1)
      clear S1 hu1 HU
      cases bb
      · go_wp2_with fail
        go_roundw
        case rel => exact ⟨k + 1, by omega, by go_num, Lib.hid (by rw [← HF.out]; rfl), HU1.out⟩
        case measure => simp [intOf]; omega
      · go_wp2_with fail
        go_ret
        exact ⟨⟨k, rfl, by omega, by omega, by rw [← HF.out]; simp⟩, HU1.out⟩
    · have hF1 := hF.out
      rw [List.drop_of_length_le (by omega)] at hF1
      have HF := Lib.hid hF1
      have HU := Lib.hid hU
      clear hF1 hF hU
      go_wp2_with fail
      go_ret
      exact ⟨⟨-1, rfl, by omega, by omega, by rw [← HF.out]; rfl⟩, HU.out⟩

set_option maxRecDepth 20000 in
theorem areLabelsI (v : Value) (xs : List (List UInt8)) (w : World) (fp : List Nat) (hR : RS fp w [v] xs) (hp : ∀ p ∈ xs, p.length ≤ 2000000) (he : Env w) :
    Calls Tryz.prog 40 #[v] w fun e w' => e = .returned (.bool (xs.all isLab)) ∧ Upd [] w w' := by
  have S2 := Lib.hid (indexFuncL v xs w fp hR hp he)
  have hall : xs.all isLab = !(xs.any (fun n => !isLab n)) := by simp [List.all_eq_not_any_not]
  have HA := Lib.hid hall
  have S3 : Hid (Calls Tryz.prog 70 #[v, .func (.func 71) #[] #[]] w fun e w' => e = .returned (.bool (xs.any (fun n => !isLab n))) ∧ Upd [] w w') := Lib.hid (by
    clear hall HA
    go_enter Tryz.func70, Tryz.ntmps70
    go_wp2_with fail
    refine S2.out.mono ?_
    rintro e w1 ⟨⟨q, rfl, h1, h2, h3⟩, hu⟩
    have H3 := Lib.hid (And.intro h3 hu)
    clear h3 hu
    go_wp2_with fail
    go_ret
    exact ⟨by rw [← H3.out.1]; rfl, H3.out.2⟩)
  clear hall S2
  generalize xs.any (fun n => !isLab n) = bb at *
  go_enter Tryz.func40, Tryz.ntmps40
  go_wp2_with fail
  refine S3.out.mono ?_
  rintro e w1 ⟨rfl, hu⟩
  have HU := Lib.hid hu
  clear hu S3
  go_wp2_with fail
  go_ret
  exact ⟨by rw [HA.out]; rfl, HU.out⟩

set_option maxRecDepth 20000 in
theorem labelS (s : List UInt8) (w : World) (hl : s.length ≤ 2000000) : Calls Tryz.prog 69 #[es s] w fun e w' => e = .returned (.bool (isLab s)) ∧ Upd [] w w' := by
  have S1 := Lib.hid (valuesS s w hl)
  go_enter Tryz.func69, Tryz.ntmps69
  go_wp2_with fail
  refine S1.out.mono ?_
  rintro e w1 ⟨⟨v, vs, rfl, hn, -⟩, hu⟩
  have HU := Lib.hid hu
  clear S1 hn hu
  go_wp2_with fail
  go_ret
  exact ⟨rfl, HU.out⟩

set_option maxRecDepth 20000 in
set_option maxHeartbeats 1000000 in
theorem textsS (v : Value) (xs : List (List UInt8)) (w : World) (fp : List Nat) (hR : RS fp w [v] xs) (hp : ∀ p ∈ xs, p.length ≤ 2000000) :
    Calls Tryz.prog 38 #[v] w fun e w' => e = .returned (.bool (xs.all isLab)) ∧ Upd [] w w' := by
  obtain ⟨a1, c1, rfl, hl1, hm1, -⟩ := slF1_open hR
  unfold maxLen at hm1
  have HR := Lib.hid hR
  have HP := Lib.hid hp
  clear hR hp
  go_enter Tryz.func38, Tryz.ntmps38
  go_wp2_with fail
  go_loopw [3] (fun i wr => ∃ k : Nat, k ≤ xs.length ∧ i = .int .i64 k ∧ Hid ((xs.drop k).all isLab = xs.all isLab) ∧ Upd [] w wr) (fun i _ => xs.length - (intOf i).toNat)
  case atStart => exact ⟨0, Nat.zero_le _, rfl, Lib.hid rfl, Upd.refl _ _⟩
  case round =>
    obtain ⟨k, hk, rfl, hF, hU⟩ := hrel
    by_cases hlt : k < xs.length
    · obtain ⟨a', cap', hv, -, -, hc⟩ := slF1_open (RSk.upd HR.out hU (by simp))
      cases hv
      obtain ⟨b1, o1, rfl, -, -, p1⟩ := hc k hlt
      have hF1 := hF.out
      rw [List.drop_eq_getElem_cons hlt, List.all_cons] at hF1
      have HF := Lib.hid hF1
      have hpk := HP.out xs[k] (List.getElem_mem hlt)
      have HU := Lib.hid hU
      clear hF1 hF hc hU
      generalize xs[k] = x at *
      have S1 := Lib.hid (labelS x wr hpk)
      generalize isLab x = bb at *
      go_wp2_with fail
      refine S1.out.mono ?_
      rintro e w1 ⟨rfl, hu1⟩
      have HU1 := Lib.hid (HU.out.trans hu1)
      clear S1 hu1 HU
      cases bb
      · go_wp2_with fail
        go_ret
        exact ⟨by rw [← HF.out]; rfl, HU1.out⟩
      · go_wp2_with fail
        go_roundw
        case rel => exact ⟨k + 1, by omega, by go_num, Lib.hid (by rw [← HF.out]; rfl), HU1.out⟩
        case measure => simp [intOf]; omega
    · have hF1 := hF.out
      rw [List.drop_of_length_le (by omega)] at hF1
      have HF := Lib.hid hF1
      have HU := Lib.hid hU
      clear hF1 hF hU
      go_wp2_with fail
      go_ret
      exact ⟨by rw [← HF.out]; rfl, HU.out⟩

theorem joinC_snoc (c : UInt8) : ∀ (ps : List (List UInt8)) (p : List UInt8), ps ≠ [] → joinC c (ps ++ [p]) = joinC c ps ++ ([c] ++ p)
  | [], _, h => absurd rfl h
  | [q], p, _ => by simp [joinC]
  | q :: r :: ps, p, _ => by
    have h := joinC_snoc c (r :: ps) p (by simp)
    simp only [List.cons_append] at h ⊢
    simp only [joinC]
    rw [h]; simp
theorem joinC_tot (c : UInt8) : ∀ ps : List (List UInt8), ((joinC c ps).length : Int) ≤ totS ps + ps.length
  | [] => by simp [joinC, totS]
  | [p] => by simp [joinC, totS]; omega
  | p :: q :: ps => by
    have h := joinC_tot c (q :: ps)
    simp only [joinC, totS, List.map_cons, List.sum_cons, List.length_append, List.length_cons] at h ⊢
    omega

set_option maxRecDepth 20000 in
set_option maxHeartbeats 1000000 in
theorem traceS (v : Value) (xs : List (List UInt8)) (w : World) (fp : List Nat) (hR : RS fp w [v] xs) (hz : szF_S1 xs ≤ 2097152) :
    Calls Tryz.prog 39 #[v] w fun e w' => e = .returned (es (if xs = [] then [45] else joinC 46 xs)) ∧ w = w' := by
  obtain ⟨a1, c1, rfl, hl1, hm1, hc⟩ := slF1_open hR
  unfold maxLen at hm1
  unfold szF_S1 at hz
  clear hR
  by_cases h0 : xs = []
  · subst h0
    go_enter Tryz.func39, Tryz.ntmps39
    go_wp2_with fail
    go_ret
    exact ⟨rfl, rfl⟩
  · have hpos : 0 < xs.length := List.length_pos_iff.2 h0
    have g0 : ((xs.length : Int) == 0) = false := by rw [beq_eq_false_iff_ne]; omega
    have H0 := Lib.hid h0
    rw [if_neg h0]
    have hC := hc
    obtain ⟨b0, o0, rfl, -, -, p0⟩ := hc 0 hpos
    rw [Nat.add_zero] at p0
    have HX0 := Lib.hid (show xs.take 1 = [xs[0]] by rw [List.take_succ_eq_append_getElem hpos]; rfl)
    generalize hx0 : xs[0] = x0 at *
    have HC := Lib.hid hC
    clear hc hx0 h0 hC
    go_enter Tryz.func39, Tryz.ntmps39
    go_wp2_with fail
    clear p0
    go_loop [3, 4] (fun o i => ∃ k : Nat, 1 ≤ k ∧ k ≤ xs.length ∧ i = .int .i64 k ∧ o = es (joinC 46 (xs.take k))) (fun _ i => xs.length - (intOf i).toNat)
    case atStart => exact ⟨1, Nat.le_refl _, by omega, rfl, by rw [HX0.out]; rfl⟩
    case round =>
      obtain ⟨k, hk0, hk, rfl, rfl⟩ := hrel
      by_cases hlt : k < xs.length
      · obtain ⟨b1, o1, hv, -, -, p1⟩ := HC.out k hlt
        cases hv
        have hj := joinC_snoc 46 (xs.take k) xs[k] (by
          intro h; have := congrArg List.length h; rw [List.length_take, List.length_nil] at this; omega)
        rw [← List.take_succ_eq_append_getElem hlt] at hj
        have ht := joinC_tot 46 (xs.take k)
        have ht2 := totS_take_le xs k
        have ht3 := totS_mem xs xs[k] (List.getElem_mem hlt)
        have ht4 : ((xs.take k).length : Int) ≤ xs.length := by rw [List.length_take]; omega
        have HJ := Lib.hid hj
        have hl1 : ((joinC 46 (xs.take k)).length : Int) ≤ 10000000 := by omega
        have hl2 : (xs[k].length : Int) ≤ 10000000 := by omega
        generalize xs[k] = x at *
        generalize joinC 46 (xs.take k) = J at *
        clear hj ht ht2 ht3 ht4
        obtain ⟨X, hX⟩ : ∃ X, X = [46] ++ x := ⟨_, rfl⟩
        have hcat := str_cat [46] x
        rw [← hX] at hcat
        obtain ⟨Y, hY⟩ : ∃ Y, Y = J ++ X := ⟨_, rfl⟩
        have hcat2 := str_cat J X
        rw [← hY] at hcat2
        have HXY := Lib.hid (show joinC 46 (xs.take (k + 1)) = Y by rw [HJ.out, hY, hX])
        have hXl : (X.length : Int) ≤ 10000001 := by rw [hX]; simp; omega
        clear hX hY HJ HX0
        go_wp2_with fail
        go_round
        case rel => exact ⟨k + 1, by omega, by omega, by go_num, by rw [HXY.out]⟩
        case measure => simp [intOf]; omega
      · obtain rfl : k = xs.length := by omega
        rw [List.take_length]
        clear HC HX0
        go_wp2_with fail
        go_ret
        exact ⟨rfl, rfl⟩

end Go.Proofs.YtkhifpgpkklokaaGreatDoor

/-
  slices.IndexFunc and ContainsFunc over numbers, at whatever function value.
-/
namespace Go.Proofs.YtkhifpgpkklokaaGreatDoor
open Go.RowKit

def IdxN (P : Int → Bool) (xs : List Int) (w : World) (e : Ending) (w' : World) : Prop := (∃ q : Int, e = .returned (.int .i64 q) ∧ -1 ≤ q ∧ q ≤ 9223372036854775807 ∧ decide (0 ≤ q) = xs.any P) ∧ Upd [] w w'

set_option maxRecDepth 20000 in
set_option maxHeartbeats 1000000 in
theorem indexFuncN (P : Int → Bool) (fn : FuncId) (caps : Array Value) (v : Value) (xs : List Int) (w : World) (fp : List Nat) (hR : R1 fp w [v] xs)
    (hent : ∀ args w, Sem.run Tryz.prog (callFunc fn args) w = .ok (.enter fn args) w)
    (hby : ∀ wr x, x ∈ xs → Upd [] w wr → Calls Tryz.prog fn (#[.int .i64 x] ++ caps) wr fun e w' => e = .returned (.bool (P x)) ∧ Upd [] wr w') :
    Calls Tryz.prog 100 #[v, .func (.func fn) #[] caps] w (IdxN P xs w) := by
  obtain ⟨a1, c1, rfl, hl1, hm1, hc1⟩ := slF1_open hR
  unfold maxLen at hm1
  have HBY := Lib.hid hby
  clear hR hby
  go_enter Tryz.func100, Tryz.ntmps100
  go_wp2_with fail
  go_loopw [8] (fun i wr => ∃ k : Nat, k ≤ xs.length ∧ i = .int .i64 k ∧ Upd [] w wr ∧ (xs.drop k).any P = xs.any P) (fun i _ => xs.length - (intOf i).toNat)
  case atStart => exact ⟨0, Nat.zero_le _, rfl, Upd.refl _ _, rfl⟩
  case round =>
    obtain ⟨k, hk, rfl, hU, hF⟩ := hrel
    by_cases hlt : k < xs.length
    · obtain ⟨b1, o1, rfl, -, -, p1⟩ := hc1 k hlt
      have p1' := hU.keep p1
      rw [List.drop_eq_getElem_cons hlt, List.any_cons] at hF
      have HF := Lib.hid hF
      have HU := Lib.hid hU
      have S1 := Lib.hid (HBY.out wr xs[k] (List.getElem_mem hlt) hU)
      generalize xs[k] = x at *
      generalize P x = bb at *
      clear hF hc1 p1 hU
      go_wp2_with fail
      refine S1.out.mono ?_
      rintro e w1 ⟨rfl, hu1⟩
      have HU1 := Lib.hid (HU.out.trans hu1)
      clear S1 hu1
      cases bb
      · go_wp2_with fail
        go_roundw
        case rel => exact ⟨k + 1, by omega, by go_num, HU1.out, by rw [← HF.out]; rfl⟩
        case measure => simp [intOf]; omega
      · go_wp2_with fail
        go_ret
        exact ⟨⟨k, rfl, by omega, by omega, by rw [← HF.out]; simp⟩, HU1.out⟩
    · rw [List.drop_of_length_le (by omega)] at hF
      have HF := Lib.hid hF
      clear hF hc1
      go_wp2_with fail
      go_ret
      exact ⟨⟨-1, rfl, by omega, by omega, by rw [← HF.out]; rfl⟩, hU⟩

set_option maxRecDepth 20000 in
theorem containsFuncN (P : Int → Bool) (fn : FuncId) (caps : Array Value) (v : Value) (xs : List Int) (w : World) (fp : List Nat) (hR : R1 fp w [v] xs)
    (hent : ∀ args w, Sem.run Tryz.prog (callFunc fn args) w = .ok (.enter fn args) w)
    (hby : ∀ wr x, x ∈ xs → Upd [] w wr → Calls Tryz.prog fn (#[.int .i64 x] ++ caps) wr fun e w' => e = .returned (.bool (P x)) ∧ Upd [] wr w') :
    Calls Tryz.prog 65 #[v, .func (.func fn) #[] caps] w fun e w' => e = .returned (.bool (xs.any P)) ∧ Upd [] w w' := by
  have S2 := Lib.hid (indexFuncN P fn caps v xs w fp hR hent hby)
  clear hby hent hR
  go_enter Tryz.func65, Tryz.ntmps65
  go_wp2_with fail
  refine S2.out.mono ?_
  rintro e w1 ⟨⟨q, rfl, h1, h2, h3⟩, hu⟩
  have H3 := Lib.hid (And.intro h3 hu)
  clear h3 hu
  go_wp2_with fail
  go_ret
  exact ⟨by rw [← H3.out.1]; rfl, H3.out.2⟩

end Go.Proofs.YtkhifpgpkklokaaGreatDoor

/-
  All rounds over the link: what the program's calls return.
-/
namespace Go.Proofs.YtkhifpgpkklokaaGreatDoor
open Go.RowKit

/-- the round behind which all labels are acknowledged, or -1. -/
def DoneV (n : Int) (fates : List Int) (R : Nat) (d : Int) : Prop := (d = -1 ∧ (Lk.st n fates R).kn ≠ n) ∨ ∃ j : Nat, j ≤ R ∧ d = j ∧ (Lk.st n fates j).kn = n
def DoneB (n : Int) (fates : List Int) (r : Nat) (d : Int) : Prop := d = -1 ∨ ∃ j : Nat, j ≤ r ∧ d = j ∧ (Lk.st n fates j).kn = n
def DelOut (n : Int) (fates : List Int) (w : World) (e : Ending) (w' : World) : Prop :=
  ∃ (p : Nat) (d : Int), e = .returned (.tuple #[.pointer (some ⟨p, 0, none⟩), .int .i64 d]) ∧ LkAt p w' (Lk.st n fates (fates.length / 2)) ∧ DoneV n fates (fates.length / 2) d ∧ w.heap.size ≤ p ∧ Upd [] w w'

set_option maxRecDepth 20000 in
set_option maxHeartbeats 1000000 in
theorem deliverW (a : Option Addr) (m c : Nat) (v : Value) (fates : List Int) (w : World) (fp : List Nat) (hm : m ≤ 1000) (hR : R1 fp w [v] fates) :
    Calls Tryz.prog 36 #[.slice a m c, v] w (DelOut m fates w) := by
  obtain ⟨b, cap, rfl, h1, h2, -⟩ := slF1_open hR
  unfold maxLen at h2
  have HR := Lib.hid hR
  have HX := Lib.hid (show LkAt w.heap.size (w.alloc (.cells #[ei m, ei 0, ei 0, ei (-1), ei (-1)] 67)) (Lk.st m fates 0) from
    ⟨cell_new w _ _ _ rfl 0 _ rfl, cell_new w _ _ _ rfl 1 _ rfl, cell_new w _ _ _ rfl 2 _ rfl, cell_new w _ _ _ rfl 3 _ rfl, cell_new w _ _ _ rfl 4 _ rfl, own_new w _ _⟩)
  have hlen : fates.length ≤ 9223372036854775807 := by omega
  clear hR
  go_enter Tryz.func36, Tryz.ntmps36
  go_wp2_with fail
  go_loopw [7, 8] (fun dv rv wr => ∃ (r : Nat) (d : Int), rv = .int .i64 r ∧ dv = .int .i64 d ∧ 2 * r ≤ fates.length ∧ LkAt w.heap.size wr (Lk.st m fates r) ∧ Upd [] w wr ∧ Hid (DoneB m fates r d)) (fun _ rv _ => fates.length + 1 - (intOf rv).toNat)
  case atStart => exact ⟨0, -1, rfl, rfl, by omega, HX.out, (Upd.refl _ _).alloc _, Lib.hid (Or.inl rfl)⟩
  case round =>
    clear HX
    obtain ⟨r, d, rfl, rfl, hr, hx, hU, hD⟩ := hrel
    have e0 := hx.c0
    have e1 := hx.c1
    have HI := Lib.hid (Lk.inv_st (n := m) (by omega) fates r)
    have hmany : (Lk.st m fates r).many = m := HI.out.many
    rw [hmany] at e0
    obtain ⟨K, hK⟩ : ∃ K, (Lk.st m fates r).kn = K := ⟨_, rfl⟩
    rw [hK] at e1
    have HK := Lib.hid hK
    have HP := Lib.hid (And.intro hx hU)
    clear hx hU hmany hK
    have hdcase : d = -1 ∨ ∃ j : Nat, d = j := by
      rcases hD.out with h | ⟨j, -, h, -⟩
      · exact Or.inl h
      · exact Or.inr ⟨j, h⟩
    by_cases hd : d = -1
    · by_cases hk : K = m
      · have HV := Lib.hid (show DoneV m fates r r from Or.inr ⟨r, Nat.le_refl _, rfl, by rw [HK.out, hk]⟩)
        have hb : (K == (m : Int)) = true := by simpa using hk
        subst hd
        clear hk hD hdcase
        go_wp2_with fail
        go_quiet (fail)
        rename_i nq
        go_upto_region 7 with (fail)
        have HQ := Lib.hid (And.intro (HP.out.1.drewN nq) (HP.out.2.drewN nq))
        obtain ⟨w4, hw4⟩ : ∃ w4, w4 = wr.drewN nq := ⟨_, rfl⟩
        rw [← hw4] at HQ ⊢
        clear hw4 HP HK e0 e1 hb
        by_cases hend : fates.length ≤ 2 * r + 1
        · have hrr : r = fates.length / 2 := by omega
          have HE := Lib.hid (show LkAt w.heap.size w4 (Lk.st m fates (fates.length / 2)) ∧ DoneV m fates (fates.length / 2) (r : Int) by rw [← hrr]; exact ⟨HQ.out.1, HV.out⟩)
          clear hrr
          go_wp2_with fail
          go_ret2
          exact ⟨w.heap.size, (r : Int), rfl, HE.out.1, HE.out.2, Nat.le_refl _, HQ.out.2⟩
        · have hlt1 : 2 * r < fates.length := by omega
          have hlt2 : 2 * r + 1 < fates.length := by omega
          obtain ⟨a', cap', hv, -, -, hc⟩ := slF1_open (R1k.upd HR.out HQ.out.2 (by simp))
          cases hv
          obtain ⟨b1, o1, rfl, -, hb1, p1⟩ := hc (2 * r) hlt1
          obtain ⟨b2, o2, hv2, -, -, p2⟩ := hc (2 * r + 1) hlt2
          cases hv2
          have HST := Lib.hid (show Lk.st m fates (r + 1) = Lk.rnd (Lk.st m fates r) fates[2 * r] fates[2 * r + 1] by
            rw [Lk.st, List.getD_eq_getElem?_getD, List.getD_eq_getElem?_getD, List.getElem?_eq_getElem hlt1, List.getElem?_eq_getElem hlt2]; rfl)
          have hne : b1 ≠ w.heap.size := by
            have h9 := R1k.lt HR.out b1
            obtain ⟨_, _, hv9, _, _, hc9⟩ := slF1_open HR.out
            obtain ⟨_, _, hb9, hf9, hl9, _⟩ := hc9 (2 * r) hlt1
            cases hv9
            cases hb9
            omega
          have S1 := Lib.hid (fun (W : World) (hx : LkAt w.heap.size W (Lk.st m fates r)) => roundW w.heap.size (Lk.st m fates r) fates[2 * r] fates[2 * r + 1] W m r HI.out (by omega) hx)
          generalize fates[2 * r] = fa at *
          generalize fates[2 * r + 1] = fb at *
          have s1 : IntKind.i64.wrap (2 * (r : Int)) = 2 * r := IntWalk.i64_in _ (by omega)
          have s2 : IntKind.i64.wrap (2 * (r : Int) + 1) = 2 * r + 1 := IntWalk.i64_in _ (by omega)
          have s3 : (2 * (r : Int)).toNat = 2 * r := by omega
          have s4 : (2 * (r : Int) + 1).toNat = 2 * r + 1 := by omega
          have s5 : 0 ≤ 2 * (r : Int) := by omega
          have s6 : 0 ≤ 2 * (r : Int) + 1 := by omega
          have s7 : 2 * (r : Int) < fates.length := by omega
          have s8 : 2 * (r : Int) + 1 < fates.length := by omega
          clear hc
          go_upto_region 9 with (fail)
          go_region_held3 (fun w' => w'.cell? ⟨b1, o1 + 2 * r, none⟩ = some (ei fa) ∧ w'.cell? ⟨b1, o1 + (2 * r + 1), none⟩ = some (ei fb)) (go_keep) (((with_reducible refine (S1.out _ HQ.out.1.drew).mono ?_); rintro e w5 ⟨rfl, hx5, hu5⟩; have t1 := (World.cell?_of_block (a := ⟨b1, o1 + 2 * r, none⟩) (hu5.block b1 hb1 (by simpa using hne))).trans p1; have t2 := (World.cell?_of_block (a := ⟨b1, o1 + (2 * r + 1), none⟩) (hu5.block b1 hb1 (by simpa using hne))).trans p2))
          have HF := Lib.hid (And.intro (show LkAt w.heap.size w5 (Lk.st m fates (r + 1)) by rw [HST.out]; exact hx5) (HQ.out.2.drew.fresh hu5 (fun b hb => Or.inl (by simp at hb; omega))))
          clear hx5 hu5 t1 t2 p1 p2 HQ S1 s1 s2 s3 s4 s5 s6
          go_wp2_with fail
          go_roundw
          case rel => exact ⟨r + 1, (r : Int), by go_num, rfl, by omega, HF.out.1, HF.out.2, Lib.hid (by
            rcases HV.out with ⟨h, -⟩ | ⟨j, hj, h, h2⟩
            · exact Or.inl h
            · exact Or.inr ⟨j, by omega, h, h2⟩)⟩
          case measure => simp [intOf]; omega
      · have HV := Lib.hid (show DoneV m fates r (-1) from Or.inl ⟨rfl, by rw [HK.out]; exact hk⟩)
        have hb : (K == (m : Int)) = false := by simpa using hk
        subst hd
        clear hk hD hdcase
        go_wp2_with fail
        go_quiet (fail)
        rename_i nq
        go_upto_region 7 with (fail)
        have HQ := Lib.hid (And.intro (HP.out.1.drewN nq) (HP.out.2.drewN nq))
        obtain ⟨w4, hw4⟩ : ∃ w4, w4 = wr.drewN nq := ⟨_, rfl⟩
        rw [← hw4] at HQ ⊢
        clear hw4 HP HK e0 e1 hb
        by_cases hend : fates.length ≤ 2 * r + 1
        · have hrr : r = fates.length / 2 := by omega
          have HE := Lib.hid (show LkAt w.heap.size w4 (Lk.st m fates (fates.length / 2)) ∧ DoneV m fates (fates.length / 2) (-1 : Int) by rw [← hrr]; exact ⟨HQ.out.1, HV.out⟩)
          clear hrr
          go_wp2_with fail
          go_ret2
          exact ⟨w.heap.size, (-1 : Int), rfl, HE.out.1, HE.out.2, Nat.le_refl _, HQ.out.2⟩
        · have hlt1 : 2 * r < fates.length := by omega
          have hlt2 : 2 * r + 1 < fates.length := by omega
          obtain ⟨a', cap', hv, -, -, hc⟩ := slF1_open (R1k.upd HR.out HQ.out.2 (by simp))
          cases hv
          obtain ⟨b1, o1, rfl, -, hb1, p1⟩ := hc (2 * r) hlt1
          obtain ⟨b2, o2, hv2, -, -, p2⟩ := hc (2 * r + 1) hlt2
          cases hv2
          have HST := Lib.hid (show Lk.st m fates (r + 1) = Lk.rnd (Lk.st m fates r) fates[2 * r] fates[2 * r + 1] by
            rw [Lk.st, List.getD_eq_getElem?_getD, List.getD_eq_getElem?_getD, List.getElem?_eq_getElem hlt1, List.getElem?_eq_getElem hlt2]; rfl)
          have hne : b1 ≠ w.heap.size := by
            have h9 := R1k.lt HR.out b1
            obtain ⟨_, _, hv9, _, _, hc9⟩ := slF1_open HR.out
            obtain ⟨_, _, hb9, hf9, hl9, _⟩ := hc9 (2 * r) hlt1
            cases hv9
            cases hb9
            omega
          have S1 := Lib.hid (fun (W : World) (hx : LkAt w.heap.size W (Lk.st m fates r)) => roundW w.heap.size (Lk.st m fates r) fates[2 * r] fates[2 * r + 1] W m r HI.out (by omega) hx)
          generalize fates[2 * r] = fa at *
          generalize fates[2 * r + 1] = fb at *
          have s1 : IntKind.i64.wrap (2 * (r : Int)) = 2 * r := IntWalk.i64_in _ (by omega)
          have s2 : IntKind.i64.wrap (2 * (r : Int) + 1) = 2 * r + 1 := IntWalk.i64_in _ (by omega)
          have s3 : (2 * (r : Int)).toNat = 2 * r := by omega
          have s4 : (2 * (r : Int) + 1).toNat = 2 * r + 1 := by omega
          have s5 : 0 ≤ 2 * (r : Int) := by omega
          have s6 : 0 ≤ 2 * (r : Int) + 1 := by omega
          have s7 : 2 * (r : Int) < fates.length := by omega
          have s8 : 2 * (r : Int) + 1 < fates.length := by omega
          clear hc
          go_upto_region 9 with (fail)
          go_region_held3 (fun w' => w'.cell? ⟨b1, o1 + 2 * r, none⟩ = some (ei fa) ∧ w'.cell? ⟨b1, o1 + (2 * r + 1), none⟩ = some (ei fb)) (go_keep) (((with_reducible refine (S1.out _ HQ.out.1.drew).mono ?_); rintro e w5 ⟨rfl, hx5, hu5⟩; have t1 := (World.cell?_of_block (a := ⟨b1, o1 + 2 * r, none⟩) (hu5.block b1 hb1 (by simpa using hne))).trans p1; have t2 := (World.cell?_of_block (a := ⟨b1, o1 + (2 * r + 1), none⟩) (hu5.block b1 hb1 (by simpa using hne))).trans p2))
          have HF := Lib.hid (And.intro (show LkAt w.heap.size w5 (Lk.st m fates (r + 1)) by rw [HST.out]; exact hx5) (HQ.out.2.drew.fresh hu5 (fun b hb => Or.inl (by simp at hb; omega))))
          clear hx5 hu5 t1 t2 p1 p2 HQ S1 s1 s2 s3 s4 s5 s6
          go_wp2_with fail
          go_roundw
          case rel => exact ⟨r + 1, (-1 : Int), by go_num, rfl, by omega, HF.out.1, HF.out.2, Lib.hid (by
            rcases HV.out with ⟨h, -⟩ | ⟨j, hj, h, h2⟩
            · exact Or.inl h
            · exact Or.inr ⟨j, by omega, h, h2⟩)⟩
          case measure => simp [intOf]; omega
    · have hj : ∃ j : Nat, d = j := by
        rcases hdcase with h | h
        · exact absurd h hd
        · exact h
      have HV0 := Lib.hid (show DoneV m fates r d from by
        rcases hD.out with h | h
        · exact absurd h hd
        · exact Or.inr h)
      clear hD hdcase hd
      obtain ⟨j, rfl⟩ := hj
      have HV := Lib.hid HV0.out
      have hb : decide ((j : Int) < 0) = false := by simp
      have hb2 : ¬ (j : Int) < 0 := by omega
      clear HV0
      go_wp2_with fail
      go_quiet (fail)
      rename_i nq
      go_upto_region 7 with (fail)
      have HQ := Lib.hid (And.intro (HP.out.1.drewN nq) (HP.out.2.drewN nq))
      obtain ⟨w4, hw4⟩ : ∃ w4, w4 = wr.drewN nq := ⟨_, rfl⟩
      rw [← hw4] at HQ ⊢
      clear hw4 HP HK e0 e1 hb
      by_cases hend : fates.length ≤ 2 * r + 1
      · have hrr : r = fates.length / 2 := by omega
        have HE := Lib.hid (show LkAt w.heap.size w4 (Lk.st m fates (fates.length / 2)) ∧ DoneV m fates (fates.length / 2) (j : Int) by rw [← hrr]; exact ⟨HQ.out.1, HV.out⟩)
        clear hrr
        go_wp2_with fail
        go_ret2
        exact ⟨w.heap.size, (j : Int), rfl, HE.out.1, HE.out.2, Nat.le_refl _, HQ.out.2⟩
      · have hlt1 : 2 * r < fates.length := by omega
        have hlt2 : 2 * r + 1 < fates.length := by omega
        obtain ⟨a', cap', hv, -, -, hc⟩ := slF1_open (R1k.upd HR.out HQ.out.2 (by simp))
        cases hv
        obtain ⟨b1, o1, rfl, -, hb1, p1⟩ := hc (2 * r) hlt1
        obtain ⟨b2, o2, hv2, -, -, p2⟩ := hc (2 * r + 1) hlt2
        cases hv2
        have HST := Lib.hid (show Lk.st m fates (r + 1) = Lk.rnd (Lk.st m fates r) fates[2 * r] fates[2 * r + 1] by
          rw [Lk.st, List.getD_eq_getElem?_getD, List.getD_eq_getElem?_getD, List.getElem?_eq_getElem hlt1, List.getElem?_eq_getElem hlt2]; rfl)
        have hne : b1 ≠ w.heap.size := by
          have h9 := R1k.lt HR.out b1
          obtain ⟨_, _, hv9, _, _, hc9⟩ := slF1_open HR.out
          obtain ⟨_, _, hb9, hf9, hl9, _⟩ := hc9 (2 * r) hlt1
          cases hv9
          cases hb9
          omega
        have S1 := Lib.hid (fun (W : World) (hx : LkAt w.heap.size W (Lk.st m fates r)) => roundW w.heap.size (Lk.st m fates r) fates[2 * r] fates[2 * r + 1] W m r HI.out (by omega) hx)
        generalize fates[2 * r] = fa at *
        generalize fates[2 * r + 1] = fb at *
        have s1 : IntKind.i64.wrap (2 * (r : Int)) = 2 * r := IntWalk.i64_in _ (by omega)
        have s2 : IntKind.i64.wrap (2 * (r : Int) + 1) = 2 * r + 1 := IntWalk.i64_in _ (by omega)
        have s3 : (2 * (r : Int)).toNat = 2 * r := by omega
        have s4 : (2 * (r : Int) + 1).toNat = 2 * r + 1 := by omega
        have s5 : 0 ≤ 2 * (r : Int) := by omega
        have s6 : 0 ≤ 2 * (r : Int) + 1 := by omega
        have s7 : 2 * (r : Int) < fates.length := by omega
        have s8 : 2 * (r : Int) + 1 < fates.length := by omega
        clear hc
        go_upto_region 9 with (fail)
        go_region_held3 (fun w' => w'.cell? ⟨b1, o1 + 2 * r, none⟩ = some (ei fa) ∧ w'.cell? ⟨b1, o1 + (2 * r + 1), none⟩ = some (ei fb)) (go_keep) (((with_reducible refine (S1.out _ HQ.out.1.drew).mono ?_); rintro e w5 ⟨rfl, hx5, hu5⟩; have t1 := (World.cell?_of_block (a := ⟨b1, o1 + 2 * r, none⟩) (hu5.block b1 hb1 (by simpa using hne))).trans p1; have t2 := (World.cell?_of_block (a := ⟨b1, o1 + (2 * r + 1), none⟩) (hu5.block b1 hb1 (by simpa using hne))).trans p2))
        have HF := Lib.hid (And.intro (show LkAt w.heap.size w5 (Lk.st m fates (r + 1)) by rw [HST.out]; exact hx5) (HQ.out.2.drew.fresh hu5 (fun b hb => Or.inl (by simp at hb; omega))))
        clear hx5 hu5 t1 t2 p1 p2 HQ S1 s1 s2 s3 s4 s5 s6
        go_wp2_with fail
        go_roundw
        case rel => exact ⟨r + 1, (j : Int), by go_num, rfl, by omega, HF.out.1, HF.out.2, Lib.hid (by
          rcases HV.out with ⟨h, -⟩ | ⟨j, hj, h, h2⟩
          · exact Or.inl h
          · exact Or.inr ⟨j, by omega, h, h2⟩)⟩
        case measure => simp [intOf]; omega

end Go.Proofs.YtkhifpgpkklokaaGreatDoor

/-
  Expressions as trees: how a tree lies in memory; the terms of a tree in order; a valid list of terms is one tree's.
-/
namespace Go.Proofs.YtkhifpgpkklokaaGreatDoor
open Go.RowKit

inductive Ex where
  | mk (t : Tm) (args : List Ex)

mutual
def RE : Ex → List Nat → World → List Value → Prop
  | .mk t args, fp, w, cs => ∃ b s fa us fb fps, cs = [.pointer (some ⟨b, 0, none⟩)] ∧ fp = b :: fa ∧ w.cell? ⟨b, 0, none⟩ = some (ei t.1) ∧ w.cell? ⟨b, 1, none⟩ = some (ei t.2) ∧ w.cell? ⟨b, 2, none⟩ = some s ∧
      Flat fb w s 1 args.length us ∧ List.length fps = args.length ∧ fa = fb ++ List.flatten fps ∧ REs args fps w us
def REs : List Ex → List (List Nat) → World → List Value → Prop
  | [], _, _, _ => True
  | x :: xs, fps, w, us => ∃ f fs u vs, fps = f :: fs ∧ us = u :: vs ∧ RE x f w [u] ∧ REs xs fs w vs
end

mutual
def flatE : Ex → List Tm
  | .mk t args => t :: flatEs args
def flatEs : List Ex → List Tm
  | [] => []
  | x :: xs => flatE x ++ flatEs xs
end

mutual
def okE : Ex → Bool
  | .mk t args => decide ((args.length : Int) = arity t) && okEs args
def okEs : List Ex → Bool
  | [] => true
  | x :: xs => okE x && okEs xs
end

abbrev R_E : Rp Ex := fun fp w cs x => RE x fp w cs

theorem REs_get : ∀ (xs : List Ex) (fps : List (List Nat)) (w : World) (us : List Value), REs xs fps w us → ∀ i (h : i < xs.length) u (f : List Nat), us[i]? = some u → fps[i]? = some f → RE xs[i] f w [u]
  | [], _, _, _, _, i, h, _, _, _, _ => by simp at h
  | x :: xs, fps, w, us, hr, i, h, u, f, hu, hf => by
    obtain ⟨f0, fs, u0, vs, rfl, rfl, h1, h2⟩ := hr
    cases i with
    | zero => simp at hu hf; subst hu hf; exact h1
    | succ i => exact REs_get xs fs w vs h2 i (by simpa using h) u f (by simpa using hu) (by simpa using hf)

theorem REs_mk : ∀ (xs : List Ex) (fps : List (List Nat)) (w : World) (us : List Value), fps.length = xs.length → us.length = xs.length →
    (∀ i (h : i < xs.length) u (f : List Nat), us[i]? = some u → fps[i]? = some f → RE xs[i] f w [u]) → REs xs fps w us
  | [], _, _, _, _, _, _ => trivial
  | x :: xs, fps, w, us, h1, h2, h => by
    match fps, us, h1, h2 with
    | f :: fs, u :: vs, h1, h2 =>
      exact ⟨f, fs, u, vs, rfl, rfl, h 0 (by simp) u f rfl rfl, REs_mk xs fs w vs (by simpa using h1) (by simpa using h2) (fun i hi u' f' hu hf => h (i + 1) (by simpa using hi) u' f' (by simpa using hu) (by simpa using hf))⟩

theorem R_E_open {fp : List Nat} {w : World} {v : Value} {t : Tm} {args : List Ex} (h : R_E fp w [v] (.mk t args)) :
    ∃ b s fa, v = .pointer (some ⟨b, 0, none⟩) ∧ fp = b :: fa ∧ w.cell? ⟨b, 0, none⟩ = some (ei t.1) ∧ w.cell? ⟨b, 1, none⟩ = some (ei t.2) ∧ w.cell? ⟨b, 2, none⟩ = some s ∧ slP R_E fa w [s] args := by
  simp only [R_E, RE] at h
  obtain ⟨b, s, fa, us, fb, fps, hv, rfl, h1, h2, h3, h4, h5, rfl, h6⟩ := h
  simp at hv
  exact ⟨b, s, _, hv, rfl, h1, h2, h3, s, us, fb, fps, rfl, h4, h5, rfl, REs_get _ _ _ _ h6⟩

theorem R_E_mk {w : World} {t : Tm} {args : List Ex} {b : Nat} {s : Value} {fa : List Nat} (h1 : w.cell? ⟨b, 0, none⟩ = some (ei t.1)) (h2 : w.cell? ⟨b, 1, none⟩ = some (ei t.2)) (h3 : w.cell? ⟨b, 2, none⟩ = some s)
    (h : slP R_E fa w [s] args) : R_E (b :: fa) w [.pointer (some ⟨b, 0, none⟩)] (.mk t args) := by
  obtain ⟨v, us, fb, fps, hv, h4, h5, rfl, h6⟩ := h
  cases hv
  have hl : us.length = args.length := by obtain ⟨_, _, _, _, _, h, _⟩ := h4; simpa using h
  simp only [R_E, RE]
  exact ⟨b, s, _, us, fb, fps, rfl, rfl, h1, h2, h3, h4, h5, rfl, REs_mk _ _ _ _ h5 hl h6⟩

theorem R_E_form {fp : List Nat} {w : World} {v : Value} {x : Ex} (h : R_E fp w [v] x) : ∃ b, v = .pointer (some ⟨b, 0, none⟩) := by
  obtain ⟨t, args⟩ := x
  obtain ⟨b, -, -, rfl, -⟩ := R_E_open h
  exact ⟨b, rfl⟩

mutual
theorem RE_lt : ∀ (x : Ex) (fp : List Nat) (w : World) (cs : List Value), RE x fp w cs → ∀ b ∈ fp, b < w.heap.size
  | .mk t args, fp, w, cs, h, b, hb => by
    simp only [RE] at h
    obtain ⟨b0, s, fa, us, fb, fps, -, rfl, h1, -, -, h4, h5, rfl, h6⟩ := h
    rcases List.mem_cons.1 hb with rfl | hb
    · exact World.block_lt_of_cell? w _ h1
    · rcases List.mem_append.1 hb with hb | hb
      · exact h4.lt b hb
      · exact REs_lt args fps w us h5 h6 b hb
theorem REs_lt : ∀ (xs : List Ex) (fps : List (List Nat)) (w : World) (us : List Value), fps.length = xs.length → REs xs fps w us → ∀ b ∈ fps.flatten, b < w.heap.size
  | [], fps, _, _, h, _, b, hb => by simp at h; subst h; simp at hb
  | x :: xs, fps, w, us, hl, h, b, hb => by
    simp only [REs] at h
    obtain ⟨f, fs, u, vs, rfl, rfl, h1, h2⟩ := h
    rw [List.flatten_cons] at hb
    rcases List.mem_append.1 hb with hb | hb
    · exact RE_lt x f w [u] h1 b hb
    · exact REs_lt xs fs w vs (by simpa using hl) h2 b hb
end

mutual
theorem RE_frame : ∀ (x : Ex) (fp : List Nat) (w w' : World) (cs : List Value), RE x fp w cs → w.heap.size ≤ w'.heap.size → (∀ b ∈ fp, w'.heap[b]? = w.heap[b]?) → RE x fp w' cs
  | .mk t args, fp, w, w', cs, h, hs, hb => by
    simp only [RE] at h ⊢
    obtain ⟨b0, s, fa, us, fb, fps, rfl, rfl, h1, h2, h3, h4, h5, rfl, h6⟩ := h
    have hb0 := hb b0 (by simp)
    refine ⟨b0, s, _, us, fb, fps, rfl, rfl, ?_, ?_, ?_, h4.frame hs (fun b h => hb b (by simp [h])), h5, rfl, REs_frame args fps w w' us h6 hs (fun b h => hb b (by simp only [List.mem_cons, List.mem_append]; exact Or.inr (Or.inr h)))⟩
    · rw [World.cell?_of_block (w := w) hb0]; exact h1
    · rw [World.cell?_of_block (w := w) hb0]; exact h2
    · rw [World.cell?_of_block (w := w) hb0]; exact h3
theorem REs_frame : ∀ (xs : List Ex) (fps : List (List Nat)) (w w' : World) (us : List Value), REs xs fps w us → w.heap.size ≤ w'.heap.size → (∀ b ∈ fps.flatten, w'.heap[b]? = w.heap[b]?) → REs xs fps w' us
  | [], _, _, _, _, _, _, _ => trivial
  | x :: xs, fps, w, w', us, h, hs, hb => by
    simp only [REs] at h ⊢
    obtain ⟨f, fs, u, vs, rfl, rfl, h1, h2⟩ := h
    exact ⟨f, fs, u, vs, rfl, rfl, RE_frame x f w w' [u] h1 hs (fun b h => hb b (by rw [List.flatten_cons]; exact List.mem_append_left _ h)), REs_frame xs fs w w' vs h2 hs (fun b h => hb b (by rw [List.flatten_cons]; exact List.mem_append_right _ h))⟩
end

theorem R_Ek : Kept R_E := ⟨fun h => RE_lt _ _ _ _ h, fun h hs hb => RE_frame _ _ _ _ _ h hs hb⟩

theorem flatEs_append (xs ys : List Ex) : flatEs (xs ++ ys) = flatEs xs ++ flatEs ys := by
  induction xs with
  | nil => rfl
  | cons x xs ih => simp [flatEs, ih]
theorem okEs_append (xs ys : List Ex) : okEs (xs ++ ys) = (okEs xs && okEs ys) := by
  induction xs with
  | nil => simp [okEs]
  | cons x xs ih => simp [okEs, ih, Bool.and_assoc]
theorem flatE_pos (x : Ex) : 1 ≤ (flatE x).length := by cases x; simp [flatE]

/-- terms behind which no operand is wanted are the terms of trees. -/
theorem trees_of_run (nv : Int) : ∀ (ts : List Tm) (n : Nat), run nv ts n = some 0 → ∃ xs : List Ex, xs.length = n ∧ okEs xs = true ∧ flatEs xs = ts
  | [], n, h => ⟨[], by simp [run] at h; simp; omega, rfl, rfl⟩
  | t :: ts, n, h => by
    rw [run] at h
    by_cases hn : (n : Int) = 0
    · simp [hn] at h
    · rw [if_neg hn] at h
      by_cases ht : tOk t nv = true
      · rw [if_pos ht] at h
        have hb := arity_bd t
        obtain ⟨m, hm⟩ : ∃ m : Nat, arity t = m := ⟨(arity t).toNat, by omega⟩
        rw [hm, show ((n : Int) + ((m : Int) - 1)) = ((n - 1 + m : Nat) : Int) from by omega] at h
        obtain ⟨xs, h1, h2, h3⟩ := trees_of_run nv ts (n - 1 + m) h
        refine ⟨.mk t (xs.take m) :: xs.drop m, by simp; omega, ?_, ?_⟩
        · have hok : okEs (xs.take m) = true ∧ okEs (xs.drop m) = true := by
            have := h2; rw [← List.take_append_drop m xs, okEs_append, Bool.and_eq_true] at this; exact this
          simp only [okEs, okE, hok.1, hok.2, Bool.and_true, decide_eq_true_eq, hm]
          simp; omega
        · simp only [flatEs, flatE]
          rw [List.cons_append, ← flatEs_append, List.take_append_drop, h3]
      · rw [if_neg ht] at h; cases h

theorem tree_of_ok {e : List Tm} (h : eOk e = true) : ∃ x : Ex, okE x = true ∧ flatE x = e := by
  unfold eOk isE at h
  rw [Bool.and_eq_true] at h
  have h2 : run 29 e ((1 : Nat) : Int) = some 0 := by simpa using h.2
  obtain ⟨xs, h3, h4, h5⟩ := trees_of_run 29 e 1 h2
  match xs, h3 with
  | [x], _ => exact ⟨x, by simpa [okEs] using h4, by simpa [flatEs] using h5⟩

end Go.Proofs.YtkhifpgpkklokaaGreatDoor

/-
  The terms of a tree in order; a tree out of terms: what each call returns and makes.
-/
namespace Go.Proofs.YtkhifpgpkklokaaGreatDoor
open Go.RowKit

abbrev encT (t : Tm) : List Value := [ei t.1, ei t.2]

theorem flatEs_take (xs : List Ex) (k : Nat) (h : k < xs.length) : flatEs (xs.take (k + 1)) = flatEs (xs.take k) ++ flatE xs[k] := by
  rw [List.take_succ_eq_append_getElem h, flatEs_append]; simp [flatEs]
theorem flatEs_take_le (xs : List Ex) (k : Nat) : (flatEs (xs.take k)).length ≤ (flatEs xs).length := by
  conv => rhs; rw [← List.take_append_drop k xs, flatEs_append, List.length_append]
  omega

theorem Below.keepK {α : Type} {R : Rp α} (K : Kept R) {B : Nat} {w w' : World} {fp cs x} (h : R fp w cs x) (hb : Below B w w') (hf : ∀ b ∈ fp, b < B) : R fp w' cs x :=
  K.frame h hb.size fun b hm => hb.block b (hf b hm)

/-- a slice without its first element, whatever address its value bears. -/
theorem slF_tail {α : Type} {n : Nat} {enc : α → List Value} (he : ∀ x, (enc x).length = n) {fp : List Nat} {w : World} {b off len cap : Nat} {x : α} {xs : List α}
    (h : slF n enc fp w [.slice (some ⟨b, off, none⟩) len cap] (x :: xs)) (o' : Nat) (ho : xs ≠ [] → o' = off + n) :
    ∃ fp', slF n enc fp' w [.slice (some ⟨b, o', none⟩) (len - 1) (cap - 1)] xs ∧ (∀ c ∈ fp', c ∈ fp) := by
  obtain ⟨v, hv, a, cap', hv2, h1, h2, h3, h4⟩ := h
  cases hv
  simp only [Value.slice.injEq] at hv2
  obtain ⟨rfl, rfl, rfl⟩ := hv2
  simp only [List.length_cons] at *
  have hl : (xs.flatMap enc).length = xs.length * n := by
    clear h3 h4 ho
    induction xs with
    | nil => simp
    | cons y ys ih => rw [List.flatMap_cons, List.length_append, he, ih (by simp at h1; omega), List.length_cons, Nat.add_mul]; omega
  rcases h4 with ⟨h0, -⟩ | ⟨b', off', hb', rfl, hbl, hc⟩
  · omega
  · simp only [Option.some.injEq, Addr.mk.injEq, and_true] at hb'
    obtain ⟨rfl, rfl⟩ := hb'
    by_cases hx : xs = []
    · subst hx
      exact ⟨[], ⟨_, rfl, some ⟨b, o', none⟩, cap - 1, by simp, by simp, by omega, by simp, Or.inl ⟨rfl, rfl⟩⟩, by simp⟩
    · refine ⟨[b], ⟨_, rfl, _, cap - 1, by simp, by omega, by omega, hl, Or.inr ⟨b, o', rfl, rfl, hbl, fun j u hu => ?_⟩⟩, by simp⟩
      have := hc (n + j) u (by rw [List.flatMap_cons, List.getElem?_append_right (by rw [he]; omega), he, Nat.add_sub_cancel_left]; exact hu)
      rw [ho hx, Nat.add_assoc]; exact this

end Go.Proofs.YtkhifpgpkklokaaGreatDoor

/-
  OperandsOf, both sides.
-/
namespace Go.Proofs.YtkhifpgpkklokaaGreatDoor
open Go.RowKit

abbrev R_T2' : Rp (List (List Tm)) := slP R_T1

noncomputable def treeOf (e : List Tm) (h : eOk e = true) : Ex := Classical.choose (tree_of_ok h)
theorem treeOf_ok (e : List Tm) (h : eOk e = true) : okE (treeOf e h) = true ∧ flatE (treeOf e h) = e := Classical.choose_spec (tree_of_ok h)
def argsOf : Ex → List Ex | .mk _ args => args
def termOf : Ex → Tm | .mk t _ => t
open Classical in
noncomputable def opsRes (e : List Tm) : List (List Tm) × Int := if h : eOk e = true then ((argsOf (treeOf e h)).map flatE, 0) else ([], 1)

theorem eOk_len {e : List Tm} (h : eOk e = true) : 1 ≤ e.length ∧ e.length ≤ 60 := by have := isE_len h; omega

theorem flatE_arg_le (x : Ex) (k : Nat) (h : k < (argsOf x).length) : (flatE (argsOf x)[k]).length ≤ (flatE x).length := by
  obtain ⟨t, args⟩ := x
  simp only [argsOf, flatE, List.length_cons] at *
  have e1 : flatEs args = flatEs (args.take k) ++ (flatE args[k] ++ flatEs (args.drop (k + 1))) := by
    conv => lhs; rw [← List.take_append_drop k args, flatEs_append, List.drop_eq_getElem_cons (show k < args.length from h)]
    rfl
  rw [e1, List.length_append, List.length_append]; omega

theorem slF_sub {α : Type} {n : Nat} {enc : α → List Value} (he : ∀ x, (enc x).length = n) {fp : List Nat} {w : World} {b off len cap : Nat} {xs : List α}
    (h : slF n enc fp w [.slice (some ⟨b, off, none⟩) len cap] xs) (i j : Nat) (hij : i ≤ j) (hj : j ≤ xs.length) :
    ∃ fp', slF n enc fp' w [.slice (some ⟨b, off + i * n, none⟩) (j - i) (cap - i)] ((xs.take j).drop i) ∧ (∀ c ∈ fp', c ∈ fp) := by
  obtain ⟨v, hv, a, cap', hv2, h1, h2, h3, h4⟩ := h
  cases hv
  simp only [Value.slice.injEq] at hv2
  obtain ⟨rfl, rfl, rfl⟩ := hv2
  have hfl : ∀ ys : List α, (ys.flatMap enc).length = ys.length * n := by
    intro ys
    induction ys with
    | nil => simp
    | cons y ys ih => rw [List.flatMap_cons, List.length_append, he, ih, List.length_cons, Nat.add_mul]; omega
  have hlen : ((xs.take j).drop i).length = j - i := by simp; omega
  rcases h4 with ⟨h0, rfl⟩ | ⟨b', off', hb', rfl, hbl, hc⟩
  · have : j = 0 := by omega
    subst this
    obtain rfl : i = 0 := by omega
    exact ⟨[], ⟨_, rfl, some ⟨b, off + 0 * n, none⟩, cap - 0, by simp, by simp, by omega, by simp, Or.inl ⟨by simp, rfl⟩⟩, by simp⟩
  · simp only [Option.some.injEq, Addr.mk.injEq, and_true] at hb'
    obtain ⟨rfl, rfl⟩ := hb'
    refine ⟨[b], ⟨_, rfl, some ⟨b, off + i * n, none⟩, cap - i, by rw [hlen], by omega, by omega, hfl _, Or.inr ⟨b, off + i * n, rfl, rfl, hbl, fun q u hu => ?_⟩⟩, by simp⟩
    have e1 : xs.flatMap enc = (xs.take i).flatMap enc ++ (((xs.take j).drop i).flatMap enc ++ (xs.drop j).flatMap enc) := by
      rw [← List.flatMap_append, ← List.flatMap_append]
      congr 1
      rw [← List.append_assoc]
      conv => lhs; rw [← List.take_append_drop j xs]
      congr 1
      conv => lhs; rw [← List.take_append_drop i (xs.take j)]
      rw [List.take_take, Nat.min_eq_left hij]
    have hti : ((xs.take i).flatMap enc).length = i * n := by rw [hfl]; congr 1; simp; omega
    have hq : q < (((xs.take j).drop i).flatMap enc).length := (List.getElem?_eq_some_iff.1 hu).1
    have := hc (i * n + q) u (by rw [e1, List.getElem?_append_right (by omega), hti, Nat.add_sub_cancel_left, List.getElem?_append_left hq]; exact hu)
    rw [Nat.add_assoc]; exact this

theorem ops_b (e : List Tm) : mkF_T2 (opsRes e).1 ≤ 300 := by
  unfold opsRes
  split
  · rename_i h
    obtain ⟨-, hfl⟩ := treeOf_ok e h
    have hlen := eOk_len h
    generalize treeOf e h = x at *
    obtain ⟨t, args⟩ := x
    simp only [flatE] at hfl
    have h1 : (flatEs args).length ≤ 60 := by have : (flatEs args).length + 1 = e.length := by rw [← hfl]; rfl
                                              omega
    have h2 : ∀ xs : List Ex, mkF_T2 (xs.map flatE) = 2 * (flatEs xs).length := by
      intro xs
      induction xs with
      | nil => rfl
      | cons y ys ih =>
        unfold mkF_T2 at *
        simp only [List.map_cons, List.sum_cons, flatEs, List.length_append, ih, mkF_T1]
        omega
    simp only [argsOf]
    rw [h2]; omega
  · simp [mkF_T2]

end Go.Proofs.YtkhifpgpkklokaaGreatDoor

/-
  Postfix form: the stack of trees, plainly.
-/
namespace Go.Proofs.YtkhifpgpkklokaaGreatDoor

/-- terms in postfix order, onto a stack of trees (its top is the list's end). -/
def pfE : List Tm → List Ex → Option (List Ex)
  | [], st => some st
  | t :: ts, st => if (st.length : Int) < arity t then none else pfE ts (st.take (st.length - (arity t).toNat) ++ [.mk t (st.drop (st.length - (arity t).toNat))])

theorem flatEs_all (P : Tm → Bool) (xs ys : List Ex) : (flatEs (xs ++ ys)).all P = ((flatEs xs).all P && (flatEs ys).all P) := by
  rw [flatEs_append, List.all_append]

theorem pfE_ok : ∀ (ts : List Tm) (st out : List Ex), okEs st = true → pfE ts st = some out → okEs out = true ∧ (∀ P : Tm → Bool, (flatEs out).all P = ((flatEs st).all P && ts.all P)) ∧ (flatEs out).length = (flatEs st).length + ts.length
  | [], st, out, h, hp => by simp [pfE] at hp; subst hp; exact ⟨h, by simp, by simp⟩
  | t :: ts, st, out, h, hp => by
    rw [pfE] at hp
    split at hp
    · cases hp
    · rename_i hlt
      have hb := arity_bd t
      have hst : okEs (st.take (st.length - (arity t).toNat)) = true ∧ okEs (st.drop (st.length - (arity t).toNat)) = true := by
        rw [← List.take_append_drop (st.length - (arity t).toNat) st, okEs_append, Bool.and_eq_true] at h; exact h
      have hfl : flatEs st = flatEs (st.take (st.length - (arity t).toNat)) ++ flatEs (st.drop (st.length - (arity t).toNat)) := by
        rw [← flatEs_append, List.take_append_drop]
      obtain ⟨g1, g2, g3⟩ := pfE_ok ts _ out (by
        rw [okEs_append, hst.1]
        simp only [okEs, okE, hst.2, Bool.and_true, Bool.true_and, decide_eq_true_eq, List.length_drop]
        omega) hp
      refine ⟨g1, fun P => ?_, ?_⟩
      · rw [g2 P, flatEs_all, hfl, List.all_append]
        simp only [flatEs, flatE, List.append_nil, List.all_cons]
        cases (flatEs (List.take (st.length - (arity t).toNat) st)).all P <;> cases (flatEs (List.drop (st.length - (arity t).toNat) st)).all P <;> cases P t <;> cases ts.all P <;> rfl
      · rw [g3, flatEs_append, hfl]
        simp only [flatEs, flatE, List.append_nil, List.length_append, List.length_cons]
        omega

mutual
theorem run_tree (nv : Int) : ∀ (x : Ex) (rest : List Tm) (n : Nat), okE x = true → (flatE x).all (fun t => tOk t nv) = true → run nv (flatE x ++ rest) ((n + 1 : Nat) : Int) = run nv rest n
  | .mk t args, rest, n, h, ha => by
    simp only [okE, Bool.and_eq_true, decide_eq_true_eq] at h
    simp only [flatE, List.all_cons, Bool.and_eq_true] at ha
    rw [flatE, List.cons_append, run, if_neg (by omega), if_pos ha.1, show (((n + 1 : Nat) : Int) + (arity t - 1)) = ((n + args.length : Nat) : Int) from by omega]
    exact run_trees nv args rest n h.2 ha.2
theorem run_trees (nv : Int) : ∀ (xs : List Ex) (rest : List Tm) (n : Nat), okEs xs = true → (flatEs xs).all (fun t => tOk t nv) = true → run nv (flatEs xs ++ rest) ((n + xs.length : Nat) : Int) = run nv rest n
  | [], rest, n, _, _ => by simp [flatEs]
  | x :: xs, rest, n, h, ha => by
    simp only [okEs, Bool.and_eq_true] at h
    simp only [flatEs, List.all_append, Bool.and_eq_true] at ha
    rw [flatEs, List.append_assoc, List.length_cons, show n + (xs.length + 1) = (n + xs.length) + 1 from by omega, run_tree nv x _ _ h.1 ha.1]
    exact run_trees nv xs rest n h.2 ha.2
end

theorem run_all (nv : Int) : ∀ (ts : List Tm) (n : Int), run nv ts n ≠ none → ts.all (fun t => tOk t nv) = true
  | [], _, _ => rfl
  | t :: ts, n, h => by
    rw [run] at h
    split at h
    · exact absurd rfl h
    · split at h
      · rename_i ht
        rw [List.all_cons, ht, run_all nv ts _ h]; rfl
      · exact absurd rfl h

theorem eOk_tree (x : Ex) (h : okE x = true) : eOk (flatE x) = (decide ((flatE x).length ≤ 60) && (flatE x).all (fun t => tOk t 29)) := by
  unfold eOk isE
  cases ha : (flatE x).all (fun t => tOk t 29)
  · have : (run 29 (flatE x) 1 == some 0) = false := by
      cases hr : run 29 (flatE x) 1 with
      | none => rfl
      | some m => have := run_all 29 (flatE x) 1 (by rw [hr]; simp); rw [this] at ha; cases ha
    rw [this]; simp
  · have := run_tree 29 x [] 0 h ha
    simp only [List.append_nil, run] at this
    rw [show ((0 + 1 : Nat) : Int) = 1 from rfl] at this
    rw [this]
    simp only [Int.natCast_zero, beq_self_eq_true, Bool.and_true]
    rw [decide_eq_decide]; omega

end Go.Proofs.YtkhifpgpkklokaaGreatDoor

/-
  Values of trees, and folding, plainly.
-/
namespace Go.Proofs.YtkhifpgpkklokaaGreatDoor

def truthV (b : Bool) : Int := if b then 1 else 0
def opV (op a b : Int) : Int :=
  if op = 0 then (a + b) % 64 else if op = 1 then (a - b + 64) % 64 else if op = 2 then a * b % 64
  else if op = 3 then truthV (a == b) else if op = 4 then truthV (a != b) else if op = 5 then truthV (decide (a < b)) else if op = 6 then truthV (decide (a ≤ b))
  else if op = 7 then truthV (a != 0 && b != 0) else truthV (a != 0 || b != 0)

theorem truthV_bd (b : Bool) : 0 ≤ truthV b ∧ truthV b ≤ 63 := by unfold truthV; split <;> omega
theorem opV_bd (op a b : Int) : 0 ≤ opV op a b ∧ opV op a b ≤ 63 := by
  unfold opV
  repeat' split
  all_goals first | exact truthV_bd _ | (constructor <;> omega)

mutual
def valE (vals : List Int) : Ex → Int
  | .mk t args => if t.1 = 0 then t.2 else if t.1 = 1 then vals.getD t.2.toNat 0 else if t.1 = 3 then truthV ((valEs vals args).getD 0 0 == 0) else opV t.2 ((valEs vals args).getD 0 0) ((valEs vals args).getD 1 0)
def valEs (vals : List Int) : List Ex → List Int
  | [] => []
  | x :: xs => valE vals x :: valEs vals xs
end

def isNum : Ex → Bool | .mk t _ => t.1 == 0
mutual
def foldE : Ex → Ex
  | .mk t args => if args = [] then .mk t args else if (foldEs args).all isNum then .mk (0, valE [] (.mk t (foldEs args))) [] else .mk t (foldEs args)
def foldEs : List Ex → List Ex
  | [] => []
  | x :: xs => foldE x :: foldEs xs
end

theorem foldEs_map (xs : List Ex) : foldEs xs = xs.map foldE := by
  induction xs with
  | nil => rfl
  | cons x xs ih => simp [foldEs, ih]
theorem valEs_map (vals : List Int) (xs : List Ex) : valEs vals xs = xs.map (valE vals) := by
  induction xs with
  | nil => rfl
  | cons x xs ih => simp [valEs, ih]

/-- a tree with valid terms for a number of variables. -/
def goodE (nv : Int) (x : Ex) : Bool := okE x && (flatE x).all (fun t => tOk t nv)
def goodEs (nv : Int) (xs : List Ex) : Bool := okEs xs && (flatEs xs).all (fun t => tOk t nv)

theorem goodEs_cons (nv : Int) (x : Ex) (xs : List Ex) : goodEs nv (x :: xs) = (goodE nv x && goodEs nv xs) := by
  simp only [goodEs, goodE, okEs, flatEs, List.all_append]
  cases okE x <;> cases okEs xs <;> simp
theorem goodEs_all (nv : Int) (xs : List Ex) : goodEs nv xs = xs.all (goodE nv) := by
  induction xs with
  | nil => rfl
  | cons x xs ih => rw [goodEs_cons, ih]; rfl
theorem goodE_mk (nv : Int) (t : Tm) (args : List Ex) : goodE nv (.mk t args) = (decide ((args.length : Int) = arity t) && tOk t nv && goodEs nv args) := by
  simp only [goodE, goodEs, okE, flatE, List.all_cons]
  cases decide ((args.length : Int) = arity t) <;> cases tOk t nv <;> cases okEs args <;> simp

theorem tOk_kind {t : Tm} {nv : Int} (h : tOk t nv = true) : t.1 = 0 ∨ t.1 = 1 ∨ t.1 = 2 ∨ t.1 = 3 := by
  unfold tOk at h
  repeat' split at h
  all_goals first | omega | cases h

theorem arity0 {t : Tm} {nv : Int} (h : tOk t nv = true) (h0 : arity t = 0) : t.1 = 0 ∨ t.1 = 1 := by
  rcases tOk_kind h with h | h | h | h
  · exact Or.inl h
  · exact Or.inr h
  · simp [arity, h] at h0
  · simp [arity, h] at h0

mutual
theorem valE_bd (vals : List Int) (nv : Int) (hv : ∀ k, 0 ≤ vals.getD k 0 ∧ vals.getD k 0 ≤ 63) : ∀ x : Ex, goodE nv x = true → 0 ≤ valE vals x ∧ valE vals x ≤ 63
  | .mk t args, h => by
    rw [goodE_mk] at h
    simp only [Bool.and_eq_true] at h
    rw [valE]
    split
    · rename_i h0
      have := h.1.2
      simp only [tOk, h0, if_true] at this
      exact inB_true this
    · split
      · exact hv _
      · split
        · exact truthV_bd _
        · exact opV_bd _ _ _
end

theorem isNum_good {x : Ex} {nv : Int} (h : goodE nv x = true) (hn : isNum x = true) : ∃ n, x = .mk (0, n) [] ∧ 0 ≤ n ∧ n ≤ 63 := by
  obtain ⟨⟨a, n⟩, args⟩ := x
  simp [isNum] at hn
  subst hn
  rw [goodE_mk] at h
  simp only [Bool.and_eq_true, decide_eq_true_eq] at h
  have ha : args = [] := List.eq_nil_of_length_eq_zero (by have := h.1.1; simp [arity] at this; simpa using this)
  subst ha
  have := h.1.2
  simp only [tOk, if_true] at this
  exact ⟨n, rfl, inB_true this⟩

mutual
theorem foldE_good (nv : Int) : ∀ x : Ex, goodE nv x = true → goodE nv (foldE x) = true
  | .mk t args, h => by
    rw [foldE]
    split
    · exact h
    · have h' := h
      rw [goodE_mk] at h
      simp only [Bool.and_eq_true] at h
      have ih := foldEs_good nv args h.2
      have hx : goodE nv (.mk t (foldEs args)) = true := by
        rw [goodE_mk]; simp only [Bool.and_eq_true]; exact ⟨⟨by rw [foldEs_map, List.length_map]; exact h.1.1, h.1.2⟩, ih⟩
      split
      · have hb := valE_bd [] nv (by intro k; simp) _ hx
        rw [goodE_mk]
        simp only [Bool.and_eq_true]
        exact ⟨⟨by simp [arity], by simp only [tOk, if_true]; exact inB_mk hb⟩, rfl⟩
      · exact hx
theorem foldEs_good (nv : Int) : ∀ xs : List Ex, goodEs nv xs = true → goodEs nv (foldEs xs) = true
  | [], h => h
  | x :: xs, h => by
    rw [goodEs_cons, Bool.and_eq_true] at h
    rw [foldEs, goodEs_cons, Bool.and_eq_true]
    exact ⟨foldE_good nv x h.1, foldEs_good nv xs h.2⟩
end

mutual
theorem foldE_len : ∀ x : Ex, (flatE (foldE x)).length ≤ (flatE x).length
  | .mk t args => by
    rw [foldE]
    split
    · exact Nat.le_refl _
    · split
      · simp [flatE, flatEs]
      · simp only [flatE, List.length_cons]; have := foldEs_len args; omega
theorem foldEs_len : ∀ xs : List Ex, (flatEs (foldEs xs)).length ≤ (flatEs xs).length
  | [] => Nat.le_refl _
  | x :: xs => by
    simp only [foldEs, flatEs, List.length_append]
    have := foldE_len x; have := foldEs_len xs; omega
end

theorem eOk_good {e : List Tm} (h : eOk e = true) (x : Ex) (hok : okE x = true) (hfl : flatE x = e) : goodE 29 x = true := by
  have ha : (flatE x).all (fun t => tOk t 29) = true := by
    rw [hfl]
    unfold eOk isE at h
    rw [Bool.and_eq_true] at h
    exact run_all 29 e 1 (by have := h.2; intro hh; rw [hh] at this; simp at this)
  unfold goodE; rw [hok, ha]; rfl

mutual
/-- folding changes no value. -/
theorem valE_fold (vals : List Int) (nv : Int) : ∀ x : Ex, goodE nv x = true → valE vals (foldE x) = valE vals x
  | .mk t args, h => by
    rw [goodE_mk] at h
    simp only [Bool.and_eq_true, decide_eq_true_eq] at h
    rw [foldE]
    split
    · rfl
    · rename_i hne
      have ih := valEs_fold vals nv args h.2
      have hg := foldEs_good nv args h.2
      split
      · rename_i hnum
        have hk : t.1 ≠ 0 ∧ t.1 ≠ 1 := by
          have hz : arity t ≠ 0 := by rw [← h.1.1]; intro hz; exact hne (List.eq_nil_of_length_eq_zero (by omega))
          constructor <;> (intro e; apply hz; simp [arity, e])
        have hsame : valEs [] (foldEs args) = valEs vals args := by
          rw [← ih]
          exact vals_num vals nv (foldEs args) hg hnum
        simp only [valE, if_true, hk.1, hk.2, if_false, hsame]
      · simp only [valE, ih]
theorem valEs_fold (vals : List Int) (nv : Int) : ∀ xs : List Ex, goodEs nv xs = true → valEs vals (foldEs xs) = valEs vals xs
  | [], _ => rfl
  | x :: xs, h => by
    rw [goodEs_cons, Bool.and_eq_true] at h
    rw [foldEs, valEs, valEs, valE_fold vals nv x h.1, valEs_fold vals nv xs h.2]
theorem vals_num (vals : List Int) (nv : Int) : ∀ xs : List Ex, goodEs nv xs = true → xs.all isNum = true → valEs [] xs = valEs vals xs
  | [], _, _ => rfl
  | x :: xs, h, hn => by
    rw [goodEs_cons, Bool.and_eq_true] at h
    rw [List.all_cons, Bool.and_eq_true] at hn
    obtain ⟨n, rfl, -⟩ := isNum_good h.1 hn.1
    rw [valEs, valEs, vals_num vals nv xs h.2 hn.2]
    simp [valE]
end

end Go.Proofs.YtkhifpgpkklokaaGreatDoor

/-
  Values of operations and of trees: what the calls return.
-/
namespace Go.Proofs.YtkhifpgpkklokaaGreatDoor
open Go.RowKit

end Go.Proofs.YtkhifpgpkklokaaGreatDoor

/-
  Folding, the program's side.
-/
namespace Go.Proofs.YtkhifpgpkklokaaGreatDoor
open Go.RowKit

theorem goodE_nums {t : Tm} {bs : List Ex} (h : goodE 29 (.mk t bs) = true) (hn : bs.all isNum = true) (h1 : t.1 ≠ 1) : goodE 0 (.mk t bs) = true := by
  rw [goodE_mk] at h ⊢
  simp only [Bool.and_eq_true] at h ⊢
  refine ⟨⟨h.1.1, ?_⟩, ?_⟩
  · have := h.1.2
    simp only [tOk, h1, if_false] at this ⊢; exact this
  · have hg := h.2
    rw [goodEs_all, List.all_eq_true] at hg ⊢
    rw [List.all_eq_true] at hn
    intro x hx
    obtain ⟨n, rfl, h0, h63⟩ := isNum_good (hg x hx) (hn x hx)
    rw [goodE_mk]
    simp only [Bool.and_eq_true]
    exact ⟨⟨by simp [arity], by simp only [tOk, if_true]; exact inB_mk ⟨h0, h63⟩⟩, rfl⟩

theorem flatE_arg_le' (args : List Ex) (k : Nat) (h : k < args.length) : (flatE args[k]).length ≤ (flatEs args).length := by
  have e1 : flatEs args = flatEs (args.take k) ++ (flatE args[k] ++ flatEs (args.drop (k + 1))) := by
    conv => lhs; rw [← List.take_append_drop k args, flatEs_append, List.drop_eq_getElem_cons h]
    rfl
  rw [e1, List.length_append, List.length_append]; omega

open Classical in
noncomputable def foldRes (e : List Tm) : List Tm × Int := if h : eOk e = true then (flatE (foldE (treeOf e h)), 0) else ([], 1)

def Fo (w : World) (fp : List Nat) (x : Ex) (e : Ending) (w' : World) : Prop := (∃ v' fp', e = .returned v' ∧ R_E fp' w' [v'] x ∧ ∀ b ∈ fp', b ∈ fp ∨ w.heap.size ≤ b) ∧ Upd [] w w'

end Go.Proofs.YtkhifpgpkklokaaGreatDoor

/-
  Folding, the reference's side.
-/
namespace Go.Proofs.YtkhifpgpkklokaaGreatDoor
open Go.RowKit

theorem oneCells (ts : List Tm) : ∀ u ∈ ts.flatMap encT, u.oneCell' = true := by
  intro u hu
  obtain ⟨t, -, ht⟩ := List.mem_flatMap.1 hu
  simp at ht
  rcases ht with rfl | rfl <;> rfl

theorem fold_b (e : List Tm) : mkF_T1 (foldRes e).1 ≤ 300 := by
  unfold foldRes
  split
  · rename_i h
    obtain ⟨-, hfl⟩ := treeOf_ok e h
    have hlen := eOk_len h
    have := foldE_len (treeOf e h)
    rw [hfl] at this
    unfold mkF_T1; simp only; omega
  · simp [mkF_T1]

end Go.Proofs.YtkhifpgpkklokaaGreatDoor

/-
  The form's reading of bytes.
-/
namespace Go.Proofs.YtkhifpgpkklokaaGreatDoor
open Go.RowKit

theorem opens_B1 : Opens Tryz.prog 22 R_B (fun xs => ∀ n ∈ xs, (Lit.int .u8 n).wf = true) := opens_ints Tryz.underlying22 Tryz.underlying5 (by kernel_rfl)
theorem bytes_of {xs : List Int} (h : ∀ n ∈ xs, (Lit.int .u8 n).wf = true) : bytesOk xs := by
  intro x hx
  have := h x hx
  simp [Lit.wf, IntKind.min, IntKind.max, IntKind.signed, IntKind.bits] at this
  omega

end Go.Proofs.YtkhifpgpkklokaaGreatDoor

/-
  The expressions that the reference draws.
-/
namespace Go.Proofs.YtkhifpgpkklokaaGreatDoor
open Go.RowKit

def DrawP (w : World) (p N : Nat) (nv most : Int) (e : Ending) (w' : World) : Prop :=
  (∃ (v' : Value) (x : Ex), e = .returned v' ∧ goodE nv x = true ∧ ((flatE x).length : Int) ≤ 2 * most + 1 ∧ New R_T1 w w' v' (flatE x)) ∧ IsSrc (N + 20 * (2 * most.toNat + 1)) p w' ∧ Upd [p] w w'

theorem draw_leaf {w w' : World} {p N M : Nat} {nv most : Int} {e : TypeId} {a b : Int} (hm : 0 ≤ most) (ht : tOk (a, b) nv = true) (h0 : a = 0 ∨ a = 1) (hs : IsSrc M p w') (hu : Upd [p] w w') (hM : M ≤ N + 20) :
    DrawP w p N nv most (.returned (.slice (some ⟨w'.heap.size, 0, none⟩) 1 1)) (w'.alloc (.cells #[ei a, ei b] e)) := by
  have hn : New R_T1 w' (w'.alloc (.cells #[ei a, ei b] e)) (.slice (some ⟨w'.heap.size, 0, none⟩) 1 1) [(a, b)] :=
    New.ofOwns2 (e := e) (by simpa using World.ownsRow_lit (base := w'.heap.size) (e := e) (size := 2) w' #[ei a, ei b] 1 (Nat.le_refl _) (by simp [maxLen]) (by simp))
  refine ⟨⟨_, .mk (a, b) [], rfl, ?_, ?_, ?_⟩, (hs.upd ((Upd.refl _ _).alloc _)).mono (by omega), hu.alloc _⟩
  · rw [goodE_mk]
    have : arity (a, b) = 0 := by rcases h0 with rfl | rfl <;> simp [arity]
    simp [this, ht, goodEs, okEs, flatEs]
  · simp [flatE, flatEs]; omega
  · exact (show New R_T1 w' _ _ (flatE (.mk (a, b) [])) from by simpa [flatE, flatEs] using hn).mono hu.size

end Go.Proofs.YtkhifpgpkklokaaGreatDoor

/-
  Canonical forms, plainly; forests of the rest of a valid list of terms.
-/
namespace Go.Proofs.YtkhifpgpkklokaaGreatDoor

def cmpT (a b : Tm) : Int := if cmpI a.1 b.1 ≠ 0 then cmpI a.1 b.1 else cmpI a.2 b.2
def cmpTL : List Tm → List Tm → Int
  | [], [] => 0
  | [], _ :: _ => -1
  | _ :: _, [] => 1
  | x :: xs, y :: ys => if cmpT x y ≠ 0 then cmpT x y else cmpTL xs ys
/-- by length, then by terms. -/
def gtL (a b : List Tm) : Bool := if a.length = b.length then decide (cmpTL a b > 0) else decide (b.length < a.length)
def stays (t : Tm) : Bool := t.1 != 2 || (t.2 == 1 || t.2 == 5 || t.2 == 6)
def swapE (t : Tm) (bs : List Ex) : List Ex := if stays t then bs else if gtL (flatE (bs.getD 0 (.mk (0, 0) []))) (flatE (bs.getD 1 (.mk (0, 0) []))) then bs.reverse else bs
mutual
def canonE : Ex → Ex
  | .mk t args => .mk t (swapE t (canonEs args))
def canonEs : List Ex → List Ex
  | [] => []
  | x :: xs => canonE x :: canonEs xs
end
theorem canonEs_map (xs : List Ex) : canonEs xs = xs.map canonE := by
  induction xs with
  | nil => rfl
  | cons x xs ih => simp [canonEs, ih]

theorem cmpI_gt (a b : Int) : (cmpI a b ≠ 0 ↔ a ≠ b) ∧ (0 < cmpI a b ↔ b < a) ∧ (cmpI a b = 0 ↔ a = b) ∧ -1 ≤ cmpI a b ∧ cmpI a b ≤ 1 := by
  unfold cmpI; split
  · omega
  · split <;> omega

theorem cmpT_bd (a b : Tm) : -1 ≤ cmpT a b ∧ cmpT a b ≤ 1 := by
  unfold cmpT; split
  · exact (cmpI_gt _ _).2.2.2
  · exact (cmpI_gt _ _).2.2.2
theorem cmpT_eq (a b : Tm) : cmpT a b = 0 ↔ a = b := by
  obtain ⟨a1, a2⟩ := a
  obtain ⟨b1, b2⟩ := b
  have h1 := cmpI_gt a1 b1
  have h2 := cmpI_gt a2 b2
  simp only [cmpT, Prod.mk.injEq]
  split <;> omega
theorem cmpTL_bd : ∀ a b : List Tm, -1 ≤ cmpTL a b ∧ cmpTL a b ≤ 1
  | [], [] => by simp [cmpTL]
  | [], _ :: _ => by simp [cmpTL]
  | _ :: _, [] => by simp [cmpTL]
  | x :: xs, y :: ys => by
    rw [cmpTL]; split
    · exact cmpT_bd _ _
    · exact cmpTL_bd _ _

theorem cmpTL_step (xs ys : List Tm) (k : Nat) (h1 : k < xs.length) (h2 : k < ys.length) :
    cmpTL (xs.drop k) (ys.drop k) = if cmpT xs[k] ys[k] ≠ 0 then cmpT xs[k] ys[k] else cmpTL (xs.drop (k + 1)) (ys.drop (k + 1)) := by
  rw [List.drop_eq_getElem_cons h1, List.drop_eq_getElem_cons h2, cmpTL]

theorem swapE_perm (t : Tm) (bs : List Ex) : (swapE t bs).Perm bs := by
  unfold swapE
  split
  · exact List.Perm.refl _
  · split
    · exact List.reverse_perm _
    · exact List.Perm.refl _

theorem flatEs_length (xs : List Ex) : (flatEs xs).length = (xs.map (fun x => (flatE x).length)).sum := by
  induction xs with
  | nil => rfl
  | cons x xs ih => simp [flatEs, ih]
mutual
theorem canonE_len : ∀ x : Ex, (flatE (canonE x)).length = (flatE x).length
  | .mk t args => by
    have h1 := canonEs_len args
    simp only [canonE, flatE, List.length_cons, flatEs_length] at *
    rw [List.Perm.sum_nat ((swapE_perm t (canonEs args)).map _), h1]
theorem canonEs_len : ∀ xs : List Ex, (flatEs (canonEs xs)).length = (flatEs xs).length
  | [] => rfl
  | x :: xs => by
    simp only [canonEs, flatEs, List.length_append, canonE_len x, canonEs_len xs]
end
mutual
theorem canonE_good (nv : Int) : ∀ x : Ex, goodE nv x = true → goodE nv (canonE x) = true
  | .mk t args, h => by
    rw [goodE_mk] at h
    simp only [Bool.and_eq_true] at h
    have ih := canonEs_good nv args h.2
    rw [canonE, goodE_mk]
    simp only [Bool.and_eq_true]
    refine ⟨⟨?_, h.1.2⟩, ?_⟩
    · rw [(swapE_perm t (canonEs args)).length_eq, canonEs_map, List.length_map]; exact h.1.1
    · rw [goodEs_all, List.all_eq_true] at ih ⊢
      intro x hx
      exact ih x ((swapE_perm t (canonEs args)).mem_iff.1 hx)
theorem canonEs_good (nv : Int) : ∀ xs : List Ex, goodEs nv xs = true → goodEs nv (canonEs xs) = true
  | [], h => h
  | x :: xs, h => by
    rw [goodEs_cons, Bool.and_eq_true] at h
    rw [canonEs, goodEs_cons, Bool.and_eq_true]
    exact ⟨canonE_good nv x h.1, canonEs_good nv xs h.2⟩
end

theorem run_append (nv : Int) : ∀ (a b : List Tm) (n : Int), run nv (a ++ b) n = (run nv a n).bind (run nv b)
  | [], b, n => by simp [run]
  | t :: a, b, n => by
    rw [List.cons_append, run, run]
    split
    · rfl
    · split
      · exact run_append nv a b _
      · rfl
theorem run_nonneg (nv : Int) : ∀ (a : List Tm) (n m : Int), run nv a n = some m → 0 ≤ n → 0 ≤ m
  | [], n, m, h, h0 => by simp [run] at h; omega
  | t :: a, n, m, h, h0 => by
    rw [run] at h
    split at h
    · cases h
    · split at h
      · exact run_nonneg nv a _ m h (by have := arity_bd t; omega)
      · cases h

/-- the forest of the last terms of a valid list, one term longer. -/
theorem forest_step {e : List Tm} (h : eOk e = true) (k : Nat) (hk : k < e.length) (xs : List Ex) (hok : okEs xs = true) (hfl : flatEs xs = e.drop (k + 1)) (hlen : run 29 (e.take (k + 1)) 1 = some (xs.length : Int)) :
    tOk e[k] 29 = true ∧ (arity e[k]).toNat ≤ xs.length ∧ run 29 (e.take k) 1 = some (((xs.length - (arity e[k]).toNat + 1 : Nat)) : Int) ∧
      okEs (.mk e[k] (xs.take (arity e[k]).toNat) :: xs.drop (arity e[k]).toNat) = true ∧ flatEs (.mk e[k] (xs.take (arity e[k]).toNat) :: xs.drop (arity e[k]).toNat) = e.drop k := by
  have hr : run 29 e 1 = some 0 := by unfold eOk isE at h; rw [Bool.and_eq_true] at h; simpa using h.2
  have hb := arity_bd e[k]
  rw [List.take_succ_eq_append_getElem hk, run_append] at hlen
  cases hm : run 29 (e.take k) 1 with
  | none => rw [hm] at hlen; simp at hlen
  | some m =>
    rw [hm] at hlen
    have hm0 := run_nonneg 29 _ _ _ hm (by omega)
    simp only [Option.bind_some, run] at hlen
    split at hlen
    · cases hlen
    · rename_i hne
      split at hlen
      · rename_i ht
        simp only [Option.some.injEq] at hlen
        have hA : (arity e[k]).toNat ≤ xs.length := by omega
        refine ⟨ht, hA, by congr 1; omega, ?_, ?_⟩
        · have hsp : okEs (xs.take (arity e[k]).toNat) = true ∧ okEs (xs.drop (arity e[k]).toNat) = true := by
            rw [← List.take_append_drop (arity e[k]).toNat xs, okEs_append, Bool.and_eq_true] at hok; exact hok
          simp only [okEs, okE, hsp.1, hsp.2, Bool.and_true, decide_eq_true_eq, List.length_take]
          omega
        · rw [List.drop_eq_getElem_cons hk, ← hfl]
          simp only [flatEs, flatE, List.cons_append]
          rw [← flatEs_append, List.take_append_drop]
      · cases hlen

theorem forest_start {e : List Tm} (h : eOk e = true) : run 29 (e.take e.length) 1 = some (([] : List Ex).length : Int) := by
  unfold eOk isE at h; rw [Bool.and_eq_true] at h
  rw [List.take_length]; simpa using h.2
theorem forest_end {e : List Tm} {xs : List Ex} (hlen : run 29 (e.take 0) 1 = some (xs.length : Int)) : ∃ x, xs = [x] := by
  simp [run] at hlen
  match xs, hlen with
  | [x], _ => exact ⟨x, rfl⟩
  | [], h => simp at h
  | _ :: _ :: _, h => simp at h; omega

theorem trees_inj (n : Nat) : ∀ (xs ys : List Ex) (r s : List Tm), (flatEs xs).length ≤ n → okEs xs = true → okEs ys = true → xs.length = ys.length → flatEs xs ++ r = flatEs ys ++ s → xs = ys ∧ r = s := by
  induction n with
  | zero =>
    intro xs ys r s hn _ _ hl h
    cases xs with
    | nil =>
      have : ys = [] := List.eq_nil_of_length_eq_zero (by simpa using hl.symm)
      subst this; exact ⟨rfl, by simpa [flatEs] using h⟩
    | cons x xs => have := flatE_pos x; simp [flatEs] at hn; rw [hn.1] at this; simp at this
  | succ n ih =>
    intro xs ys r s hn h1 h2 hl h
    match xs, ys, hl with
    | [], [], _ => exact ⟨rfl, by simpa [flatEs] using h⟩
    | .mk t cs :: xs, .mk u bs :: ys, hl =>
      simp only [flatEs, flatE, List.cons_append, List.cons.injEq, List.append_assoc, List.length_cons, List.length_append] at h hn
      simp only [okEs, okE, Bool.and_eq_true, decide_eq_true_eq] at h1 h2
      obtain ⟨rfl, h⟩ := h
      have hab : cs.length = bs.length := by have := h1.1.1; have := h2.1.1; omega
      obtain ⟨h3, h4⟩ := ih (cs ++ xs) (bs ++ ys) r s (by rw [flatEs_append, List.length_append]; omega) (by rw [okEs_append, h1.1.2, h1.2]; rfl) (by rw [okEs_append, h2.1.2, h2.2]; rfl)
        (by simp only [List.length_append]; simp at hl; omega) (by rw [flatEs_append, flatEs_append, List.append_assoc, List.append_assoc]; exact h)
      obtain ⟨rfl, rfl⟩ := List.append_inj h3 hab
      exact ⟨rfl, h4⟩
theorem tree_inj {x y : Ex} (h1 : okE x = true) (h2 : okE y = true) (h : flatE x = flatE y) : x = y := by
  have := (trees_inj _ [x] [y] [] [] (Nat.le_refl _) (by simpa [okEs] using h1) (by simpa [okEs] using h2) rfl (by simpa [flatEs] using h)).1
  simpa using this

open Classical in
noncomputable def canonRes (e : List Tm) : List Tm × Int := if h : eOk e = true then (flatE (canonE (treeOf e h)), 0) else ([], 1)

end Go.Proofs.YtkhifpgpkklokaaGreatDoor

/-
  Comparing terms, small calls of Go's library, and canonical forms, the program's side.
-/
namespace Go.Proofs.YtkhifpgpkklokaaGreatDoor
open Go.RowKit

def orV (x y : Int) : Int := if x ≠ 0 then x else y

set_option maxRecDepth 20000 in
theorem orI (b off cap : Nat) (x y : Int) (w : World) (c0 : w.cell? ⟨b, off, none⟩ = some (ei x)) (c1 : w.cell? ⟨b, off + 1, none⟩ = some (ei y)) :
    Calls Tryz.prog 116 #[.slice (some ⟨b, off, none⟩) 2 cap] w fun e w' => e = .returned (.int .i64 (orV x y)) ∧ w = w' := by
  by_cases hx : x = 0
  · subst hx
    by_cases hy : y = 0
    · subst hy
      go_enter Tryz.func116, Tryz.ntmps116
      go_wp2
      go_loop [8] (fun i => ∃ k : Nat, k ≤ 2 ∧ i = .int .i64 k) (fun i => 2 - (intOf i).toNat)
      case atStart => exact ⟨0, by omega, rfl⟩
      case round =>
        obtain ⟨k, hk, rfl⟩ := hrel
        rcases (by omega : k = 0 ∨ k = 1 ∨ k = 2) with rfl | rfl | rfl
        · go_wp2
          go_round
          case rel => exact ⟨1, by omega, rfl⟩
          case measure => simp [intOf]
        · go_wp2
          go_round
          case rel => exact ⟨2, by omega, rfl⟩
          case measure => simp [intOf]
        · go_wp2
          go_ret
          exact ⟨by simp [orV], rfl⟩
    · go_enter Tryz.func116, Tryz.ntmps116
      go_wp2
      go_loop [8] (fun i => ∃ k : Nat, k ≤ 1 ∧ i = .int .i64 k) (fun i => 2 - (intOf i).toNat)
      case atStart => exact ⟨0, by omega, rfl⟩
      case round =>
        obtain ⟨k, hk, rfl⟩ := hrel
        rcases (by omega : k = 0 ∨ k = 1) with rfl | rfl
        · go_wp2
          go_round
          case rel => exact ⟨1, by omega, rfl⟩
          case measure => simp [intOf]
        · have hy' : (y != 0) = true := by simpa using hy
          go_wp2
          go_ret
          exact ⟨by simp [orV], rfl⟩
  · have hx' : (x != 0) = true := by simpa using hx
    go_enter Tryz.func116, Tryz.ntmps116
    go_wp2
    go_loop [8] (fun i => i = .int .i64 0) (fun i => 2 - (intOf i).toNat)
    case atStart => rfl
    case round =>
      obtain rfl := hrel
      go_wp2
      go_ret
      exact ⟨by simp [orV, hx], rfl⟩

def IdxP (xs : List Int) (n : Int) (w : World) (e : Ending) (w' : World) : Prop := (∃ q : Int, e = .returned (.int .i64 q) ∧ -1 ≤ q ∧ q ≤ 9223372036854775807 ∧ (decide (0 ≤ q)) = xs.contains n) ∧ w = w'

set_option maxRecDepth 20000 in
set_option maxHeartbeats 1000000 in
theorem indexI (v : Value) (xs : List Int) (n : Int) (w : World) (fp : List Nat) (hR : R1 fp w [v] xs) :
    Calls Tryz.prog 114 #[v, .int .i64 n] w (IdxP xs n w) := by
  obtain ⟨a1, c1, rfl, hl1, hm1, hc1⟩ := slF1_open hR
  unfold maxLen at hm1
  clear hR
  go_enter Tryz.func114, Tryz.ntmps114
  go_wp2_with fail
  go_loop [8] (fun i => ∃ k : Nat, k ≤ xs.length ∧ i = .int .i64 k ∧ (xs.drop k).contains n = xs.contains n) (fun i => xs.length - (intOf i).toNat)
  case atStart => exact ⟨0, Nat.zero_le _, rfl, rfl⟩
  case round =>
    obtain ⟨k, hk, rfl, hF⟩ := hrel
    by_cases hlt : k < xs.length
    · obtain ⟨b1, o1, rfl, -, -, p1⟩ := hc1 k hlt
      rw [List.drop_eq_getElem_cons hlt] at hF
      have HF := Lib.hid hF
      clear hF hc1
      generalize xs[k] = x at *
      by_cases hx : n = x
      · subst hx
        go_wp2_with fail
        go_ret
        exact ⟨⟨k, rfl, by omega, by omega, by rw [← HF.out]; simp⟩, rfl⟩
      · have hx' : (n == x) = false := by simpa using hx
        go_wp2_with fail
        go_round
        case rel => exact ⟨k + 1, by omega, by go_num, by rw [← HF.out]; simp [hx]⟩
        case measure => simp [intOf]; omega
    · rw [List.drop_of_length_le (by omega)] at hF
      have HF := Lib.hid hF
      clear hF hc1
      go_wp2_with fail
      go_ret
      exact ⟨⟨-1, rfl, by omega, by omega, by rw [← HF.out]; simp⟩, rfl⟩

set_option maxRecDepth 20000 in
theorem containsI (v : Value) (xs : List Int) (n : Int) (w : World) (fp : List Nat) (hR : R1 fp w [v] xs) :
    Calls Tryz.prog 87 #[v, .int .i64 n] w fun e w' => e = .returned (.bool (xs.contains n)) ∧ w = w' := by
  have S2 := Lib.hid (indexI v xs n w fp hR)
  go_enter Tryz.func87, Tryz.ntmps87
  go_wp2_with fail
  refine S2.out.mono ?_
  rintro e w1 ⟨⟨q, rfl, h1, h2, h3⟩, rfl⟩
  have H3 := Lib.hid h3
  clear h3
  go_wp2_with fail
  go_ret
  exact ⟨by rw [← H3.out]; rfl, rfl⟩

end Go.Proofs.YtkhifpgpkklokaaGreatDoor

/-
  Canonical forms, the program's side.
-/
namespace Go.Proofs.YtkhifpgpkklokaaGreatDoor
open Go.RowKit

/-- two elements of a collected row change places. -/
theorem Got.swap {α : Type} {R : Rp α} (K : Kept R) {base : Nat} {G : Nat → Prop} {e : TypeId} {w w1 : World} {g cap : Nat} {x y : α} {u0 u1 : Value} (h : Got R base G e w (.slice (some ⟨g, 0, none⟩) 2 cap) [x, y])
    (hus : w.ownsRow base e 1 (.slice (some ⟨g, 0, none⟩) 2 cap) 2 [u0, u1]) (h1 : w1.ownsRow base e 1 (.slice (some ⟨g, 0, none⟩) 2 cap) 2 [u1, u0]) (hu : Upd [g] w w1) :
    Got R base G e w1 (.slice (some ⟨g, 0, none⟩) 2 cap) [y, x] := by
  obtain ⟨us, fps, q1, q2, q3, q4⟩ := h
  have hsame : us = [u0, u1] := by
    rcases q1.2 with ⟨h0, -⟩ | ⟨b, c, cur, hv, -, hh, -, -, -, r4⟩
    · cases h0
    · cases hv
      rcases hus.2 with ⟨h0, -⟩ | ⟨b', c', cur', hv', -, hh', -, -, -, r4'⟩
      · cases h0
      · cases hv'
        rw [hh] at hh'; cases hh'
        simp only [List.length_cons, List.length_nil] at r4
        rw [← r4, ← r4']
  subst hsame
  match fps, q2 with
  | [f0, f1], _ =>
    have hd : ∀ b ∈ f0 ++ f1, b ∉ [g] := fun b hb hm => by
      have := (q3 b (by simpa using hb)).1
      simp at hm; subst hm; simp [Value.ownBlock] at this
    refine ⟨[u1, u0], [f1, f0], h1, rfl, fun b hb => q3 b (by simp at hb ⊢; exact hb.symm), fun i hi u f hu' hf => ?_⟩
    match i, hi with
    | 0, _ =>
      simp at hu' hf; subst hu' hf
      exact K.upd (q4 1 (by simp) u1 f1 rfl rfl) hu (fun b hb => hd b (by simp [hb]))
    | 1, _ =>
      simp at hu' hf; subst hu' hf
      exact K.upd (q4 0 (by simp) u0 f0 rfl rfl) hu (fun b hb => hd b (by simp [hb]))

theorem gtL_or (a b : List Tm) : gtL a b = decide (0 < orV (cmpI a.length b.length) (cmpTL a b)) := by
  have h := cmpI_gt (a.length : Int) (b.length : Int)
  unfold gtL orV
  by_cases hl : a.length = b.length
  · have h0 : cmpI (a.length : Int) (b.length : Int) = 0 := by omega
    simp [hl, cmpI]
  · have h0 : cmpI (a.length : Int) (b.length : Int) ≠ 0 := by omega
    rw [if_neg hl, if_pos h0, decide_eq_decide]; omega
theorem orV_bd {x y : Int} (h1 : -1 ≤ x ∧ x ≤ 1) (h2 : -1 ≤ y ∧ y ≤ 1) : -1 ≤ orV x y ∧ orV x y ≤ 1 := by unfold orV; split <;> omega

def Cano (x : Ex) (w : World) (fp : List Nat) (e : Ending) (w' : World) : Prop := Fo w fp (canonE x) e w'

theorem canon_b (e : List Tm) : mkF_T1 (canonRes e).1 ≤ 300 := by
  unfold canonRes
  split
  · rename_i h
    obtain ⟨-, hfl⟩ := treeOf_ok e h
    have hlen := eOk_len h
    have := canonE_len (treeOf e h)
    rw [hfl] at this
    unfold mkF_T1; simp only; omega
  · simp [mkF_T1]

end Go.Proofs.YtkhifpgpkklokaaGreatDoor

/-
  What the laws FnForms and FnTerms need: drawn expressions, expressions held against each other, postfix form.
-/
namespace Go.Proofs.YtkhifpgpkklokaaGreatDoor
open Go.RowKit

def TermsOut (nv : Int) (w : World) (e : Ending) (w' : World) : Prop := (∃ (v' : Value) (x : Ex), e = .returned v' ∧ goodE nv x = true ∧ (flatE x).length ≤ 13 ∧ New R_T1 w w' v' (flatE x)) ∧ Upd [] w w'

theorem goodE_more {nv mv : Int} (h : nv ≤ mv) : ∀ x : Ex, goodE nv x = true → goodE mv x = true := by
  intro x hx
  unfold goodE at hx ⊢
  rw [Bool.and_eq_true] at hx ⊢
  refine ⟨hx.1, ?_⟩
  rw [List.all_eq_true] at hx ⊢
  intro t ht
  have := hx.2 t ht
  unfold tOk at this ⊢
  repeat' split at this
  all_goals simp_all
  have h9 := inB_true this
  exact inB_mk ⟨by omega, by omega⟩

theorem eOk_of_good {x : Ex} {nv : Int} (h : goodE nv x = true) (hn : nv ≤ 29) (hl : (flatE x).length ≤ 60) : eOk (flatE x) = true := by
  have h2 := goodE_more hn x h
  unfold goodE at h2
  rw [Bool.and_eq_true] at h2
  rw [eOk_tree x h2.1, h2.2]
  simp [hl]

end Go.Proofs.YtkhifpgpkklokaaGreatDoor

/-
  Lists of values, and whether all variables of an expression have one.
-/
namespace Go.Proofs.YtkhifpgpkklokaaGreatDoor
open Go.RowKit

/-- a variable without a value. -/
def lackV (many : Int) (t : Tm) : Bool := t.1 == 1 && decide (many ≤ t.2)

def IdxC (many : Int) (xs : List Tm) (w : World) (e : Ending) (w' : World) : Prop := (∃ q : Int, e = .returned (.int .i64 q) ∧ -1 ≤ q ∧ q ≤ 9223372036854775807 ∧ decide (0 ≤ q) = xs.any (lackV many)) ∧ Upd [] w w'

end Go.Proofs.YtkhifpgpkklokaaGreatDoor

/-
  Evaluate: what the calls return for a valid expression and values for all its variables.
-/
namespace Go.Proofs.YtkhifpgpkklokaaGreatDoor
open Go.RowKit

theorem vals_bd {vals : List Int} (h : vals.all isV = true) (k : Nat) : 0 ≤ vals.getD k 0 ∧ vals.getD k 0 ≤ 63 := by
  rw [List.getD_eq_getElem?_getD]
  by_cases hk : k < vals.length
  · rw [List.getElem?_eq_getElem hk]
    exact inB_true (List.all_eq_true.1 h _ (List.getElem_mem hk))
  · rw [List.getElem?_eq_none (by omega)]; simp
theorem lack_no {x : Ex} {n : Int} (h : goodE n x = true) : (flatE x).any (lackV n) = false := by
  unfold goodE at h
  rw [Bool.and_eq_true] at h
  rw [List.any_eq_false]
  intro t ht
  have := List.all_eq_true.1 h.2 t ht
  unfold lackV
  by_cases h1 : t.1 = 1
  · simp only [tOk, h1, if_true] at this
    have := inB_true (by simpa using this)
    simp [h1]; omega
  · simp [h1]

end Go.Proofs.YtkhifpgpkklokaaGreatDoor

/-
  Evaluate, the reference's side.
-/
namespace Go.Proofs.YtkhifpgpkklokaaGreatDoor
open Go.RowKit

theorem isE_of_good {x : Ex} {nv : Int} (h : goodE nv x = true) (hl : (flatE x).length ≤ 60) : isE (flatE x) nv 60 = true := by
  unfold goodE at h
  rw [Bool.and_eq_true] at h
  have := run_tree nv x [] 0 h.1 h.2
  simp only [List.append_nil, run] at this
  rw [show ((0 + 1 : Nat) : Int) = 1 from rfl] at this
  unfold isE
  rw [this]
  simp; omega

end Go.Proofs.YtkhifpgpkklokaaGreatDoor

/-
  What the law FnTerms draws.
-/
namespace Go.Proofs.YtkhifpgpkklokaaGreatDoor
open Go.RowKit

def Terms2Out (w : World) (e : Ending) (w' : World) : Prop :=
  (∃ (v1 v2 : Value) (x y : Ex), e = .returned (.tuple #[v1, v2]) ∧ goodE 3 x = true ∧ goodE 3 y = true ∧ (flatE x).length ≤ 15 ∧ (flatE y).length ≤ 7 ∧ New R_T1 w w' v1 (flatE x) ∧ New R_T1 w w' v2 (flatE y)) ∧ Upd [] w w'

theorem r8Long (v v2 : Value) (code more : List Int) (w : World) (fc fm : List Nat) (hR : R_B fc w [v] code) (hR2 : R_B fm w [v2] more) (h : code.length ≤ 1048576 ∧ more.length ≤ 1048576) :
    Calls Tryz.prog 8 #[v, v2] w fun e w' => e = .returned (.bool false) ∧ w = w' := by
  obtain ⟨a, cap, rfl, h1, h2, -⟩ := slF1_open hR
  obtain ⟨a', cap', rfl, h1', h2', -⟩ := slF1_open hR2
  unfold maxLen at h2 h2'
  obtain ⟨g1, g2⟩ := h
  clear hR hR2
  go_enter Tryz.func8, Tryz.ntmps8
  go_wp2_with fail
  go_ret
  exact ⟨by simp; omega, rfl⟩


end Go.Proofs.YtkhifpgpkklokaaGreatDoor

/-
  The values that the reference draws.
-/
namespace Go.Proofs.YtkhifpgpkklokaaGreatDoor
open Go.RowKit

theorem ownsRow_other {w w1 : World} {base : Nat} {e : TypeId} {size : Nat} {v : Value} {n : Nat} {xs : List Value} (h : w.ownsRow base e size v n xs) {f : List Nat} (hu : Upd f w w1) (hf : ∀ b ∈ f, b < base) : w1.ownsRow base e size v n xs := by
  obtain ⟨g1, g2⟩ := h
  refine ⟨g1, ?_⟩
  rcases g2 with g2 | ⟨g, cap, cur, hv, hb, hh, q1, q2, q3, q4⟩
  · exact Or.inl g2
  · refine Or.inr ⟨g, cap, cur, hv, hb, ?_, q1, q2, q3, q4⟩
    rw [hu.block g (Array.getElem?_eq_some_iff.1 hh).1 (fun hm => by have := hf g hm; omega)]; exact hh

def ValsOut (w : World) (e : Ending) (w' : World) : Prop := (∃ (v' : Value) (xs : List Int), e = .returned v' ∧ xs.length = 3 ∧ xs.all isV = true ∧ New R1 w w' v' xs) ∧ Upd [] w w'

end Go.Proofs.YtkhifpgpkklokaaGreatDoor

/-
  Lists compared; lists drawn.
-/
namespace Go.Proofs.YtkhifpgpkklokaaGreatDoor
open Go.RowKit

def cmp1 (x y : Int) : Int := if x < y then -1 else if y < x then 1 else 0
def cmpQ : List Int → List Int → Int
  | [], [] => 0
  | [], _ :: _ => -1
  | _ :: _, [] => 1
  | a :: al, b :: bl => if cmp1 a b = 0 then cmpQ al bl else cmp1 a b

theorem cmp1_neg (x y : Int) : cmp1 y x = - cmp1 x y := by unfold cmp1; repeat' split <;> omega
theorem cmp1_zero {x y : Int} (h : cmp1 x y = 0) : x = y := by unfold cmp1 at h; by_cases h1 : x < y <;> by_cases h2 : y < x <;> simp [h1, h2] at h <;> omega
theorem cmp1_self (x : Int) : cmp1 x x = 0 := by simp [cmp1]
theorem cmp1_bd (x y : Int) : -1 ≤ cmp1 x y ∧ cmp1 x y ≤ 1 := by unfold cmp1; repeat' split <;> omega

theorem cmpQ_neg : ∀ a b : List Int, cmpQ b a = - cmpQ a b
  | [], [] => rfl
  | [], _ :: _ => rfl
  | _ :: _, [] => rfl
  | a :: al, b :: bl => by
    simp only [cmpQ]
    rw [cmp1_neg a b, cmpQ_neg al bl]
    by_cases h : cmp1 a b = 0
    · rw [if_pos h, if_pos (by omega)]
    · rw [if_neg h, if_neg (by omega)]
theorem cmpQ_bd : ∀ a b : List Int, -1 ≤ cmpQ a b ∧ cmpQ a b ≤ 1
  | [], [] => by simp [cmpQ]
  | [], _ :: _ => by simp [cmpQ]
  | _ :: _, [] => by simp [cmpQ]
  | a :: al, b :: bl => by
    simp only [cmpQ]
    split
    · exact cmpQ_bd al bl
    · exact cmp1_bd a b
theorem cmpQ_zero : ∀ {a b : List Int}, cmpQ a b = 0 → a = b
  | [], [], _ => rfl
  | [], _ :: _, h => by simp [cmpQ] at h
  | _ :: _, [], h => by simp [cmpQ] at h
  | a :: al, b :: bl, h => by
    simp only [cmpQ] at h
    split at h
    · rename_i h1; rw [cmp1_zero h1, cmpQ_zero h]
    · rename_i h1; exact absurd h h1
theorem cmpQ_self : ∀ a : List Int, cmpQ a a = 0
  | [] => rfl
  | a :: al => by simp only [cmpQ]; rw [if_pos (cmp1_self a), cmpQ_self al]

theorem isNaNI (x : Int) (w : World) : Calls Tryz.prog 133 #[.int .i64 x] w fun e w' => e = .returned (.bool false) ∧ w = w' := by
  go_enter Tryz.func133, Tryz.ntmps133
  go_wp2_with fail
  go_ret
  exact ⟨by simp, rfl⟩

set_option maxRecDepth 20000 in
theorem cmpOne (x y : Int) (w : World) : Calls Tryz.prog 117 #[.int .i64 x, .int .i64 y] w fun e w' => e = .returned (.int .i64 (cmp1 x y)) ∧ w = w' := by
  have S1 := Lib.hid (isNaNI x w)
  have S2 := Lib.hid (isNaNI y w)
  rcases Int.lt_trichotomy x y with h | h | h
  · have HR := Lib.hid (show cmp1 x y = -1 by simp [cmp1, h])
    go_enter Tryz.func117, Tryz.ntmps117
    go_wp2_with fail
    refine S1.out.mono ?_
    rintro e w1 ⟨rfl, rfl⟩
    go_wp2_with fail
    refine S2.out.mono ?_
    rintro e w1 ⟨rfl, rfl⟩
    go_wp2_with fail
    go_ret
    exact ⟨by rw [HR.out]; rfl, rfl⟩
  · have HR := Lib.hid (show cmp1 x y = 0 by rw [h]; exact cmp1_self y)
    have g1 : ¬ x < y := by omega
    have g2 : ¬ y < x := by omega
    clear h
    go_enter Tryz.func117, Tryz.ntmps117
    go_wp2_with fail
    refine S1.out.mono ?_
    rintro e w1 ⟨rfl, rfl⟩
    go_wp2_with fail
    refine S2.out.mono ?_
    rintro e w1 ⟨rfl, rfl⟩
    go_wp2_with fail
    go_ret
    exact ⟨by rw [HR.out]; rfl, rfl⟩
  · have HR := Lib.hid (show cmp1 x y = 1 by simp [cmp1, h]; omega)
    have g1 : ¬ x < y := by omega
    go_enter Tryz.func117, Tryz.ntmps117
    go_wp2_with fail
    refine S1.out.mono ?_
    rintro e w1 ⟨rfl, rfl⟩
    go_wp2_with fail
    refine S2.out.mono ?_
    rintro e w1 ⟨rfl, rfl⟩
    go_wp2_with fail
    go_ret
    exact ⟨by rw [HR.out]; rfl, rfl⟩

end Go.Proofs.YtkhifpgpkklokaaGreatDoor

/-
  What the law FnLabels draws.
-/
namespace Go.Proofs.YtkhifpgpkklokaaGreatDoor
open Go.RowKit

def SrcText (N p : Nat) (w : World) (ps : List (List UInt8)) (e : Ending) (w' : World) : Prop := (∃ s, e = .returned (es s) ∧ s ∈ ps) ∧ IsSrc N p w' ∧ Upd [p] w w'

set_option maxRecDepth 20000 in
set_option maxHeartbeats 2000000 in
theorem srcText (N p : Nat) (v : Value) (ps : List (List UInt8)) (w : World) (fp : List Nat) (hN : N ≤ 900000000) (h : IsSrc N p w) (hR : RS fp w [v] ps) (h0 : 0 < ps.length) (h1 : ps.length ≤ 1000) (hp : p ∉ fp) :
    Calls Tryz.prog 63 #[.pointer (some ⟨p, 0, none⟩), v] w (SrcText (N + 2) p w ps) := by
  obtain ⟨a, cap, rfl, h2, h3, -⟩ := slF1_open hR
  unfold maxLen at h3
  have S1 := Lib.hid (srcPick N p ps.length w hN h (by omega) (by omega))
  have HR := Lib.hid hR
  have HP := Lib.hid hp
  clear h hR hp
  go_enter Tryz.func63, Tryz.ntmps63
  go_wp2_with fail
  refine S1.out.mono ?_
  rintro e w1 ⟨⟨x, rfl, hx0, hx1⟩, hs1, hu1⟩
  obtain ⟨q, rfl⟩ : ∃ q : Nat, x = q := ⟨x.toNat, by omega⟩
  have hq : q < ps.length := by omega
  obtain ⟨a', cap', hv, -, -, hc⟩ := slF1_open (RSk.upd HR.out hu1 (fun b hb hm => by simp at hm; subst hm; exact HP.out hb))
  cases hv
  obtain ⟨b, o, rfl, -, -, c1⟩ := hc q hq
  have HS := Lib.hid (And.intro hs1 hu1)
  have HM := Lib.hid (show ps[q] ∈ ps from List.getElem_mem hq)
  generalize ps[q] = y at *
  clear hc hs1 hu1 S1
  go_wp2_with fail
  go_ret
  exact ⟨⟨_, rfl, HM.out⟩, HS.out.1, HS.out.2⟩

def acts : List (List UInt8) := [[97], [98], [115, 101, 110, 100], [103, 101, 116], [120, 55]]
theorem acts_ok : ∀ s ∈ acts, actF s = true ∧ s ≠ tauL ∧ s.length ≤ 10 := by decide
def LabOut (w : World) (e : Ending) (w' : World) : Prop := (∃ (s : List UInt8) (v' : Value) (xs : List Int), e = .returned (.tuple #[es s, v']) ∧ s ∈ acts ∧ xs.length ≤ 2 ∧ xs.all isV = true ∧ New R1 w w' v' xs) ∧ Upd [] w w'

end Go.Proofs.YtkhifpgpkklokaaGreatDoor

/-
  What the law FnDelivered draws: labels and fates.
-/
namespace Go.Proofs.YtkhifpgpkklokaaGreatDoor
open Go.RowKit

def SrcLab (N p : Nat) (w : World) (e : Ending) (w' : World) : Prop := (∃ s, e = .returned (es s) ∧ isLab s = true ∧ s.length ≤ 100) ∧ IsSrc N p w' ∧ Upd [p] w w'
def nmL : List (List UInt8) := [[97], [98], [99], [115, 101, 110, 100], [103, 101, 116]]
theorem nmL_ok : ∀ s ∈ nmL, actF s = true ∧ s ≠ tauL ∧ s.length ≤ 10 := by decide
theorem isLab_of {name s : List UInt8} {vs : List Int} (h : labT name vs = some s) : isLab s = true := by
  unfold isLab; rw [readF_labT h]; rfl
theorem lab0 {name : List UInt8} (h : name ∈ nmL) : isLab name = true := by
  obtain ⟨h1, h2, -⟩ := nmL_ok name h
  exact isLab_of (name := name) (vs := []) (by rw [labT_yes h2 (by rw [h1]; rfl)]; rfl)
theorem labTau : isLab tauL = true := isLab_of (name := tauL) (vs := []) (by simp [labT])
theorem lab1 {name : List UInt8} (h : name ∈ nmL) {x : Int} (hx : isV x = true) : isLab (((name ++ [40]) ++ Lib.itoa x) ++ [41]) = true := by
  obtain ⟨h1, h2, -⟩ := nmL_ok name h
  refine isLab_of (name := name) (vs := [x]) ?_
  rw [labT_yes h2 (by rw [h1]; simp [hx]), if_neg (by simp)]
  simp [txtV, joinC]
theorem lab2 {name : List UInt8} (h : name ∈ nmL) {x y : Int} (hx : isV x = true) (hy : isV y = true) : isLab (((((name ++ [40]) ++ Lib.itoa x) ++ [44]) ++ Lib.itoa y) ++ [41]) = true := by
  obtain ⟨h1, h2, -⟩ := nmL_ok name h
  refine isLab_of (name := name) (vs := [x, y]) ?_
  rw [labT_yes h2 (by rw [h1]; simp [hx, hy]), if_neg (by simp)]
  simp [txtV, joinC]

set_option maxRecDepth 20000 in
set_option maxHeartbeats 2000000 in
theorem drawLabel (N p : Nat) (w : World) (hN : N ≤ 800000000) (h : IsSrc N p w) : Calls Tryz.prog 34 #[.pointer (some ⟨p, 0, none⟩)] w (SrcLab (N + 10) p w) := by
  have hpl := h.lt
  obtain ⟨fp, hR5, -, hge⟩ := new_lit (enc := es) w 9 nmL (by simp [maxLen, nmL])
  have S1 := Lib.hid (srcText N p _ nmL _ fp (by omega) (h.upd ((Upd.refl [] w).alloc _)) hR5 (by simp [nmL]) (by simp [nmL]) (fun hm => by have := hge p hm; omega))
  have HU0 := Lib.hid ((Upd.refl [p] w).alloc (.cells (nmL.map es).toArray 9))
  clear h hR5 hge
  go_enter Tryz.func34, Tryz.ntmps34
  go_wp2_with fail
  refine S1.out.mono ?_
  rintro e w1 ⟨⟨nm, rfl, hnm⟩, hs1, hu1⟩
  have hpl1 := hs1.lt
  have S2 := Lib.hid (srcPick (N + 2) p 6 w1 (by omega) hs1 (by omega) (by omega))
  have HU1 := Lib.hid (HU0.out.trans hu1)
  have HN := Lib.hid hnm
  have hnl : nm.length ≤ 10 := (nmL_ok nm hnm).2.2
  clear S1 hs1 hu1 HU0 hnm
  go_wp2_with fail
  refine S2.out.mono ?_
  rintro e w2 ⟨⟨q, rfl, hq0, hq1⟩, hs2, hu2⟩
  have HU2 := Lib.hid (HU1.out.trans hu2)
  have HS2 := Lib.hid hs2
  clear S2 hu2 hs2 HU1
  by_cases q0 : q = 0
  · subst q0
    have S3 := Lib.hid (srcPick (N + 4) p 64 w2 (by omega) HS2.out (by omega) (by omega))
    obtain ⟨A, hA⟩ : ∃ A, A = nm ++ [40] := ⟨_, rfl⟩
    have hcat1 : (ByteArray.mk nm.toArray ++ ByteArray.mk #[40]) = ByteArray.mk A.toArray := by rw [hA]; exact str_cat nm [40]
    have HA := Lib.hid hA
    have hAl : A.length ≤ 11 := by rw [hA]; simp; omega
    clear hA
    go_wp2_with fail
    refine S3.out.mono ?_
    rintro e w3 ⟨⟨x, rfl, hx0, hx1⟩, hs3, hu3⟩
    have HX := Lib.hid (show isV x = true from inB_mk ⟨by omega, by omega⟩)
    obtain ⟨k, rfl⟩ : ∃ k : Nat, x = k := ⟨x.toNat, by omega⟩
    have S4 := Lib.hid (l01DecP k w3 (by omega))
    have hD := (isV_itoa HX.out).2
    have HU3 := Lib.hid (HU2.out.trans hu3)
    have HS3 := Lib.hid hs3
    clear S3 hs3 hu3 HU2 HS2
    go_wp2_with fail
    refine S4.out.mono ?_
    rintro e w4 ⟨rfl, hu4⟩
    have HU4 := Lib.hid (And.intro (HS3.out.upd hu4) (HU3.out.trans (hu4.mono (by simp))))
    have HL := Lib.hid (lab1 HN.out HX.out)
    generalize Lib.itoa (k : Int) = D at *
    obtain ⟨B, hB⟩ : ∃ B, B = A ++ D := ⟨_, rfl⟩
    have hcat2 : (ByteArray.mk A.toArray ++ ByteArray.mk D.toArray) = ByteArray.mk B.toArray := by rw [hB]; exact str_cat A D
    obtain ⟨C, hC⟩ : ∃ C, C = B ++ [41] := ⟨_, rfl⟩
    have hcat3 : (ByteArray.mk B.toArray ++ ByteArray.mk #[41]) = ByteArray.mk C.toArray := by rw [hC]; exact str_cat B [41]
    have HC := Lib.hid (show C = ((nm ++ [40]) ++ D) ++ [41] by rw [hC, hB, HA.out])
    have hBl : B.length ≤ 41 := by rw [hB]; simp; omega
    have hCl : C.length ≤ 42 := by rw [hC]; simp; omega
    clear S4 hu4 HU3 HS3 hB hC
    go_wp2_with fail
    go_ret
    exact ⟨⟨C, rfl, by rw [HC.out]; exact HL.out, by omega⟩, HU4.out.1.mono (by omega), HU4.out.2⟩
  · by_cases q1 : q = 1
    · subst q1
      have S3 := Lib.hid (srcPick (N + 4) p 64 w2 (by omega) HS2.out (by omega) (by omega))
      clear q0
      go_wp2_with fail
      refine S3.out.mono ?_
      rintro e w3 ⟨⟨x, rfl, hx0, hx1⟩, hs3, hu3⟩
      have HX := Lib.hid (show isV x = true from inB_mk ⟨by omega, by omega⟩)
      obtain ⟨k, rfl⟩ : ∃ k : Nat, x = k := ⟨x.toNat, by omega⟩
      have S4 := Lib.hid (l01DecP k w3 (by omega))
      have hD := (isV_itoa HX.out).2
      have HU3 := Lib.hid (HU2.out.trans hu3)
      have HS3 := Lib.hid hs3
      clear S3 hs3 hu3 HU2 HS2
      go_wp2_with fail
      refine S4.out.mono ?_
      rintro e w4 ⟨rfl, hu4⟩
      have HU4 := Lib.hid (HU3.out.trans (hu4.mono (by simp)))
      have S5 := Lib.hid (srcPick (N + 6) p 4 w4 (by omega) (HS3.out.upd hu4) (by omega) (by omega))
      have HL := Lib.hid (fun (y : Int) (hy : isV y = true) => lab2 HN.out HX.out hy)
      generalize Lib.itoa (k : Int) = D at *
      obtain ⟨A, hA⟩ : ∃ A, A = nm ++ [40] := ⟨_, rfl⟩
      have hcat1 : (ByteArray.mk nm.toArray ++ ByteArray.mk #[40]) = ByteArray.mk A.toArray := by rw [hA]; exact str_cat nm [40]
      obtain ⟨B, hB⟩ : ∃ B, B = A ++ D := ⟨_, rfl⟩
      have hcat2 : (ByteArray.mk A.toArray ++ ByteArray.mk D.toArray) = ByteArray.mk B.toArray := by rw [hB]; exact str_cat A D
      obtain ⟨C, hC⟩ : ∃ C, C = B ++ [44] := ⟨_, rfl⟩
      have hcat3 : (ByteArray.mk B.toArray ++ ByteArray.mk #[44]) = ByteArray.mk C.toArray := by rw [hC]; exact str_cat B [44]
      have HC := Lib.hid (show C = ((nm ++ [40]) ++ D) ++ [44] by rw [hC, hB, hA])
      have hAl : A.length ≤ 11 := by rw [hA]; simp; omega
      have hBl : B.length ≤ 41 := by rw [hB]; simp; omega
      have hCl : C.length ≤ 42 := by rw [hC]; simp; omega
      clear S4 hu4 HU3 HS3 hA hB hC
      go_wp2_with fail
      refine S5.out.mono ?_
      rintro e w5 ⟨⟨y, rfl, hy0, hy1⟩, hs5, hu5⟩
      have HY := Lib.hid (show isV y = true from inB_mk ⟨by omega, by omega⟩)
      obtain ⟨j, rfl⟩ : ∃ j : Nat, y = j := ⟨y.toNat, by omega⟩
      have S6 := Lib.hid (l01DecP j w5 (by omega))
      have hE := (isV_itoa HY.out).2
      have HU5 := Lib.hid (HU4.out.trans hu5)
      have HS5 := Lib.hid hs5
      clear S5 hs5 hu5 HU4 hcat1 hcat2 hcat3
      go_wp2_with fail
      refine S6.out.mono ?_
      rintro e w6 ⟨rfl, hu6⟩
      have HU6 := Lib.hid (And.intro (HS5.out.upd hu6) (HU5.out.trans (hu6.mono (by simp))))
      have HL2 := Lib.hid (HL.out _ HY.out)
      generalize Lib.itoa (j : Int) = E at *
      obtain ⟨F, hF⟩ : ∃ F, F = C ++ E := ⟨_, rfl⟩
      have hcat4 : (ByteArray.mk C.toArray ++ ByteArray.mk E.toArray) = ByteArray.mk F.toArray := by rw [hF]; exact str_cat C E
      obtain ⟨G, hG⟩ : ∃ G, G = F ++ [41] := ⟨_, rfl⟩
      have hcat5 : (ByteArray.mk F.toArray ++ ByteArray.mk #[41]) = ByteArray.mk G.toArray := by rw [hG]; exact str_cat F [41]
      have HG := Lib.hid (show G = ((((nm ++ [40]) ++ D) ++ [44]) ++ E) ++ [41] by rw [hG, hF, HC.out])
      have hFl : F.length ≤ 72 := by rw [hF]; simp; omega
      have hGl : G.length ≤ 73 := by rw [hG]; simp; omega
      clear S6 hu6 HU5 HS5 hF hG HL
      go_wp2_with fail
      go_ret
      exact ⟨⟨G, rfl, by rw [HG.out]; exact HL2.out, by omega⟩, HU6.out.1.mono (by omega), HU6.out.2⟩
    · by_cases q2 : q = 2
      · subst q2
        clear q0 q1
        go_wp2_with fail
        go_ret
        exact ⟨⟨tauL, rfl, labTau, by decide⟩, HS2.out.mono (by omega), HU2.out⟩
      · have g0 : (q == 0) = false := by simpa using q0
        have g1 : (q == 1) = false := by simpa using q1
        have g2 : (q == 2) = false := by simpa using q2
        clear q0 q1 q2
        go_wp2_with fail
        go_ret
        exact ⟨⟨nm, rfl, lab0 HN.out, by omega⟩, HS2.out.mono (by omega), HU2.out⟩

def LinkOut (w : World) (e : Ending) (w' : World) : Prop :=
  (∃ (v1 v2 : Value) (L : List (List UInt8)) (F : List Int), e = .returned (.tuple #[v1, v2]) ∧ L.length ≤ 4 ∧ F.length ≤ 15 ∧ (∀ s ∈ L, isLab s = true ∧ s.length ≤ 100) ∧ (∀ f ∈ F, 0 ≤ f ∧ f ≤ 3) ∧ New RS w w' v1 L ∧ New R1 w w' v2 F ∧
    (∃ g c, v1 = .slice (some ⟨g, 0, none⟩) L.length c) ∧ (∃ g c, v2 = .slice (some ⟨g, 0, none⟩) F.length c)) ∧ Upd [] w w'

theorem row_form {w : World} {base : Nat} {e : TypeId} {v : Value} {α : Type} {xs : List α} {us : List Value} (h : w.ownsRow base e 1 v xs.length us) {B : Nat} (h0 : xs = [] → v = .slice (some ⟨B, 0, none⟩) 0 0) : ∃ g c, v = .slice (some ⟨g, 0, none⟩) xs.length c := by
  by_cases hx : xs = []
  · exact ⟨B, 0, by rw [h0 hx, hx]; rfl⟩
  · rcases h.2 with ⟨-, h1⟩ | ⟨g, cap, cur, rfl, -⟩
    · exact absurd (List.eq_nil_of_length_eq_zero h1) hx
    · exact ⟨g, cap, rfl⟩

set_option maxRecDepth 20000 in
set_option maxHeartbeats 4000000 in
theorem r8Link (v : Value) (code : List Int) (w : World) (fc : List Nat) (hR : R_B fc w [v] code) (hb : bytesOk code) (hl : code.length ≤ 1048576) : Calls Tryz.prog 9 #[v] w (LinkOut w) := by
  obtain ⟨i1, ki, kz0, kz1, kz2⟩ := info_parts Tryz.info2
  obtain ⟨i2, li, lz0, lz1, lz2⟩ := info_parts Tryz.info9
  have S1 := Lib.hid (srcFrom v code w fc hR hb hl)
  clear hR hb
  go_enter Tryz.func9, Tryz.ntmps9
  go_wp2_with fail
  refine S1.out.mono ?_
  rintro e w1 ⟨⟨p, rfl, hs1, hp⟩, hu1⟩
  have hpl := hs1.lt
  have HLIT := Lib.hid (World.ownsRow_lit (base := w1.heap.size) (e := 9) (size := 1) w1 #[] 0 (Nat.le_refl _) (by simp [maxLen]) (by simp))
  have S2 := Lib.hid (srcPick 0 p 5 _ (by omega) (hs1.upd ((Upd.refl [] w1).alloc (.cells #[] 9))) (by omega) (by omega))
  have HU1 := Lib.hid (hu1.alloc (.cells #[] 9))
  have hsz1 := hu1.size
  clear S1 hs1 hu1
  go_wp2_with fail
  refine S2.out.mono ?_
  rintro e w2 ⟨⟨x, rfl, hx0, hx1⟩, hs2, hu2⟩
  obtain ⟨n0, rfl⟩ : ∃ n0 : Nat, x = n0 := ⟨x.toNat, by omega⟩
  have hn0 : n0 ≤ 4 := by omega
  have HO2 := Lib.hid (ownsRow_other HLIT.out hu2 (by simpa using hpl))
  have HU2 := Lib.hid (show Upd [] w w2 from HU1.out.fresh hu2 (fun b hb => Or.inl (by simp at hb; omega)))
  have HS2 := Lib.hid hs2
  have hsz2 : w1.heap.size < w2.heap.size := by have := hu2.size; simp at this; omega
  clear S2 hs2 hu2 HLIT HU1
  go_wp2_with fail
  go_loopw [5, 6] (fun ov nv wr => ∃ (k : Nat) (ps : List (List UInt8)), nv = .int .i64 k ∧ ps.length + k = n0 ∧ Hid (∀ s ∈ ps, isLab s = true ∧ s.length ≤ 100) ∧ Hid (wr.ownsRow w1.heap.size 9 1 ov ps.length (ps.map es)) ∧ Hid (ps = [] → ov = .slice (some ⟨w1.heap.size, 0, none⟩) 0 0) ∧ IsSrc (2 + 10 * ps.length) p wr ∧ Upd [] w wr ∧ w1.heap.size < wr.heap.size) (fun _ nv _ => (intOf nv).toNat)
  case atStart => exact ⟨n0, [], rfl, by simp, Lib.hid (by simp), Lib.hid (by simpa using HO2.out), Lib.hid (fun _ => rfl), HS2.out, HU2.out, hsz2⟩
  case round =>
    clear HO2 HS2 HU2 hsz2
    obtain ⟨k, ps, rfl, hpl2, HPS, hown, HF, hs, hU, hsz⟩ := hrel
    by_cases hlt : 0 < k
    · have S3 := Lib.hid (drawLabel _ p wr (by omega) hs)
      have HU := Lib.hid hU
      clear hs hU
      go_wp2_with fail
      refine S3.out.mono ?_
      rintro e w3 ⟨⟨s, rfl, hl1, hl2⟩, hs3, hu3⟩
      have hown3 := ownsRow_other hown.out hu3 (by simpa using hpl)
      have hsz3 := hu3.size
      have HU3 := Lib.hid (HU.out.fresh hu3 (fun b hb => Or.inl (by simp at hb; omega)))
      have HS3 := Lib.hid (And.intro hs3 (And.intro hl1 hl2))
      clear S3 hs3 hu3 hown hl1 hl2 HU
      go_wp2_with (first
        | (at_builtin; refine wpList_append_tight _ rfl _ _ 24 rfl w1.heap.size 9 i2 (.string ⟨#[]⟩) 1 16 Tryz.underlying24 li lz0 lz1 lz2 rfl (by decide) _ _ _ rfl (hown3.alloc _) ⟨w3.heap.size, 0, none⟩ 1 1 [es s] rfl rfl (fun j u hj => by rw [addr_add]; exact cell_new w3 #[es s] _ _ rfl _ _ (by simpa using hj)) (by simp [Value.oneCell']) (by unfold maxLen; omega) (by omega) (by simp; omega) ?_)
        | fail)
      intro v5 w5 hown5 hg5 ht5
      have hu5 : Upd [] w w5 := (HU3.out.alloc _).grown hg5 (fun b hb => Or.inl (by have := (hown3.lt b hb).1; omega))
      have hs5 : IsSrc (2 + 10 * (ps.length + 1)) p w5 := by
        refine IsSrc.other (f := (Value.ownBlock u5).toList) (HS3.out.1.mono (by omega)) (((Upd.refl _ _).alloc _).grown hg5 (fun b hb => Or.inr (by simp [hb]))) (fun b hb => by have := (hown3.lt b (by simpa using hb)).1; omega)
      have hsz5 := hg5.size
      simp at hsz5
      have HP := Lib.hid (And.intro hown5 (And.intro hs5 hu5))
      clear hown5 hg5 ht5 hu5 hs5 hown3
      go_wp2_with fail
      go_roundw
      case rel => exact ⟨k - 1, ps ++ [s], by go_num; try (congr 1; omega), by simp; omega, Lib.hid (by
        intro x hx
        rcases List.mem_append.1 hx with hx | hx
        · exact HPS.out x hx
        · obtain rfl : x = s := by simpa using hx
          exact HS3.out.2), Lib.hid (by simpa using HP.out.1), Lib.hid (by simp), by simpa using HP.out.2.1, HP.out.2.2, by omega⟩
      case measure => simp [intOf]; omega
    · obtain rfl : k = 0 := by omega
      obtain ⟨wo, rfl⟩ : ∃ wo : World, wo = wr := ⟨_, rfl⟩
      have hrow := row_form hown.out HF.out
      have hn : New RS w1 wo u5 ps := New.ofOwns (w := w1) (e := 9) (enc := es) hown.out
      have HN := Lib.hid (And.intro hn hrow)
      have HLIT := Lib.hid (World.ownsRow_lit (base := wo.heap.size) (e := 2) (size := 1) wo #[] 0 (Nat.le_refl _) (by simp [maxLen]) (by simp))
      have S4 := Lib.hid (srcPick _ p 16 _ (by omega) (hs.upd ((Upd.refl [] wo).alloc (.cells #[] 2))) (by omega) (by omega))
      have HU := Lib.hid hU
      obtain ⟨vl, hvl⟩ : ∃ vl, u5 = vl := ⟨_, rfl⟩
      rw [hvl] at HN ⊢
      clear hown hs hU hn HF hrow hvl
      go_wp2_with fail
      refine S4.out.mono ?_
      rintro e w4 ⟨⟨y, rfl, hy0, hy1⟩, hs4, hu4⟩
      obtain ⟨m0, rfl⟩ : ∃ m0 : Nat, y = m0 := ⟨y.toNat, by omega⟩
      have hm0 : m0 ≤ 15 := by omega
      have HO4 := Lib.hid (ownsRow_other HLIT.out hu4 (by simp; omega))
      have HU4 := Lib.hid (show Upd [p] wo w4 from ((Upd.refl [p] wo).alloc _).trans hu4)
      have HS4 := Lib.hid hs4
      clear S4 hs4 hu4 HLIT
      go_wp2_with fail
      go_loopw [7, 8] (fun ov nv wr => ∃ (k : Nat) (F : List Int), nv = .int .i64 k ∧ F.length + k = m0 ∧ Hid (∀ f ∈ F, 0 ≤ f ∧ f ≤ 3) ∧ Hid (wr.ownsRow wo.heap.size 2 1 ov F.length (F.map ei)) ∧ Hid (F = [] → ov = .slice (some ⟨wo.heap.size, 0, none⟩) 0 0) ∧ IsSrc (4 + 10 * ps.length + 2 * F.length) p wr ∧ Upd [p] wo wr) (fun _ nv _ => (intOf nv).toNat)
      case atStart => exact ⟨m0, [], rfl, by simp, Lib.hid (by simp), Lib.hid (by simpa using HO4.out), Lib.hid (fun _ => rfl), HS4.out.mono (by simp; omega), HU4.out⟩
      case round =>
        clear HO4 HS4 HU4
        obtain ⟨k, F, rfl, hFl, HPF, hown, HF, hs, hU2⟩ := hrel
        have hszi := hU2.size
        by_cases hlt : 0 < k
        · have S5 := Lib.hid (srcPick _ p 4 wr (by omega) hs (by omega) (by omega))
          have HUI := Lib.hid hU2
          clear hs hU2
          go_wp2_with fail
          refine S5.out.mono ?_
          rintro e w5 ⟨⟨z, rfl, hz0, hz1⟩, hs5, hu5⟩
          have hown5 := ownsRow_other hown.out hu5 (by simp; omega)
          have hsz5 := hu5.size
          have HU5 := Lib.hid (HUI.out.trans hu5)
          have HS5 := Lib.hid (And.intro hs5 (show 0 ≤ z ∧ z ≤ 3 by omega))
          clear S5 hs5 hu5 hown HUI hz0 hz1
          go_wp2_with (first
            | (at_builtin; refine wpList_append_tight _ rfl _ _ 25 rfl wo.heap.size 2 i1 (.int .i64 0) 1 8 Tryz.underlying25 ki kz0 kz1 kz2 rfl (by decide) _ _ _ rfl (hown5.alloc _) ⟨w5.heap.size, 0, none⟩ 1 1 [ei z] rfl rfl (fun j u hj => by rw [addr_add]; exact cell_new w5 #[ei z] _ _ rfl _ _ (by simpa using hj)) (by simp [Value.oneCell']) (by unfold maxLen; omega) (by omega) (by simp; omega) ?_)
            | fail)
          intro v6 w6 hown6 hg6 ht6
          have hu6 : Upd [p] wo w6 := (HU5.out.alloc _).grown hg6 (fun b hb => Or.inl (by have := (hown5.lt b hb).1; omega))
          have hs6 : IsSrc (4 + 10 * ps.length + 2 * (F.length + 1)) p w6 := by
            refine IsSrc.other (f := (Value.ownBlock u7).toList) (HS5.out.1.mono (by omega)) (((Upd.refl _ _).alloc _).grown hg6 (fun b hb => Or.inr (by simp [hb]))) (fun b hb => by have := (hown5.lt b (by simpa using hb)).1; omega)
          have HP := Lib.hid (And.intro hown6 (And.intro hs6 hu6))
          clear hown6 hg6 ht6 hu6 hs6 hown5
          go_wp2_with fail
          go_roundw
          case rel => exact ⟨k - 1, F ++ [z], by go_num; try (congr 1; omega), by simp; omega, Lib.hid (by
            intro x hx
            rcases List.mem_append.1 hx with hx | hx
            · exact HPF.out x hx
            · obtain rfl : x = z := by simpa using hx
              exact HS5.out.2), Lib.hid (by simpa using HP.out.1), Lib.hid (by simp), by simpa using HP.out.2.1, HP.out.2.2⟩
          case measure => simp [intOf]; omega
        · obtain rfl : k = 0 := by omega
          have hrow := row_form hown.out HF.out
          have hn : New R1 wo wr u7 F := New.ofOwns (w := wo) (e := 2) (enc := ei) hown.out
          have hn1 : New RS w wr vl ps := by
            obtain ⟨fl, q1, q2, q3⟩ := HN.out.1
            have hd : ∀ b ∈ fl, b ∉ [p] := fun b hb hm => by have := q3 b hb; simp at hm; omega
            exact ⟨fl, RSk.upd q1 hU2 hd, q2.upd hU2 hd, fun b hb => by have := q3 b hb; omega⟩
          have hur : Upd [] w wr := HU.out.fresh hU2 (fun b hb => Or.inl (by simp at hb; omega))
          have HQ := Lib.hid (And.intro hn1 (And.intro (hn.mono HU.out.size) (And.intro hrow hur)))
          clear hown hU2 hs hn hn1 HF hrow hur
          go_wp2_with fail
          go_ret2
          exact ⟨⟨vl, _, ps, F, rfl, by omega, by omega, HPS.out, HPF.out, HQ.out.1, HQ.out.2.1, HN.out.2, HQ.out.2.2.1⟩, HQ.out.2.2.2⟩

end Go.Proofs.YtkhifpgpkklokaaGreatDoor

/-
  The law FnDelivered: the call returns true for every input, and writes nothing that was there.
-/
namespace Go.Proofs.YtkhifpgpkklokaaGreatDoor
open Go.RowKit

theorem slF1_take {α : Type} {enc : α → Value} {fp : List Nat} {w : World} {b off n cap : Nat} {xs : List α} (h : slF 1 (fun x => [enc x]) fp w [.slice (some ⟨b, off, none⟩) n cap] xs) (k : Nat) (hk : k ≤ xs.length) :
    ∃ fp', slF 1 (fun x => [enc x]) fp' w [.slice (some ⟨b, off, none⟩) k cap] (xs.take k) ∧ ∀ c ∈ fp', c ∈ fp := by
  obtain ⟨v, hv, a, cap', hv2, h1, h2, h3, h4⟩ := h
  cases hv
  simp only [Value.slice.injEq] at hv2
  obtain ⟨rfl, rfl, rfl⟩ := hv2
  have hl : (xs.take k).length = k := by rw [List.length_take]; omega
  rw [flatMap_single] at h3 h4
  rcases h4 with ⟨h0, rfl⟩ | ⟨b', off', hb', rfl, hbl, hc⟩
  · exact ⟨[], ⟨_, rfl, _, cap, by rw [hl], by omega, h2, by rw [flatMap_single, List.length_map, Nat.mul_one], Or.inl ⟨by omega, rfl⟩⟩, by simp⟩
  · cases hb'
    refine ⟨[b], ⟨_, rfl, _, cap, by rw [hl], by omega, h2, by rw [flatMap_single, List.length_map, Nat.mul_one], Or.inr ⟨b, off, rfl, rfl, hbl, fun j u hu => hc j u ?_⟩⟩, by simp⟩
    rw [flatMap_single, List.map_take, List.getElem?_take] at hu
    split at hu
    · exact hu
    · cases hu

theorem slF1_src {α : Type} {enc : α → Value} {fp : List Nat} {w : World} {b off n cap : Nat} {xs : List α} (h : slF 1 (fun x => [enc x]) fp w [.slice (some ⟨b, off, none⟩) n cap] xs) :
    n = xs.length ∧ ∀ j u, (xs.map enc)[j]? = some u → w.cell? ((⟨b, off, none⟩ : Addr).add j) = some u := by
  obtain ⟨v, hv, a, cap', hv2, h1, h2, h3, h4⟩ := h
  cases hv
  simp only [Value.slice.injEq] at hv2
  obtain ⟨rfl, rfl, rfl⟩ := hv2
  refine ⟨rfl, fun j u hu => ?_⟩
  rw [flatMap_single] at h4
  rcases h4 with ⟨h0, rfl⟩ | ⟨b', off', hb', rfl, hbl, hc⟩
  · have : xs = [] := List.eq_nil_of_length_eq_zero h0
    subst this; simp at hu
  · cases hb'
    rw [addr_add]; exact hc j u hu

theorem cloneS (b off n cap : Nat) (xs : List (List UInt8)) (w : World) (fp : List Nat) (hR : RS fp w [.slice (some ⟨b, off, none⟩) n cap] xs) (hl : xs.length ≤ 1000000) :
    Calls Tryz.prog 37 #[.slice (some ⟨b, off, none⟩) n cap] w fun e w' => (∃ v', e = .returned v' ∧ New RS w w' v' xs) ∧ Upd [] w w' := by
  obtain ⟨rfl, hc⟩ := slF1_src hR
  have hm : (xs.map (fun p => (⟨p.toArray⟩ : ByteArray))).map Value.string = xs.map es := by rw [List.map_map]; rfl
  refine (Tryz.slices_Clone_string b off xs.length cap (xs.map (fun p => (⟨p.toArray⟩ : ByteArray))) w (by simp) (by omega) (fun j hj => ?_)).mono ?_
  · have hj2 : j < xs.length := by simpa using hj
    have := hc j (es xs[j]) (by simp [hj2])
    rw [addr_add] at this
    rw [this]
    simp [hj2]
  · rintro e w' ⟨v', rfl, hown, -, hb⟩
    refine ⟨⟨v', rfl, New.ofOwns (e := 9) (enc := es) ?_⟩, Upd.ofBelow hb⟩
    rw [List.take_of_length_le (by simp), hm] at hown
    exact hown

/-- lists that may be delivered. -/
structure LinkOk (L : List (List UInt8)) (F : List Int) : Prop where
  l1 : L.length ≤ 60
  l2 : L.all isLab = true
  l3 : ∀ s ∈ L, s.length ≤ 2000000
  f1 : F.length ≤ 200
  f2 : ∀ f ∈ F, 0 ≤ f ∧ f ≤ 3

theorem fatesCode1 (n : Int) (w : World) : Calls Tryz.prog 66 #[.int .i64 n] w fun e w' => e = .returned (.bool (!inB n 0 3)) ∧ w = w' := by
  have S1 := Lib.hid (within n 0 3 w)
  generalize inB n 0 3 = b at *
  go_enter Tryz.func66, Tryz.ntmps66
  go_wp2_with fail
  refine S1.out.mono ?_
  rintro e w1 ⟨rfl, rfl⟩
  go_wp2_with fail
  go_ret
  exact ⟨rfl, rfl⟩

theorem enter_fates (args : Array Value) (w : World) : Sem.run Tryz.prog (callFunc 66 args) w = .ok (.enter 66 args) w := by go_simp

set_option maxRecDepth 20000 in
theorem fatesCode (v1 v2 : Value) (L : List (List UInt8)) (F : List Int) (w : World) (f1 f2 : List Nat) (h1 : RS f1 w [v1] L) (h2 : R1 f2 w [v2] F) (ho : LinkOk L F) (he : Env w) :
    Calls Tryz.prog 35 #[v1, v2] w fun e w' => e = .returned (.int .i64 0) ∧ Upd [] w w' := by
  obtain ⟨a1, c1, rfl, l1, m1, -⟩ := slF1_open h1
  obtain ⟨a2, c2, rfl, l2, m2, -⟩ := slF1_open h2
  unfold maxLen at m1 m2
  have S1 := areLabelsI _ L w f1 h1 ho.l3 he
  rw [ho.l2] at S1
  have S2 := fun (w1 : World) (hu : Upd [] w w1) => containsFuncN (fun n => !inB n 0 3) 66 #[] _ F w1 f2 (R1k.upd h2 hu (by simp)) enter_fates
    (fun wr x _ _ => (fatesCode1 x wr).mono (fun e w' ⟨a, b⟩ => ⟨a, by rw [← b]; exact Upd.refl _ _⟩))
  have hany : F.any (fun n => !inB n 0 3) = false := by
    rw [List.any_eq_false]
    intro x hx
    have := ho.f2 x hx
    simp [inB_mk (show 0 ≤ x ∧ x ≤ 3 from this)]
  rw [hany] at S2
  have HS1 := Lib.hid S1
  have HS2 := Lib.hid S2
  have g1 := ho.l1
  have g2 := ho.f1
  clear S1 S2 h1 h2 ho he hany
  go_enter Tryz.func35, Tryz.ntmps35
  go_wp2_with fail
  refine HS1.out.mono ?_
  rintro e w1 ⟨rfl, hu1⟩
  have HU1 := Lib.hid hu1
  have S3 := Lib.hid (HS2.out w1 hu1)
  clear HS1 HS2 hu1
  go_wp2_with fail
  refine S3.out.mono ?_
  rintro e w2 ⟨rfl, hu2⟩
  have HU2 := Lib.hid (HU1.out.trans hu2)
  clear S3 hu2
  go_wp2_with fail
  go_ret
  exact ⟨rfl, HU2.out⟩

/-- the link at the end. -/
def endL (L : List (List UInt8)) (F : List Int) : Lk := Lk.st (L.length : Int) F (F.length / 2)
def DelL (L : List (List UInt8)) (F : List Int) (w : World) (e : Ending) (w' : World) : Prop :=
  (∃ v', e = .returned (.tuple #[v', .int .i64 (endL L F).kn, .int .i64 0]) ∧ New RS w w' v' (L.take (endL L F).del.toNat)) ∧ Upd [] w w'

set_option maxRecDepth 20000 in
set_option maxHeartbeats 1000000 in
theorem deliverLabels (b off n c : Nat) (v2 : Value) (L : List (List UInt8)) (F : List Int) (w : World) (f1 f2 : List Nat) (h1 : RS f1 w [.slice (some ⟨b, off, none⟩) n c] L) (h2 : R1 f2 w [v2] F) (ho : LinkOk L F) (he : Env w) :
    Calls Tryz.prog 10 #[.slice (some ⟨b, off, none⟩) n c, v2] w (DelL L F w) := by
  have hn := (slF1_src h1).1
  subst hn
  obtain ⟨a9, c9, hv9, l1, m1, -⟩ := slF1_open h1
  simp only [Value.slice.injEq] at hv9
  obtain ⟨-, -, rfl⟩ := hv9
  unfold maxLen at m1
  have S1 := Lib.hid (fatesCode _ v2 L F w f1 f2 h1 h2 ho he)
  have hl1 := ho.l1
  have S2 := Lib.hid (fun (w1 : World) (hu : Upd [] w w1) => show Calls Tryz.prog 36 #[.slice (some ⟨b, off, none⟩) L.length c, v2] w1 (fun e w' => ∃ (p : Nat) (d : Int), e = .returned (.tuple #[.pointer (some ⟨p, 0, none⟩), .int .i64 d]) ∧ LkAt p w' (endL L F) ∧ DoneV L.length F (F.length / 2) d ∧ w1.heap.size ≤ p ∧ Upd [] w1 w')
    from deliverW _ L.length c v2 F w1 f2 (by omega) (R1k.upd h2 hu (by simp)))
  have hi : Lk.Inv L.length _ (endL L F) := Lk.inv_st (by omega) F (F.length / 2)
  have hD0 : 0 ≤ (endL L F).del := by have := hi.k0; have := hi.kd; omega
  have hD1 := hi.dn
  have HRES := Lib.hid (show ∀ e w', (∃ v', e = .returned (.tuple #[v', .int .i64 (endL L F).kn, .int .i64 0]) ∧ New RS w w' v' (L.take (endL L F).del.toNat)) ∧ Upd [] w w' → DelL L F w e w' from fun _ _ h => h)
  obtain ⟨q, hq⟩ : ∃ q : Nat, (endL L F).del = q := ⟨(endL L F).del.toNat, by omega⟩
  have hqt : (endL L F).del.toNat = q := by omega
  rw [hqt] at HRES
  have hqn : q ≤ L.length := by omega
  obtain ⟨fp', ht, hsub⟩ := slF1_take h1 q hqn
  have HT := Lib.hid ht
  have HQ := Lib.hid hq
  clear h1 h2 ho he hi hD0 hD1 hq hqt ht hsub
  go_enter Tryz.func10, Tryz.ntmps10
  go_wp2_with fail
  refine S1.out.mono ?_
  rintro e w1 ⟨rfl, hu1⟩
  have S3 := Lib.hid (S2.out w1 hu1)
  have HU1 := Lib.hid hu1
  clear S1 S2 hu1
  go_wp2_with fail
  refine S3.out.mono ?_
  rintro e w2 ⟨p, d, rfl, hx, -, -, hu2⟩
  have c1 := hx.c1
  have c2 := hx.c2
  rw [HQ.out] at c2
  have HU2 := Lib.hid (HU1.out.trans hu2)
  generalize (endL L F).kn = kn at *
  have hqc : (q : Int) ≤ (c : Int) := by omega
  have hqc2 : (0 : Int) ≤ (q : Int) := by omega
  have hqc3 : (q : Int).toNat = q := by omega
  have S4 := Lib.hid (fun (W : World) (hu : Upd [] w2 W) => cloneS b off q c (L.take q) W fp' (RSk.upd HT.out (HU2.out.trans hu) (by simp)) (by rw [List.length_take]; omega))
  clear S3 hx hu2 HU1
  go_wp2_with fail
  go_region_held3 (fun w' => w'.cell? ⟨p, 2, none⟩ = some (ei q) ∧ w'.cell? ⟨p, 1, none⟩ = some (ei kn)) (go_keep) (((with_reducible refine (S4.out _ ((Upd.refl _ _).drew)).mono ?_); rintro e w3 ⟨⟨v3, rfl, hn3⟩, hu3⟩; have t1 := hu3.keep c1; have t2 := hu3.keep c2))
  have HF := Lib.hid (And.intro (hn3.mono HU2.out.size) (HU2.out.drew.trans hu3))
  clear hn3 hu3 HU2 S4
  go_wp2_with fail
  go_ret3
  refine HRES.out _ _ ⟨⟨v3, rfl, ?_⟩, ?_⟩
  · exact HF.out.1
  · exact HF.out.2

set_option maxRecDepth 20000 in
set_option maxHeartbeats 1000000 in
theorem roundsTo (b off n c : Nat) (v2 : Value) (L : List (List UInt8)) (F : List Int) (w : World) (f1 f2 : List Nat) (h1 : RS f1 w [.slice (some ⟨b, off, none⟩) n c] L) (h2 : R1 f2 w [v2] F) (ho : LinkOk L F) (he : Env w) (hk : (endL L F).kn = L.length) :
    Calls Tryz.prog 12 #[.slice (some ⟨b, off, none⟩) n c, v2] w fun e w' => (∃ j : Nat, e = .returned (.tuple #[.int .i64 j, .int .i64 0]) ∧ j ≤ F.length / 2 ∧ L.length ≤ j) ∧ Upd [] w w' := by
  have hn := (slF1_src h1).1
  subst hn
  have S1 := Lib.hid (fatesCode _ v2 L F w f1 f2 h1 h2 ho he)
  have hl1 := ho.l1
  have S2 := Lib.hid (fun (w1 : World) (hu : Upd [] w w1) => show Calls Tryz.prog 36 #[.slice (some ⟨b, off, none⟩) L.length c, v2] w1 (fun e w' => ∃ (p : Nat) (d : Int), e = .returned (.tuple #[.pointer (some ⟨p, 0, none⟩), .int .i64 d]) ∧ LkAt p w' (endL L F) ∧ DoneV L.length F (F.length / 2) d ∧ w1.heap.size ≤ p ∧ Upd [] w1 w')
    from deliverW _ L.length c v2 F w1 f2 (by omega) (R1k.upd h2 hu (by simp)))
  have HD := Lib.hid (show ∀ d, DoneV L.length F (F.length / 2) d → ∃ j : Nat, d = j ∧ j ≤ F.length / 2 ∧ L.length ≤ j from fun d hd => by
    rcases hd with ⟨-, h⟩ | ⟨j, hj, rfl, hkn⟩
    · exact absurd hk h
    · have hi := Lk.inv_st (n := L.length) (by omega) F j
      have := hi.kd
      have := hi.dr
      exact ⟨j, rfl, hj, by omega⟩)
  clear h1 h2 ho he hk
  go_enter Tryz.func12, Tryz.ntmps12
  go_wp2_with fail
  refine S1.out.mono ?_
  rintro e w1 ⟨rfl, hu1⟩
  have S3 := Lib.hid (S2.out w1 hu1)
  have HU1 := Lib.hid hu1
  clear S1 S2 hu1
  go_wp2_with fail
  refine S3.out.mono ?_
  rintro e w2 ⟨p, d, rfl, -, hdone, -, hu2⟩
  obtain ⟨j, rfl, hj1, hj2⟩ := HD.out d hdone
  have HU2 := Lib.hid (HU1.out.trans hu2)
  clear S3 hu2 HU1 HD hdone
  go_wp2_with fail
  go_ret2
  exact ⟨⟨j, rfl, hj1, hj2⟩, HU2.out⟩

end Go.Proofs.YtkhifpgpkklokaaGreatDoor

/-
  The two lists that the law FnLabels draws.
-/
namespace Go.Proofs.YtkhifpgpkklokaaGreatDoor
open Go.RowKit

/-- a list that lies in blocks of one stretch alone. -/
def InS (lo hi : Nat) (w : World) (v : Value) (xs : List Int) : Prop := ∃ fp, R1 fp w [v] xs ∧ ∀ b ∈ fp, lo < b ∧ b < hi

theorem InS.upd {lo hi : Nat} {w w1 : World} {v : Value} {xs : List Int} {f : List Nat} (h : InS lo hi w v xs) (hu : Upd f w w1) (hf : ∀ b ∈ f, b ≤ lo ∨ hi ≤ b) : InS lo hi w1 v xs := by
  obtain ⟨fp, h1, h2⟩ := h
  exact ⟨fp, R1k.upd h1 hu (fun b hb hm => by have := h2 b hb; have := hf b hm; omega), h2⟩

def OwnV (w : World) (xs : List Int) (e : Ending) (w' : World) : Prop := (∃ v', e = .returned v' ∧ w'.ownsRow w.heap.size 2 1 v' xs.length (xs.map ei)) ∧ Upd [] w w'

def ListsOut (w : World) (e : Ending) (w' : World) : Prop := (∃ (va vb : Value) (a b : List Int) (fa fb : List Nat), e = .returned (.tuple #[va, vb]) ∧ R1 fa w' [va] a ∧ R1 fb w' [vb] b) ∧ Upd [] w w'

/-- what holds of the source and of the two lists. -/
structure StL (N p bb : Nat) (w0 w : World) (va vb : Value) (a b : List Int) : Prop where
  s : IsSrc N p w
  u : Upd [] w0 w
  a : InS p bb w va a
  b : w.ownsRow bb 2 1 vb b.length (b.map ei)
  p0 : w0.heap.size ≤ p
  pb : p < bb
  sz : bb ≤ w.heap.size

theorem StL.src {N M p bb : Nat} {w0 w w1 : World} {va vb : Value} {a b : List Int} (h : StL N p bb w0 w va vb a b) (hs : IsSrc M p w1) (hu : Upd [p] w w1) : StL M p bb w0 w1 va vb a b :=
  ⟨hs, h.u.fresh hu (fun x hx => Or.inl (by simp at hx; subst hx; exact h.p0)), h.a.upd hu (fun x hx => by simp at hx; omega), ownsRow_other h.b hu (fun x hx => by simp at hx; subst hx; exact h.pb), h.p0, h.pb, Nat.le_trans h.sz hu.size⟩

theorem StL.fin {N p bb : Nat} {w0 w : World} {va vb : Value} {a b : List Int} (h : StL N p bb w0 w va vb a b) : ListsOut w0 (.returned (.tuple #[va, vb])) w := by
  obtain ⟨fa, ha, -⟩ := h.a
  obtain ⟨fb, hb, -, -, -⟩ := Flat.ofOwns h.b
  exact ⟨⟨va, vb, a, b, fa, fb, rfl, ha, ⟨vb, rfl, by rw [flatMap_single]; exact hb⟩⟩, h.u⟩

theorem StL.stored {N p bb g cap : Nat} {w0 w : World} {va : Value} {a b : List Int} {n : Nat} (h : StL N p bb w0 w va (.slice (some ⟨g, 0, none⟩) n cap) a b) (hn : n = b.length) (j : Nat) (x : Int) :
    StL N p bb w0 (w.setCell ⟨g, j, none⟩ (ei x)) va (.slice (some ⟨g, 0, none⟩) n cap) a (b.set j x) := by
  subst hn
  have hgb : bb ≤ g := (h.b.lt g rfl).1
  have hst := (World.ownsRow.stored h.b j (ei x)).1
  have hu : Upd [g] w (w.setCell ⟨g, j, none⟩ (ei x)) := (Upd.refl _ _).setCell (by simp) _
  have hpb := h.pb
  have hp0 := h.p0
  refine ⟨h.s.other hu (fun x hx => by simp at hx; omega), h.u.fresh hu (fun x hx => Or.inl (by simp at hx; omega)), h.a.upd hu (fun x hx => by simp at hx; omega), ?_, h.p0, h.pb, Nat.le_trans h.sz hu.size⟩
  rw [List.length_set, List.map_set]
  exact hst

theorem StL.grew {N p bb : Nat} {w0 w w1 w2 : World} {va vb vb2 : Value} {a b : List Int} {x : Int} {o : Obj} (h : StL N p bb w0 w va vb a b) (hw1 : w1 = w.alloc o) (hg : w1.grownBy w2 vb.ownBlock)
    (hown : w2.ownsRow bb 2 1 vb2 (b.length + 1) (b.map ei ++ [ei x])) : StL N p bb w0 w2 va vb2 a (b ++ [x]) := by
  subst hw1
  have hp0 := h.p0
  have hpb := h.pb
  have hu : Upd vb.ownBlock.toList w w2 := ((Upd.refl _ _).alloc o).grown hg (fun b hb => Or.inr (by simp [hb]))
  have hge : ∀ x ∈ vb.ownBlock.toList, bb ≤ x := fun x hx => (h.b.lt x (by simpa using hx)).1
  exact ⟨h.s.other hu (fun x hx => by have := hge x hx; omega), h.u.fresh hu (fun x hx => Or.inl (by have := hge x hx; omega)), h.a.upd hu (fun x hx => Or.inr (hge x hx)), by simpa using hown, h.p0, h.pb, Nat.le_trans h.sz hu.size⟩

end Go.Proofs.YtkhifpgpkklokaaGreatDoor

/-
  The law FnDelivered: the call returns true for every input, and writes nothing that was there.
-/
namespace Go.Proofs.YtkhifpgpkklokaaGreatDoor
open Go.RowKit

set_option maxRecDepth 20000 in
set_option maxHeartbeats 400000 in
theorem r8Texts (v1 v2 : Value) (xs ys : List (List UInt8)) (w : World) (f1 f2 : List Nat) (h1 : R_S1 f1 w [v1] xs) (h2 : R_S1 f2 w [v2] ys) :
    Calls Tryz.prog 11 #[v1, v2] w fun e w' => e = .returned (.bool (xs == ys)) ∧ Upd [] w w' := by
  obtain ⟨a1, c1, rfl, hl1, hm1, hc1⟩ := slF1_open h1
  obtain ⟨a2, c2, rfl, hl2, hm2, hc2⟩ := slF1_open h2
  unfold maxLen at hm1 hm2
  clear h1 h2
  by_cases hl : xs.length = ys.length
  · have hres : (xs == ys) = (xs.drop 0 == ys.drop 0) := rfl
    have HL := Lib.hid hl
    have hle : xs.length ≤ ys.length := by omega
    have hbe : ((xs.length : Int) != (ys.length : Int)) = false := by rw [hl]; simp
    have HR := Lib.hid hres
    clear hl hres
    go_enter Tryz.func11, Tryz.ntmps11
    go_wp2
    go_loopw [5] (fun i wr => ∃ k n : Nat, k ≤ xs.length ∧ i = .int .i64 k ∧ wr = w.drewN n ∧ (xs.drop k == ys.drop k) = (xs == ys)) (fun i _ => xs.length - (intOf i).toNat)
    case atStart => exact ⟨0, 0, Nat.zero_le _, rfl, rfl, HR.out.symm⟩
    case round =>
      obtain ⟨k, n, hk, rfl, rfl, hF⟩ := hrel
      by_cases hlt : k < xs.length
      · obtain ⟨b1, o1, rfl, -, -, hcell1⟩ := hc1 k hlt
        obtain ⟨b2, o2, rfl, -, -, hcell2⟩ := hc2 k (by omega)
        have hlt2 : k < ys.length := by omega
        have HF := Lib.hid (hF.symm.trans (drop_step xs ys k hlt hlt2))
        clear hF hc1 hc2
        generalize xs[k] = x at *
        generalize ys[k] = y at *
        by_cases hx : x = y
        · have hne : (x != y) = false := by simp [hx]
          have hne2 : (x == y) = true := by simp [hx]
          have HX := Lib.hid hx
          clear hx
          go_wp2
          go_quiet (fail)
          go_wp2
          go_roundw
          case rel => exact ⟨k+1, _, by omega, by go_num, rfl, by rw [HF.out]; simp [HX.out]⟩
          case measure => simp [intOf]; omega
        · have hne : (x != y) = true := by simp [hx]
          have hne2 : (x == y) = false := by simp [hx]
          clear hx
          go_wp2
          go_quiet (fail)
          go_wp2
          go_ret
          exact ⟨by rw [HF.out]; simp [hne2], by rw [drewN_add]; exact (Upd.refl _ _).drewN _⟩
      · have hge : xs.length ≤ k := by omega
        have HF := Lib.hid hF
        clear hF hc1 hc2
        go_wp2
        go_ret
        exact ⟨by rw [← HF.out, List.drop_of_length_le hge, List.drop_of_length_le (by have := HL.out; omega)]; rfl, (Upd.refl _ _).drewN _⟩
  · have hbe : ¬ ((xs.length : Int) != (ys.length : Int)) = false := by simp; omega
    have hne : (xs == ys) = false := by
      rw [beq_eq_false_iff_ne]; intro h; exact hl (by rw [h])
    have HN := Lib.hid hne
    clear hl hne
    go_enter Tryz.func11, Tryz.ntmps11
    go_wp2
    go_ret
    exact ⟨by rw [HN.out]; rfl, Upd.refl _ _⟩


/-- the fates with which all is delivered. -/
def longF (F : List Int) (n : Nat) : List Int := (F ++ (if F.length % 2 = 1 then [1] else [])) ++ List.replicate n 0

theorem longF_even (F : List Int) : ∃ q, (F ++ (if F.length % 2 = 1 then [(1 : Int)] else [])).length = 2 * q := by
  refine ⟨(F.length + 1) / 2, ?_⟩
  rw [List.length_append]
  split <;> simp <;> omega

theorem endL_inv (L : List (List UInt8)) (F : List Int) : Lk.Inv L.length ((F.length / 2 : Nat) : Int) (endL L F) := Lk.inv_st (by omega) F (F.length / 2)

theorem longF_all (L : List (List UInt8)) (F : List Int) : (endL L (longF F (2 * L.length + 4))).kn = L.length ∧ (endL L (longF F (2 * L.length + 4))).del = L.length := by
  obtain ⟨q, hq⟩ := longF_even F
  have hz : ∀ j, 2 * q ≤ j → (longF F (2 * L.length + 4)).getD j 0 = 0 := by
    intro j hj
    unfold longF
    rw [List.getD_eq_getElem?_getD, List.getElem?_append_right (by omega), List.getElem?_replicate]
    generalize (F ++ if F.length % 2 = 1 then [1] else []).length = z
    split <;> rfl
  have hlen : (longF F (2 * L.length + 4)).length / 2 = q + (L.length + 2) := by
    unfold longF; rw [List.length_append, hq, List.length_replicate]; omega
  have h := Lk.st_all (n := (L.length : Int)) (by omega) (longF F (2 * L.length + 4)) q hz (L.length + 2)
  have hi := endL_inv L (longF F (2 * L.length + 4))
  have h1 := hi.kd
  have h2 := hi.dn
  unfold endL at *
  rw [hlen] at *
  rcases h with h | h
  · omega
  · exact ⟨h, by omega⟩

set_option maxRecDepth 40000 in
set_option maxHeartbeats 4000000 in
theorem lawDelivered (code more : List Int) (v vm : Value) (fc fm : List Nat) (w : World) (hR : R_B fc w [v] code) (hM : R_B fm w [vm] more) (hb : bytesOk code) (hbm : bytesOk more) (he : Env w) :
    Calls Tryz.prog 3 #[v, vm] w fun e w' => e = .returned (.bool true) ∧ Upd [] w w' := by
  obtain ⟨i1, ki, kz0, kz1, kz2⟩ := info_parts Tryz.info2
  by_cases hlen : code.length ≤ 1048576 ∧ more.length ≤ 1048576
  · have S0 := Lib.hid (r8Long v vm code more w fc fm hR hM hlen)
    have S1 := Lib.hid (r8Link v code w fc hR hb hlen.1)
    have HE := Lib.hid he
    clear hR hM hb hbm hlen he
    go_enter Tryz.func3, Tryz.ntmps3
    go_wp2_with fail
    refine S0.out.mono ?_
    rintro e w1 ⟨rfl, rfl⟩
    clear S0
    go_wp2_with fail
    refine S1.out.mono ?_
    rintro e w1 ⟨⟨v1, v2, L, F, rfl, hl1, hf1, hl2, hf2, hn1, hn2, ⟨gl, cl, rfl⟩, ⟨gf, cf, rfl⟩⟩, hu1⟩
    obtain ⟨fl, hrl, -, -⟩ := hn1
    obtain ⟨ff, hrf, -, -⟩ := hn2
    have hoA : LinkOk L F := ⟨by omega, List.all_eq_true.2 (fun s hs => (hl2 s hs).1), fun s hs => by have := (hl2 s hs).2; omega, by omega, hf2⟩
    have hoB : LinkOk L (longF F (2 * L.length + 4)) := ⟨by omega, hoA.l2, hoA.l3, by unfold longF; rw [List.length_append, List.length_append, List.length_replicate]; split <;> simp <;> omega, by
      intro f hf
      unfold longF at hf
      rcases List.mem_append.1 hf with hf | hf
      · rcases List.mem_append.1 hf with hf | hf
        · exact hf2 f hf
        · split at hf
          · obtain rfl : f = 1 := by simpa using hf
            omega
          · cases hf
      · obtain ⟨-, rfl⟩ := List.mem_replicate.1 hf
        omega⟩
    obtain ⟨hk, hdl⟩ := longF_all L F
    have S2 := Lib.hid (show Calls Tryz.prog 10 #[.slice (some ⟨gl, 0, none⟩) L.length cl, .slice (some ⟨gf, 0, none⟩) F.length cf] w1 (fun e w' => (∃ v', e = .returned (.tuple #[v', .int .i64 (endL L F).kn, .int .i64 0]) ∧ New RS w1 w' v' (L.take (endL L F).del.toNat)) ∧ Upd [] w1 w')
      from deliverLabels gl 0 L.length cl _ L F w1 fl ff hrl hrf hoA (HE.out.upd hu1))
    have hi := endL_inv L F
    have i1' := hi.k0
    have i2 := hi.kd
    have i3 := hi.dk
    have i4 := hi.dn
    have hU1 := hu1
    have HL := Lib.hid hrl
    have HF := Lib.hid hrf
    have HOB := Lib.hid hoB
    have HK := Lib.hid (And.intro hk hdl)
    have HU1 := Lib.hid hU1
    generalize (endL L F).kn = kn at *
    obtain ⟨q, hq⟩ : ∃ q : Nat, (endL L F).del = q := ⟨(endL L F).del.toNat, by omega⟩
    rw [hq] at S2 i2 i3 i4
    rw [Int.toNat_natCast] at S2
    obtain ⟨m, hm⟩ : ∃ m : Nat, kn = m := ⟨kn.toNat, by omega⟩
    subst hm
    have hqn : q ≤ L.length := by omega
    have hmq : m ≤ q := by omega
    have hqm : q ≤ m + 1 := by omega
    have hcl : L.length ≤ cl := by
      obtain ⟨_, _, hv, h9, -⟩ := slF1_open hrl
      cases hv; exact h9
    obtain ⟨ft, htk, -⟩ := slF1_take hrl q hqn
    have HT := Lib.hid htk
    clear S1 hrl hrf hoA hoB hk hdl hi i1' i2 i3 i4 hU1 hu1 hq htk hl2 hf2
    go_wp2_with fail
    refine S2.out.mono ?_
    rintro e w2 ⟨⟨v3, rfl, fg, hrg, -, -⟩, hu2⟩
    obtain ⟨ag, cg, hvg, -, -, -⟩ := slF1_open hrg
    have hql : (L.take q).length = q := by rw [List.length_take]; omega
    rw [hql] at hvg
    subst hvg
    have HU2 := Lib.hid (HU1.out.trans hu2)
    have S3 := r8Texts _ _ (L.take q) (L.take q) w2 fg ft hrg (RSk.upd HT.out hu2 (by simp))
    rw [beq_self_eq_true] at S3
    have HS3 := Lib.hid S3
    have HLU := Lib.hid (RSk.upd HL.out hu2 (by simp))
    have HFU := Lib.hid (R1k.upd HF.out hu2 (by simp))
    clear S2 S3 hrg hu2 hql HL HF
    go_wp2_with fail
    refine HS3.out.mono ?_
    rintro e w3 ⟨rfl, hu3⟩
    have HU3 := Lib.hid (HU2.out.trans hu3)
    have HL3 := Lib.hid (RSk.upd HLU.out hu3 (by simp))
    have HF3 := Lib.hid (R1k.upd HFU.out hu3 (by simp))
    have hsrc := slF1_src HF3.out
    have hlit := World.ownsRow_lit (base := w3.heap.size) (e := 2) (size := 1) w3 #[] 0 (Nat.le_refl _) (by simp [maxLen]) (by simp)
    have hsrc2 : ∀ j u, (F.map ei)[j]? = some u → (w3.alloc (.cells #[] 2)).cell? ((⟨gf, 0, none⟩ : Addr).add j) = some u := fun j u hj => ((Upd.refl [] w3).alloc _).keep (hsrc.2 j u hj)
    have HSRC := Lib.hid hsrc2
    have HLIT := Lib.hid hlit
    clear HS3 hu3 HLU HFU hsrc hlit hsrc2 HT
    have b1 : ¬ L.length < q := by omega
    have b2 : ¬ q < m := by omega
    have b3 : (q : Int) ≤ (m : Int) + 1 := by omega
    have b4 : q ≤ cl := by omega
    have hsz3 := HU3.out.size
    have hown0 := HLIT.out
    go_wp2_with (first
      | (at_builtin; refine wpList_append_tight _ rfl _ _ 25 rfl w3.heap.size 2 i1 (.int .i64 0) 1 8 Tryz.underlying25 ki kz0 kz1 kz2 rfl (by decide) _ 0 [] rfl hown0 ⟨gf, 0, none⟩ F.length cf (F.map ei) rfl (by simp) HSRC.out (by simp [Value.oneCell']) (by unfold maxLen; omega) (by omega) (by simp) ?_)
      | fail)
    intro v4 w4 hown4 hg4 ht4
    have hu4 : Upd [] w3 w4 := ((Upd.refl [] w3).alloc _).grown hg4 (fun b hb => Or.inl (by have := (hown0.lt b hb).1; omega))
    have HU34 := Lib.hid hu4
    have HO4 := Lib.hid (show w4.ownsRow w3.heap.size 2 1 v4 F.length (F.map ei) by simpa using hown4)
    have hsz4 := hu4.size
    clear hown4 hg4 ht4 hu4 hown0 HLIT HSRC HF3 b1 b2 b3 b4
    obtain ⟨a4, c4, rfl⟩ := ownsRow_form HO4.out
    obtain ⟨bo, hbo⟩ : ∃ bo, ((F.length : Int) % 2 == 1) = bo := ⟨_, rfl⟩
    have HBO := Lib.hid (show (F.length % 2 = 1) ↔ bo = true by rw [← hbo]; simp; omega)
    go_upto_if 73 with (fail)
    clear hbo
    go_cut [10] (fun s10 wx => ∃ P : List Int, Hid (P = F ++ (if F.length % 2 = 1 then [1] else [])) ∧ Hid (wx.ownsRow w3.heap.size 2 1 s10 P.length (P.map ei)) ∧ P.length ≤ 16 ∧ Upd [] w3 wx)
    case first =>
      have hown0 := HO4.out
      cases bo with
      | false =>
        have HP := Lib.hid (show F = F ++ (if F.length % 2 = 1 then [(1 : Int)] else []) by rw [if_neg (by rw [HBO.out]; simp)]; simp)
        clear hown0
        go_wp2_with fail
        go_meet
        exact ⟨F, HP, HO4, by omega, HU34.out⟩
      | true =>
        have HP := Lib.hid (show F ++ [1] = F ++ (if F.length % 2 = 1 then [(1 : Int)] else []) by rw [if_pos (by rw [HBO.out])])
        go_wp2_with (first
          | (at_builtin; refine wpList_append_tight _ rfl _ _ 25 rfl w3.heap.size 2 i1 (.int .i64 0) 1 8 Tryz.underlying25 ki kz0 kz1 kz2 rfl (by decide) _ _ _ rfl (hown0.alloc _) ⟨w4.heap.size, 0, none⟩ 1 1 [ei 1] rfl rfl (fun j u hj => by rw [addr_add]; exact cell_new w4 #[ei 1] _ _ rfl _ _ (by simpa using hj)) (by simp [Value.oneCell']) (by unfold maxLen; omega) (by omega) (by simp; omega) ?_)
          | fail)
        intro v5 w5 hown5 hg5 ht5
        have hu5 : Upd [] w3 w5 := (HU34.out.alloc _).grown hg5 (fun b hb => Or.inl ((hown0.lt b hb).1))
        have HQ := Lib.hid (And.intro hown5 hu5)
        clear hown5 hg5 ht5 hu5 hown0
        go_wp2_with fail
        go_meet
        exact ⟨F ++ [1], HP, Lib.hid (by simpa using HQ.out.1), by simp; omega, HQ.out.2⟩
    case rest =>
      obtain ⟨P, HP, hown, hPl, hU⟩ := hcut
      clear HO4 HBO HU34
      go_wp2_with fail
      go_loopw [10, 11] (fun ov iv wr => ∃ k : Nat, iv = .int .i64 k ∧ k ≤ 2 * L.length + 4 ∧ Hid (wr.ownsRow w3.heap.size 2 1 ov (P ++ List.replicate k 0).length ((P ++ List.replicate k 0).map ei)) ∧ Upd [] w3 wr) (fun _ iv _ => 2 * L.length + 4 - (intOf iv).toNat)
      case atStart => exact ⟨0, rfl, by omega, Lib.hid (by simpa using hown.out), hU⟩
      case round =>
        clear hown hU
        obtain ⟨k, rfl, hk, hown, hU⟩ := hrel
        by_cases hlt : k < 2 * L.length + 4
        · have hown3 := hown.out
          have hpl : (P ++ List.replicate k (0 : Int)).length ≤ 100 := by simp; omega
          have HPK := Lib.hid (show (P ++ List.replicate k (0 : Int)) ++ [0] = P ++ List.replicate (k + 1) 0 by rw [List.replicate_succ', List.append_assoc])
          generalize P ++ List.replicate k (0 : Int) = Q at *
          have HU := Lib.hid hU
          have hszr := hU.size
          clear hown hU
          go_wp2_with (first
            | (at_builtin; refine wpList_append_tight _ rfl _ _ 25 rfl w3.heap.size 2 i1 (.int .i64 0) 1 8 Tryz.underlying25 ki kz0 kz1 kz2 rfl (by decide) _ _ _ rfl (hown3.alloc _) ⟨wr.heap.size, 0, none⟩ 1 1 [ei 0] rfl rfl (fun j u hj => by rw [addr_add]; exact cell_new wr #[ei 0] _ _ rfl _ _ (by simpa using hj)) (by simp [Value.oneCell']) (by unfold maxLen; omega) (by omega) (by simp; omega) ?_)
            | fail)
          intro v5 w5 hown5 hg5 ht5
          have hu5 : Upd [] w3 w5 := (HU.out.alloc _).grown hg5 (fun b hb => Or.inl ((hown3.lt b hb).1))
          have HQ := Lib.hid (And.intro hown5 hu5)
          clear hown5 hg5 ht5 hu5 hown3
          go_wp2_with fail
          go_roundw
          case rel => exact ⟨k + 1, by go_num, by omega, Lib.hid (by rw [← HPK.out]; simpa using HQ.out.1), HQ.out.2⟩
          case measure => simp [intOf]; omega
        · obtain rfl : k = 2 * L.length + 4 := by omega
          have hlf : P ++ List.replicate (2 * L.length + 4) 0 = longF F (2 * L.length + 4) := by unfold longF; rw [HP.out]
          have hown1 := hown.out
          rw [hlf] at hown1
          obtain ⟨ffl, hrf, -, -⟩ := New.ofOwns (w := w3) (e := 2) (enc := ei) hown1
          have hok := HOB.out
          obtain ⟨hk1, hk2⟩ := HK.out
          have hf200 := hok.f1
          obtain ⟨hx1, hx2⟩ := longF_all L F
          generalize longF F (2 * L.length + 4) = G at *
          obtain ⟨a7, c7, hv7⟩ := ownsRow_form hown1
          subst hv7
          have HU := Lib.hid (HU3.out.trans hU)
          have hrl := RSk.upd HL3.out hU (by simp)
          have S2 := fun (W : World) (hu : Upd [] wr W) => show Calls Tryz.prog 10 #[.slice (some ⟨gl, 0, none⟩) L.length cl, .slice a7 G.length c7] W (fun e w' => (∃ v', e = .returned (.tuple #[v', .int .i64 (endL L G).kn, .int .i64 0]) ∧ New RS W w' v' (L.take (endL L G).del.toNat)) ∧ Upd [] W w')
            from deliverLabels gl 0 L.length cl _ L G W fl ffl (RSk.upd hrl hu (by simp)) (R1k.upd hrf hu (by simp)) hok (HE.out.upd (HU.out.trans hu))
          rw [hk1, hk2, Int.toNat_natCast, List.take_length] at S2
          have HS2 := Lib.hid (S2 wr (Upd.refl _ _))
          have HS3 := Lib.hid (fun (W : World) (hu : Upd [] wr W) => roundsTo gl 0 L.length cl (.slice a7 G.length c7) L G W fl ffl (RSk.upd hrl hu (by simp)) (R1k.upd hrf hu (by simp)) hok (HE.out.upd (HU.out.trans hu)) hk1)
          have HL := Lib.hid hrl
          clear hown hown1 hrf hok hk1 hk2 hx1 hx2 hrl S2 hU HP HOB HK HL3 HU3 HE hlf
          go_wp2_with fail
          refine HS2.out.mono ?_
          rintro e w5 ⟨⟨v5, rfl, f5, hr5, -, -⟩, hu5⟩
          have HU5 := Lib.hid hu5
          have HR5 := Lib.hid hr5
          have HS4 := Lib.hid (HS3.out w5 hu5)
          clear HS2 HS3 hu5 hr5
          go_wp2_with fail
          refine HS4.out.mono ?_
          rintro e w6 ⟨⟨j, rfl, hj1, hj2⟩, hu6⟩
          have HU6 := Lib.hid (HU5.out.trans hu6)
          have S5 := r8Texts v5 _ L L w6 f5 fl (RSk.upd HR5.out hu6 (by simp)) (RSk.upd HL.out HU6.out (by simp))
          rw [beq_self_eq_true] at S5
          have HS5 := Lib.hid S5
          have q1 : (L.length : Int) ≤ (j : Int) := by omega
          have q2 : 2 * (j : Int) ≤ (G.length : Int) := by omega
          have q3 : L.length ≤ j := hj2
          clear HS4 hu6 S5 HU5 hj1 hj2
          go_wp2_with fail
          refine HS5.out.mono ?_
          rintro e w7 ⟨rfl, hu7⟩
          have HU7 := Lib.hid (HU.out.trans (HU6.out.trans hu7))
          clear HS5 hu7 HU6
          go_wp2_with fail
          go_ret
          exact ⟨by first | rfl | simp, HU7.out⟩
  · obtain ⟨a, cap, rfl, h1, h2, -⟩ := slF1_open hR
    obtain ⟨a', cap', rfl, h1', h2', -⟩ := slF1_open hM
    unfold maxLen at h2 h2'
    have S0 : Hid (Calls Tryz.prog 8 #[.slice a code.length cap, .slice a' more.length cap'] w fun e w' => e = .returned (.bool true) ∧ w = w') := Lib.hid (by
      clear hR hM hb hbm he
      by_cases hc : code.length ≤ 1048576
      · have hm : ¬ more.length ≤ 1048576 := fun h => hlen ⟨hc, h⟩
        clear hlen
        go_enter Tryz.func8, Tryz.ntmps8
        go_wp2_with fail
        go_ret
        exact ⟨by first | (simp; omega) | simp | (simp [*]), rfl⟩
      · clear hlen
        go_enter Tryz.func8, Tryz.ntmps8
        go_wp2_with fail
        go_ret
        exact ⟨by first | (simp; omega) | simp | (simp [*]), rfl⟩)
    clear hR hM hb hbm hlen he
    go_enter Tryz.func3, Tryz.ntmps3
    go_wp2_with fail
    refine S0.out.mono ?_
    rintro e w1 ⟨rfl, rfl⟩
    go_wp2_with fail
    go_ret
    exact ⟨rfl, Upd.refl _ _⟩

end Go.Proofs.YtkhifpgpkklokaaGreatDoor

/-
  What the listed variables and the world's shape give the walks of labels.
-/
namespace Go.Proofs.YtkhifpgpkklokaaGreatDoor
open Go.RowKit Go.ChangeShapes

theorem errStar : "*" ++ "errors.errorString" = "*errors.errorString" := by decide
theorem errRow (u : TypeId) (h : Tryz.prog.typeName? 3 u = some "*errors.errorString") : u = 196 :=
  typeName_ptr_named (nm := "errors.errorString") (by rw [errStar]; kernel_rfl) (by kernel_rfl) (by decide) u (by rw [errStar]; exact h)

theorem env_of {W : World} {r1 r2 r3 : List (String × DataW Unit)} {d : DataW Unit} {x1 x2 : List UInt8} (hd : d = Lib.tabData .u64 Lib.pow10Tab)
    (h1 : laidMet Tryz.prog (("internal/strconv.uint64pow10", d) :: r1) W)
    (h2 : laidMet Tryz.prog (("strconv.ErrRange", .iface "*errors.errorString" (.ptr (.agg [.lit (.string x1)]))) :: r2) W)
    (h3 : laidMet Tryz.prog (("strconv.ErrSyntax", .iface "*errors.errorString" (.ptr (.agg [.lit (.string x2)]))) :: r3) W)
    (hs : W.ShapedOpen Tryz.prog) : Env W := by
  subst hd
  refine ⟨?_, ?_, ?_, ?_⟩
  · exact cell_of_shapedOpen_int (g := 0) (zero := #[.int .i64 0]) (t := 3) hs (of_decide_eq_true (by kernel_rfl)) (by kernel_rfl) rfl (by kernel_rfl) (by kernel_rfl) Tryz.underlying3
  · exact Lib.tabIs_of_head (g := 5) (t := 200) (e := 95) (n := 20) (by kernel_rfl) (by kernel_rfl) Tryz.underlying200 Tryz.underlying95 (by kernel_rfl) (by kernel_rfl) h1
  · obtain ⟨a, s, hv, -⟩ := laid_sentinel (g := 3) (ti := 110) (tp := 196) (te := 198) (ts := 9) h3 (by kernel_rfl) (by kernel_rfl) Tryz.underlying110 errRow Tryz.underlying196 Tryz.underlying198 rfl rfl Tryz.underlying9 (by kernel_rfl) (by kernel_rfl)
    exact ⟨_, _, hv⟩
  · obtain ⟨a, s, hv, -⟩ := laid_sentinel (g := 4) (ti := 110) (tp := 196) (te := 198) (ts := 9) h2 (by kernel_rfl) (by kernel_rfl) Tryz.underlying110 errRow Tryz.underlying196 Tryz.underlying198 rfl rfl Tryz.underlying9 (by kernel_rfl) (by kernel_rfl)
    exact ⟨_, _, hv⟩

/-- the wrap with a condition on the world, the world's shape kept. -/
theorem handed_and_shaped {H : Type} {enc : TypeId × Value → H} {a : Assume} {C : Checked} {os : Os} {f : FuncId} {fn : Func} {s : ChangeSpec} {conds : List PathCond} {apart fresh handsOn twice : Bool} {X : World → Array Value → Prop}
    (hX : ∀ (w w' : World) (args : Array Value), w.heap = w'.heap → X w args → X w' args)
    (own : ownKnob C.prog.godebug = none) (started : os.Started) (noInit : C.prog.inits.idxOf? f = none) (hfn : C.prog.funcs[f]? = some fn)
    (witness : ∃ (w : World) (tape : Tape) (i : Input), w.os = os ∧ (w.forCall tape i).Shaped C.prog ∧ i.vars = [] ∧ Input.okWide C.prog (w.forCall tape i) .any w.heap.size f i ∧
      ((s.pre enc C.prog fn conds apart (w.forCall tape i).memory i.args ∧ X (w.forCall tape i).memory i.args) ∧ sizedMet enc C.prog fn (OpenSpec.ofChange s) apart (w.forCall tape i).memory i.args) ∧ a.holds C.prog (lone (Frame.enter C.prog f i.args CallKind.normal) [] (w.forCall tape i)))
    (contract : ∀ (W : World) (base : Nat) (args : Array Value) (ds gs : List (DataW H)) (before : List MemPlace),
      (∀ (j : Nat) t v, fn.params[j]? = some t → args[j]? = some v → Value.okWide C.prog W .any base t v) →
      DataW.Whole enc C.prog fn.params.toList s.vars apart W args.toList ds gs before →
      conds.all (PathCond.test C.prog ⟨fn.params.toList, ds, s.plain.varTypes C.prog, gs⟩) = true → X W args →
      W.ShapedOpen C.prog →
      Calls C.prog f args W fun e W' => ∃ v, e = .returned v ∧ s.post enc C.prog fn apart fresh handsOn twice W args v W') :
    ReturnsInHanded a C os f .any (fun w args => (s.pre enc C.prog fn conds apart w args ∧ X w args) ∧ sizedMet enc C.prog fn (OpenSpec.ofChange s) apart w args) (s.post enc C.prog fn apart fresh handsOn twice) := by
  refine returnsInHanded_of_calls own started noInit witness ?_
  intro w tape i _ hsh _ hok hpre _
  obtain ⟨_, _, _, fn', hfn', _, _, _, _, hval⟩ := hok
  have e : fn' = fn := Option.some.inj (hfn'.symm.trans hfn)
  subst e
  obtain ⟨⟨⟨ds, gs, before, hw, hc⟩, hx⟩, hz⟩ := hpre
  have hw' := DataW.Whole.of_heap (w' := w.forCall tape i) (by rfl) hw
  refine (contract (w.forCall tape i) w.heap.size i.args ds gs before hval hw' hc (hX _ _ _ (by rfl) hx) hsh).mono fun e W' ⟨v, he, hp⟩ => ?_
  subst he
  exact ChangeSpec.post_blind hp

end Go.Proofs.YtkhifpgpkklokaaGreatDoor
