/-
  The values of a label, read by the reference.
-/
import Derived.Test.YtkhifpgpkklokaaGreatDoorLabSv
import Derived.Test.YtkhifpgpkklokaaGreatDoorLabSq
import Derived.Test.YtkhifpgpkklokaaGreatDoorLabB
namespace Go.Proofs.YtkhifpgpkklokaaGreatDoor
open Go.RowKit

theorem inS (n : Int) (w : World) : Calls Tryz.prog 78 #[.int .i64 n, .int .i64 0, .int .i64 63] w fun e w' => e = .returned (.bool (isV n)) ∧ w = w' := by
  by_cases h1 : 0 ≤ n
  · by_cases h2 : n ≤ 63
    · have HR := Lib.hid (show isV n = true from inB_mk ⟨h1, h2⟩)
      go_enter Tryz.func78, Tryz.ntmps78
      go_wp2_with fail
      go_ret
      exact ⟨by rw [HR.out]; rfl, rfl⟩
    · have HR := Lib.hid (show isV n = false by
        cases h : isV n with
        | false => rfl
        | true => have := inB_true h; omega)
      go_enter Tryz.func78, Tryz.ntmps78
      go_wp2_with fail
      go_ret
      exact ⟨by rw [HR.out]; rfl, rfl⟩
  · have HR := Lib.hid (show isV n = false by
      cases h : isV n with
      | false => rfl
      | true => have := inB_true h; omega)
    go_enter Tryz.func78, Tryz.ntmps78
    go_wp2_with fail
    go_ret
    exact ⟨by rw [HR.out]; rfl, rfl⟩

def ValuesS (s : List UInt8) (w : World) (e : Ending) (w' : World) : Prop :=
  (∃ v' vs, e = .returned (.tuple #[v', .bool (readF s).isSome]) ∧ New R1 w w' v' vs ∧ Hid (∀ us, (readF s).map (·.2) = some us → vs = us)) ∧ Upd [] w w'

theorem splitC_len' (c : UInt8) : ∀ l : List UInt8, (splitC c l).length ≤ l.length + 1 ∧ ∀ p ∈ splitC c l, p.length ≤ l.length
  | [] => by simp [splitC]
  | b :: l => by
    obtain ⟨h1, h2⟩ := splitC_len' c l
    by_cases hb : b = c
    · subst hb
      have e : splitC b (b :: l) = [] :: splitC b l := by rw [splitC, if_pos rfl]
      rw [e]
      refine ⟨by simp; omega, fun p hp => ?_⟩
      rcases List.mem_cons.1 hp with rfl | hp
      · simp
      · have := h2 p hp; simp; omega
    · obtain ⟨p, ps, e1, e2⟩ := splitC_cons c b l hb
      rw [e2]
      rw [e1] at h1 h2
      refine ⟨by simp at h1 ⊢; omega, fun q hq => ?_⟩
      rcases List.mem_cons.1 hq with rfl | hq
      · have := h2 p (by simp); simp; omega
      · have := h2 q (by simp [hq]); simp; omega

/-- what the loop over the words gives. -/
def loopV (ps : List (List UInt8)) : Option (List Int) := match numsF ps with
  | none => none
  | some vs => if vs.all isV then some vs else none

theorem loopV_cons (p : List UInt8) (ps : List (List UInt8)) : loopV (p :: ps) = (numF p).bind fun n => if isV n then (loopV ps).map (n :: ·) else none := by
  unfold loopV
  rw [numsF_cons]
  cases numF p with
  | none => rfl
  | some n =>
    cases numsF ps with
    | none => simp
    | some vs =>
      cases h1 : isV n <;> cases h2 : vs.all isV <;> simp [h1, h2]

theorem readF_isSome (s : List UInt8) : (readF s).isSome = (specV s).isSome := by rw [specV_readF]; cases readF s <;> rfl

set_option maxRecDepth 20000 in
set_option maxHeartbeats 4000000 in
theorem valuesS (l : List UInt8) (w : World) (hl : l.length ≤ 2000000) : Calls Tryz.prog 103 #[es l] w (ValuesS l w) := by
  obtain ⟨i1, ki, kz0, kz1, kz2⟩ := info_parts Tryz.info2
  have S1 := Lib.hid (openS l w hl)
  have hle := open_le l
  have HV := Lib.hid (show (readF l).map (·.2) = specV l from (specV_readF l).symm)
  have HI := Lib.hid (readF_isSome l)
  by_cases hat : openAt l = l.length
  · have hsp : specV l = if nameF l = true then some [] else none := by unfold specV; rw [if_pos hat]
    have S2 := Lib.hid (fun w1 : World => nameS l w1 hl)
    obtain ⟨f0, hR0, hO0, hG0⟩ := new_lit (enc := ei) w 2 [] (by simp [maxLen])
    have HN := Lib.hid (show New R1 w (w.alloc (.cells #[] 2)) (.slice (some ⟨w.heap.size, 0, none⟩) 0 0) [] from ⟨f0, hR0, hO0, hG0⟩)
    rw [hat] at S1
    have HS := Lib.hid (show (readF l).isSome = nameF l by rw [HI.out, hsp]; cases nameF l <;> rfl)
    have HU := Lib.hid (show ∀ us, (readF l).map (·.2) = some us → ([] : List Int) = us by
      intro us hus
      rw [HV.out, hsp] at hus
      split at hus
      · simpa using hus
      · cases hus)
    clear hsp hR0 hO0 hG0 HV HI hat hle
    go_enter Tryz.func103, Tryz.ntmps103
    go_wp2_with fail
    refine S1.out.mono ?_
    rintro e w1 ⟨rfl, rfl⟩
    clear S1
    have S2 := Lib.hid (S2.out (w.alloc (.cells #[] 2)))
    go_wp2_with fail
    refine S2.out.mono ?_
    rintro e w1 ⟨rfl, rfl⟩
    clear S2
    go_wp2_with fail
    go_ret2
    exact ⟨⟨_, [], by rw [HS.out]; rfl, HN.out, HU⟩, (Upd.refl _ _).alloc _⟩
  · obtain ⟨hs40, hno⟩ := open_lt hat
    obtain ⟨A, hA⟩ : ∃ A, openAt l = A := ⟨_, rfl⟩
    obtain ⟨m, hm⟩ : ∃ m, l.length = m + 1 := ⟨l.length - 1, by omega⟩
    have hAm : A ≤ m := by omega
    obtain ⟨b, hb⟩ : ∃ b, l[m]'(by omega) = b := ⟨_, rfl⟩
    have hix : (⟨l.toArray⟩ : ByteArray)[m]'(by simp [ByteArray.size]; omega) = b := by rw [← hb]; simp [ByteArray.getElem_eq_getElem_data]
    have hlast : l.getLast? = some b := by
      rw [List.getLast?_eq_getElem?, ← hb, List.getElem?_eq_getElem (by omega)]
      congr 1
      simp [hm]
    have hext := extract_list l 0 A
    rw [List.drop_zero, Nat.sub_zero] at hext
    have hsp : specV l = if actF (l.take A) = true ∧ b = 41 then (loopV (splitC 44 ((l.drop (A + 1)).take (m - (A + 1))))).bind (fun vs => if vs.length ≤ 2 then some vs else none) else none := by
      unfold specV
      rw [if_neg hat, hA, hlast, hm]
      simp only [Option.some.injEq, Nat.add_sub_cancel]
      by_cases hc : actF (l.take A) = true ∧ b = 41
      · rw [if_pos hc, if_pos hc]
        unfold loopV
        cases numsF (splitC 44 ((l.drop (A + 1)).take (m - (A + 1)))) with
        | none => rfl
        | some vs => by_cases h1 : vs.all isV = true <;> by_cases h2 : vs.length ≤ 2 <;> simp [h1, h2]
      · rw [if_neg hc, if_neg hc]
    have hA40 : A = m → b = 40 := by
      intro e
      rw [hA] at hs40
      have h1 : l[A]? = some 40 := by
        have hl1 : (l.take A).length = A := by simp; omega
        rw [hs40, List.getElem?_append_right (by omega), hl1]; simp
      subst e
      rw [List.getElem?_eq_getElem (by omega), hb] at h1
      exact Option.some.inj h1
    have hext2 := extract_list l (A + 1) m
    rw [hA] at S1
    have hnl : (l.take A).length ≤ 2000000 := by simp; omega
    have hil : ((l.drop (A + 1)).take (m - (A + 1))).length ≤ 2000000 := by simp; omega
    have S2 := Lib.hid (actionS (l.take A) w hnl)
    have S3 := Lib.hid (show Calls Tryz.prog 76 #[es ((l.drop (A + 1)).take (m - (A + 1))), .int .u8 ((44 : UInt8).toNat : Int)] w (fun e w' => (∃ v', e = .returned v' ∧ New RS w w' v' (splitC 44 ((l.drop (A + 1)).take (m - (A + 1))))) ∧ Upd [] w w') from splitS _ 44 w hil)
    generalize l.take A = nm at *
    generalize (l.drop (A + 1)).take (m - (A + 1)) = inr5 at *
    obtain ⟨hpc1, hpc2⟩ := splitC_len' 44 inr5
    have HPC := Lib.hid (show ∀ p ∈ splitC 44 inr5, p.length ≤ 2000000 from fun p hp => Nat.le_trans (hpc2 p hp) hil)
    have hpc3 : (splitC 44 inr5).length ≤ 2000001 := by omega
    generalize splitC 44 inr5 = ps at *
    have gA : ((A : Int) == (m : Int) + 1) = false := by rw [beq_eq_false_iff_ne]; omega
    have hA1 : A < m + 1 := by omega
    clear hat hs40 hno hA hb hlast hpc1 hpc2 hle
    cases ha : actF nm with
    | false =>
      have HS := Lib.hid (show readF l = none by
        have h1 := HI.out
        rw [hsp, if_neg (by rw [ha]; simp)] at h1
        cases hr : readF l with
        | none => rfl
        | some x => rw [hr] at h1; cases h1)
      rw [ha] at S2
      clear hsp ha HV HI hA40 S3
      go_enter Tryz.func103, Tryz.ntmps103
      go_wp2_with fail
      refine S1.out.mono ?_
      rintro e w1 ⟨rfl, rfl⟩
      clear S1
      go_wp2_with fail
      refine S2.out.mono ?_
      rintro e w1 ⟨rfl, rfl⟩
      clear S2
      go_wp2_with fail
      go_ret2
      exact ⟨⟨_, [], by rw [HS.out]; rfl, new_nil _ _, Lib.hid (fun us hus => by rw [HS.out] at hus; cases hus)⟩, Upd.refl _ _⟩
    | true =>
      rw [ha] at S2
      by_cases h41 : b = 41
      · have hAlt : A + 1 ≤ m := by
          rcases Nat.lt_or_ge A m with h | h
          · exact h
          · have := hA40 (by omega); rw [h41] at this; cases this
        rw [if_pos ⟨ha, h41⟩] at hsp
        have HSP := Lib.hid hsp
        subst h41
        clear hsp ha hA40
        go_enter Tryz.func103, Tryz.ntmps103
        go_wp2_with fail
        refine S1.out.mono ?_
        rintro e w1 ⟨rfl, rfl⟩
        clear S1
        go_wp2_with fail
        refine S2.out.mono ?_
        rintro e w1 ⟨rfl, rfl⟩
        clear S2
        go_wp2_with fail
        refine S3.out.mono ?_
        rintro e w3 ⟨⟨v3, rfl, fq, hq1, hq2, hq3⟩, hu3⟩
        obtain ⟨a3, c3, rfl, hc1, hc2, -⟩ := slF1_open hq1
        unfold maxLen at hc2
        have HR := Lib.hid hq1
        have hlit := World.ownsRow_lit (base := w3.heap.size) (e := 2) (size := 1) w3 #[] 0 (Nat.le_refl _) (by simp [maxLen]) (by simp)
        have HLIT := Lib.hid hlit
        have HU3 := Lib.hid hu3
        have hsz3 := hu3.size
        clear S3 hq1 hq2 hq3 hu3 hlit
        go_wp2_with fail
        go_loopw [6, 7] (fun ov iv wr => ∃ (k : Nat) (ns : List Int), k ≤ ps.length ∧ iv = .int .i64 k ∧ ns.length = k ∧ Hid (loopV ps = (loopV (ps.drop k)).map (ns ++ ·)) ∧ Hid (wr.ownsRow w3.heap.size 2 1 ov k (ns.map ei)) ∧ Upd [] w3 wr) (fun _ iv _ => ps.length - (intOf iv).toNat)
        case atStart => exact ⟨0, [], by omega, rfl, rfl, Lib.hid (by simp), HLIT, (Upd.refl _ _).alloc _⟩
        case round =>
          clear HLIT
          obtain ⟨k, ns, hk, rfl, hnl2, hF, hown, hU⟩ := hrel
          have HNL := Lib.hid hnl2
          clear hnl2
          have hszr := hU.size
          by_cases hlt : k < ps.length
          · obtain ⟨a', cap', hv, -, -, hc⟩ := slF1_open ((slF_kept _ _).upd HR.out hU (by simp))
            cases hv
            obtain ⟨b1, o1, rfl, -, -, p1⟩ := hc k hlt
            have hF1 := hF.out
            rw [List.drop_eq_getElem_cons hlt, loopV_cons] at hF1
            have hpk := HPC.out ps[k] (List.getElem_mem hlt)
            have HF := Lib.hid hF1
            have HU := Lib.hid hU
            clear hF1 hF hc hU
            generalize ps[k] = s at *
            have T1 := Lib.hid (numberS s wr hpk)
            cases hn : numF s with
            | none =>
              rw [hn] at HF
              have HRF := Lib.hid (show readF l = none by
                have h1 := HI.out
                rw [HSP.out, HF.out] at h1
                cases hr : readF l with
                | none => rfl
                | some x => rw [hr] at h1; cases h1)
              have T1' := T1.out
              unfold NumS at T1'
              rw [hn] at T1'
              have T2 := Lib.hid T1'
              clear HF T1 T1' hn
              go_wp2_with fail
              refine T2.out.mono ?_
              rintro e w5 ⟨rfl, rfl⟩
              clear T2
              go_wp2_with fail
              go_ret2
              exact ⟨⟨_, [], by rw [HRF.out]; rfl, new_nil _ _, Lib.hid (fun us hus => by rw [HRF.out] at hus; cases hus)⟩, HU3.out.trans HU.out⟩
            | some x =>
              rw [hn] at HF
              have T1' := T1.out
              unfold NumS at T1'
              rw [hn] at T1'
              have T2 := Lib.hid T1'
              have T3 := Lib.hid (inS x wr)
              clear T1 T1' hn
              cases hx : isV x with
              | false =>
                have HRF := Lib.hid (show readF l = none by
                  have h1 := HI.out
                  rw [HSP.out, HF.out] at h1
                  simp only [Option.bind_some, hx, Bool.false_eq_true, if_false] at h1
                  cases hr : readF l with
                  | none => rfl
                  | some x => rw [hr] at h1; cases h1)
                rw [hx] at T3
                clear HF hx
                go_wp2_with fail
                refine T2.out.mono ?_
                rintro e w5 ⟨rfl, rfl⟩
                clear T2
                simp only [Option.getD_some, Option.isSome_some]
                go_wp2_with fail
                refine T3.out.mono ?_
                rintro e w5 ⟨rfl, rfl⟩
                clear T3
                go_wp2_with fail
                go_ret2
                exact ⟨⟨_, [], by rw [HRF.out]; rfl, new_nil _ _, Lib.hid (fun us hus => by rw [HRF.out] at hus; cases hus)⟩, HU3.out.trans HU.out⟩
              | true =>
                have HN := Lib.hid (show loopV ps = (loopV (ps.drop (k + 1))).map ((ns ++ [x]) ++ ·) by
                  rw [HF.out]
                  simp only [Option.bind_some, hx, if_true]
                  cases loopV (ps.drop (k + 1)) <;> simp)
                rw [hx] at T3
                have hown3 := hown.out
                clear HF hx hown
                go_wp2_with fail
                refine T2.out.mono ?_
                rintro e w5 ⟨rfl, rfl⟩
                clear T2
                simp only [Option.getD_some, Option.isSome_some]
                go_wp2_with fail
                refine T3.out.mono ?_
                rintro e w5 ⟨rfl, rfl⟩
                clear T3
                go_wp2_with (first
                  | (at_builtin; refine wpList_append_tight _ rfl _ _ 25 rfl w3.heap.size 2 i1 (.int .i64 0) 1 8 Tryz.underlying25 ki kz0 kz1 kz2 rfl (by decide) _ _ _ rfl (hown3.alloc _) ⟨wr.heap.size, 0, none⟩ 1 1 [ei x] rfl rfl (fun j u hj => by rw [addr_add]; exact cell_new wr #[ei x] _ _ rfl _ _ (by simpa using hj)) (by simp [Value.oneCell']) (by unfold maxLen; omega) (by omega) (by simp; omega) ?_)
                  | fail)
                intro v4 w4 hown4 hg4 ht4
                have hu4 := (HU.out.alloc _).grown hg4 (fun b hb => Or.inl (by have := (hown3.lt b hb).1; omega))
                have HQ := Lib.hid (And.intro hown4 hu4)
                clear hown4 hg4 ht4 hu4 hown3
                go_wp2_with fail
                go_roundw
                case rel => exact ⟨k + 1, ns ++ [x], by omega, by go_num, by simp [HNL.out], HN, Lib.hid (by simpa using HQ.out.1), HQ.out.2⟩
                case measure => simp [intOf]; omega
          · obtain rfl : k = ps.length := by omega
            have hF1 := hF.out
            rw [List.drop_of_length_le (Nat.le_refl _)] at hF1
            have hl0 : loopV ps = some ns := by rw [hF1]; simp [loopV, numsF]
            have hs2 : specV l = if ns.length ≤ 2 then some ns else none := by rw [HSP.out, hl0]; rfl
            rw [HNL.out] at hs2
            have HS := Lib.hid (show (readF l).isSome = decide (ps.length ≤ 2) by
              rw [HI.out, hs2]
              by_cases h : ps.length ≤ 2 <;> simp [h])
            have HU5 := Lib.hid (show ∀ us, (readF l).map (·.2) = some us → ns = us by
              intro us hus
              rw [HV.out, hs2] at hus
              split at hus
              · simpa using hus
              · cases hus)
            obtain ⟨a6, c6, hv6⟩ := ownsRow_form hown.out
            have HQ := Lib.hid (And.intro ((New.ofOwns (w := w3) (e := 2) (enc := ei) (xs := ns) (by rw [HNL.out]; exact hown.out)).mono hsz3) (HU3.out.trans hU))
            subst hv6
            clear hown hU hF hF1 hl0 hs2
            by_cases h2 : ps.length ≤ 2
            · rw [decide_eq_true h2] at HS
              have h2' : (ps.length : Int) ≤ 2 := by omega
              go_wp2_with fail
              go_ret2
              exact ⟨⟨_, ns, by rw [HS.out]; rfl, HQ.out.1, HU5⟩, HQ.out.2⟩
            · rw [decide_eq_false h2] at HS
              have h2' : ¬ (ps.length : Int) ≤ 2 := by omega
              go_wp2_with fail
              go_ret2
              exact ⟨⟨_, ns, by rw [HS.out]; rfl, HQ.out.1, HU5⟩, HQ.out.2⟩
      · have hne : ((b.toNat : Int) == 41) = false := byte_ne (n := 41) (by omega) h41
        have HS := Lib.hid (show readF l = none by
          have h1 := HI.out
          rw [hsp, if_neg (fun h => h41 h.2)] at h1
          cases hr : readF l with
          | none => rfl
          | some x => rw [hr] at h1; cases h1)
        clear hsp ha HV HI hA40 S3
        go_enter Tryz.func103, Tryz.ntmps103
        go_wp2_with fail
        refine S1.out.mono ?_
        rintro e w1 ⟨rfl, rfl⟩
        clear S1
        go_wp2_with fail
        refine S2.out.mono ?_
        rintro e w1 ⟨rfl, rfl⟩
        clear S2
        go_wp2_with fail
        go_ret2
        exact ⟨⟨_, [], by rw [HS.out]; rfl, new_nil _ _, Lib.hid (fun us hus => by rw [HS.out] at hus; cases hus)⟩, Upd.refl _ _⟩

end Go.Proofs.YtkhifpgpkklokaaGreatDoor
