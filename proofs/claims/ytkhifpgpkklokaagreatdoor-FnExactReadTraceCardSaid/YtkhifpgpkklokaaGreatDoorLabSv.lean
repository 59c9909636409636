/-
  The values of a label, as the reference reads them, are those that the program reads.
-/
import Derived.Test.YtkhifpgpkklokaaGreatDoorLabSn
namespace Go.Proofs.YtkhifpgpkklokaaGreatDoor
open Go.RowKit

theorem open_app : ∀ (p r : List UInt8), (40 : UInt8) ∉ p → openAt (p ++ 40 :: r) = p.length
  | [], r, _ => by simp [openAt]
  | b :: p, r, h => by
    have h1 : b ≠ 40 := fun e => h (by simp [e])
    have h2 := open_app p r (fun hm => h (List.mem_cons_of_mem _ hm))
    unfold openAt at h2 ⊢
    rw [List.cons_append, List.takeWhile_cons, if_pos (by simpa using h1), List.length_cons, h2, List.length_cons]
theorem open_no {s : List UInt8} (h : (40 : UInt8) ∉ s) : openAt s = s.length := by
  unfold openAt; rw [tw_all s (fun x hx e => h (e ▸ hx))]
theorem open_le (s : List UInt8) : openAt s ≤ s.length := by
  unfold openAt
  induction s with
  | nil => simp
  | cons b s ih =>
    rw [List.takeWhile_cons]
    split
    · simp only [List.length_cons]; omega
    · simp
theorem open_lt : ∀ {s : List UInt8}, openAt s ≠ s.length → s = s.take (openAt s) ++ 40 :: s.drop (openAt s + 1) ∧ (40 : UInt8) ∉ s.take (openAt s) := by
  intro s hne
  by_cases hm : (40 : UInt8) ∈ s
  · obtain ⟨p, r, e, hp⟩ : ∃ p r, s = p ++ 40 :: r ∧ (40 : UInt8) ∉ p := by
      clear hne
      induction s with
      | nil => cases hm
      | cons b s ih =>
        by_cases hb : b = 40
        · exact ⟨[], s, by simp [hb], by simp⟩
        · obtain ⟨p, r, e, hp⟩ := ih (by rcases List.mem_cons.1 hm with h | h; · exact absurd h.symm hb
                                         · exact h)
          exact ⟨b :: p, r, by simp [e], fun h => by rcases List.mem_cons.1 h with h | h; · exact hb h.symm
                                                     · exact hp h⟩
    subst e
    rw [open_app p r hp]
    simp [hp]
  · exact absurd (open_no hm) hne

/-- the values of a label, as the reference reads them. -/
def specV (s : List UInt8) : Option (List Int) :=
  if openAt s = s.length then (if nameF s = true then some [] else none)
  else if actF (s.take (openAt s)) = true ∧ s.getLast? = some 41 then
    match numsF (splitC 44 ((s.drop (openAt s + 1)).take (s.length - 1 - (openAt s + 1)))) with
    | none => none
    | some vs => if vs.all isV = true ∧ vs.length ≤ 2 then some vs else none
  else none

theorem nameF_split {s : List UInt8} (h : nameF s = true) : labT s [] = some s := by
  unfold labT
  by_cases ht : s = tauL
  · rw [if_pos ht, if_pos rfl, ht]
  · rw [if_neg ht]
    have : actF s = true := by
      unfold actF; rw [h]; simpa using ht
    rw [this]; simp

theorem specV_labT {name s : List UInt8} {vs : List Int} (h : labT name vs = some s) : specV s = some vs := by
  unfold labT at h
  split at h
  · rename_i ht
    split at h
    · rename_i hv
      cases h; subst hv; rfl
    · cases h
  · rename_i ht
    split at h
    · rename_i hc
      simp only [Bool.and_eq_true, decide_eq_true_eq] at hc
      obtain ⟨⟨ha, hl⟩, hv⟩ := hc
      have hno := name_char (actF_name ha).1 40 (by decide) (by decide)
      split at h
      · rename_i hve
        cases h; subst hve
        unfold specV
        rw [if_pos (open_no hno), if_pos (actF_name ha).1]
      · rename_i hve
        cases h
        have e : ((name ++ [40]) ++ txtV vs) ++ [41] = name ++ 40 :: (txtV vs ++ [41]) := by simp
        have hsp : splitC 44 (txtV vs) = vs.map Lib.itoa := by
          refine split_join 44 _ (by simpa using hve) (fun p hp => ?_)
          obtain ⟨n, -, rfl⟩ := List.mem_map.1 hp
          exact itoa_no n 44 (by decide) (by decide)
        have hnum := numsF_itoa vs (fun n hn => itoa_len64 (List.all_eq_true.1 hv n hn))
        unfold specV
        rw [e, open_app _ _ hno, if_neg (by simp), if_pos ⟨by simpa using ha, by rw [show name ++ 40 :: (txtV vs ++ [41]) = (name ++ 40 :: txtV vs) ++ [41] by simp]; exact List.getLast?_concat⟩]
        have e2 : ((name ++ 40 :: (txtV vs ++ [41])).drop (name.length + 1)).take ((name ++ 40 :: (txtV vs ++ [41])).length - 1 - (name.length + 1)) = txtV vs := by
          have e3 : (name ++ 40 :: (txtV vs ++ [41])).drop (name.length + 1) = txtV vs ++ [41] := by
            rw [List.drop_append]; simp
          rw [e3]
          have e4 : (name ++ 40 :: (txtV vs ++ [41])).length - 1 - (name.length + 1) = (txtV vs).length := by simp; omega
          rw [e4, List.take_left']; rfl
        rw [e2, hsp, hnum]
        simp [hv, hl]
    · cases h

theorem labT_specV {s : List UInt8} {vs : List Int} (h : specV s = some vs) : ∃ name, labT name vs = some s := by
  unfold specV at h
  split at h
  · split at h
    · rename_i hn
      cases h
      exact ⟨s, nameF_split hn⟩
    · cases h
  · rename_i hne
    split at h
    · rename_i hc
      obtain ⟨ha, hlast⟩ := hc
      obtain ⟨hs, hno⟩ := open_lt hne
      split at h
      · cases h
      · rename_i vs' hnum
        split at h
        · rename_i hv
          cases h
          obtain ⟨hv1, hv2⟩ := hv
          refine ⟨s.take (openAt s), ?_⟩
          have hparts := (numsF_some hnum).1
          have hj := congrArg (joinC 44) hparts
          rw [join_split] at hj
          obtain ⟨-, ht⟩ := actF_name ha
          have hvne : vs ≠ [] := by
            intro e
            rw [e] at hparts
            exact splitC_ne 44 _ hparts
          unfold labT
          rw [if_neg ht, ha]
          simp only [Bool.true_and, hv1, Bool.and_true, decide_eq_true_eq, if_pos hv2, if_neg hvne]
          congr 1
          have hin : s.drop (openAt s + 1) = txtV vs ++ [41] := by
            have hlen := open_le s
            have hl2 : openAt s < s.length := by omega
            have hdl : (s.drop (openAt s + 1)).getLast? = some 41 := by
              have hr : s.drop (openAt s + 1) ≠ [] := by
                intro e
                rw [hs, e] at hlast
                simp at hlast
              rw [hs, List.getLast?_append] at hlast
              rw [List.getLast?_cons] at hlast
              cases hq : (s.drop (openAt s + 1)).getLast? with
              | none => exact absurd (List.getLast?_eq_none_iff.1 hq) hr
              | some x => rw [hq] at hlast; simpa using hlast
            obtain ⟨ys, hys⟩ := List.getLast?_eq_some_iff.1 hdl
            have hyl : ys.length = s.length - 1 - (openAt s + 1) := by
              have := congrArg List.length hys
              simp at this; omega
            rw [hys] at hj
            rw [← hyl, List.take_left'] at hj
            · rw [hys, hj]; rfl
            · rfl
          conv => rhs; rw [hs, hin]
          simp
        · cases h
    · cases h

/-- both sides read the same values. -/
theorem specV_readF (s : List UInt8) : specV s = (readF s).map (·.2) := by
  cases hr : readF s with
  | some x =>
    obtain ⟨n, vs⟩ := x
    exact specV_labT (readF_some hr)
  | none =>
    cases hs : specV s with
    | none => rfl
    | some vs =>
      obtain ⟨n, hn⟩ := labT_specV hs
      rw [readF_labT hn] at hr; cases hr

end Go.Proofs.YtkhifpgpkklokaaGreatDoor
