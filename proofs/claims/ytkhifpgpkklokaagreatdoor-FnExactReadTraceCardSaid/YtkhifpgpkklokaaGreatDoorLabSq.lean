/-
  A text divided at each byte by the reference.
-/
import Derived.Test.YtkhifpgpkklokaaGreatDoorLabB
namespace Go.Proofs.YtkhifpgpkklokaaGreatDoor
open Go.RowKit

theorem extract_list (l : List UInt8) (a b : Nat) : (⟨l.toArray⟩ : ByteArray).extract a b = ⟨((l.drop a).take (b - a)).toArray⟩ := by
  apply ByteArray.ext
  apply Array.ext'
  simp [ByteArray.data_extract, List.take_drop]
  first | done | (rw [List.drop_take]) | skip

def SplitV (c : UInt8) (l : List UInt8) (w : World) (e : Ending) (w' : World) : Prop := (∃ v', e = .returned v' ∧ New RS w w' v' (splitC c l)) ∧ Upd [] w w'

theorem split_at (c : UInt8) (l : List UInt8) (f i : Nat) (hfi : f ≤ i) (hi : i < l.length) (h : ∀ j (_ : f ≤ j) (_ : j < i) (hj2 : j < l.length), l[j] ≠ c) (hc : l[i] = c) :
    splitC c (l.drop f) = (l.drop f).take (i - f) :: splitC c (l.drop (i + 1)) := by
  have e : l.drop f = (l.drop f).take (i - f) ++ c :: l.drop (i + 1) := by
    have h1 : (l.drop f).drop (i - f) = c :: l.drop (i + 1) := by
      rw [List.drop_drop, show f + (i - f) = i by omega, List.drop_eq_getElem_cons hi, hc]
    rw [← h1, List.take_append_drop]
  have hno : c ∉ (l.drop f).take (i - f) := fun hm => by
    obtain ⟨j, hj, hj2⟩ := List.mem_iff_getElem.1 hm
    simp only [List.length_take, List.length_drop] at hj
    rw [List.getElem_take, List.getElem_drop] at hj2
    exact h (f + j) (by omega) (by omega) (by omega) hj2
  conv => lhs; rw [e]
  rw [split_app c _ _ hno]
theorem split_rest (c : UInt8) (l : List UInt8) (f : Nat) (h : ∀ j (_ : f ≤ j) (_ : j < l.length) (hj2 : j < l.length), l[j] ≠ c) : splitC c (l.drop f) = [l.drop f] := by
  refine split_none c _ (fun hm => ?_)
  obtain ⟨j, hj, hj2⟩ := List.mem_iff_getElem.1 hm
  simp only [List.length_drop] at hj
  rw [List.getElem_drop] at hj2
  exact h (f + j) (by omega) (by omega) (by omega) hj2

set_option maxRecDepth 20000 in
set_option maxHeartbeats 4000000 in
theorem splitS (l : List UInt8) (c : UInt8) (w : World) (hl : l.length ≤ 2000000) : Calls Tryz.prog 76 #[es l, .int .u8 (c.toNat : Int)] w (SplitV c l w) := by
  obtain ⟨i1, ki, kz0, kz1, kz2⟩ := info_parts Tryz.info9
  have hlit := World.ownsRow_lit (base := w.heap.size) (e := 9) (size := 1) w #[] 0 (Nat.le_refl _) (by simp [maxLen]) (by simp)
  have HLIT := Lib.hid hlit
  have hsz0 : (w.alloc (.cells #[] 9)).heap.size = w.heap.size + 1 := by simp
  clear hlit
  go_enter Tryz.func76, Tryz.ntmps76
  go_wp2_with fail
  go_loopw [5, 6, 7] (fun ov fv iv wr => ∃ (f i : Nat) (ps : List (List UInt8)), f ≤ i ∧ i ≤ l.length ∧ fv = .int .i64 f ∧ iv = .int .i64 i ∧ ps.length ≤ f ∧ Hid (splitC c l = ps ++ splitC c (l.drop f)) ∧ Hid (∀ j (_ : f ≤ j) (_ : j < i) (hj2 : j < l.length), l[j] ≠ c) ∧ Hid (wr.ownsRow w.heap.size 9 1 ov ps.length (ps.map es)) ∧ Upd [] w wr) (fun _ _ iv _ => l.length - (intOf iv).toNat)
  case atStart => exact ⟨0, 0, [], by omega, by omega, rfl, rfl, by simp, Lib.hid rfl, Lib.hid (fun j h1 h2 => by omega), HLIT, (Upd.refl _ _).alloc _⟩
  case round =>
    clear HLIT hsz0
    obtain ⟨f, i, ps, hfi, hil, rfl, rfl, hpl, HS, HN, hown, hU⟩ := hrel
    have hszr := hU.size
    by_cases hlt : i < l.length
    · obtain ⟨b, hb⟩ : ∃ b, l[i] = b := ⟨_, rfl⟩
      have hix : (⟨l.toArray⟩ : ByteArray)[i]'(by simpa [ByteArray.size] using hlt) = b := by rw [← hb]; simp [ByteArray.getElem_eq_getElem_data]
      by_cases hbc : b = c
      · subst hbc
        have hext := extract_list l f i
        have HS2 := Lib.hid (HS.out.trans (by rw [split_at b l f i hfi hlt HN.out hb] : _ = ps ++ ((l.drop f).take (i - f) :: splitC b (l.drop (i + 1)))))
        generalize (l.drop f).take (i - f) = pc at *
        have HU := Lib.hid hU
        have hown0 := hown.out
        clear hb HS HN hU
        go_wp2_with (first
          | (at_builtin; refine wpList_append_tight _ rfl _ _ 24 rfl w.heap.size 9 i1 (.string ⟨#[]⟩) 1 16 Tryz.underlying24 ki kz0 kz1 kz2 rfl (by decide) _ _ _ rfl (hown0.alloc _) ⟨wr.heap.size, 0, none⟩ 1 1 [es pc] rfl rfl (fun j u hj => by rw [addr_add]; exact cell_new wr #[es pc] _ _ rfl _ _ (by simpa using hj)) (by simp [Value.oneCell']) (by unfold maxLen; omega) (by omega) (by simp; omega) ?_)
          | fail)
        intro v4 w4 hown4 hg4 ht4
        have hu4 : Upd [] w w4 := (HU.out.alloc _).grown hg4 (fun b hb => Or.inl (by have := (hown0.lt b hb).1; omega))
        have HQ := Lib.hid (And.intro hown4 hu4)
        clear hown4 hg4 ht4 hu4 hown0 hown HU
        go_wp2_with fail
        go_roundw
        case rel => exact ⟨i + 1, i + 1, ps ++ [pc], by omega, by omega, by go_num, by go_num, by simp; omega, Lib.hid (by rw [HS2.out]; simp), Lib.hid (fun j h1 h2 => by omega), Lib.hid (by simpa using HQ.out.1), HQ.out.2⟩
        case measure => simp [intOf]; omega
      · have hbc' : ((b.toNat : Int) == (c.toNat : Int)) = false := by
          simp; intro h; apply hbc; exact UInt8.toNat_inj.1 (by omega)
        have HN2 := Lib.hid (show ∀ j (_ : f ≤ j) (_ : j < i + 1) (hj2 : j < l.length), l[j] ≠ c from fun j h1 h2 hj2 => by
          by_cases e : j = i
          · subst e; rw [hb]; exact hbc
          · exact HN.out j h1 (by omega) hj2)
        clear hb HN hbc
        go_wp2_with fail
        go_roundw
        case rel => exact ⟨f, i + 1, ps, by omega, by omega, rfl, by go_num, hpl, HS, HN2, hown, hU⟩
        case measure => simp [intOf]; omega
    · obtain rfl : i = l.length := by omega
      have hext := extract_list l f l.length
      have hdt : (l.drop f).take (l.length - f) = l.drop f := List.take_of_length_le (by simp)
      rw [hdt] at hext
      have HS2 := Lib.hid (HS.out.trans (by rw [split_rest c l f HN.out] : _ = ps ++ [l.drop f]))
      generalize l.drop f = pc at *
      have HU := Lib.hid hU
      have hown0 := hown.out
      clear HS HN hU hdt
      go_wp2_with (first
        | (at_builtin; refine wpList_append_tight _ rfl _ _ 24 rfl w.heap.size 9 i1 (.string ⟨#[]⟩) 1 16 Tryz.underlying24 ki kz0 kz1 kz2 rfl (by decide) _ _ _ rfl (hown0.alloc _) ⟨wr.heap.size, 0, none⟩ 1 1 [es pc] rfl rfl (fun j u hj => by rw [addr_add]; exact cell_new wr #[es pc] _ _ rfl _ _ (by simpa using hj)) (by simp [Value.oneCell']) (by unfold maxLen; omega) (by omega) (by simp; omega) ?_)
        | fail)
      intro v4 w4 hown4 hg4 ht4
      have hu4 : Upd [] w w4 := (HU.out.alloc _).grown hg4 (fun b hb => Or.inl (by have := (hown0.lt b hb).1; omega))
      have HQ := Lib.hid (And.intro (show New RS w w4 v4 (splitC c l) by
        rw [HS2.out]
        exact New.ofOwns (e := 9) (enc := es) (by simpa using hown4)) hu4)
      clear hown4 hg4 ht4 hu4 hown0 hown HU
      go_wp2_with fail
      go_ret
      exact ⟨⟨_, rfl, HQ.out.1⟩, HQ.out.2⟩

end Go.Proofs.YtkhifpgpkklokaaGreatDoor
