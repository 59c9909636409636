/-
  Words read as numbers.
-/
import Derived.Test.YtkhifpgpkklokaaGreatDoorLabE
import Derived.Test.YtkhifpgpkklokaaGreatDoorLabB
import Derived.Test.YtkhifpgpkklokaaGreatDoorSrc
namespace Go.Proofs.YtkhifpgpkklokaaGreatDoor
open Go.RowKit

def NumsV (ps : List (List UInt8)) (w : World) (e : Ending) (w' : World) : Prop :=
  (∃ v', e = .returned (.tuple #[v', .bool (numsF ps).isSome]) ∧ New R1 w w' v' ((numsF ps).getD [])) ∧ Upd [] w w'

set_option maxRecDepth 20000 in
set_option maxHeartbeats 4000000 in
theorem readNumbersI (v : Value) (ps : List (List UInt8)) (w : World) (fp : List Nat) (hR : slF 1 (fun s => [es s]) fp w [v] ps) (hl : ps.length ≤ 2000001) (hp : ∀ p ∈ ps, p.length ≤ 2000000) (he : Env w) :
    Calls Tryz.prog 122 #[v] w (NumsV ps w) := by
  obtain ⟨i1, ki, kz0, kz1, kz2⟩ := info_parts Tryz.info2
  obtain ⟨a, cap, rfl, h1, h2, -⟩ := slF1_open hR
  unfold maxLen at h2
  have hlit := World.ownsRow_nil w w.heap.size 2 1
  have HLIT := Lib.hid hlit
  have HR := Lib.hid hR
  have HP := Lib.hid hp
  have HE := Lib.hid he
  clear hR hp he hlit
  go_enter Tryz.func122, Tryz.ntmps122
  go_wp2_with fail
  go_loopw [4, 11] (fun ov i wr => ∃ (k : Nat) (ns : List Int), k ≤ ps.length ∧ i = .int .i64 k ∧ ns.length = k ∧ Hid (numsF ps = (numsF (ps.drop k)).map (ns ++ ·)) ∧ Hid (wr.ownsRow w.heap.size 2 1 ov k (ns.map ei)) ∧ Upd [] w wr) (fun _ i _ => ps.length - (intOf i).toNat)
  case atStart => exact ⟨0, [], by omega, rfl, rfl, Lib.hid (by simp), HLIT, Upd.refl _ _⟩
  case round =>
    clear HLIT
    obtain ⟨k, ns, hk, rfl, hnl, hF, hown, hU⟩ := hrel
    have HNL := Lib.hid hnl
    clear hnl
    by_cases hlt : k < ps.length
    · obtain ⟨a', cap', hv, -, -, hc⟩ := slF1_open ((slF_kept _ _).upd HR.out hU (by simp))
      cases hv
      obtain ⟨b1, o1, rfl, -, -, p1⟩ := hc k hlt
      have hF1 := hF.out
      rw [List.drop_eq_getElem_cons hlt, numsF_cons] at hF1
      have hpk := HP.out ps[k] (List.getElem_mem hlt)
      have HF := Lib.hid hF1
      have HU := Lib.hid hU
      clear hF1 hF hc
      generalize ps[k] = s at *
      have S1 := Lib.hid (readDecimalI s wr hpk (HE.out.upd hU))
      clear hU
      go_wp2_with fail
      refine S1.out.mono ?_
      rintro e w3 ⟨rfl, hu3⟩
      have HU3 := Lib.hid (HU.out.trans hu3)
      have hown3 := ownsRow_upd hown.out hu3
      have hsz3 := HU3.out.size
      clear S1 HU hu3 hown
      cases hn : numF s with
      | none =>
        rw [hn] at HF
        have HN := Lib.hid (show numsF ps = none from HF.out)
        clear HF hown3
        go_wp2_with fail
        go_ret2
        exact ⟨⟨_, by rw [HN.out]; rfl, by rw [HN.out]; exact new_nil _ _⟩, HU3.out⟩
      | some x =>
        rw [hn] at HF
        have HN := Lib.hid (show numsF ps = (numsF (ps.drop (k + 1))).map ((ns ++ [x]) ++ ·) by
          rw [HF.out]
          simp [Function.comp_def])
        clear HF
        simp only [Option.getD_some, Option.isSome_some]
        go_wp2_with (first
          | (at_builtin; refine wpList_append_tight _ rfl _ _ 25 rfl w.heap.size 2 i1 (.int .i64 0) 1 8 Tryz.underlying25 ki kz0 kz1 kz2 rfl (by decide) _ _ _ rfl (hown3.alloc _) ⟨w3.heap.size, 0, none⟩ 1 1 [ei x] rfl rfl (fun j u hj => by rw [addr_add]; exact cell_new w3 #[ei x] _ _ rfl _ _ (by simpa using hj)) (by simp [Value.oneCell']) (by unfold maxLen; omega) (by omega) (by simp; omega) ?_)
          | fail)
        intro v4 w4 hown4 hg4 ht4
        have hu4 : Upd [] w w4 := (HU3.out.alloc _).grown hg4 (fun b hb => Or.inl (by have := (hown3.lt b hb).1; omega))
        have HQ := Lib.hid (And.intro hown4 hu4)
        clear hown4 hg4 ht4 hu4 hown3
        go_wp2_with fail
        go_roundw
        case rel => exact ⟨k + 1, ns ++ [x], by omega, by go_num, by simp [HNL.out], HN, Lib.hid (by simpa using HQ.out.1), HQ.out.2⟩
        case measure => simp [intOf]; omega
    · obtain rfl : k = ps.length := by omega
      have hF1 := hF.out
      rw [List.drop_of_length_le (Nat.le_refl _)] at hF1
      have HN := Lib.hid (show numsF ps = some ns by rw [hF1]; simp [numsF])
      have HQ := Lib.hid (And.intro (New.ofOwns (w := w) (e := 2) (enc := ei) (xs := ns) (by rw [HNL.out]; exact hown.out)) hU)
      clear hown hU hF hF1
      go_wp2_with fail
      go_ret2
      exact ⟨⟨_, by rw [HN.out]; rfl, by rw [HN.out]; exact HQ.out.1⟩, HQ.out.2⟩

end Go.Proofs.YtkhifpgpkklokaaGreatDoor
