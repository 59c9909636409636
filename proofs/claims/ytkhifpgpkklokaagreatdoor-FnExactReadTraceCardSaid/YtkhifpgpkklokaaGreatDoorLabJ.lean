/-
  Labels made: what the program's calls return.
-/
import Derived.Test.YtkhifpgpkklokaaGreatDoorLabE
import Derived.Test.YtkhifpgpkklokaaGreatDoorLabB
import Derived.Test.YtkhifpgpkklokaaGreatDoorSrc
namespace Go.Proofs.YtkhifpgpkklokaaGreatDoor
open Go.RowKit

set_option maxRecDepth 20000 in
set_option maxHeartbeats 4000000 in
theorem joinedI (v : Value) (xs : List Int) (w : World) (fp : List Nat) (hR : R1 fp w [v] xs) (h0 : 0 < xs.length) (hl : xs.length ≤ 1000000)
    (hv : ∀ x ∈ xs, (-9223372036854775808 ≤ x ∧ x ≤ 9223372036854775807) ∧ (Lib.itoa x).length ≤ 30) (he : Env w) :
    Calls Tryz.prog 140 #[v, es [44]] w fun e w' => e = .returned (es (txtV xs)) ∧ Upd [] w w' := by
  obtain ⟨i0, hi, hz0, hz1, hz2⟩ := info_parts Tryz.info9
  obtain ⟨a, cap, rfl, h1, h2, -⟩ := slF1_open hR
  unfold maxLen at h2
  have HR := Lib.hid hR
  have HV := Lib.hid hv
  have HE := Lib.hid he
  have hm2 : i0.bytes * xs.length ≤ 281474976710656 := by rw [hz2]; omega
  clear hR hv he
  go_enter Tryz.func140, Tryz.ntmps140
  go_wp2_with (first
    | (at_make; refine wpList_make_full _ rfl _ _ 24 rfl w.heap.size 9 i0 (es []) 1 Tryz.underlying24 hi hz0 hz1 .i64 .i64 _ _ xs.length rfl rfl rfl rfl hm2 (by unfold maxLen; omega) (Nat.le_refl _) ?_; intro w2 hrow hgrow)
    | fail)
  rw [made_one _ rfl] at hrow
  have hU : Upd [] w w2 := (Upd.refl _ _).grown hgrow (by simp)
  obtain ⟨fo, ho1, ho2, ho3⟩ := New.ofOwns (w := w) (e := 9) (enc := es) (xs := List.replicate xs.length ([] : List UInt8)) (by simpa using hrow)
  have HST := Lib.hid (And.intro (show RS fo w2 [.slice (some ⟨w.heap.size, 0, none⟩) xs.length xs.length] ((xs.take 0).map Lib.itoa ++ List.replicate (xs.length - 0) []) from by simpa using ho1) ho2)
  clear hrow hgrow ho1 ho2 ho3 hm2
  go_wp2_with fail
  go_loopw [13] (fun i wr => ∃ k : Nat, k ≤ xs.length ∧ i = .int .i64 k ∧ Upd [] w wr ∧ RS fo wr [.slice (some ⟨w.heap.size, 0, none⟩) xs.length xs.length] ((xs.take k).map Lib.itoa ++ List.replicate (xs.length - k) []) ∧ Own fo wr) (fun i _ => xs.length - (intOf i).toNat)
  case atStart => exact ⟨0, Nat.zero_le _, rfl, hU, HST.out.1, HST.out.2⟩
  case round =>
    clear HST hU
    obtain ⟨k, hk, rfl, hU, ho1, ho2⟩ := hrel
    by_cases hlt : k < xs.length
    · obtain ⟨a', cap', hv, -, -, hc⟩ := slF1_open (R1k.upd HR.out hU (by simp))
      cases hv
      obtain ⟨b1, o1, rfl, -, -, p1⟩ := hc k hlt
      have hset := set_fill Lib.itoa [] xs k hlt
      obtain ⟨⟨x0, x1⟩, -⟩ := HV.out xs[k] (List.getElem_mem hlt)
      have hlen : ((xs.take k).map Lib.itoa ++ List.replicate (xs.length - k) ([] : List UInt8)).length = xs.length := by simp; omega
      have HL := Lib.hid hlen
      have HS := Lib.hid hset
      have HU := Lib.hid hU
      have HO := Lib.hid (And.intro ho1 ho2)
      generalize xs[k] = x at *
      have S1 := Lib.hid (decimal x wr x0 x1 (HE.out.upd hU))
      clear hc hset hlen hU ho1 ho2
      go_wp2_with fail
      refine S1.out.mono ?_
      rintro e w3 ⟨rfl, hu3⟩
      obtain ⟨hbl, hcl0, hfz, hos⟩ := rowCellS (RSk.upd HO.out.1 hu3 (by simp)) (HO.out.2.upd hu3 (by simp)) HL.out k hlt
      have hos := hos (Lib.itoa x)
      rw [HS.out] at hos
      obtain ⟨z0, hz0'⟩ : ∃ z0 : List UInt8, w3.cell? ⟨w.heap.size, k, none⟩ = some (es z0) := ⟨_, hcl0⟩
      clear hcl0
      have HP := Lib.hid (And.intro hos (HU.out.trans hu3))
      clear S1 hos HO HU hu3 HS HL
      generalize Lib.itoa x = A at *
      go_wp2_with fail
      go_roundw
      case rel => exact ⟨k + 1, by omega, by go_num, HP.out.2.setCell (Or.inl (Nat.le_refl _)) _, HP.out.1.1, HP.out.1.2⟩
      case measure => simp [intOf]; omega
    · obtain rfl : k = xs.length := by omega
      obtain ⟨ps, hps⟩ : ∃ ps, ps = xs.map Lib.itoa := ⟨_, rfl⟩
      have hpl : ps.length = xs.length := by rw [hps]; simp
      have ho3 : RS fo wr [.slice (some ⟨w.heap.size, 0, none⟩) xs.length xs.length] ps := by rw [hps]; simpa using ho1
      obtain ⟨a', cap', hv, -, hc2, hc⟩ := slF1_open ho3
      simp only [Value.slice.injEq] at hv
      obtain ⟨rfl, -, rfl⟩ := hv
      have hle : (joinC 44 ps).length ≤ ps.length * (30 + 1) := joinC_le 44 30 ps (fun p hp => by
        rw [hps] at hp
        obtain ⟨x, hx, rfl⟩ := List.mem_map.1 hp
        exact (HV.out x hx).2)
      have hbk : w.heap.size < wr.heap.size := by
        obtain ⟨b, off, hb, -, hbl, -⟩ := hc 0 (by omega)
        cases hb; exact hbl
      have hmm : (ps.map (fun p => (⟨p.toArray⟩ : ByteArray))).map (fun b => b.data.toList) = ps := by
        rw [List.map_map]; exact (List.map_congr_left (fun p _ => rfl)).trans (List.map_id _)
      have hj : Lib.join ((ps.map (fun p => (⟨p.toArray⟩ : ByteArray))).map (fun b => b.data.toList)) (⟨#[44]⟩ : ByteArray).data.toList = joinC 44 ps := by
        rw [hmm]; exact join_lib 44 ps
      have S0 := Tryz.strings_Join w.heap.size 0 xs.length (ps.map (fun p => (⟨p.toArray⟩ : ByteArray))) ⟨#[44]⟩ wr (fun j x hx => by
        obtain ⟨hj1, rfl⟩ := List.getElem?_eq_some_iff.1 hx
        have hj2 : j < ps.length := by simpa using hj1
        obtain ⟨b, off, hb, -, -, hcl⟩ := hc j hj2
        cases hb
        rw [hcl]
        simp [es]) hbk (by simp; omega) (by simp; omega) (by rw [hj]; omega)
      rw [hj] at S0
      simp only [List.length_map, hpl] at S0
      have S1 := Lib.hid S0
      have HX := Lib.hid (show joinC 44 ps = txtV xs by rw [hps, txtV])
      have HU := Lib.hid hU
      clear hj hmm hle hc hc2 ho3 ho1 ho2 hps hU S0 HV HE HR
      generalize joinC 44 ps = J at *
      go_wp2_with fail
      refine S1.out.mono ?_
      rintro e w3 ⟨rfl, hb3⟩
      have HP := Lib.hid (HU.out.trans (Upd.ofBelow hb3))
      clear S1 hb3 HU
      go_wp2_with fail
      go_ret
      exact ⟨by rw [← HX.out]; rfl, HP.out⟩

end Go.Proofs.YtkhifpgpkklokaaGreatDoor
