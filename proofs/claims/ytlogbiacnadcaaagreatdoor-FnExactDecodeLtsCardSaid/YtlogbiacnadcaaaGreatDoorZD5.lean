/-
  Texts joined in one file: EncS, EncR, EncT, DecS, LawDecodeLts, LabZ, OpenC.
-/
import Derived.Test.YtlogbiacnadcaaaGreatDoorZD1
import Derived.Test.YtlogbiacnadcaaaGreatDoorZD2
import Derived.Test.YtlogbiacnadcaaaGreatDoorZD3
import Derived.Test.YtlogbiacnadcaaaGreatDoorZD4
import Derived.Deep.DeepCutAuto
import Derived.Deep.RegionLaw
import Derived.Deep.AppendLies
import Derived.Lib.LaidTab
import Derived.Stop.LaidErr
import Derived.HandedShaped
import Derived.Handed
import Derived.Shelf.Vars
/-
  Validity of systems: what the reference's call returns.
-/
namespace Go.Proofs.YtlogbiacnadcaaaGreatDoor
open Go.RowKit

set_option maxRecDepth 20000 in
set_option maxHeartbeats 8000000 in
theorem isS (x : Sys) (p : Nat) (v1 v2 : Value) (w : World) (f1 f2 : List Nat)
    (z0 : w.cell? ⟨p, 0, none⟩ = some (ei x.st)) (z1 : w.cell? ⟨p, 1, none⟩ = some (ei x.ini)) (z2 : w.cell? ⟨p, 2, none⟩ = some v1) (z3 : w.cell? ⟨p, 3, none⟩ = some v2)
    (h1 : RS f1 w [v1] x.labs) (h2 : R_E1 f2 w [v2] x.eds) (hp : ∀ p ∈ x.labs, p.length ≤ 2000000) :
    Calls Tryz.prog 33 #[.pointer (some ⟨p, 0, none⟩)] w fun e w' => e = .returned (.bool (sysOk x)) ∧ Upd [] w w' := by
  obtain ⟨st, ini, labs, eds⟩ := x
  simp only at z0 z1 h1 h2 hp ⊢
  have HOK := Lib.hid (show sysOk ⟨st, ini, labs, eds⟩ = (inB st 1 40 && inB ini 0 (st - 1) && labsOk labs && decide (eds.length ≤ 300) && allF (edP ⟨st, ini, labs, eds⟩) 0 eds.length) from rfl)
  have S1 := Lib.hid (fun W : World => l00In st 1 40 W)
  have S2 := Lib.hid (fun W : World => l00In ini 0 (st - 1) W)
  have S3 := Lib.hid (namesS labs v1 w.drew f1 (RSk.drew h1) hp)
  have H2 := Lib.hid (fun W (hu : Upd [] w W) => R_E1k.upd h2 hu (by simp))
  have HZ := Lib.hid (fun W (hu : Upd [] w W) => show W.cell? ⟨p, 0, none⟩ = some (ei st) ∧ W.cell? ⟨p, 1, none⟩ = some (ei ini) ∧ W.cell? ⟨p, 2, none⟩ = some v1 ∧ W.cell? ⟨p, 3, none⟩ = some v2 from ⟨hu.keep z0, hu.keep z1, hu.keep z2, hu.keep z3⟩)
  obtain ⟨a1, c1, rfl, hl1, hm1, -⟩ := slF1_open h1
  obtain ⟨a2, c2, rfl, hl2, hm2, -⟩ := slF3_open h2
  unfold maxLen at hm1 hm2
  clear h1 h2 hp
  cases hb1 : inB st 1 40 with
  | false =>
    have HRR := Lib.hid (show sysOk ⟨st, ini, labs, eds⟩ = false by rw [HOK.out, hb1]; simp)
    rw [hb1] at S1
    clear HOK hb1
    go_enter Tryz.func33, Tryz.ntmps33
    go_wp2_with fail
    refine wp_region_held_drew (S := fun w' => w'.cell? ⟨p, 0, none⟩ = some (ei st) ∧ w'.cell? ⟨p, 1, none⟩ = some (ei ini) ∧ w'.cell? ⟨p, 2, none⟩ = some (.slice a1 labs.length c1) ∧ w'.cell? ⟨p, 3, none⟩ = some (.slice a2 eds.length c2)) (by kernel_rfl) ?_ (fun hHeld => ?_)
    · exact ⟨z0, z1, z2, z3⟩
    refine wpAnyH_take (i := 0) (v := ?_) rfl (by kernel_rfl) (by kernel_rfl) (by kernel_rfl) (fun _ _ _ h => h) (Or.inl ⟨by rfl, ?_⟩) (by assumption) ?_
    rotate_left
    · (intro w hSw; (try dsimp only at hSw); go_simp)
      first | done | with_reducible rfl
    simp only [Act.put, List.getElem_toArray, List.getElem_cons_zero, List.setIfInBounds_toArray, List.set_cons_zero, List.set_cons_succ]
    refine wpAnyH_take (i := 1) (v := ?_) rfl (by kernel_rfl) (by kernel_rfl) (by kernel_rfl) (fun _ _ _ h => h) (Or.inl ⟨by rfl, ?_⟩) (by assumption) ?_
    rotate_left
    · (intro w hSw; (try dsimp only at hSw); go_simp)
      first | done | with_reducible rfl
    simp only [Act.put, List.getElem_toArray, List.getElem_cons_zero, List.getElem_cons_succ, List.setIfInBounds_toArray, List.set_cons_zero, List.set_cons_succ]
    refine wpAnyH_take (i := 2) (v := ?_) rfl (by kernel_rfl) (by kernel_rfl) (by kernel_rfl) (fun _ _ _ h => h) (Or.inl ⟨by rfl, ?_⟩) (by assumption) ?_
    rotate_left
    · (intro w hSw; (try dsimp only at hSw); go_simp)
      first | done | with_reducible rfl
    simp only [Act.put, List.getElem_toArray, List.getElem_cons_zero, List.getElem_cons_succ, List.setIfInBounds_toArray, List.set_cons_zero, List.set_cons_succ]
    refine wpAnyH_take (i := 3) (v := ?_) rfl (by kernel_rfl) (by kernel_rfl) (by kernel_rfl) (fun _ _ _ h => h) (Or.inl ⟨by rfl, ?_⟩) (by assumption) ?_
    rotate_left
    · (intro w hSw; (try dsimp only at hSw); go_simp)
      first | done | with_reducible rfl
    simp only [Act.put, List.getElem_toArray, List.getElem_cons_zero, List.getElem_cons_succ, List.setIfInBounds_toArray, List.set_cons_zero, List.set_cons_succ]
    refine wpAnyH_ready (rs := [4]) (by kernel_rfl) (by simp) ?_
    refine AllReadyH.cons rfl (fun K hK => ?_) AllReadyH.nil
    go_simp
    refine (S1.out _).mono ?_
    rintro e w4 ⟨rfl, rfl⟩
    refine hK.out _ _ ?_ (fun hHeld => ?_)
    · exact ⟨hHeld.1, hHeld.2.1, hHeld.2.2.1, hHeld.2.2.2⟩
    clear hK K
    try simp only [Act.put, List.getElem_toArray, List.getElem_cons_zero, List.getElem_cons_succ, List.setIfInBounds_toArray, List.set_cons_zero, List.set_cons_succ]
    refine wpAnyH_take (i := 5) (v := ?_) rfl (by kernel_rfl) (by kernel_rfl) (by kernel_rfl) (fun _ _ _ h => h) (Or.inl ⟨by rfl, ?_⟩) (by assumption) ?_
    rotate_left
    · (intro w hSw; (try dsimp only at hSw); go_simp)
      first | done | with_reducible rfl
    simp only [Act.put, List.getElem_toArray, List.getElem_cons_zero, List.getElem_cons_succ, List.setIfInBounds_toArray, List.set_cons_zero, List.set_cons_succ]
    refine wpAnyH_take (i := 6) (v := ?_) rfl (by kernel_rfl) (by kernel_rfl) (by kernel_rfl) (fun _ _ _ h => h) (Or.inl ⟨by rfl, ?_⟩) (by assumption) ?_
    rotate_left
    · (intro w hSw; (try dsimp only at hSw); go_simp)
      first | done | with_reducible rfl
    simp only [Act.put, List.getElem_toArray, List.getElem_cons_zero, List.getElem_cons_succ, List.setIfInBounds_toArray, List.set_cons_zero, List.set_cons_succ]
    refine wpAnyH_take (i := 7) rfl (by kernel_rfl) (by kernel_rfl) (by kernel_rfl) (fun _ _ _ h => h) (Or.inr ⟨by rfl, rfl⟩) (by assumption) ?_
    simp only [Act.put, List.getElem_toArray, List.getElem_cons_zero, List.getElem_cons_succ, List.setIfInBounds_toArray, List.set_cons_zero, List.set_cons_succ]
    refine wpAnyH_take (i := 8) rfl (by kernel_rfl) (by kernel_rfl) (by kernel_rfl) (fun _ _ _ h => h) (Or.inr ⟨by rfl, rfl⟩) (by assumption) ?_
    simp only [Act.put, List.getElem_toArray, List.getElem_cons_zero, List.getElem_cons_succ, List.setIfInBounds_toArray, List.set_cons_zero, List.set_cons_succ]
    refine wpAnyH_take (i := 9) rfl (by kernel_rfl) (by kernel_rfl) (by kernel_rfl) (fun _ _ _ h => h) (Or.inr ⟨by rfl, rfl⟩) (by assumption) ?_
    simp only [Act.put, List.getElem_toArray, List.getElem_cons_zero, List.getElem_cons_succ, List.setIfInBounds_toArray, List.set_cons_zero, List.set_cons_succ]
    refine wpAnyH_take (i := 10) rfl (by kernel_rfl) (by kernel_rfl) (by kernel_rfl) (fun _ _ _ h => h) (Or.inr ⟨by rfl, rfl⟩) (by assumption) ?_
    simp only [Act.put, List.getElem_toArray, List.getElem_cons_zero, List.getElem_cons_succ, List.setIfInBounds_toArray, List.set_cons_zero, List.set_cons_succ]
    refine wpAnyH_take (i := 11) rfl (by kernel_rfl) (by kernel_rfl) (by kernel_rfl) (fun _ _ _ h => h) (Or.inr ⟨by rfl, rfl⟩) (by assumption) ?_
    simp only [Act.put, List.getElem_toArray, List.getElem_cons_zero, List.getElem_cons_succ, List.setIfInBounds_toArray, List.set_cons_zero, List.set_cons_succ]
    refine wpAnyH_take (i := 12) rfl (by kernel_rfl) (by kernel_rfl) (by kernel_rfl) (fun _ _ _ h => h) (Or.inr ⟨by rfl, rfl⟩) (by assumption) ?_
    simp only [Act.put, List.getElem_toArray, List.getElem_cons_zero, List.getElem_cons_succ, List.setIfInBounds_toArray, List.set_cons_zero, List.set_cons_succ]
    refine wpAnyH_take (i := 13) rfl (by kernel_rfl) (by kernel_rfl) (by kernel_rfl) (fun _ _ _ h => h) (Or.inr ⟨by rfl, rfl⟩) (by assumption) ?_
    simp only [Act.put, List.getElem_toArray, List.getElem_cons_zero, List.getElem_cons_succ, List.setIfInBounds_toArray, List.set_cons_zero, List.set_cons_succ]
    refine wpAnyH_take (i := 14) rfl (by kernel_rfl) (by kernel_rfl) (by kernel_rfl) (fun _ _ _ h => h) (Or.inr ⟨by rfl, rfl⟩) (by assumption) ?_
    simp only [Act.put, List.getElem_toArray, List.getElem_cons_zero, List.getElem_cons_succ, List.setIfInBounds_toArray, List.set_cons_zero, List.set_cons_succ]
    refine wpAnyH_take (i := 15) rfl (by kernel_rfl) (by kernel_rfl) (by kernel_rfl) (fun _ _ _ h => h) (Or.inr ⟨by rfl, rfl⟩) (by assumption) ?_
    simp only [Act.put, List.getElem_toArray, List.getElem_cons_zero, List.getElem_cons_succ, List.setIfInBounds_toArray, List.set_cons_zero, List.set_cons_succ]
    refine wpAnyH_take (i := 16) rfl (by kernel_rfl) (by kernel_rfl) (by kernel_rfl) (fun _ _ _ h => h) (Or.inr ⟨by rfl, rfl⟩) (by assumption) ?_
    simp only [Act.put, List.getElem_toArray, List.getElem_cons_zero, List.getElem_cons_succ, List.setIfInBounds_toArray, List.set_cons_zero, List.set_cons_succ]
    refine wpAnyH_take (i := 17) rfl (by kernel_rfl) (by kernel_rfl) (by kernel_rfl) (fun _ _ _ h => h) (Or.inr ⟨by rfl, rfl⟩) (by assumption) ?_
    simp only [Act.put, List.getElem_toArray, List.getElem_cons_zero, List.getElem_cons_succ, List.setIfInBounds_toArray, List.set_cons_zero, List.set_cons_succ]
    refine wpAnyH_take (i := 18) (v := ?_) rfl (by kernel_rfl) (by kernel_rfl) (by kernel_rfl) (fun _ _ _ h => h) (Or.inl ⟨by rfl, ?_⟩) (by assumption) ?_
    rotate_left
    · (intro w hSw; (try dsimp only at hSw); go_simp)
      first | done | with_reducible rfl
    simp only [Act.put, List.getElem_toArray, List.getElem_cons_zero, List.getElem_cons_succ, List.setIfInBounds_toArray, List.set_cons_zero, List.set_cons_succ]
    refine wpAnyH_take (i := 19) (v := ?_) rfl (by kernel_rfl) (by kernel_rfl) (by kernel_rfl) (fun _ _ _ h => h) (Or.inl ⟨by rfl, ?_⟩) (by assumption) ?_
    rotate_left
    · (intro w hSw; (try dsimp only at hSw); go_simp)
      first | done | with_reducible rfl
    simp only [Act.put, List.getElem_toArray, List.getElem_cons_zero, List.getElem_cons_succ, List.setIfInBounds_toArray, List.set_cons_zero, List.set_cons_succ]
    refine wpAnyH_take (i := 20) rfl (by kernel_rfl) (by kernel_rfl) (by kernel_rfl) (fun _ _ _ h => h) (Or.inr ⟨by rfl, rfl⟩) (by assumption) ?_
    simp only [Act.put, List.getElem_toArray, List.getElem_cons_zero, List.getElem_cons_succ, List.setIfInBounds_toArray, List.set_cons_zero, List.set_cons_succ]
    refine wpAnyH_take (i := 21) rfl (by kernel_rfl) (by kernel_rfl) (by kernel_rfl) (fun _ _ _ h => h) (Or.inr ⟨by rfl, rfl⟩) (by assumption) ?_
    simp only [Act.put, List.getElem_toArray, List.getElem_cons_zero, List.getElem_cons_succ, List.setIfInBounds_toArray, List.set_cons_zero, List.set_cons_succ]
    refine wpAnyH_take (i := 22) rfl (by kernel_rfl) (by kernel_rfl) (by kernel_rfl) (fun _ _ _ h => h) (Or.inr ⟨by rfl, rfl⟩) (by assumption) ?_
    simp only [Act.put, List.getElem_toArray, List.getElem_cons_zero, List.getElem_cons_succ, List.setIfInBounds_toArray, List.set_cons_zero, List.set_cons_succ]
    refine wpAnyH_take (i := 23) rfl (by kernel_rfl) (by kernel_rfl) (by kernel_rfl) (fun _ _ _ h => h) (Or.inr ⟨by rfl, rfl⟩) (by assumption) ?_
    simp only [Act.put, List.getElem_toArray, List.getElem_cons_zero, List.getElem_cons_succ, List.setIfInBounds_toArray, List.set_cons_zero, List.set_cons_succ]
    refine wpAnyH_take (i := 24) rfl (by kernel_rfl) (by kernel_rfl) (by kernel_rfl) (fun _ _ _ h => h) (Or.inr ⟨by rfl, rfl⟩) (by assumption) ?_
    simp only [Act.put, List.getElem_toArray, List.getElem_cons_zero, List.getElem_cons_succ, List.setIfInBounds_toArray, List.set_cons_zero, List.set_cons_succ]
    refine wpAnyH_take (i := 25) rfl (by kernel_rfl) (by kernel_rfl) (by kernel_rfl) (fun _ _ _ h => h) (Or.inr ⟨by rfl, rfl⟩) (by assumption) ?_
    simp only [Act.put, List.getElem_toArray, List.getElem_cons_zero, List.getElem_cons_succ, List.setIfInBounds_toArray, List.set_cons_zero, List.set_cons_succ]
    refine wpAnyH_take (i := 26) (v := ?_) rfl (by kernel_rfl) (by kernel_rfl) (by kernel_rfl) (fun _ _ _ h => h) (Or.inl ⟨by rfl, ?_⟩) (by assumption) ?_
    rotate_left
    · (intro w hSw; (try dsimp only at hSw); go_simp)
      first | done | with_reducible rfl
    simp only [Act.put, List.getElem_toArray, List.getElem_cons_zero, List.getElem_cons_succ, List.setIfInBounds_toArray, List.set_cons_zero, List.set_cons_succ]
    refine wpAnyH_take (i := 27) (v := ?_) rfl (by kernel_rfl) (by kernel_rfl) (by kernel_rfl) (fun _ _ _ h => h) (Or.inl ⟨by rfl, ?_⟩) (by assumption) ?_
    rotate_left
    · (intro w hSw; (try dsimp only at hSw); go_simp)
      first | done | with_reducible rfl
    simp only [Act.put, List.getElem_toArray, List.getElem_cons_zero, List.getElem_cons_succ, List.setIfInBounds_toArray, List.set_cons_zero, List.set_cons_succ]
    refine wpAnyH_take (i := 28) rfl (by kernel_rfl) (by kernel_rfl) (by kernel_rfl) (fun _ _ _ h => h) (Or.inr ⟨by rfl, rfl⟩) (by assumption) ?_
    simp only [Act.put, List.getElem_toArray, List.getElem_cons_zero, List.getElem_cons_succ, List.setIfInBounds_toArray, List.set_cons_zero, List.set_cons_succ]
    refine wpAnyH_take (i := 29) rfl (by kernel_rfl) (by kernel_rfl) (by kernel_rfl) (fun _ _ _ h => h) (Or.inr ⟨by rfl, rfl⟩) (by assumption) ?_
    simp only [Act.put, List.getElem_toArray, List.getElem_cons_zero, List.getElem_cons_succ, List.setIfInBounds_toArray, List.set_cons_zero, List.set_cons_succ]
    refine wpAnyH_take (i := 30) rfl (by kernel_rfl) (by kernel_rfl) (by kernel_rfl) (fun _ _ _ h => h) (Or.inr ⟨by rfl, rfl⟩) (by assumption) ?_
    simp only [Act.put, List.getElem_toArray, List.getElem_cons_zero, List.getElem_cons_succ, List.setIfInBounds_toArray, List.set_cons_zero, List.set_cons_succ]
    refine wpAnyH_take (i := 31) rfl (by kernel_rfl) (by kernel_rfl) (by kernel_rfl) (fun _ _ _ h => h) (Or.inr ⟨by rfl, rfl⟩) (by assumption) ?_
    simp only [Act.put, List.getElem_toArray, List.getElem_cons_zero, List.getElem_cons_succ, List.setIfInBounds_toArray, List.set_cons_zero, List.set_cons_succ]
    refine wpAnyH_take (i := 32) rfl (by kernel_rfl) (by kernel_rfl) (by kernel_rfl) (fun _ _ _ h => h) (Or.inr ⟨by rfl, rfl⟩) (by assumption) ?_
    simp only [Act.put, List.getElem_toArray, List.getElem_cons_zero, List.getElem_cons_succ, List.setIfInBounds_toArray, List.set_cons_zero, List.set_cons_succ]
    refine wpAnyH_take (i := 33) rfl (by kernel_rfl) (by kernel_rfl) (by kernel_rfl) (fun _ _ _ h => h) (Or.inr ⟨by rfl, rfl⟩) (by assumption) ?_
    simp only [Act.put, List.getElem_toArray, List.getElem_cons_zero, List.getElem_cons_succ, List.setIfInBounds_toArray, List.set_cons_zero, List.set_cons_succ]
    refine wpAnyH_take (i := 34) (v := ?_) rfl (by kernel_rfl) (by kernel_rfl) (by kernel_rfl) (fun _ _ _ h => h) (Or.inl ⟨by rfl, ?_⟩) (by assumption) ?_
    rotate_left
    · (intro w hSw; (try dsimp only at hSw); go_simp)
      first | done | with_reducible rfl
    simp only [Act.put, List.getElem_toArray, List.getElem_cons_zero, List.getElem_cons_succ, List.setIfInBounds_toArray, List.set_cons_zero, List.set_cons_succ]
    refine wpAnyH_done (by kernel_rfl) ?_ _
    have HU9 := Lib.hid ((Upd.refl [] w).drew)
    clear hHeld z0 z1 z2 z3 HZ H2
    go_wp2_with fail
    go_ret
    exact ⟨by rw [HRR.out]; rfl, HU9.out⟩
  | true =>
    have hst := inB_true hb1
    have iw : IntKind.i64.wrap (st - 1) = st - 1 := IntWalk.i64_in _ (by omega)
    rw [hb1] at S1
    cases hb2 : inB ini 0 (st - 1) with
    | false =>
      have HRR := Lib.hid (show sysOk ⟨st, ini, labs, eds⟩ = false by rw [HOK.out, hb2]; simp)
      rw [hb2] at S2
      clear HOK hb1 hb2
      go_enter Tryz.func33, Tryz.ntmps33
      go_wp2_with fail
      refine wp_region_held_drew (S := fun w' => w'.cell? ⟨p, 0, none⟩ = some (ei st) ∧ w'.cell? ⟨p, 1, none⟩ = some (ei ini) ∧ w'.cell? ⟨p, 2, none⟩ = some (.slice a1 labs.length c1) ∧ w'.cell? ⟨p, 3, none⟩ = some (.slice a2 eds.length c2)) (by kernel_rfl) ?_ (fun hHeld => ?_)
      · exact ⟨z0, z1, z2, z3⟩
      refine wpAnyH_take (i := 0) (v := ?_) rfl (by kernel_rfl) (by kernel_rfl) (by kernel_rfl) (fun _ _ _ h => h) (Or.inl ⟨by rfl, ?_⟩) (by assumption) ?_
      rotate_left
      · (intro w hSw; (try dsimp only at hSw); go_simp)
        first | done | with_reducible rfl
      simp only [Act.put, List.getElem_toArray, List.getElem_cons_zero, List.setIfInBounds_toArray, List.set_cons_zero, List.set_cons_succ]
      refine wpAnyH_take (i := 1) (v := ?_) rfl (by kernel_rfl) (by kernel_rfl) (by kernel_rfl) (fun _ _ _ h => h) (Or.inl ⟨by rfl, ?_⟩) (by assumption) ?_
      rotate_left
      · (intro w hSw; (try dsimp only at hSw); go_simp)
        first | done | with_reducible rfl
      simp only [Act.put, List.getElem_toArray, List.getElem_cons_zero, List.getElem_cons_succ, List.setIfInBounds_toArray, List.set_cons_zero, List.set_cons_succ]
      refine wpAnyH_take (i := 2) (v := ?_) rfl (by kernel_rfl) (by kernel_rfl) (by kernel_rfl) (fun _ _ _ h => h) (Or.inl ⟨by rfl, ?_⟩) (by assumption) ?_
      rotate_left
      · (intro w hSw; (try dsimp only at hSw); go_simp)
        first | done | with_reducible rfl
      simp only [Act.put, List.getElem_toArray, List.getElem_cons_zero, List.getElem_cons_succ, List.setIfInBounds_toArray, List.set_cons_zero, List.set_cons_succ]
      refine wpAnyH_take (i := 3) (v := ?_) rfl (by kernel_rfl) (by kernel_rfl) (by kernel_rfl) (fun _ _ _ h => h) (Or.inl ⟨by rfl, ?_⟩) (by assumption) ?_
      rotate_left
      · (intro w hSw; (try dsimp only at hSw); go_simp)
        first | done | with_reducible rfl
      simp only [Act.put, List.getElem_toArray, List.getElem_cons_zero, List.getElem_cons_succ, List.setIfInBounds_toArray, List.set_cons_zero, List.set_cons_succ]
      refine wpAnyH_ready (rs := [4]) (by kernel_rfl) (by simp) ?_
      refine AllReadyH.cons rfl (fun K hK => ?_) AllReadyH.nil
      go_simp
      refine (S1.out _).mono ?_
      rintro e w4 ⟨rfl, rfl⟩
      refine hK.out _ _ ?_ (fun hHeld => ?_)
      · exact ⟨hHeld.1, hHeld.2.1, hHeld.2.2.1, hHeld.2.2.2⟩
      clear hK K
      try simp only [Act.put, List.getElem_toArray, List.getElem_cons_zero, List.getElem_cons_succ, List.setIfInBounds_toArray, List.set_cons_zero, List.set_cons_succ]
      refine wpAnyH_take (i := 5) (v := ?_) rfl (by kernel_rfl) (by kernel_rfl) (by kernel_rfl) (fun _ _ _ h => h) (Or.inl ⟨by rfl, ?_⟩) (by assumption) ?_
      rotate_left
      · (intro w hSw; (try dsimp only at hSw); go_simp)
        first | done | with_reducible rfl
      simp only [Act.put, List.getElem_toArray, List.getElem_cons_zero, List.getElem_cons_succ, List.setIfInBounds_toArray, List.set_cons_zero, List.set_cons_succ]
      refine wpAnyH_take (i := 6) (v := ?_) rfl (by kernel_rfl) (by kernel_rfl) (by kernel_rfl) (fun _ _ _ h => h) (Or.inl ⟨by rfl, ?_⟩) (by assumption) ?_
      rotate_left
      · (intro w hSw; (try dsimp only at hSw); go_simp)
        first | done | with_reducible rfl
      simp only [Act.put, List.getElem_toArray, List.getElem_cons_zero, List.getElem_cons_succ, List.setIfInBounds_toArray, List.set_cons_zero, List.set_cons_succ]
      refine wpAnyH_take (i := 7) (v := ?_) rfl (by kernel_rfl) (by kernel_rfl) (by kernel_rfl) (fun _ _ _ h => h) (Or.inl ⟨by rfl, ?_⟩) (by assumption) ?_
      rotate_left
      · (intro w hSw; (try dsimp only at hSw); go_simp)
        first | done | with_reducible rfl
      simp only [Act.put, List.getElem_toArray, List.getElem_cons_zero, List.getElem_cons_succ, List.setIfInBounds_toArray, List.set_cons_zero, List.set_cons_succ]
      refine wpAnyH_take (i := 8) (v := ?_) rfl (by kernel_rfl) (by kernel_rfl) (by kernel_rfl) (fun _ _ _ h => h) (Or.inl ⟨by rfl, ?_⟩) (by assumption) ?_
      rotate_left
      · (intro w hSw; (try dsimp only at hSw); go_simp)
        first | done | with_reducible rfl
      simp only [Act.put, List.getElem_toArray, List.getElem_cons_zero, List.getElem_cons_succ, List.setIfInBounds_toArray, List.set_cons_zero, List.set_cons_succ]
      refine wpAnyH_take (i := 9) (v := ?_) rfl (by kernel_rfl) (by kernel_rfl) (by kernel_rfl) (fun _ _ _ h => h) (Or.inl ⟨by rfl, ?_⟩) (by assumption) ?_
      rotate_left
      · (intro w hSw; (try dsimp only at hSw); go_simp)
        first | done | with_reducible rfl
      simp only [Act.put, List.getElem_toArray, List.getElem_cons_zero, List.getElem_cons_succ, List.setIfInBounds_toArray, List.set_cons_zero, List.set_cons_succ]
      refine wpAnyH_take (i := 10) (v := ?_) rfl (by kernel_rfl) (by kernel_rfl) (by kernel_rfl) (fun _ _ _ h => h) (Or.inl ⟨by rfl, ?_⟩) (by assumption) ?_
      rotate_left
      · (intro w hSw; (try dsimp only at hSw); go_simp)
        first | done | with_reducible rfl
      simp only [Act.put, List.getElem_toArray, List.getElem_cons_zero, List.getElem_cons_succ, List.setIfInBounds_toArray, List.set_cons_zero, List.set_cons_succ]
      refine wpAnyH_take (i := 11) (v := ?_) rfl (by kernel_rfl) (by kernel_rfl) (by kernel_rfl) (fun _ _ _ h => h) (Or.inl ⟨by rfl, ?_⟩) (by assumption) ?_
      rotate_left
      · (intro w hSw; (try dsimp only at hSw); go_simp)
        first | done | with_reducible rfl
      simp only [Act.put, List.getElem_toArray, List.getElem_cons_zero, List.getElem_cons_succ, List.setIfInBounds_toArray, List.set_cons_zero, List.set_cons_succ]
      refine wpAnyH_take (i := 12) (v := ?_) rfl (by kernel_rfl) (by kernel_rfl) (by kernel_rfl) (fun _ _ _ h => h) (Or.inl ⟨by rfl, ?_⟩) (by assumption) ?_
      rotate_left
      · (intro w hSw; (try dsimp only at hSw); go_simp)
        first | done | with_reducible rfl
      simp only [Act.put, List.getElem_toArray, List.getElem_cons_zero, List.getElem_cons_succ, List.setIfInBounds_toArray, List.set_cons_zero, List.set_cons_succ]
      refine wpAnyH_take (i := 13) (v := ?_) rfl (by kernel_rfl) (by kernel_rfl) (by kernel_rfl) (fun _ _ _ h => h) (Or.inl ⟨by rfl, ?_⟩) (by assumption) ?_
      rotate_left
      · (intro w hSw; (try dsimp only at hSw); go_simp)
        first | done | with_reducible rfl
      simp only [Act.put, List.getElem_toArray, List.getElem_cons_zero, List.getElem_cons_succ, List.setIfInBounds_toArray, List.set_cons_zero, List.set_cons_succ]
      refine wpAnyH_take (i := 14) (v := ?_) rfl (by kernel_rfl) (by kernel_rfl) (by kernel_rfl) (fun _ _ _ h => h) (Or.inl ⟨by rfl, ?_⟩) (by assumption) ?_
      rotate_left
      · (intro w hSw; (try dsimp only at hSw); go_simp)
        first | done | with_reducible rfl
      simp only [Act.put, List.getElem_toArray, List.getElem_cons_zero, List.getElem_cons_succ, List.setIfInBounds_toArray, List.set_cons_zero, List.set_cons_succ]
      refine wpAnyH_take (i := 15) (v := ?_) rfl (by kernel_rfl) (by kernel_rfl) (by kernel_rfl) (fun _ _ _ h => h) (Or.inl ⟨by rfl, ?_⟩) (by assumption) ?_
      rotate_left
      · (intro w hSw; (try dsimp only at hSw); go_simp)
        first | done | with_reducible rfl
      simp only [Act.put, List.getElem_toArray, List.getElem_cons_zero, List.getElem_cons_succ, List.setIfInBounds_toArray, List.set_cons_zero, List.set_cons_succ]
      try simp only [iw]
      refine wpAnyH_ready (rs := [16]) (by kernel_rfl) (by simp) ?_
      refine AllReadyH.cons rfl (fun K hK => ?_) AllReadyH.nil
      go_simp
      refine (S2.out _).mono ?_
      rintro e w16 ⟨rfl, rfl⟩
      refine hK.out _ _ ?_ (fun hHeld => ?_)
      · exact ⟨hHeld.1, hHeld.2.1, hHeld.2.2.1, hHeld.2.2.2⟩
      clear hK K
      try simp only [Act.put, List.getElem_toArray, List.getElem_cons_zero, List.getElem_cons_succ, List.setIfInBounds_toArray, List.set_cons_zero, List.set_cons_succ]
      refine wpAnyH_take (i := 17) (v := ?_) rfl (by kernel_rfl) (by kernel_rfl) (by kernel_rfl) (fun _ _ _ h => h) (Or.inl ⟨by rfl, ?_⟩) (by assumption) ?_
      rotate_left
      · (intro w hSw; (try dsimp only at hSw); go_simp)
        first | done | with_reducible rfl
      simp only [Act.put, List.getElem_toArray, List.getElem_cons_zero, List.getElem_cons_succ, List.setIfInBounds_toArray, List.set_cons_zero, List.set_cons_succ]
      refine wpAnyH_take (i := 18) (v := ?_) rfl (by kernel_rfl) (by kernel_rfl) (by kernel_rfl) (fun _ _ _ h => h) (Or.inl ⟨by rfl, ?_⟩) (by assumption) ?_
      rotate_left
      · (intro w hSw; (try dsimp only at hSw); go_simp)
        first | done | with_reducible rfl
      simp only [Act.put, List.getElem_toArray, List.getElem_cons_zero, List.getElem_cons_succ, List.setIfInBounds_toArray, List.set_cons_zero, List.set_cons_succ]
      refine wpAnyH_take (i := 19) (v := ?_) rfl (by kernel_rfl) (by kernel_rfl) (by kernel_rfl) (fun _ _ _ h => h) (Or.inl ⟨by rfl, ?_⟩) (by assumption) ?_
      rotate_left
      · (intro w hSw; (try dsimp only at hSw); go_simp)
        first | done | with_reducible rfl
      simp only [Act.put, List.getElem_toArray, List.getElem_cons_zero, List.getElem_cons_succ, List.setIfInBounds_toArray, List.set_cons_zero, List.set_cons_succ]
      refine wpAnyH_take (i := 20) rfl (by kernel_rfl) (by kernel_rfl) (by kernel_rfl) (fun _ _ _ h => h) (Or.inr ⟨by rfl, rfl⟩) (by assumption) ?_
      simp only [Act.put, List.getElem_toArray, List.getElem_cons_zero, List.getElem_cons_succ, List.setIfInBounds_toArray, List.set_cons_zero, List.set_cons_succ]
      refine wpAnyH_take (i := 21) rfl (by kernel_rfl) (by kernel_rfl) (by kernel_rfl) (fun _ _ _ h => h) (Or.inr ⟨by rfl, rfl⟩) (by assumption) ?_
      simp only [Act.put, List.getElem_toArray, List.getElem_cons_zero, List.getElem_cons_succ, List.setIfInBounds_toArray, List.set_cons_zero, List.set_cons_succ]
      refine wpAnyH_take (i := 22) rfl (by kernel_rfl) (by kernel_rfl) (by kernel_rfl) (fun _ _ _ h => h) (Or.inr ⟨by rfl, rfl⟩) (by assumption) ?_
      simp only [Act.put, List.getElem_toArray, List.getElem_cons_zero, List.getElem_cons_succ, List.setIfInBounds_toArray, List.set_cons_zero, List.set_cons_succ]
      refine wpAnyH_take (i := 23) rfl (by kernel_rfl) (by kernel_rfl) (by kernel_rfl) (fun _ _ _ h => h) (Or.inr ⟨by rfl, rfl⟩) (by assumption) ?_
      simp only [Act.put, List.getElem_toArray, List.getElem_cons_zero, List.getElem_cons_succ, List.setIfInBounds_toArray, List.set_cons_zero, List.set_cons_succ]
      refine wpAnyH_take (i := 24) rfl (by kernel_rfl) (by kernel_rfl) (by kernel_rfl) (fun _ _ _ h => h) (Or.inr ⟨by rfl, rfl⟩) (by assumption) ?_
      simp only [Act.put, List.getElem_toArray, List.getElem_cons_zero, List.getElem_cons_succ, List.setIfInBounds_toArray, List.set_cons_zero, List.set_cons_succ]
      refine wpAnyH_take (i := 25) rfl (by kernel_rfl) (by kernel_rfl) (by kernel_rfl) (fun _ _ _ h => h) (Or.inr ⟨by rfl, rfl⟩) (by assumption) ?_
      simp only [Act.put, List.getElem_toArray, List.getElem_cons_zero, List.getElem_cons_succ, List.setIfInBounds_toArray, List.set_cons_zero, List.set_cons_succ]
      refine wpAnyH_take (i := 26) (v := ?_) rfl (by kernel_rfl) (by kernel_rfl) (by kernel_rfl) (fun _ _ _ h => h) (Or.inl ⟨by rfl, ?_⟩) (by assumption) ?_
      rotate_left
      · (intro w hSw; (try dsimp only at hSw); go_simp)
        first | done | with_reducible rfl
      simp only [Act.put, List.getElem_toArray, List.getElem_cons_zero, List.getElem_cons_succ, List.setIfInBounds_toArray, List.set_cons_zero, List.set_cons_succ]
      refine wpAnyH_take (i := 27) (v := ?_) rfl (by kernel_rfl) (by kernel_rfl) (by kernel_rfl) (fun _ _ _ h => h) (Or.inl ⟨by rfl, ?_⟩) (by assumption) ?_
      rotate_left
      · (intro w hSw; (try dsimp only at hSw); go_simp)
        first | done | with_reducible rfl
      simp only [Act.put, List.getElem_toArray, List.getElem_cons_zero, List.getElem_cons_succ, List.setIfInBounds_toArray, List.set_cons_zero, List.set_cons_succ]
      refine wpAnyH_take (i := 28) rfl (by kernel_rfl) (by kernel_rfl) (by kernel_rfl) (fun _ _ _ h => h) (Or.inr ⟨by rfl, rfl⟩) (by assumption) ?_
      simp only [Act.put, List.getElem_toArray, List.getElem_cons_zero, List.getElem_cons_succ, List.setIfInBounds_toArray, List.set_cons_zero, List.set_cons_succ]
      refine wpAnyH_take (i := 29) rfl (by kernel_rfl) (by kernel_rfl) (by kernel_rfl) (fun _ _ _ h => h) (Or.inr ⟨by rfl, rfl⟩) (by assumption) ?_
      simp only [Act.put, List.getElem_toArray, List.getElem_cons_zero, List.getElem_cons_succ, List.setIfInBounds_toArray, List.set_cons_zero, List.set_cons_succ]
      refine wpAnyH_take (i := 30) rfl (by kernel_rfl) (by kernel_rfl) (by kernel_rfl) (fun _ _ _ h => h) (Or.inr ⟨by rfl, rfl⟩) (by assumption) ?_
      simp only [Act.put, List.getElem_toArray, List.getElem_cons_zero, List.getElem_cons_succ, List.setIfInBounds_toArray, List.set_cons_zero, List.set_cons_succ]
      refine wpAnyH_take (i := 31) rfl (by kernel_rfl) (by kernel_rfl) (by kernel_rfl) (fun _ _ _ h => h) (Or.inr ⟨by rfl, rfl⟩) (by assumption) ?_
      simp only [Act.put, List.getElem_toArray, List.getElem_cons_zero, List.getElem_cons_succ, List.setIfInBounds_toArray, List.set_cons_zero, List.set_cons_succ]
      refine wpAnyH_take (i := 32) rfl (by kernel_rfl) (by kernel_rfl) (by kernel_rfl) (fun _ _ _ h => h) (Or.inr ⟨by rfl, rfl⟩) (by assumption) ?_
      simp only [Act.put, List.getElem_toArray, List.getElem_cons_zero, List.getElem_cons_succ, List.setIfInBounds_toArray, List.set_cons_zero, List.set_cons_succ]
      refine wpAnyH_take (i := 33) rfl (by kernel_rfl) (by kernel_rfl) (by kernel_rfl) (fun _ _ _ h => h) (Or.inr ⟨by rfl, rfl⟩) (by assumption) ?_
      simp only [Act.put, List.getElem_toArray, List.getElem_cons_zero, List.getElem_cons_succ, List.setIfInBounds_toArray, List.set_cons_zero, List.set_cons_succ]
      refine wpAnyH_take (i := 34) (v := ?_) rfl (by kernel_rfl) (by kernel_rfl) (by kernel_rfl) (fun _ _ _ h => h) (Or.inl ⟨by rfl, ?_⟩) (by assumption) ?_
      rotate_left
      · (intro w hSw; (try dsimp only at hSw); go_simp)
        first | done | with_reducible rfl
      simp only [Act.put, List.getElem_toArray, List.getElem_cons_zero, List.getElem_cons_succ, List.setIfInBounds_toArray, List.set_cons_zero, List.set_cons_succ]
      refine wpAnyH_done (by kernel_rfl) ?_ _
      have HU9 := Lib.hid ((Upd.refl [] w).drew)
      clear hHeld z0 z1 z2 z3 HZ H2
      go_wp2_with fail
      go_ret
      exact ⟨by rw [HRR.out]; rfl, HU9.out⟩
    | true =>
      rw [hb2] at S2
      cases hb3 : labsOk labs with
      | false =>
        have HRR := Lib.hid (show sysOk ⟨st, ini, labs, eds⟩ = false by rw [HOK.out, hb3]; simp)
        rw [hb3] at S3
        clear HOK hb1 hb2 hb3
        go_enter Tryz.func33, Tryz.ntmps33
        go_wp2_with fail
        refine wp_region_held_drew (S := fun w' => w'.cell? ⟨p, 0, none⟩ = some (ei st) ∧ w'.cell? ⟨p, 1, none⟩ = some (ei ini) ∧ w'.cell? ⟨p, 2, none⟩ = some (.slice a1 labs.length c1) ∧ w'.cell? ⟨p, 3, none⟩ = some (.slice a2 eds.length c2)) (by kernel_rfl) ?_ (fun hHeld => ?_)
        · exact ⟨z0, z1, z2, z3⟩
        refine wpAnyH_take (i := 0) (v := ?_) rfl (by kernel_rfl) (by kernel_rfl) (by kernel_rfl) (fun _ _ _ h => h) (Or.inl ⟨by rfl, ?_⟩) (by assumption) ?_
        rotate_left
        · (intro w hSw; (try dsimp only at hSw); go_simp)
          first | done | with_reducible rfl
        simp only [Act.put, List.getElem_toArray, List.getElem_cons_zero, List.setIfInBounds_toArray, List.set_cons_zero, List.set_cons_succ]
        refine wpAnyH_take (i := 1) (v := ?_) rfl (by kernel_rfl) (by kernel_rfl) (by kernel_rfl) (fun _ _ _ h => h) (Or.inl ⟨by rfl, ?_⟩) (by assumption) ?_
        rotate_left
        · (intro w hSw; (try dsimp only at hSw); go_simp)
          first | done | with_reducible rfl
        simp only [Act.put, List.getElem_toArray, List.getElem_cons_zero, List.getElem_cons_succ, List.setIfInBounds_toArray, List.set_cons_zero, List.set_cons_succ]
        refine wpAnyH_take (i := 2) (v := ?_) rfl (by kernel_rfl) (by kernel_rfl) (by kernel_rfl) (fun _ _ _ h => h) (Or.inl ⟨by rfl, ?_⟩) (by assumption) ?_
        rotate_left
        · (intro w hSw; (try dsimp only at hSw); go_simp)
          first | done | with_reducible rfl
        simp only [Act.put, List.getElem_toArray, List.getElem_cons_zero, List.getElem_cons_succ, List.setIfInBounds_toArray, List.set_cons_zero, List.set_cons_succ]
        refine wpAnyH_take (i := 3) (v := ?_) rfl (by kernel_rfl) (by kernel_rfl) (by kernel_rfl) (fun _ _ _ h => h) (Or.inl ⟨by rfl, ?_⟩) (by assumption) ?_
        rotate_left
        · (intro w hSw; (try dsimp only at hSw); go_simp)
          first | done | with_reducible rfl
        simp only [Act.put, List.getElem_toArray, List.getElem_cons_zero, List.getElem_cons_succ, List.setIfInBounds_toArray, List.set_cons_zero, List.set_cons_succ]
        refine wpAnyH_ready (rs := [4]) (by kernel_rfl) (by simp) ?_
        refine AllReadyH.cons rfl (fun K hK => ?_) AllReadyH.nil
        go_simp
        refine (S1.out _).mono ?_
        rintro e w4 ⟨rfl, rfl⟩
        refine hK.out _ _ ?_ (fun hHeld => ?_)
        · exact ⟨hHeld.1, hHeld.2.1, hHeld.2.2.1, hHeld.2.2.2⟩
        clear hK K
        try simp only [Act.put, List.getElem_toArray, List.getElem_cons_zero, List.getElem_cons_succ, List.setIfInBounds_toArray, List.set_cons_zero, List.set_cons_succ]
        refine wpAnyH_take (i := 5) (v := ?_) rfl (by kernel_rfl) (by kernel_rfl) (by kernel_rfl) (fun _ _ _ h => h) (Or.inl ⟨by rfl, ?_⟩) (by assumption) ?_
        rotate_left
        · (intro w hSw; (try dsimp only at hSw); go_simp)
          first | done | with_reducible rfl
        simp only [Act.put, List.getElem_toArray, List.getElem_cons_zero, List.getElem_cons_succ, List.setIfInBounds_toArray, List.set_cons_zero, List.set_cons_succ]
        refine wpAnyH_take (i := 6) (v := ?_) rfl (by kernel_rfl) (by kernel_rfl) (by kernel_rfl) (fun _ _ _ h => h) (Or.inl ⟨by rfl, ?_⟩) (by assumption) ?_
        rotate_left
        · (intro w hSw; (try dsimp only at hSw); go_simp)
          first | done | with_reducible rfl
        simp only [Act.put, List.getElem_toArray, List.getElem_cons_zero, List.getElem_cons_succ, List.setIfInBounds_toArray, List.set_cons_zero, List.set_cons_succ]
        refine wpAnyH_take (i := 7) (v := ?_) rfl (by kernel_rfl) (by kernel_rfl) (by kernel_rfl) (fun _ _ _ h => h) (Or.inl ⟨by rfl, ?_⟩) (by assumption) ?_
        rotate_left
        · (intro w hSw; (try dsimp only at hSw); go_simp)
          first | done | with_reducible rfl
        simp only [Act.put, List.getElem_toArray, List.getElem_cons_zero, List.getElem_cons_succ, List.setIfInBounds_toArray, List.set_cons_zero, List.set_cons_succ]
        refine wpAnyH_take (i := 8) (v := ?_) rfl (by kernel_rfl) (by kernel_rfl) (by kernel_rfl) (fun _ _ _ h => h) (Or.inl ⟨by rfl, ?_⟩) (by assumption) ?_
        rotate_left
        · (intro w hSw; (try dsimp only at hSw); go_simp)
          first | done | with_reducible rfl
        simp only [Act.put, List.getElem_toArray, List.getElem_cons_zero, List.getElem_cons_succ, List.setIfInBounds_toArray, List.set_cons_zero, List.set_cons_succ]
        refine wpAnyH_take (i := 9) (v := ?_) rfl (by kernel_rfl) (by kernel_rfl) (by kernel_rfl) (fun _ _ _ h => h) (Or.inl ⟨by rfl, ?_⟩) (by assumption) ?_
        rotate_left
        · (intro w hSw; (try dsimp only at hSw); go_simp)
          first | done | with_reducible rfl
        simp only [Act.put, List.getElem_toArray, List.getElem_cons_zero, List.getElem_cons_succ, List.setIfInBounds_toArray, List.set_cons_zero, List.set_cons_succ]
        refine wpAnyH_take (i := 10) (v := ?_) rfl (by kernel_rfl) (by kernel_rfl) (by kernel_rfl) (fun _ _ _ h => h) (Or.inl ⟨by rfl, ?_⟩) (by assumption) ?_
        rotate_left
        · (intro w hSw; (try dsimp only at hSw); go_simp)
          first | done | with_reducible rfl
        simp only [Act.put, List.getElem_toArray, List.getElem_cons_zero, List.getElem_cons_succ, List.setIfInBounds_toArray, List.set_cons_zero, List.set_cons_succ]
        refine wpAnyH_take (i := 11) (v := ?_) rfl (by kernel_rfl) (by kernel_rfl) (by kernel_rfl) (fun _ _ _ h => h) (Or.inl ⟨by rfl, ?_⟩) (by assumption) ?_
        rotate_left
        · (intro w hSw; (try dsimp only at hSw); go_simp)
          first | done | with_reducible rfl
        simp only [Act.put, List.getElem_toArray, List.getElem_cons_zero, List.getElem_cons_succ, List.setIfInBounds_toArray, List.set_cons_zero, List.set_cons_succ]
        refine wpAnyH_take (i := 12) (v := ?_) rfl (by kernel_rfl) (by kernel_rfl) (by kernel_rfl) (fun _ _ _ h => h) (Or.inl ⟨by rfl, ?_⟩) (by assumption) ?_
        rotate_left
        · (intro w hSw; (try dsimp only at hSw); go_simp)
          first | done | with_reducible rfl
        simp only [Act.put, List.getElem_toArray, List.getElem_cons_zero, List.getElem_cons_succ, List.setIfInBounds_toArray, List.set_cons_zero, List.set_cons_succ]
        refine wpAnyH_take (i := 13) (v := ?_) rfl (by kernel_rfl) (by kernel_rfl) (by kernel_rfl) (fun _ _ _ h => h) (Or.inl ⟨by rfl, ?_⟩) (by assumption) ?_
        rotate_left
        · (intro w hSw; (try dsimp only at hSw); go_simp)
          first | done | with_reducible rfl
        simp only [Act.put, List.getElem_toArray, List.getElem_cons_zero, List.getElem_cons_succ, List.setIfInBounds_toArray, List.set_cons_zero, List.set_cons_succ]
        refine wpAnyH_take (i := 14) (v := ?_) rfl (by kernel_rfl) (by kernel_rfl) (by kernel_rfl) (fun _ _ _ h => h) (Or.inl ⟨by rfl, ?_⟩) (by assumption) ?_
        rotate_left
        · (intro w hSw; (try dsimp only at hSw); go_simp)
          first | done | with_reducible rfl
        simp only [Act.put, List.getElem_toArray, List.getElem_cons_zero, List.getElem_cons_succ, List.setIfInBounds_toArray, List.set_cons_zero, List.set_cons_succ]
        refine wpAnyH_take (i := 15) (v := ?_) rfl (by kernel_rfl) (by kernel_rfl) (by kernel_rfl) (fun _ _ _ h => h) (Or.inl ⟨by rfl, ?_⟩) (by assumption) ?_
        rotate_left
        · (intro w hSw; (try dsimp only at hSw); go_simp)
          first | done | with_reducible rfl
        simp only [Act.put, List.getElem_toArray, List.getElem_cons_zero, List.getElem_cons_succ, List.setIfInBounds_toArray, List.set_cons_zero, List.set_cons_succ]
        try simp only [iw]
        refine wpAnyH_ready (rs := [16]) (by kernel_rfl) (by simp) ?_
        refine AllReadyH.cons rfl (fun K hK => ?_) AllReadyH.nil
        go_simp
        refine (S2.out _).mono ?_
        rintro e w16 ⟨rfl, rfl⟩
        refine hK.out _ _ ?_ (fun hHeld => ?_)
        · exact ⟨hHeld.1, hHeld.2.1, hHeld.2.2.1, hHeld.2.2.2⟩
        clear hK K
        try simp only [Act.put, List.getElem_toArray, List.getElem_cons_zero, List.getElem_cons_succ, List.setIfInBounds_toArray, List.set_cons_zero, List.set_cons_succ]
        refine wpAnyH_take (i := 17) (v := ?_) rfl (by kernel_rfl) (by kernel_rfl) (by kernel_rfl) (fun _ _ _ h => h) (Or.inl ⟨by rfl, ?_⟩) (by assumption) ?_
        rotate_left
        · (intro w hSw; (try dsimp only at hSw); go_simp)
          first | done | with_reducible rfl
        simp only [Act.put, List.getElem_toArray, List.getElem_cons_zero, List.getElem_cons_succ, List.setIfInBounds_toArray, List.set_cons_zero, List.set_cons_succ]
        refine wpAnyH_take (i := 18) (v := ?_) rfl (by kernel_rfl) (by kernel_rfl) (by kernel_rfl) (fun _ _ _ h => h) (Or.inl ⟨by rfl, ?_⟩) (by assumption) ?_
        rotate_left
        · (intro w hSw; (try dsimp only at hSw); go_simp)
          first | done | with_reducible rfl
        simp only [Act.put, List.getElem_toArray, List.getElem_cons_zero, List.getElem_cons_succ, List.setIfInBounds_toArray, List.set_cons_zero, List.set_cons_succ]
        refine wpAnyH_take (i := 19) (v := ?_) rfl (by kernel_rfl) (by kernel_rfl) (by kernel_rfl) (fun _ _ _ h => h) (Or.inl ⟨by rfl, ?_⟩) (by assumption) ?_
        rotate_left
        · (intro w hSw; (try dsimp only at hSw); go_simp)
          first | done | with_reducible rfl
        simp only [Act.put, List.getElem_toArray, List.getElem_cons_zero, List.getElem_cons_succ, List.setIfInBounds_toArray, List.set_cons_zero, List.set_cons_succ]
        refine wpAnyH_take (i := 20) (v := ?_) rfl (by kernel_rfl) (by kernel_rfl) (by kernel_rfl) (fun _ _ _ h => h) (Or.inl ⟨by rfl, ?_⟩) (by assumption) ?_
        rotate_left
        · (intro w hSw; (try dsimp only at hSw); go_simp)
          first | done | with_reducible rfl
        simp only [Act.put, List.getElem_toArray, List.getElem_cons_zero, List.getElem_cons_succ, List.setIfInBounds_toArray, List.set_cons_zero, List.set_cons_succ]
        refine wpAnyH_take (i := 21) (v := ?_) rfl (by kernel_rfl) (by kernel_rfl) (by kernel_rfl) (fun _ _ _ h => h) (Or.inl ⟨by rfl, ?_⟩) (by assumption) ?_
        rotate_left
        · (intro w hSw; (try dsimp only at hSw); go_simp)
          first | done | with_reducible rfl
        simp only [Act.put, List.getElem_toArray, List.getElem_cons_zero, List.getElem_cons_succ, List.setIfInBounds_toArray, List.set_cons_zero, List.set_cons_succ]
        refine wpAnyH_take (i := 22) (v := ?_) rfl (by kernel_rfl) (by kernel_rfl) (by kernel_rfl) (fun _ _ _ h => h) (Or.inl ⟨by rfl, ?_⟩) (by assumption) ?_
        rotate_left
        · (intro w hSw; (try dsimp only at hSw); go_simp)
          first | done | with_reducible rfl
        simp only [Act.put, List.getElem_toArray, List.getElem_cons_zero, List.getElem_cons_succ, List.setIfInBounds_toArray, List.set_cons_zero, List.set_cons_succ]
        refine wpAnyH_take (i := 23) (v := ?_) rfl (by kernel_rfl) (by kernel_rfl) (by kernel_rfl) (fun _ _ _ h => h) (Or.inl ⟨by rfl, ?_⟩) (by assumption) ?_
        rotate_left
        · (intro w hSw; (try dsimp only at hSw); go_simp)
          first | done | with_reducible rfl
        simp only [Act.put, List.getElem_toArray, List.getElem_cons_zero, List.getElem_cons_succ, List.setIfInBounds_toArray, List.set_cons_zero, List.set_cons_succ]
        refine wpAnyH_ready (rs := [24]) (by kernel_rfl) (by simp) ?_
        refine AllReadyH.cons rfl (fun K hK => ?_) AllReadyH.nil
        go_simp
        refine (S3.out).mono ?_
        rintro e w24 ⟨rfl, hu3⟩
        refine hK.out _ _ ?_ (fun hHeld => ?_)
        · exact ⟨hu3.keep hHeld.1, hu3.keep hHeld.2.1, hu3.keep hHeld.2.2.1, hu3.keep hHeld.2.2.2⟩
        clear hK K
        try simp only [Act.put, List.getElem_toArray, List.getElem_cons_zero, List.getElem_cons_succ, List.setIfInBounds_toArray, List.set_cons_zero, List.set_cons_succ]
        refine wpAnyH_take (i := 25) (v := ?_) rfl (by kernel_rfl) (by kernel_rfl) (by kernel_rfl) (fun _ _ _ h => h) (Or.inl ⟨by rfl, ?_⟩) (by assumption) ?_
        rotate_left
        · (intro w hSw; (try dsimp only at hSw); go_simp)
          first | done | with_reducible rfl
        simp only [Act.put, List.getElem_toArray, List.getElem_cons_zero, List.getElem_cons_succ, List.setIfInBounds_toArray, List.set_cons_zero, List.set_cons_succ]
        refine wpAnyH_take (i := 26) (v := ?_) rfl (by kernel_rfl) (by kernel_rfl) (by kernel_rfl) (fun _ _ _ h => h) (Or.inl ⟨by rfl, ?_⟩) (by assumption) ?_
        rotate_left
        · (intro w hSw; (try dsimp only at hSw); go_simp)
          first | done | with_reducible rfl
        simp only [Act.put, List.getElem_toArray, List.getElem_cons_zero, List.getElem_cons_succ, List.setIfInBounds_toArray, List.set_cons_zero, List.set_cons_succ]
        refine wpAnyH_take (i := 27) (v := ?_) rfl (by kernel_rfl) (by kernel_rfl) (by kernel_rfl) (fun _ _ _ h => h) (Or.inl ⟨by rfl, ?_⟩) (by assumption) ?_
        rotate_left
        · (intro w hSw; (try dsimp only at hSw); go_simp)
          first | done | with_reducible rfl
        simp only [Act.put, List.getElem_toArray, List.getElem_cons_zero, List.getElem_cons_succ, List.setIfInBounds_toArray, List.set_cons_zero, List.set_cons_succ]
        refine wpAnyH_take (i := 28) rfl (by kernel_rfl) (by kernel_rfl) (by kernel_rfl) (fun _ _ _ h => h) (Or.inr ⟨by rfl, rfl⟩) (by assumption) ?_
        simp only [Act.put, List.getElem_toArray, List.getElem_cons_zero, List.getElem_cons_succ, List.setIfInBounds_toArray, List.set_cons_zero, List.set_cons_succ]
        refine wpAnyH_take (i := 29) rfl (by kernel_rfl) (by kernel_rfl) (by kernel_rfl) (fun _ _ _ h => h) (Or.inr ⟨by rfl, rfl⟩) (by assumption) ?_
        simp only [Act.put, List.getElem_toArray, List.getElem_cons_zero, List.getElem_cons_succ, List.setIfInBounds_toArray, List.set_cons_zero, List.set_cons_succ]
        refine wpAnyH_take (i := 30) rfl (by kernel_rfl) (by kernel_rfl) (by kernel_rfl) (fun _ _ _ h => h) (Or.inr ⟨by rfl, rfl⟩) (by assumption) ?_
        simp only [Act.put, List.getElem_toArray, List.getElem_cons_zero, List.getElem_cons_succ, List.setIfInBounds_toArray, List.set_cons_zero, List.set_cons_succ]
        refine wpAnyH_take (i := 31) rfl (by kernel_rfl) (by kernel_rfl) (by kernel_rfl) (fun _ _ _ h => h) (Or.inr ⟨by rfl, rfl⟩) (by assumption) ?_
        simp only [Act.put, List.getElem_toArray, List.getElem_cons_zero, List.getElem_cons_succ, List.setIfInBounds_toArray, List.set_cons_zero, List.set_cons_succ]
        refine wpAnyH_take (i := 32) rfl (by kernel_rfl) (by kernel_rfl) (by kernel_rfl) (fun _ _ _ h => h) (Or.inr ⟨by rfl, rfl⟩) (by assumption) ?_
        simp only [Act.put, List.getElem_toArray, List.getElem_cons_zero, List.getElem_cons_succ, List.setIfInBounds_toArray, List.set_cons_zero, List.set_cons_succ]
        refine wpAnyH_take (i := 33) rfl (by kernel_rfl) (by kernel_rfl) (by kernel_rfl) (fun _ _ _ h => h) (Or.inr ⟨by rfl, rfl⟩) (by assumption) ?_
        simp only [Act.put, List.getElem_toArray, List.getElem_cons_zero, List.getElem_cons_succ, List.setIfInBounds_toArray, List.set_cons_zero, List.set_cons_succ]
        refine wpAnyH_take (i := 34) (v := ?_) rfl (by kernel_rfl) (by kernel_rfl) (by kernel_rfl) (fun _ _ _ h => h) (Or.inl ⟨by rfl, ?_⟩) (by assumption) ?_
        rotate_left
        · (intro w hSw; (try dsimp only at hSw); go_simp)
          first | done | with_reducible rfl
        simp only [Act.put, List.getElem_toArray, List.getElem_cons_zero, List.getElem_cons_succ, List.setIfInBounds_toArray, List.set_cons_zero, List.set_cons_succ]
        refine wpAnyH_done (by kernel_rfl) ?_ _
        have HU9 := Lib.hid ((Upd.refl [] w).drew.trans hu3)
        clear hHeld z0 z1 z2 z3 HZ H2
        go_wp2_with fail
        go_ret
        exact ⟨by rw [HRR.out]; rfl, HU9.out⟩
      | true =>
        have hll : labs.length ≤ 12 := by unfold labsOk at hb3; simp only [Bool.and_eq_true, decide_eq_true_eq] at hb3; exact hb3.1.2
        rw [hb3] at S3
        by_cases hel : 300 < eds.length
        · have HRR := Lib.hid (show sysOk ⟨st, ini, labs, eds⟩ = false by rw [HOK.out, decide_eq_false (show ¬ eds.length ≤ 300 by omega)]; simp)
          have kI : decide ((300 : Int) < (eds.length : Int)) = true := decide_eq_true (by omega)
          have kN : decide (300 < eds.length) = true := decide_eq_true hel
          clear HOK hb1 hb2 hb3
          go_enter Tryz.func33, Tryz.ntmps33
          go_wp2_with fail
          refine wp_region_held_drew (S := fun w' => w'.cell? ⟨p, 0, none⟩ = some (ei st) ∧ w'.cell? ⟨p, 1, none⟩ = some (ei ini) ∧ w'.cell? ⟨p, 2, none⟩ = some (.slice a1 labs.length c1) ∧ w'.cell? ⟨p, 3, none⟩ = some (.slice a2 eds.length c2)) (by kernel_rfl) ?_ (fun hHeld => ?_)
          · exact ⟨z0, z1, z2, z3⟩
          refine wpAnyH_take (i := 0) (v := ?_) rfl (by kernel_rfl) (by kernel_rfl) (by kernel_rfl) (fun _ _ _ h => h) (Or.inl ⟨by rfl, ?_⟩) (by assumption) ?_
          rotate_left
          · (intro w hSw; (try dsimp only at hSw); go_simp)
            first | done | with_reducible rfl
          simp only [Act.put, List.getElem_toArray, List.getElem_cons_zero, List.setIfInBounds_toArray, List.set_cons_zero, List.set_cons_succ]
          refine wpAnyH_take (i := 1) (v := ?_) rfl (by kernel_rfl) (by kernel_rfl) (by kernel_rfl) (fun _ _ _ h => h) (Or.inl ⟨by rfl, ?_⟩) (by assumption) ?_
          rotate_left
          · (intro w hSw; (try dsimp only at hSw); go_simp)
            first | done | with_reducible rfl
          simp only [Act.put, List.getElem_toArray, List.getElem_cons_zero, List.getElem_cons_succ, List.setIfInBounds_toArray, List.set_cons_zero, List.set_cons_succ]
          refine wpAnyH_take (i := 2) (v := ?_) rfl (by kernel_rfl) (by kernel_rfl) (by kernel_rfl) (fun _ _ _ h => h) (Or.inl ⟨by rfl, ?_⟩) (by assumption) ?_
          rotate_left
          · (intro w hSw; (try dsimp only at hSw); go_simp)
            first | done | with_reducible rfl
          simp only [Act.put, List.getElem_toArray, List.getElem_cons_zero, List.getElem_cons_succ, List.setIfInBounds_toArray, List.set_cons_zero, List.set_cons_succ]
          refine wpAnyH_take (i := 3) (v := ?_) rfl (by kernel_rfl) (by kernel_rfl) (by kernel_rfl) (fun _ _ _ h => h) (Or.inl ⟨by rfl, ?_⟩) (by assumption) ?_
          rotate_left
          · (intro w hSw; (try dsimp only at hSw); go_simp)
            first | done | with_reducible rfl
          simp only [Act.put, List.getElem_toArray, List.getElem_cons_zero, List.getElem_cons_succ, List.setIfInBounds_toArray, List.set_cons_zero, List.set_cons_succ]
          refine wpAnyH_ready (rs := [4]) (by kernel_rfl) (by simp) ?_
          refine AllReadyH.cons rfl (fun K hK => ?_) AllReadyH.nil
          go_simp
          refine (S1.out _).mono ?_
          rintro e w4 ⟨rfl, rfl⟩
          refine hK.out _ _ ?_ (fun hHeld => ?_)
          · exact ⟨hHeld.1, hHeld.2.1, hHeld.2.2.1, hHeld.2.2.2⟩
          clear hK K
          try simp only [Act.put, List.getElem_toArray, List.getElem_cons_zero, List.getElem_cons_succ, List.setIfInBounds_toArray, List.set_cons_zero, List.set_cons_succ]
          refine wpAnyH_take (i := 5) (v := ?_) rfl (by kernel_rfl) (by kernel_rfl) (by kernel_rfl) (fun _ _ _ h => h) (Or.inl ⟨by rfl, ?_⟩) (by assumption) ?_
          rotate_left
          · (intro w hSw; (try dsimp only at hSw); go_simp)
            first | done | with_reducible rfl
          simp only [Act.put, List.getElem_toArray, List.getElem_cons_zero, List.getElem_cons_succ, List.setIfInBounds_toArray, List.set_cons_zero, List.set_cons_succ]
          refine wpAnyH_take (i := 6) (v := ?_) rfl (by kernel_rfl) (by kernel_rfl) (by kernel_rfl) (fun _ _ _ h => h) (Or.inl ⟨by rfl, ?_⟩) (by assumption) ?_
          rotate_left
          · (intro w hSw; (try dsimp only at hSw); go_simp)
            first | done | with_reducible rfl
          simp only [Act.put, List.getElem_toArray, List.getElem_cons_zero, List.getElem_cons_succ, List.setIfInBounds_toArray, List.set_cons_zero, List.set_cons_succ]
          refine wpAnyH_take (i := 7) (v := ?_) rfl (by kernel_rfl) (by kernel_rfl) (by kernel_rfl) (fun _ _ _ h => h) (Or.inl ⟨by rfl, ?_⟩) (by assumption) ?_
          rotate_left
          · (intro w hSw; (try dsimp only at hSw); go_simp)
            first | done | with_reducible rfl
          simp only [Act.put, List.getElem_toArray, List.getElem_cons_zero, List.getElem_cons_succ, List.setIfInBounds_toArray, List.set_cons_zero, List.set_cons_succ]
          refine wpAnyH_take (i := 8) (v := ?_) rfl (by kernel_rfl) (by kernel_rfl) (by kernel_rfl) (fun _ _ _ h => h) (Or.inl ⟨by rfl, ?_⟩) (by assumption) ?_
          rotate_left
          · (intro w hSw; (try dsimp only at hSw); go_simp)
            first | done | with_reducible rfl
          simp only [Act.put, List.getElem_toArray, List.getElem_cons_zero, List.getElem_cons_succ, List.setIfInBounds_toArray, List.set_cons_zero, List.set_cons_succ]
          refine wpAnyH_take (i := 9) (v := ?_) rfl (by kernel_rfl) (by kernel_rfl) (by kernel_rfl) (fun _ _ _ h => h) (Or.inl ⟨by rfl, ?_⟩) (by assumption) ?_
          rotate_left
          · (intro w hSw; (try dsimp only at hSw); go_simp)
            first | done | with_reducible rfl
          simp only [Act.put, List.getElem_toArray, List.getElem_cons_zero, List.getElem_cons_succ, List.setIfInBounds_toArray, List.set_cons_zero, List.set_cons_succ]
          refine wpAnyH_take (i := 10) (v := ?_) rfl (by kernel_rfl) (by kernel_rfl) (by kernel_rfl) (fun _ _ _ h => h) (Or.inl ⟨by rfl, ?_⟩) (by assumption) ?_
          rotate_left
          · (intro w hSw; (try dsimp only at hSw); go_simp)
            first | done | with_reducible rfl
          simp only [Act.put, List.getElem_toArray, List.getElem_cons_zero, List.getElem_cons_succ, List.setIfInBounds_toArray, List.set_cons_zero, List.set_cons_succ]
          refine wpAnyH_take (i := 11) (v := ?_) rfl (by kernel_rfl) (by kernel_rfl) (by kernel_rfl) (fun _ _ _ h => h) (Or.inl ⟨by rfl, ?_⟩) (by assumption) ?_
          rotate_left
          · (intro w hSw; (try dsimp only at hSw); go_simp)
            first | done | with_reducible rfl
          simp only [Act.put, List.getElem_toArray, List.getElem_cons_zero, List.getElem_cons_succ, List.setIfInBounds_toArray, List.set_cons_zero, List.set_cons_succ]
          refine wpAnyH_take (i := 12) (v := ?_) rfl (by kernel_rfl) (by kernel_rfl) (by kernel_rfl) (fun _ _ _ h => h) (Or.inl ⟨by rfl, ?_⟩) (by assumption) ?_
          rotate_left
          · (intro w hSw; (try dsimp only at hSw); go_simp)
            first | done | with_reducible rfl
          simp only [Act.put, List.getElem_toArray, List.getElem_cons_zero, List.getElem_cons_succ, List.setIfInBounds_toArray, List.set_cons_zero, List.set_cons_succ]
          refine wpAnyH_take (i := 13) (v := ?_) rfl (by kernel_rfl) (by kernel_rfl) (by kernel_rfl) (fun _ _ _ h => h) (Or.inl ⟨by rfl, ?_⟩) (by assumption) ?_
          rotate_left
          · (intro w hSw; (try dsimp only at hSw); go_simp)
            first | done | with_reducible rfl
          simp only [Act.put, List.getElem_toArray, List.getElem_cons_zero, List.getElem_cons_succ, List.setIfInBounds_toArray, List.set_cons_zero, List.set_cons_succ]
          refine wpAnyH_take (i := 14) (v := ?_) rfl (by kernel_rfl) (by kernel_rfl) (by kernel_rfl) (fun _ _ _ h => h) (Or.inl ⟨by rfl, ?_⟩) (by assumption) ?_
          rotate_left
          · (intro w hSw; (try dsimp only at hSw); go_simp)
            first | done | with_reducible rfl
          simp only [Act.put, List.getElem_toArray, List.getElem_cons_zero, List.getElem_cons_succ, List.setIfInBounds_toArray, List.set_cons_zero, List.set_cons_succ]
          refine wpAnyH_take (i := 15) (v := ?_) rfl (by kernel_rfl) (by kernel_rfl) (by kernel_rfl) (fun _ _ _ h => h) (Or.inl ⟨by rfl, ?_⟩) (by assumption) ?_
          rotate_left
          · (intro w hSw; (try dsimp only at hSw); go_simp)
            first | done | with_reducible rfl
          simp only [Act.put, List.getElem_toArray, List.getElem_cons_zero, List.getElem_cons_succ, List.setIfInBounds_toArray, List.set_cons_zero, List.set_cons_succ]
          try simp only [iw]
          refine wpAnyH_ready (rs := [16]) (by kernel_rfl) (by simp) ?_
          refine AllReadyH.cons rfl (fun K hK => ?_) AllReadyH.nil
          go_simp
          refine (S2.out _).mono ?_
          rintro e w16 ⟨rfl, rfl⟩
          refine hK.out _ _ ?_ (fun hHeld => ?_)
          · exact ⟨hHeld.1, hHeld.2.1, hHeld.2.2.1, hHeld.2.2.2⟩
          clear hK K
          try simp only [Act.put, List.getElem_toArray, List.getElem_cons_zero, List.getElem_cons_succ, List.setIfInBounds_toArray, List.set_cons_zero, List.set_cons_succ]
          refine wpAnyH_take (i := 17) (v := ?_) rfl (by kernel_rfl) (by kernel_rfl) (by kernel_rfl) (fun _ _ _ h => h) (Or.inl ⟨by rfl, ?_⟩) (by assumption) ?_
          rotate_left
          · (intro w hSw; (try dsimp only at hSw); go_simp)
            first | done | with_reducible rfl
          simp only [Act.put, List.getElem_toArray, List.getElem_cons_zero, List.getElem_cons_succ, List.setIfInBounds_toArray, List.set_cons_zero, List.set_cons_succ]
          refine wpAnyH_take (i := 18) (v := ?_) rfl (by kernel_rfl) (by kernel_rfl) (by kernel_rfl) (fun _ _ _ h => h) (Or.inl ⟨by rfl, ?_⟩) (by assumption) ?_
          rotate_left
          · (intro w hSw; (try dsimp only at hSw); go_simp)
            first | done | with_reducible rfl
          simp only [Act.put, List.getElem_toArray, List.getElem_cons_zero, List.getElem_cons_succ, List.setIfInBounds_toArray, List.set_cons_zero, List.set_cons_succ]
          refine wpAnyH_take (i := 19) (v := ?_) rfl (by kernel_rfl) (by kernel_rfl) (by kernel_rfl) (fun _ _ _ h => h) (Or.inl ⟨by rfl, ?_⟩) (by assumption) ?_
          rotate_left
          · (intro w hSw; (try dsimp only at hSw); go_simp)
            first | done | with_reducible rfl
          simp only [Act.put, List.getElem_toArray, List.getElem_cons_zero, List.getElem_cons_succ, List.setIfInBounds_toArray, List.set_cons_zero, List.set_cons_succ]
          refine wpAnyH_take (i := 20) (v := ?_) rfl (by kernel_rfl) (by kernel_rfl) (by kernel_rfl) (fun _ _ _ h => h) (Or.inl ⟨by rfl, ?_⟩) (by assumption) ?_
          rotate_left
          · (intro w hSw; (try dsimp only at hSw); go_simp)
            first | done | with_reducible rfl
          simp only [Act.put, List.getElem_toArray, List.getElem_cons_zero, List.getElem_cons_succ, List.setIfInBounds_toArray, List.set_cons_zero, List.set_cons_succ]
          refine wpAnyH_take (i := 21) (v := ?_) rfl (by kernel_rfl) (by kernel_rfl) (by kernel_rfl) (fun _ _ _ h => h) (Or.inl ⟨by rfl, ?_⟩) (by assumption) ?_
          rotate_left
          · (intro w hSw; (try dsimp only at hSw); go_simp)
            first | done | with_reducible rfl
          simp only [Act.put, List.getElem_toArray, List.getElem_cons_zero, List.getElem_cons_succ, List.setIfInBounds_toArray, List.set_cons_zero, List.set_cons_succ]
          refine wpAnyH_take (i := 22) (v := ?_) rfl (by kernel_rfl) (by kernel_rfl) (by kernel_rfl) (fun _ _ _ h => h) (Or.inl ⟨by rfl, ?_⟩) (by assumption) ?_
          rotate_left
          · (intro w hSw; (try dsimp only at hSw); go_simp)
            first | done | with_reducible rfl
          simp only [Act.put, List.getElem_toArray, List.getElem_cons_zero, List.getElem_cons_succ, List.setIfInBounds_toArray, List.set_cons_zero, List.set_cons_succ]
          refine wpAnyH_take (i := 23) (v := ?_) rfl (by kernel_rfl) (by kernel_rfl) (by kernel_rfl) (fun _ _ _ h => h) (Or.inl ⟨by rfl, ?_⟩) (by assumption) ?_
          rotate_left
          · (intro w hSw; (try dsimp only at hSw); go_simp)
            first | done | with_reducible rfl
          simp only [Act.put, List.getElem_toArray, List.getElem_cons_zero, List.getElem_cons_succ, List.setIfInBounds_toArray, List.set_cons_zero, List.set_cons_succ]
          refine wpAnyH_ready (rs := [24]) (by kernel_rfl) (by simp) ?_
          refine AllReadyH.cons rfl (fun K hK => ?_) AllReadyH.nil
          go_simp
          refine (S3.out).mono ?_
          rintro e w24 ⟨rfl, hu3⟩
          refine hK.out _ _ ?_ (fun hHeld => ?_)
          · exact ⟨hu3.keep hHeld.1, hu3.keep hHeld.2.1, hu3.keep hHeld.2.2.1, hu3.keep hHeld.2.2.2⟩
          clear hK K
          try simp only [Act.put, List.getElem_toArray, List.getElem_cons_zero, List.getElem_cons_succ, List.setIfInBounds_toArray, List.set_cons_zero, List.set_cons_succ]
          refine wpAnyH_take (i := 25) (v := ?_) rfl (by kernel_rfl) (by kernel_rfl) (by kernel_rfl) (fun _ _ _ h => h) (Or.inl ⟨by rfl, ?_⟩) (by assumption) ?_
          rotate_left
          · (intro w hSw; (try dsimp only at hSw); go_simp)
            first | done | with_reducible rfl
          simp only [Act.put, List.getElem_toArray, List.getElem_cons_zero, List.getElem_cons_succ, List.setIfInBounds_toArray, List.set_cons_zero, List.set_cons_succ]
          refine wpAnyH_take (i := 26) (v := ?_) rfl (by kernel_rfl) (by kernel_rfl) (by kernel_rfl) (fun _ _ _ h => h) (Or.inl ⟨by rfl, ?_⟩) (by assumption) ?_
          rotate_left
          · (intro w hSw; (try dsimp only at hSw); go_simp)
            first | done | with_reducible rfl
          simp only [Act.put, List.getElem_toArray, List.getElem_cons_zero, List.getElem_cons_succ, List.setIfInBounds_toArray, List.set_cons_zero, List.set_cons_succ]
          refine wpAnyH_take (i := 27) (v := ?_) rfl (by kernel_rfl) (by kernel_rfl) (by kernel_rfl) (fun _ _ _ h => h) (Or.inl ⟨by rfl, ?_⟩) (by assumption) ?_
          rotate_left
          · (intro w hSw; (try dsimp only at hSw); go_simp)
            first | done | with_reducible rfl
          simp only [Act.put, List.getElem_toArray, List.getElem_cons_zero, List.getElem_cons_succ, List.setIfInBounds_toArray, List.set_cons_zero, List.set_cons_succ]
          refine wpAnyH_take (i := 28) (v := ?_) rfl (by kernel_rfl) (by kernel_rfl) (by kernel_rfl) (fun _ _ _ h => h) (Or.inl ⟨by rfl, ?_⟩) (by assumption) ?_
          rotate_left
          · (intro w hSw; (try dsimp only at hSw); go_simp)
            first | done | with_reducible rfl
          simp only [Act.put, List.getElem_toArray, List.getElem_cons_zero, List.getElem_cons_succ, List.setIfInBounds_toArray, List.set_cons_zero, List.set_cons_succ]
          refine wpAnyH_take (i := 29) (v := ?_) rfl (by kernel_rfl) (by kernel_rfl) (by kernel_rfl) (fun _ _ _ h => h) (Or.inl ⟨by rfl, ?_⟩) (by assumption) ?_
          rotate_left
          · (intro w hSw; (try dsimp only at hSw); go_simp)
            first | done | with_reducible rfl
          simp only [Act.put, List.getElem_toArray, List.getElem_cons_zero, List.getElem_cons_succ, List.setIfInBounds_toArray, List.set_cons_zero, List.set_cons_succ]
          refine wpAnyH_take (i := 30) (v := ?_) rfl (by kernel_rfl) (by kernel_rfl) (by kernel_rfl) (fun _ _ _ h => h) (Or.inl ⟨by rfl, ?_⟩) (by assumption) ?_
          rotate_left
          · (intro w hSw; (try dsimp only at hSw); go_simp)
            first | done | with_reducible rfl
          simp only [Act.put, List.getElem_toArray, List.getElem_cons_zero, List.getElem_cons_succ, List.setIfInBounds_toArray, List.set_cons_zero, List.set_cons_succ]
          refine wpAnyH_take (i := 31) (v := ?_) rfl (by kernel_rfl) (by kernel_rfl) (by kernel_rfl) (fun _ _ _ h => h) (Or.inl ⟨by rfl, ?_⟩) (by assumption) ?_
          rotate_left
          · (intro w hSw; (try dsimp only at hSw); go_simp)
            first | done | with_reducible rfl
          simp only [Act.put, List.getElem_toArray, List.getElem_cons_zero, List.getElem_cons_succ, List.setIfInBounds_toArray, List.set_cons_zero, List.set_cons_succ]
          refine wpAnyH_take (i := 32) (v := ?_) rfl (by kernel_rfl) (by kernel_rfl) (by kernel_rfl) (fun _ _ _ h => h) (Or.inl ⟨by rfl, ?_⟩) (by assumption) ?_
          rotate_left
          · (intro w hSw; (try dsimp only at hSw); go_simp)
            first | done | with_reducible rfl
          simp only [Act.put, List.getElem_toArray, List.getElem_cons_zero, List.getElem_cons_succ, List.setIfInBounds_toArray, List.set_cons_zero, List.set_cons_succ]
          refine wpAnyH_take (i := 33) (v := ?_) rfl (by kernel_rfl) (by kernel_rfl) (by kernel_rfl) (fun _ _ _ h => h) (Or.inl ⟨by rfl, ?_⟩) (by assumption) ?_
          rotate_left
          · (intro w hSw; (try dsimp only at hSw); go_simp)
            first | done | with_reducible rfl
          simp only [Act.put, List.getElem_toArray, List.getElem_cons_zero, List.getElem_cons_succ, List.setIfInBounds_toArray, List.set_cons_zero, List.set_cons_succ]
          try simp only [kI]
          try simp only [kN]
          refine wpAnyH_take (i := 34) (v := ?_) rfl (by kernel_rfl) (by kernel_rfl) (by kernel_rfl) (fun _ _ _ h => h) (Or.inl ⟨by rfl, ?_⟩) (by assumption) ?_
          rotate_left
          · (intro w hSw; (try dsimp only at hSw); go_simp)
            first | done | with_reducible rfl
          simp only [Act.put, List.getElem_toArray, List.getElem_cons_zero, List.getElem_cons_succ, List.setIfInBounds_toArray, List.set_cons_zero, List.set_cons_succ]
          refine wpAnyH_done (by kernel_rfl) ?_ _
          have HU9 := Lib.hid ((Upd.refl [] w).drew.trans hu3)
          clear hHeld z0 z1 z2 z3 HZ H2
          go_wp2_with fail
          go_ret
          exact ⟨by rw [HRR.out]; rfl, HU9.out⟩
        · have HOK2 := Lib.hid (show sysOk ⟨st, ini, labs, eds⟩ = allF (edP ⟨st, ini, labs, eds⟩) 0 eds.length by rw [HOK.out, hb1, hb2, hb3, decide_eq_true (show eds.length ≤ 300 by omega)]; simp)
          have kI : decide ((300 : Int) < (eds.length : Int)) = false := decide_eq_false (by omega)
          have kN : decide (300 < eds.length) = false := decide_eq_false hel
          have il : IntKind.i64.wrap ((labs.length : Int) - 1) = (labs.length : Int) - 1 := IntWalk.i64_in _ (by omega)
          clear HOK hb1 hb2 hb3
          go_enter Tryz.func33, Tryz.ntmps33
          go_wp2_with fail
          refine wp_region_held_drew (S := fun w' => w'.cell? ⟨p, 0, none⟩ = some (ei st) ∧ w'.cell? ⟨p, 1, none⟩ = some (ei ini) ∧ w'.cell? ⟨p, 2, none⟩ = some (.slice a1 labs.length c1) ∧ w'.cell? ⟨p, 3, none⟩ = some (.slice a2 eds.length c2)) (by kernel_rfl) ?_ (fun hHeld => ?_)
          · exact ⟨z0, z1, z2, z3⟩
          refine wpAnyH_take (i := 0) (v := ?_) rfl (by kernel_rfl) (by kernel_rfl) (by kernel_rfl) (fun _ _ _ h => h) (Or.inl ⟨by rfl, ?_⟩) (by assumption) ?_
          rotate_left
          · (intro w hSw; (try dsimp only at hSw); go_simp)
            first | done | with_reducible rfl
          simp only [Act.put, List.getElem_toArray, List.getElem_cons_zero, List.setIfInBounds_toArray, List.set_cons_zero, List.set_cons_succ]
          refine wpAnyH_take (i := 1) (v := ?_) rfl (by kernel_rfl) (by kernel_rfl) (by kernel_rfl) (fun _ _ _ h => h) (Or.inl ⟨by rfl, ?_⟩) (by assumption) ?_
          rotate_left
          · (intro w hSw; (try dsimp only at hSw); go_simp)
            first | done | with_reducible rfl
          simp only [Act.put, List.getElem_toArray, List.getElem_cons_zero, List.getElem_cons_succ, List.setIfInBounds_toArray, List.set_cons_zero, List.set_cons_succ]
          refine wpAnyH_take (i := 2) (v := ?_) rfl (by kernel_rfl) (by kernel_rfl) (by kernel_rfl) (fun _ _ _ h => h) (Or.inl ⟨by rfl, ?_⟩) (by assumption) ?_
          rotate_left
          · (intro w hSw; (try dsimp only at hSw); go_simp)
            first | done | with_reducible rfl
          simp only [Act.put, List.getElem_toArray, List.getElem_cons_zero, List.getElem_cons_succ, List.setIfInBounds_toArray, List.set_cons_zero, List.set_cons_succ]
          refine wpAnyH_take (i := 3) (v := ?_) rfl (by kernel_rfl) (by kernel_rfl) (by kernel_rfl) (fun _ _ _ h => h) (Or.inl ⟨by rfl, ?_⟩) (by assumption) ?_
          rotate_left
          · (intro w hSw; (try dsimp only at hSw); go_simp)
            first | done | with_reducible rfl
          simp only [Act.put, List.getElem_toArray, List.getElem_cons_zero, List.getElem_cons_succ, List.setIfInBounds_toArray, List.set_cons_zero, List.set_cons_succ]
          refine wpAnyH_ready (rs := [4]) (by kernel_rfl) (by simp) ?_
          refine AllReadyH.cons rfl (fun K hK => ?_) AllReadyH.nil
          go_simp
          refine (S1.out _).mono ?_
          rintro e w4 ⟨rfl, rfl⟩
          refine hK.out _ _ ?_ (fun hHeld => ?_)
          · exact ⟨hHeld.1, hHeld.2.1, hHeld.2.2.1, hHeld.2.2.2⟩
          clear hK K
          try simp only [Act.put, List.getElem_toArray, List.getElem_cons_zero, List.getElem_cons_succ, List.setIfInBounds_toArray, List.set_cons_zero, List.set_cons_succ]
          refine wpAnyH_take (i := 5) (v := ?_) rfl (by kernel_rfl) (by kernel_rfl) (by kernel_rfl) (fun _ _ _ h => h) (Or.inl ⟨by rfl, ?_⟩) (by assumption) ?_
          rotate_left
          · (intro w hSw; (try dsimp only at hSw); go_simp)
            first | done | with_reducible rfl
          simp only [Act.put, List.getElem_toArray, List.getElem_cons_zero, List.getElem_cons_succ, List.setIfInBounds_toArray, List.set_cons_zero, List.set_cons_succ]
          refine wpAnyH_take (i := 6) (v := ?_) rfl (by kernel_rfl) (by kernel_rfl) (by kernel_rfl) (fun _ _ _ h => h) (Or.inl ⟨by rfl, ?_⟩) (by assumption) ?_
          rotate_left
          · (intro w hSw; (try dsimp only at hSw); go_simp)
            first | done | with_reducible rfl
          simp only [Act.put, List.getElem_toArray, List.getElem_cons_zero, List.getElem_cons_succ, List.setIfInBounds_toArray, List.set_cons_zero, List.set_cons_succ]
          refine wpAnyH_take (i := 7) (v := ?_) rfl (by kernel_rfl) (by kernel_rfl) (by kernel_rfl) (fun _ _ _ h => h) (Or.inl ⟨by rfl, ?_⟩) (by assumption) ?_
          rotate_left
          · (intro w hSw; (try dsimp only at hSw); go_simp)
            first | done | with_reducible rfl
          simp only [Act.put, List.getElem_toArray, List.getElem_cons_zero, List.getElem_cons_succ, List.setIfInBounds_toArray, List.set_cons_zero, List.set_cons_succ]
          refine wpAnyH_take (i := 8) (v := ?_) rfl (by kernel_rfl) (by kernel_rfl) (by kernel_rfl) (fun _ _ _ h => h) (Or.inl ⟨by rfl, ?_⟩) (by assumption) ?_
          rotate_left
          · (intro w hSw; (try dsimp only at hSw); go_simp)
            first | done | with_reducible rfl
          simp only [Act.put, List.getElem_toArray, List.getElem_cons_zero, List.getElem_cons_succ, List.setIfInBounds_toArray, List.set_cons_zero, List.set_cons_succ]
          refine wpAnyH_take (i := 9) (v := ?_) rfl (by kernel_rfl) (by kernel_rfl) (by kernel_rfl) (fun _ _ _ h => h) (Or.inl ⟨by rfl, ?_⟩) (by assumption) ?_
          rotate_left
          · (intro w hSw; (try dsimp only at hSw); go_simp)
            first | done | with_reducible rfl
          simp only [Act.put, List.getElem_toArray, List.getElem_cons_zero, List.getElem_cons_succ, List.setIfInBounds_toArray, List.set_cons_zero, List.set_cons_succ]
          refine wpAnyH_take (i := 10) (v := ?_) rfl (by kernel_rfl) (by kernel_rfl) (by kernel_rfl) (fun _ _ _ h => h) (Or.inl ⟨by rfl, ?_⟩) (by assumption) ?_
          rotate_left
          · (intro w hSw; (try dsimp only at hSw); go_simp)
            first | done | with_reducible rfl
          simp only [Act.put, List.getElem_toArray, List.getElem_cons_zero, List.getElem_cons_succ, List.setIfInBounds_toArray, List.set_cons_zero, List.set_cons_succ]
          refine wpAnyH_take (i := 11) (v := ?_) rfl (by kernel_rfl) (by kernel_rfl) (by kernel_rfl) (fun _ _ _ h => h) (Or.inl ⟨by rfl, ?_⟩) (by assumption) ?_
          rotate_left
          · (intro w hSw; (try dsimp only at hSw); go_simp)
            first | done | with_reducible rfl
          simp only [Act.put, List.getElem_toArray, List.getElem_cons_zero, List.getElem_cons_succ, List.setIfInBounds_toArray, List.set_cons_zero, List.set_cons_succ]
          refine wpAnyH_take (i := 12) (v := ?_) rfl (by kernel_rfl) (by kernel_rfl) (by kernel_rfl) (fun _ _ _ h => h) (Or.inl ⟨by rfl, ?_⟩) (by assumption) ?_
          rotate_left
          · (intro w hSw; (try dsimp only at hSw); go_simp)
            first | done | with_reducible rfl
          simp only [Act.put, List.getElem_toArray, List.getElem_cons_zero, List.getElem_cons_succ, List.setIfInBounds_toArray, List.set_cons_zero, List.set_cons_succ]
          refine wpAnyH_take (i := 13) (v := ?_) rfl (by kernel_rfl) (by kernel_rfl) (by kernel_rfl) (fun _ _ _ h => h) (Or.inl ⟨by rfl, ?_⟩) (by assumption) ?_
          rotate_left
          · (intro w hSw; (try dsimp only at hSw); go_simp)
            first | done | with_reducible rfl
          simp only [Act.put, List.getElem_toArray, List.getElem_cons_zero, List.getElem_cons_succ, List.setIfInBounds_toArray, List.set_cons_zero, List.set_cons_succ]
          refine wpAnyH_take (i := 14) (v := ?_) rfl (by kernel_rfl) (by kernel_rfl) (by kernel_rfl) (fun _ _ _ h => h) (Or.inl ⟨by rfl, ?_⟩) (by assumption) ?_
          rotate_left
          · (intro w hSw; (try dsimp only at hSw); go_simp)
            first | done | with_reducible rfl
          simp only [Act.put, List.getElem_toArray, List.getElem_cons_zero, List.getElem_cons_succ, List.setIfInBounds_toArray, List.set_cons_zero, List.set_cons_succ]
          refine wpAnyH_take (i := 15) (v := ?_) rfl (by kernel_rfl) (by kernel_rfl) (by kernel_rfl) (fun _ _ _ h => h) (Or.inl ⟨by rfl, ?_⟩) (by assumption) ?_
          rotate_left
          · (intro w hSw; (try dsimp only at hSw); go_simp)
            first | done | with_reducible rfl
          simp only [Act.put, List.getElem_toArray, List.getElem_cons_zero, List.getElem_cons_succ, List.setIfInBounds_toArray, List.set_cons_zero, List.set_cons_succ]
          try simp only [iw]
          refine wpAnyH_ready (rs := [16]) (by kernel_rfl) (by simp) ?_
          refine AllReadyH.cons rfl (fun K hK => ?_) AllReadyH.nil
          go_simp
          refine (S2.out _).mono ?_
          rintro e w16 ⟨rfl, rfl⟩
          refine hK.out _ _ ?_ (fun hHeld => ?_)
          · exact ⟨hHeld.1, hHeld.2.1, hHeld.2.2.1, hHeld.2.2.2⟩
          clear hK K
          try simp only [Act.put, List.getElem_toArray, List.getElem_cons_zero, List.getElem_cons_succ, List.setIfInBounds_toArray, List.set_cons_zero, List.set_cons_succ]
          refine wpAnyH_take (i := 17) (v := ?_) rfl (by kernel_rfl) (by kernel_rfl) (by kernel_rfl) (fun _ _ _ h => h) (Or.inl ⟨by rfl, ?_⟩) (by assumption) ?_
          rotate_left
          · (intro w hSw; (try dsimp only at hSw); go_simp)
            first | done | with_reducible rfl
          simp only [Act.put, List.getElem_toArray, List.getElem_cons_zero, List.getElem_cons_succ, List.setIfInBounds_toArray, List.set_cons_zero, List.set_cons_succ]
          refine wpAnyH_take (i := 18) (v := ?_) rfl (by kernel_rfl) (by kernel_rfl) (by kernel_rfl) (fun _ _ _ h => h) (Or.inl ⟨by rfl, ?_⟩) (by assumption) ?_
          rotate_left
          · (intro w hSw; (try dsimp only at hSw); go_simp)
            first | done | with_reducible rfl
          simp only [Act.put, List.getElem_toArray, List.getElem_cons_zero, List.getElem_cons_succ, List.setIfInBounds_toArray, List.set_cons_zero, List.set_cons_succ]
          refine wpAnyH_take (i := 19) (v := ?_) rfl (by kernel_rfl) (by kernel_rfl) (by kernel_rfl) (fun _ _ _ h => h) (Or.inl ⟨by rfl, ?_⟩) (by assumption) ?_
          rotate_left
          · (intro w hSw; (try dsimp only at hSw); go_simp)
            first | done | with_reducible rfl
          simp only [Act.put, List.getElem_toArray, List.getElem_cons_zero, List.getElem_cons_succ, List.setIfInBounds_toArray, List.set_cons_zero, List.set_cons_succ]
          refine wpAnyH_take (i := 20) (v := ?_) rfl (by kernel_rfl) (by kernel_rfl) (by kernel_rfl) (fun _ _ _ h => h) (Or.inl ⟨by rfl, ?_⟩) (by assumption) ?_
          rotate_left
          · (intro w hSw; (try dsimp only at hSw); go_simp)
            first | done | with_reducible rfl
          simp only [Act.put, List.getElem_toArray, List.getElem_cons_zero, List.getElem_cons_succ, List.setIfInBounds_toArray, List.set_cons_zero, List.set_cons_succ]
          refine wpAnyH_take (i := 21) (v := ?_) rfl (by kernel_rfl) (by kernel_rfl) (by kernel_rfl) (fun _ _ _ h => h) (Or.inl ⟨by rfl, ?_⟩) (by assumption) ?_
          rotate_left
          · (intro w hSw; (try dsimp only at hSw); go_simp)
            first | done | with_reducible rfl
          simp only [Act.put, List.getElem_toArray, List.getElem_cons_zero, List.getElem_cons_succ, List.setIfInBounds_toArray, List.set_cons_zero, List.set_cons_succ]
          refine wpAnyH_take (i := 22) (v := ?_) rfl (by kernel_rfl) (by kernel_rfl) (by kernel_rfl) (fun _ _ _ h => h) (Or.inl ⟨by rfl, ?_⟩) (by assumption) ?_
          rotate_left
          · (intro w hSw; (try dsimp only at hSw); go_simp)
            first | done | with_reducible rfl
          simp only [Act.put, List.getElem_toArray, List.getElem_cons_zero, List.getElem_cons_succ, List.setIfInBounds_toArray, List.set_cons_zero, List.set_cons_succ]
          refine wpAnyH_take (i := 23) (v := ?_) rfl (by kernel_rfl) (by kernel_rfl) (by kernel_rfl) (fun _ _ _ h => h) (Or.inl ⟨by rfl, ?_⟩) (by assumption) ?_
          rotate_left
          · (intro w hSw; (try dsimp only at hSw); go_simp)
            first | done | with_reducible rfl
          simp only [Act.put, List.getElem_toArray, List.getElem_cons_zero, List.getElem_cons_succ, List.setIfInBounds_toArray, List.set_cons_zero, List.set_cons_succ]
          refine wpAnyH_ready (rs := [24]) (by kernel_rfl) (by simp) ?_
          refine AllReadyH.cons rfl (fun K hK => ?_) AllReadyH.nil
          go_simp
          refine (S3.out).mono ?_
          rintro e w24 ⟨rfl, hu3⟩
          refine hK.out _ _ ?_ (fun hHeld => ?_)
          · exact ⟨hu3.keep hHeld.1, hu3.keep hHeld.2.1, hu3.keep hHeld.2.2.1, hu3.keep hHeld.2.2.2⟩
          clear hK K
          try simp only [Act.put, List.getElem_toArray, List.getElem_cons_zero, List.getElem_cons_succ, List.setIfInBounds_toArray, List.set_cons_zero, List.set_cons_succ]
          refine wpAnyH_take (i := 25) (v := ?_) rfl (by kernel_rfl) (by kernel_rfl) (by kernel_rfl) (fun _ _ _ h => h) (Or.inl ⟨by rfl, ?_⟩) (by assumption) ?_
          rotate_left
          · (intro w hSw; (try dsimp only at hSw); go_simp)
            first | done | with_reducible rfl
          simp only [Act.put, List.getElem_toArray, List.getElem_cons_zero, List.getElem_cons_succ, List.setIfInBounds_toArray, List.set_cons_zero, List.set_cons_succ]
          refine wpAnyH_take (i := 26) (v := ?_) rfl (by kernel_rfl) (by kernel_rfl) (by kernel_rfl) (fun _ _ _ h => h) (Or.inl ⟨by rfl, ?_⟩) (by assumption) ?_
          rotate_left
          · (intro w hSw; (try dsimp only at hSw); go_simp)
            first | done | with_reducible rfl
          simp only [Act.put, List.getElem_toArray, List.getElem_cons_zero, List.getElem_cons_succ, List.setIfInBounds_toArray, List.set_cons_zero, List.set_cons_succ]
          refine wpAnyH_take (i := 27) (v := ?_) rfl (by kernel_rfl) (by kernel_rfl) (by kernel_rfl) (fun _ _ _ h => h) (Or.inl ⟨by rfl, ?_⟩) (by assumption) ?_
          rotate_left
          · (intro w hSw; (try dsimp only at hSw); go_simp)
            first | done | with_reducible rfl
          simp only [Act.put, List.getElem_toArray, List.getElem_cons_zero, List.getElem_cons_succ, List.setIfInBounds_toArray, List.set_cons_zero, List.set_cons_succ]
          refine wpAnyH_take (i := 28) (v := ?_) rfl (by kernel_rfl) (by kernel_rfl) (by kernel_rfl) (fun _ _ _ h => h) (Or.inl ⟨by rfl, ?_⟩) (by assumption) ?_
          rotate_left
          · (intro w hSw; (try dsimp only at hSw); go_simp)
            first | done | with_reducible rfl
          simp only [Act.put, List.getElem_toArray, List.getElem_cons_zero, List.getElem_cons_succ, List.setIfInBounds_toArray, List.set_cons_zero, List.set_cons_succ]
          refine wpAnyH_take (i := 29) (v := ?_) rfl (by kernel_rfl) (by kernel_rfl) (by kernel_rfl) (fun _ _ _ h => h) (Or.inl ⟨by rfl, ?_⟩) (by assumption) ?_
          rotate_left
          · (intro w hSw; (try dsimp only at hSw); go_simp)
            first | done | with_reducible rfl
          simp only [Act.put, List.getElem_toArray, List.getElem_cons_zero, List.getElem_cons_succ, List.setIfInBounds_toArray, List.set_cons_zero, List.set_cons_succ]
          refine wpAnyH_take (i := 30) (v := ?_) rfl (by kernel_rfl) (by kernel_rfl) (by kernel_rfl) (fun _ _ _ h => h) (Or.inl ⟨by rfl, ?_⟩) (by assumption) ?_
          rotate_left
          · (intro w hSw; (try dsimp only at hSw); go_simp)
            first | done | with_reducible rfl
          simp only [Act.put, List.getElem_toArray, List.getElem_cons_zero, List.getElem_cons_succ, List.setIfInBounds_toArray, List.set_cons_zero, List.set_cons_succ]
          refine wpAnyH_take (i := 31) (v := ?_) rfl (by kernel_rfl) (by kernel_rfl) (by kernel_rfl) (fun _ _ _ h => h) (Or.inl ⟨by rfl, ?_⟩) (by assumption) ?_
          rotate_left
          · (intro w hSw; (try dsimp only at hSw); go_simp)
            first | done | with_reducible rfl
          simp only [Act.put, List.getElem_toArray, List.getElem_cons_zero, List.getElem_cons_succ, List.setIfInBounds_toArray, List.set_cons_zero, List.set_cons_succ]
          refine wpAnyH_take (i := 32) (v := ?_) rfl (by kernel_rfl) (by kernel_rfl) (by kernel_rfl) (fun _ _ _ h => h) (Or.inl ⟨by rfl, ?_⟩) (by assumption) ?_
          rotate_left
          · (intro w hSw; (try dsimp only at hSw); go_simp)
            first | done | with_reducible rfl
          simp only [Act.put, List.getElem_toArray, List.getElem_cons_zero, List.getElem_cons_succ, List.setIfInBounds_toArray, List.set_cons_zero, List.set_cons_succ]
          refine wpAnyH_take (i := 33) (v := ?_) rfl (by kernel_rfl) (by kernel_rfl) (by kernel_rfl) (fun _ _ _ h => h) (Or.inl ⟨by rfl, ?_⟩) (by assumption) ?_
          rotate_left
          · (intro w hSw; (try dsimp only at hSw); go_simp)
            first | done | with_reducible rfl
          simp only [Act.put, List.getElem_toArray, List.getElem_cons_zero, List.getElem_cons_succ, List.setIfInBounds_toArray, List.set_cons_zero, List.set_cons_succ]
          try simp only [kI]
          try simp only [kN]
          refine wpAnyH_take (i := 34) (v := ?_) rfl (by kernel_rfl) (by kernel_rfl) (by kernel_rfl) (fun _ _ _ h => h) (Or.inl ⟨by rfl, ?_⟩) (by assumption) ?_
          rotate_left
          · (intro w hSw; (try dsimp only at hSw); go_simp)
            first | done | with_reducible rfl
          simp only [Act.put, List.getElem_toArray, List.getElem_cons_zero, List.getElem_cons_succ, List.setIfInBounds_toArray, List.set_cons_zero, List.set_cons_succ]
          refine wpAnyH_done (by kernel_rfl) ?_ _
          have HU := Lib.hid ((Upd.refl [] w).drew.trans hu3)
          clear hHeld z0 z1 z2 z3 S1 S2 S3 hu3 kI kN
          go_wp2_with fail
          go_loopw [3] (fun iv wr => ∃ k : Nat, k ≤ eds.length ∧ iv = .int .i64 k ∧ Hid (allF (edP ⟨st, ini, labs, eds⟩) k (eds.length - k) = allF (edP ⟨st, ini, labs, eds⟩) 0 eds.length) ∧ Upd [] w wr) (fun iv _ => eds.length - (intOf iv).toNat)
          case atStart => exact ⟨0, Nat.zero_le _, rfl, Lib.hid rfl, HU.out⟩
          case round =>
            clear HU
            obtain ⟨wo, rfl⟩ : ∃ wo : World, wo = wr := ⟨_, rfl⟩
            obtain ⟨k, hk, rfl, HA, hU⟩ := hrel
            obtain ⟨y0, y1, y2, y3⟩ := HZ.out wo hU
            by_cases hlt : k < eds.length
            · obtain ⟨aa, cc, hv0, -, -, hc0⟩ := slF3_open (H2.out wo hU)
              cases hv0
              obtain ⟨b1, o1, rfl, -, -, p1, p2, p3⟩ := hc0 k hlt
              have HA2 := Lib.hid (HA.out.symm.trans (allF_step (edP ⟨st, ini, labs, eds⟩) k eds.length hlt))
              have HEP := Lib.hid (edP_at ⟨st, ini, labs, eds⟩ k hlt)
              simp only at HEP
              have hpr : 0 < k → wo.cell? ⟨b1, o1 + (k - 1) * 3, none⟩ = some (ei (eds.getD (k - 1) ⟨0, 0, 0⟩).fr) ∧ wo.cell? ⟨b1, o1 + (k - 1) * 3 + 1, none⟩ = some (ei (eds.getD (k - 1) ⟨0, 0, 0⟩).lb) ∧ wo.cell? ⟨b1, o1 + (k - 1) * 3 + 2, none⟩ = some (ei (eds.getD (k - 1) ⟨0, 0, 0⟩).to) := fun h => by
                obtain ⟨b3, o3, hv3, -, -, q1, q2, q3⟩ := hc0 (k - 1) (by omega)
                cases hv3
                rw [List.getD_eq_getElem?_getD, List.getElem?_eq_getElem (by omega)]
                exact ⟨q1, q2, q3⟩
              have HPR := Lib.hid hpr
              generalize eds.getD (k - 1) ⟨0, 0, 0⟩ = pk at *
              generalize eds[k] = ek at *
              obtain ⟨fr, lb, td⟩ := ek
              simp only at p1 p2 p3 HEP
              have HU := Lib.hid hU
              have SF := Lib.hid (fun W : World => l00In fr 0 (st - 1) W)
              have ST := Lib.hid (fun W : World => l00In td 0 (st - 1) W)
              have SI := Lib.hid (fun W : World => l00In lb 0 ((labs.length : Int) - 1) W)
              clear hc0 HA hU hpr
              go_wp2_with fail
              obtain ⟨w5, hw5⟩ : ∃ w5, w5 = wo.alloc (.cells #[.int .i64 fr, .int .i64 lb, .int .i64 td] 62) := ⟨_, rfl⟩
              rw [← hw5]
              have hu5 : Upd [] wo w5 := by rw [hw5]; exact (Upd.refl _ _).alloc _
              obtain ⟨BB, hBB⟩ : ∃ BB, BB = wo.heap.size := ⟨_, rfl⟩
              have z0 : w5.cell? ⟨BB, 0, none⟩ = some (ei fr) := by rw [hw5]; exact cell_new wo _ _ _ hBB.symm 0 _ rfl
              have z1 : w5.cell? ⟨BB, 1, none⟩ = some (ei lb) := by rw [hw5]; exact cell_new wo _ _ _ hBB.symm 1 _ rfl
              have z2 : w5.cell? ⟨BB, 2, none⟩ = some (ei td) := by rw [hw5]; exact cell_new wo _ _ _ hBB.symm 2 _ rfl
              have x0 := hu5.keep y0
              have x2 := hu5.keep y2
              have x3 := hu5.keep y3
              have HPR5 := Lib.hid (fun h : 0 < k => show w5.drew.cell? ⟨b1, o1 + (k - 1) * 3, none⟩ = some (ei pk.fr) ∧ w5.drew.cell? ⟨b1, o1 + (k - 1) * 3 + 1, none⟩ = some (ei pk.lb) ∧ w5.drew.cell? ⟨b1, o1 + (k - 1) * 3 + 2, none⟩ = some (ei pk.to) from ⟨hu5.keep (HPR.out h).1, hu5.keep (HPR.out h).2.1, hu5.keep (HPR.out h).2.2⟩)
              have HU5 := Lib.hid ((HU.out.trans hu5).drew)
              rw [← hBB]
              clear hw5 hu5 hBB y0 y1 y2 y3 p1 p2 p3 HPR HU
              cases hf1 : inB fr 0 (st - 1) with
              | false =>
                rw [hf1] at SF
                have HRR := Lib.hid (show sysOk ⟨st, ini, labs, eds⟩ = false by rw [HOK2.out, HA2.out, HEP.out, hf1]; simp)
                clear HOK2 HA2 HEP HPR5
                clear hf1
                refine wp_region_held_drew (S := fun w' => w'.cell? ⟨p, 0, none⟩ = some (ei st) ∧ w'.cell? ⟨p, 2, none⟩ = some (.slice a1 labs.length c1) ∧ w'.cell? ⟨BB, 0, none⟩ = some (ei fr) ∧ w'.cell? ⟨BB, 1, none⟩ = some (ei lb) ∧ w'.cell? ⟨BB, 2, none⟩ = some (ei td)) (by kernel_rfl) ?_ (fun hHeld => ?_)
                · exact ⟨x0, x2, z0, z1, z2⟩
                refine wpAnyH_take (i := 0) (v := ?_) rfl (by kernel_rfl) (by kernel_rfl) (by kernel_rfl) (fun _ _ _ h => h) (Or.inl ⟨by rfl, ?_⟩) (by assumption) ?_
                rotate_left
                · (intro w hSw; (try dsimp only at hSw); go_simp)
                  first | done | with_reducible rfl
                simp only [Act.put, List.getElem_toArray, List.getElem_cons_zero, List.setIfInBounds_toArray, List.set_cons_zero, List.set_cons_succ]
                refine wpAnyH_take (i := 1) (v := ?_) rfl (by kernel_rfl) (by kernel_rfl) (by kernel_rfl) (fun _ _ _ h => h) (Or.inl ⟨by rfl, ?_⟩) (by assumption) ?_
                rotate_left
                · (intro w hSw; (try dsimp only at hSw); go_simp)
                  first | done | with_reducible rfl
                simp only [Act.put, List.getElem_toArray, List.getElem_cons_zero, List.getElem_cons_succ, List.setIfInBounds_toArray, List.set_cons_zero, List.set_cons_succ]
                refine wpAnyH_take (i := 2) (v := ?_) rfl (by kernel_rfl) (by kernel_rfl) (by kernel_rfl) (fun _ _ _ h => h) (Or.inl ⟨by rfl, ?_⟩) (by assumption) ?_
                rotate_left
                · (intro w hSw; (try dsimp only at hSw); go_simp)
                  first | done | with_reducible rfl
                simp only [Act.put, List.getElem_toArray, List.getElem_cons_zero, List.getElem_cons_succ, List.setIfInBounds_toArray, List.set_cons_zero, List.set_cons_succ]
                refine wpAnyH_take (i := 3) (v := ?_) rfl (by kernel_rfl) (by kernel_rfl) (by kernel_rfl) (fun _ _ _ h => h) (Or.inl ⟨by rfl, ?_⟩) (by assumption) ?_
                rotate_left
                · (intro w hSw; (try dsimp only at hSw); go_simp)
                  first | done | with_reducible rfl
                simp only [Act.put, List.getElem_toArray, List.getElem_cons_zero, List.getElem_cons_succ, List.setIfInBounds_toArray, List.set_cons_zero, List.set_cons_succ]
                refine wpAnyH_take (i := 4) (v := ?_) rfl (by kernel_rfl) (by kernel_rfl) (by kernel_rfl) (fun _ _ _ h => h) (Or.inl ⟨by rfl, ?_⟩) (by assumption) ?_
                rotate_left
                · (intro w hSw; (try dsimp only at hSw); go_simp)
                  first | done | with_reducible rfl
                simp only [Act.put, List.getElem_toArray, List.getElem_cons_zero, List.getElem_cons_succ, List.setIfInBounds_toArray, List.set_cons_zero, List.set_cons_succ]
                refine wpAnyH_take (i := 5) (v := ?_) rfl (by kernel_rfl) (by kernel_rfl) (by kernel_rfl) (fun _ _ _ h => h) (Or.inl ⟨by rfl, ?_⟩) (by assumption) ?_
                rotate_left
                · (intro w hSw; (try dsimp only at hSw); go_simp)
                  first | done | with_reducible rfl
                simp only [Act.put, List.getElem_toArray, List.getElem_cons_zero, List.getElem_cons_succ, List.setIfInBounds_toArray, List.set_cons_zero, List.set_cons_succ]
                refine wpAnyH_take (i := 6) (v := ?_) rfl (by kernel_rfl) (by kernel_rfl) (by kernel_rfl) (fun _ _ _ h => h) (Or.inl ⟨by rfl, ?_⟩) (by assumption) ?_
                rotate_left
                · (intro w hSw; (try dsimp only at hSw); go_simp)
                  first | done | with_reducible rfl
                simp only [Act.put, List.getElem_toArray, List.getElem_cons_zero, List.getElem_cons_succ, List.setIfInBounds_toArray, List.set_cons_zero, List.set_cons_succ]
                try simp only [iw]
                refine wpAnyH_ready (rs := [7]) (by kernel_rfl) (by simp) ?_
                refine AllReadyH.cons rfl (fun K hK => ?_) AllReadyH.nil
                go_simp
                refine (SF.out _).mono ?_
                rintro e w7 ⟨rfl, rfl⟩
                refine hK.out _ _ ?_ (fun hHeld => ?_)
                · exact ⟨hHeld.1, hHeld.2.1, hHeld.2.2.1, hHeld.2.2.2.1, hHeld.2.2.2.2⟩
                clear hK K
                try simp only [Act.put, List.getElem_toArray, List.getElem_cons_zero, List.getElem_cons_succ, List.setIfInBounds_toArray, List.set_cons_zero, List.set_cons_succ]
                refine wpAnyH_take (i := 8) (v := ?_) rfl (by kernel_rfl) (by kernel_rfl) (by kernel_rfl) (fun _ _ _ h => h) (Or.inl ⟨by rfl, ?_⟩) (by assumption) ?_
                rotate_left
                · (intro w hSw; (try dsimp only at hSw); go_simp)
                  first | done | with_reducible rfl
                simp only [Act.put, List.getElem_toArray, List.getElem_cons_zero, List.getElem_cons_succ, List.setIfInBounds_toArray, List.set_cons_zero, List.set_cons_succ]
                refine wpAnyH_take (i := 9) (v := ?_) rfl (by kernel_rfl) (by kernel_rfl) (by kernel_rfl) (fun _ _ _ h => h) (Or.inl ⟨by rfl, ?_⟩) (by assumption) ?_
                rotate_left
                · (intro w hSw; (try dsimp only at hSw); go_simp)
                  first | done | with_reducible rfl
                simp only [Act.put, List.getElem_toArray, List.getElem_cons_zero, List.getElem_cons_succ, List.setIfInBounds_toArray, List.set_cons_zero, List.set_cons_succ]
                refine wpAnyH_take (i := 10) rfl (by kernel_rfl) (by kernel_rfl) (by kernel_rfl) (fun _ _ _ h => h) (Or.inr ⟨by rfl, rfl⟩) (by assumption) ?_
                simp only [Act.put, List.getElem_toArray, List.getElem_cons_zero, List.getElem_cons_succ, List.setIfInBounds_toArray, List.set_cons_zero, List.set_cons_succ]
                refine wpAnyH_take (i := 11) rfl (by kernel_rfl) (by kernel_rfl) (by kernel_rfl) (fun _ _ _ h => h) (Or.inr ⟨by rfl, rfl⟩) (by assumption) ?_
                simp only [Act.put, List.getElem_toArray, List.getElem_cons_zero, List.getElem_cons_succ, List.setIfInBounds_toArray, List.set_cons_zero, List.set_cons_succ]
                refine wpAnyH_take (i := 12) rfl (by kernel_rfl) (by kernel_rfl) (by kernel_rfl) (fun _ _ _ h => h) (Or.inr ⟨by rfl, rfl⟩) (by assumption) ?_
                simp only [Act.put, List.getElem_toArray, List.getElem_cons_zero, List.getElem_cons_succ, List.setIfInBounds_toArray, List.set_cons_zero, List.set_cons_succ]
                refine wpAnyH_take (i := 13) rfl (by kernel_rfl) (by kernel_rfl) (by kernel_rfl) (fun _ _ _ h => h) (Or.inr ⟨by rfl, rfl⟩) (by assumption) ?_
                simp only [Act.put, List.getElem_toArray, List.getElem_cons_zero, List.getElem_cons_succ, List.setIfInBounds_toArray, List.set_cons_zero, List.set_cons_succ]
                refine wpAnyH_take (i := 14) rfl (by kernel_rfl) (by kernel_rfl) (by kernel_rfl) (fun _ _ _ h => h) (Or.inr ⟨by rfl, rfl⟩) (by assumption) ?_
                simp only [Act.put, List.getElem_toArray, List.getElem_cons_zero, List.getElem_cons_succ, List.setIfInBounds_toArray, List.set_cons_zero, List.set_cons_succ]
                refine wpAnyH_take (i := 15) rfl (by kernel_rfl) (by kernel_rfl) (by kernel_rfl) (fun _ _ _ h => h) (Or.inr ⟨by rfl, rfl⟩) (by assumption) ?_
                simp only [Act.put, List.getElem_toArray, List.getElem_cons_zero, List.getElem_cons_succ, List.setIfInBounds_toArray, List.set_cons_zero, List.set_cons_succ]
                refine wpAnyH_take (i := 16) rfl (by kernel_rfl) (by kernel_rfl) (by kernel_rfl) (fun _ _ _ h => h) (Or.inr ⟨by rfl, rfl⟩) (by assumption) ?_
                simp only [Act.put, List.getElem_toArray, List.getElem_cons_zero, List.getElem_cons_succ, List.setIfInBounds_toArray, List.set_cons_zero, List.set_cons_succ]
                refine wpAnyH_take (i := 17) rfl (by kernel_rfl) (by kernel_rfl) (by kernel_rfl) (fun _ _ _ h => h) (Or.inr ⟨by rfl, rfl⟩) (by assumption) ?_
                simp only [Act.put, List.getElem_toArray, List.getElem_cons_zero, List.getElem_cons_succ, List.setIfInBounds_toArray, List.set_cons_zero, List.set_cons_succ]
                refine wpAnyH_take (i := 18) rfl (by kernel_rfl) (by kernel_rfl) (by kernel_rfl) (fun _ _ _ h => h) (Or.inr ⟨by rfl, rfl⟩) (by assumption) ?_
                simp only [Act.put, List.getElem_toArray, List.getElem_cons_zero, List.getElem_cons_succ, List.setIfInBounds_toArray, List.set_cons_zero, List.set_cons_succ]
                refine wpAnyH_take (i := 19) (v := ?_) rfl (by kernel_rfl) (by kernel_rfl) (by kernel_rfl) (fun _ _ _ h => h) (Or.inl ⟨by rfl, ?_⟩) (by assumption) ?_
                rotate_left
                · (intro w hSw; (try dsimp only at hSw); go_simp)
                  first | done | with_reducible rfl
                simp only [Act.put, List.getElem_toArray, List.getElem_cons_zero, List.getElem_cons_succ, List.setIfInBounds_toArray, List.set_cons_zero, List.set_cons_succ]
                refine wpAnyH_take (i := 20) (v := ?_) rfl (by kernel_rfl) (by kernel_rfl) (by kernel_rfl) (fun _ _ _ h => h) (Or.inl ⟨by rfl, ?_⟩) (by assumption) ?_
                rotate_left
                · (intro w hSw; (try dsimp only at hSw); go_simp)
                  first | done | with_reducible rfl
                simp only [Act.put, List.getElem_toArray, List.getElem_cons_zero, List.getElem_cons_succ, List.setIfInBounds_toArray, List.set_cons_zero, List.set_cons_succ]
                refine wpAnyH_take (i := 21) rfl (by kernel_rfl) (by kernel_rfl) (by kernel_rfl) (fun _ _ _ h => h) (Or.inr ⟨by rfl, rfl⟩) (by assumption) ?_
                simp only [Act.put, List.getElem_toArray, List.getElem_cons_zero, List.getElem_cons_succ, List.setIfInBounds_toArray, List.set_cons_zero, List.set_cons_succ]
                refine wpAnyH_take (i := 22) rfl (by kernel_rfl) (by kernel_rfl) (by kernel_rfl) (fun _ _ _ h => h) (Or.inr ⟨by rfl, rfl⟩) (by assumption) ?_
                simp only [Act.put, List.getElem_toArray, List.getElem_cons_zero, List.getElem_cons_succ, List.setIfInBounds_toArray, List.set_cons_zero, List.set_cons_succ]
                refine wpAnyH_take (i := 23) rfl (by kernel_rfl) (by kernel_rfl) (by kernel_rfl) (fun _ _ _ h => h) (Or.inr ⟨by rfl, rfl⟩) (by assumption) ?_
                simp only [Act.put, List.getElem_toArray, List.getElem_cons_zero, List.getElem_cons_succ, List.setIfInBounds_toArray, List.set_cons_zero, List.set_cons_succ]
                refine wpAnyH_take (i := 24) rfl (by kernel_rfl) (by kernel_rfl) (by kernel_rfl) (fun _ _ _ h => h) (Or.inr ⟨by rfl, rfl⟩) (by assumption) ?_
                simp only [Act.put, List.getElem_toArray, List.getElem_cons_zero, List.getElem_cons_succ, List.setIfInBounds_toArray, List.set_cons_zero, List.set_cons_succ]
                refine wpAnyH_take (i := 25) rfl (by kernel_rfl) (by kernel_rfl) (by kernel_rfl) (fun _ _ _ h => h) (Or.inr ⟨by rfl, rfl⟩) (by assumption) ?_
                simp only [Act.put, List.getElem_toArray, List.getElem_cons_zero, List.getElem_cons_succ, List.setIfInBounds_toArray, List.set_cons_zero, List.set_cons_succ]
                refine wpAnyH_take (i := 26) rfl (by kernel_rfl) (by kernel_rfl) (by kernel_rfl) (fun _ _ _ h => h) (Or.inr ⟨by rfl, rfl⟩) (by assumption) ?_
                simp only [Act.put, List.getElem_toArray, List.getElem_cons_zero, List.getElem_cons_succ, List.setIfInBounds_toArray, List.set_cons_zero, List.set_cons_succ]
                refine wpAnyH_take (i := 27) rfl (by kernel_rfl) (by kernel_rfl) (by kernel_rfl) (fun _ _ _ h => h) (Or.inr ⟨by rfl, rfl⟩) (by assumption) ?_
                simp only [Act.put, List.getElem_toArray, List.getElem_cons_zero, List.getElem_cons_succ, List.setIfInBounds_toArray, List.set_cons_zero, List.set_cons_succ]
                refine wpAnyH_take (i := 28) rfl (by kernel_rfl) (by kernel_rfl) (by kernel_rfl) (fun _ _ _ h => h) (Or.inr ⟨by rfl, rfl⟩) (by assumption) ?_
                simp only [Act.put, List.getElem_toArray, List.getElem_cons_zero, List.getElem_cons_succ, List.setIfInBounds_toArray, List.set_cons_zero, List.set_cons_succ]
                refine wpAnyH_take (i := 29) rfl (by kernel_rfl) (by kernel_rfl) (by kernel_rfl) (fun _ _ _ h => h) (Or.inr ⟨by rfl, rfl⟩) (by assumption) ?_
                simp only [Act.put, List.getElem_toArray, List.getElem_cons_zero, List.getElem_cons_succ, List.setIfInBounds_toArray, List.set_cons_zero, List.set_cons_succ]
                refine wpAnyH_take (i := 30) rfl (by kernel_rfl) (by kernel_rfl) (by kernel_rfl) (fun _ _ _ h => h) (Or.inr ⟨by rfl, rfl⟩) (by assumption) ?_
                simp only [Act.put, List.getElem_toArray, List.getElem_cons_zero, List.getElem_cons_succ, List.setIfInBounds_toArray, List.set_cons_zero, List.set_cons_succ]
                refine wpAnyH_take (i := 31) (v := ?_) rfl (by kernel_rfl) (by kernel_rfl) (by kernel_rfl) (fun _ _ _ h => h) (Or.inl ⟨by rfl, ?_⟩) (by assumption) ?_
                rotate_left
                · (intro w hSw; (try dsimp only at hSw); go_simp)
                  first | done | with_reducible rfl
                simp only [Act.put, List.getElem_toArray, List.getElem_cons_zero, List.getElem_cons_succ, List.setIfInBounds_toArray, List.set_cons_zero, List.set_cons_succ]
                refine wpAnyH_done (by kernel_rfl) ?_ _
                clear hHeld x0 x2 x3 z0 z1 z2
                go_wp2_with fail
                go_ret
                exact ⟨by rw [HRR.out]; rfl, HU5.out⟩
              | true =>
                rw [hf1] at SF HEP
                clear hf1
                cases hf2 : inB td 0 (st - 1) with
                | false =>
                  rw [hf2] at ST
                  have HRR := Lib.hid (show sysOk ⟨st, ini, labs, eds⟩ = false by rw [HOK2.out, HA2.out, HEP.out, hf2]; simp)
                  clear HOK2 HA2 HEP HPR5
                  clear hf2
                  refine wp_region_held_drew (S := fun w' => w'.cell? ⟨p, 0, none⟩ = some (ei st) ∧ w'.cell? ⟨p, 2, none⟩ = some (.slice a1 labs.length c1) ∧ w'.cell? ⟨BB, 0, none⟩ = some (ei fr) ∧ w'.cell? ⟨BB, 1, none⟩ = some (ei lb) ∧ w'.cell? ⟨BB, 2, none⟩ = some (ei td)) (by kernel_rfl) ?_ (fun hHeld => ?_)
                  · exact ⟨x0, x2, z0, z1, z2⟩
                  refine wpAnyH_take (i := 0) (v := ?_) rfl (by kernel_rfl) (by kernel_rfl) (by kernel_rfl) (fun _ _ _ h => h) (Or.inl ⟨by rfl, ?_⟩) (by assumption) ?_
                  rotate_left
                  · (intro w hSw; (try dsimp only at hSw); go_simp)
                    first | done | with_reducible rfl
                  simp only [Act.put, List.getElem_toArray, List.getElem_cons_zero, List.setIfInBounds_toArray, List.set_cons_zero, List.set_cons_succ]
                  refine wpAnyH_take (i := 1) (v := ?_) rfl (by kernel_rfl) (by kernel_rfl) (by kernel_rfl) (fun _ _ _ h => h) (Or.inl ⟨by rfl, ?_⟩) (by assumption) ?_
                  rotate_left
                  · (intro w hSw; (try dsimp only at hSw); go_simp)
                    first | done | with_reducible rfl
                  simp only [Act.put, List.getElem_toArray, List.getElem_cons_zero, List.getElem_cons_succ, List.setIfInBounds_toArray, List.set_cons_zero, List.set_cons_succ]
                  refine wpAnyH_take (i := 2) (v := ?_) rfl (by kernel_rfl) (by kernel_rfl) (by kernel_rfl) (fun _ _ _ h => h) (Or.inl ⟨by rfl, ?_⟩) (by assumption) ?_
                  rotate_left
                  · (intro w hSw; (try dsimp only at hSw); go_simp)
                    first | done | with_reducible rfl
                  simp only [Act.put, List.getElem_toArray, List.getElem_cons_zero, List.getElem_cons_succ, List.setIfInBounds_toArray, List.set_cons_zero, List.set_cons_succ]
                  refine wpAnyH_take (i := 3) (v := ?_) rfl (by kernel_rfl) (by kernel_rfl) (by kernel_rfl) (fun _ _ _ h => h) (Or.inl ⟨by rfl, ?_⟩) (by assumption) ?_
                  rotate_left
                  · (intro w hSw; (try dsimp only at hSw); go_simp)
                    first | done | with_reducible rfl
                  simp only [Act.put, List.getElem_toArray, List.getElem_cons_zero, List.getElem_cons_succ, List.setIfInBounds_toArray, List.set_cons_zero, List.set_cons_succ]
                  refine wpAnyH_take (i := 4) (v := ?_) rfl (by kernel_rfl) (by kernel_rfl) (by kernel_rfl) (fun _ _ _ h => h) (Or.inl ⟨by rfl, ?_⟩) (by assumption) ?_
                  rotate_left
                  · (intro w hSw; (try dsimp only at hSw); go_simp)
                    first | done | with_reducible rfl
                  simp only [Act.put, List.getElem_toArray, List.getElem_cons_zero, List.getElem_cons_succ, List.setIfInBounds_toArray, List.set_cons_zero, List.set_cons_succ]
                  refine wpAnyH_take (i := 5) (v := ?_) rfl (by kernel_rfl) (by kernel_rfl) (by kernel_rfl) (fun _ _ _ h => h) (Or.inl ⟨by rfl, ?_⟩) (by assumption) ?_
                  rotate_left
                  · (intro w hSw; (try dsimp only at hSw); go_simp)
                    first | done | with_reducible rfl
                  simp only [Act.put, List.getElem_toArray, List.getElem_cons_zero, List.getElem_cons_succ, List.setIfInBounds_toArray, List.set_cons_zero, List.set_cons_succ]
                  refine wpAnyH_take (i := 6) (v := ?_) rfl (by kernel_rfl) (by kernel_rfl) (by kernel_rfl) (fun _ _ _ h => h) (Or.inl ⟨by rfl, ?_⟩) (by assumption) ?_
                  rotate_left
                  · (intro w hSw; (try dsimp only at hSw); go_simp)
                    first | done | with_reducible rfl
                  simp only [Act.put, List.getElem_toArray, List.getElem_cons_zero, List.getElem_cons_succ, List.setIfInBounds_toArray, List.set_cons_zero, List.set_cons_succ]
                  try simp only [iw]
                  refine wpAnyH_ready (rs := [7]) (by kernel_rfl) (by simp) ?_
                  refine AllReadyH.cons rfl (fun K hK => ?_) AllReadyH.nil
                  go_simp
                  refine (SF.out _).mono ?_
                  rintro e w7 ⟨rfl, rfl⟩
                  refine hK.out _ _ ?_ (fun hHeld => ?_)
                  · exact ⟨hHeld.1, hHeld.2.1, hHeld.2.2.1, hHeld.2.2.2.1, hHeld.2.2.2.2⟩
                  clear hK K
                  try simp only [Act.put, List.getElem_toArray, List.getElem_cons_zero, List.getElem_cons_succ, List.setIfInBounds_toArray, List.set_cons_zero, List.set_cons_succ]
                  refine wpAnyH_take (i := 8) (v := ?_) rfl (by kernel_rfl) (by kernel_rfl) (by kernel_rfl) (fun _ _ _ h => h) (Or.inl ⟨by rfl, ?_⟩) (by assumption) ?_
                  rotate_left
                  · (intro w hSw; (try dsimp only at hSw); go_simp)
                    first | done | with_reducible rfl
                  simp only [Act.put, List.getElem_toArray, List.getElem_cons_zero, List.getElem_cons_succ, List.setIfInBounds_toArray, List.set_cons_zero, List.set_cons_succ]
                  refine wpAnyH_take (i := 9) (v := ?_) rfl (by kernel_rfl) (by kernel_rfl) (by kernel_rfl) (fun _ _ _ h => h) (Or.inl ⟨by rfl, ?_⟩) (by assumption) ?_
                  rotate_left
                  · (intro w hSw; (try dsimp only at hSw); go_simp)
                    first | done | with_reducible rfl
                  simp only [Act.put, List.getElem_toArray, List.getElem_cons_zero, List.getElem_cons_succ, List.setIfInBounds_toArray, List.set_cons_zero, List.set_cons_succ]
                  refine wpAnyH_take (i := 10) (v := ?_) rfl (by kernel_rfl) (by kernel_rfl) (by kernel_rfl) (fun _ _ _ h => h) (Or.inl ⟨by rfl, ?_⟩) (by assumption) ?_
                  rotate_left
                  · (intro w hSw; (try dsimp only at hSw); go_simp)
                    first | done | with_reducible rfl
                  simp only [Act.put, List.getElem_toArray, List.getElem_cons_zero, List.getElem_cons_succ, List.setIfInBounds_toArray, List.set_cons_zero, List.set_cons_succ]
                  refine wpAnyH_take (i := 11) (v := ?_) rfl (by kernel_rfl) (by kernel_rfl) (by kernel_rfl) (fun _ _ _ h => h) (Or.inl ⟨by rfl, ?_⟩) (by assumption) ?_
                  rotate_left
                  · (intro w hSw; (try dsimp only at hSw); go_simp)
                    first | done | with_reducible rfl
                  simp only [Act.put, List.getElem_toArray, List.getElem_cons_zero, List.getElem_cons_succ, List.setIfInBounds_toArray, List.set_cons_zero, List.set_cons_succ]
                  refine wpAnyH_take (i := 12) (v := ?_) rfl (by kernel_rfl) (by kernel_rfl) (by kernel_rfl) (fun _ _ _ h => h) (Or.inl ⟨by rfl, ?_⟩) (by assumption) ?_
                  rotate_left
                  · (intro w hSw; (try dsimp only at hSw); go_simp)
                    first | done | with_reducible rfl
                  simp only [Act.put, List.getElem_toArray, List.getElem_cons_zero, List.getElem_cons_succ, List.setIfInBounds_toArray, List.set_cons_zero, List.set_cons_succ]
                  refine wpAnyH_take (i := 13) (v := ?_) rfl (by kernel_rfl) (by kernel_rfl) (by kernel_rfl) (fun _ _ _ h => h) (Or.inl ⟨by rfl, ?_⟩) (by assumption) ?_
                  rotate_left
                  · (intro w hSw; (try dsimp only at hSw); go_simp)
                    first | done | with_reducible rfl
                  simp only [Act.put, List.getElem_toArray, List.getElem_cons_zero, List.getElem_cons_succ, List.setIfInBounds_toArray, List.set_cons_zero, List.set_cons_succ]
                  refine wpAnyH_take (i := 14) (v := ?_) rfl (by kernel_rfl) (by kernel_rfl) (by kernel_rfl) (fun _ _ _ h => h) (Or.inl ⟨by rfl, ?_⟩) (by assumption) ?_
                  rotate_left
                  · (intro w hSw; (try dsimp only at hSw); go_simp)
                    first | done | with_reducible rfl
                  simp only [Act.put, List.getElem_toArray, List.getElem_cons_zero, List.getElem_cons_succ, List.setIfInBounds_toArray, List.set_cons_zero, List.set_cons_succ]
                  refine wpAnyH_take (i := 15) (v := ?_) rfl (by kernel_rfl) (by kernel_rfl) (by kernel_rfl) (fun _ _ _ h => h) (Or.inl ⟨by rfl, ?_⟩) (by assumption) ?_
                  rotate_left
                  · (intro w hSw; (try dsimp only at hSw); go_simp)
                    first | done | with_reducible rfl
                  simp only [Act.put, List.getElem_toArray, List.getElem_cons_zero, List.getElem_cons_succ, List.setIfInBounds_toArray, List.set_cons_zero, List.set_cons_succ]
                  refine wpAnyH_take (i := 16) (v := ?_) rfl (by kernel_rfl) (by kernel_rfl) (by kernel_rfl) (fun _ _ _ h => h) (Or.inl ⟨by rfl, ?_⟩) (by assumption) ?_
                  rotate_left
                  · (intro w hSw; (try dsimp only at hSw); go_simp)
                    first | done | with_reducible rfl
                  simp only [Act.put, List.getElem_toArray, List.getElem_cons_zero, List.getElem_cons_succ, List.setIfInBounds_toArray, List.set_cons_zero, List.set_cons_succ]
                  try simp only [iw]
                  refine wpAnyH_ready (rs := [17]) (by kernel_rfl) (by simp) ?_
                  refine AllReadyH.cons rfl (fun K hK => ?_) AllReadyH.nil
                  go_simp
                  refine (ST.out _).mono ?_
                  rintro e w17 ⟨rfl, rfl⟩
                  refine hK.out _ _ ?_ (fun hHeld => ?_)
                  · exact ⟨hHeld.1, hHeld.2.1, hHeld.2.2.1, hHeld.2.2.2.1, hHeld.2.2.2.2⟩
                  clear hK K
                  try simp only [Act.put, List.getElem_toArray, List.getElem_cons_zero, List.getElem_cons_succ, List.setIfInBounds_toArray, List.set_cons_zero, List.set_cons_succ]
                  refine wpAnyH_take (i := 18) (v := ?_) rfl (by kernel_rfl) (by kernel_rfl) (by kernel_rfl) (fun _ _ _ h => h) (Or.inl ⟨by rfl, ?_⟩) (by assumption) ?_
                  rotate_left
                  · (intro w hSw; (try dsimp only at hSw); go_simp)
                    first | done | with_reducible rfl
                  simp only [Act.put, List.getElem_toArray, List.getElem_cons_zero, List.getElem_cons_succ, List.setIfInBounds_toArray, List.set_cons_zero, List.set_cons_succ]
                  refine wpAnyH_take (i := 19) (v := ?_) rfl (by kernel_rfl) (by kernel_rfl) (by kernel_rfl) (fun _ _ _ h => h) (Or.inl ⟨by rfl, ?_⟩) (by assumption) ?_
                  rotate_left
                  · (intro w hSw; (try dsimp only at hSw); go_simp)
                    first | done | with_reducible rfl
                  simp only [Act.put, List.getElem_toArray, List.getElem_cons_zero, List.getElem_cons_succ, List.setIfInBounds_toArray, List.set_cons_zero, List.set_cons_succ]
                  refine wpAnyH_take (i := 20) (v := ?_) rfl (by kernel_rfl) (by kernel_rfl) (by kernel_rfl) (fun _ _ _ h => h) (Or.inl ⟨by rfl, ?_⟩) (by assumption) ?_
                  rotate_left
                  · (intro w hSw; (try dsimp only at hSw); go_simp)
                    first | done | with_reducible rfl
                  simp only [Act.put, List.getElem_toArray, List.getElem_cons_zero, List.getElem_cons_succ, List.setIfInBounds_toArray, List.set_cons_zero, List.set_cons_succ]
                  refine wpAnyH_take (i := 21) rfl (by kernel_rfl) (by kernel_rfl) (by kernel_rfl) (fun _ _ _ h => h) (Or.inr ⟨by rfl, rfl⟩) (by assumption) ?_
                  simp only [Act.put, List.getElem_toArray, List.getElem_cons_zero, List.getElem_cons_succ, List.setIfInBounds_toArray, List.set_cons_zero, List.set_cons_succ]
                  refine wpAnyH_take (i := 22) rfl (by kernel_rfl) (by kernel_rfl) (by kernel_rfl) (fun _ _ _ h => h) (Or.inr ⟨by rfl, rfl⟩) (by assumption) ?_
                  simp only [Act.put, List.getElem_toArray, List.getElem_cons_zero, List.getElem_cons_succ, List.setIfInBounds_toArray, List.set_cons_zero, List.set_cons_succ]
                  refine wpAnyH_take (i := 23) rfl (by kernel_rfl) (by kernel_rfl) (by kernel_rfl) (fun _ _ _ h => h) (Or.inr ⟨by rfl, rfl⟩) (by assumption) ?_
                  simp only [Act.put, List.getElem_toArray, List.getElem_cons_zero, List.getElem_cons_succ, List.setIfInBounds_toArray, List.set_cons_zero, List.set_cons_succ]
                  refine wpAnyH_take (i := 24) rfl (by kernel_rfl) (by kernel_rfl) (by kernel_rfl) (fun _ _ _ h => h) (Or.inr ⟨by rfl, rfl⟩) (by assumption) ?_
                  simp only [Act.put, List.getElem_toArray, List.getElem_cons_zero, List.getElem_cons_succ, List.setIfInBounds_toArray, List.set_cons_zero, List.set_cons_succ]
                  refine wpAnyH_take (i := 25) rfl (by kernel_rfl) (by kernel_rfl) (by kernel_rfl) (fun _ _ _ h => h) (Or.inr ⟨by rfl, rfl⟩) (by assumption) ?_
                  simp only [Act.put, List.getElem_toArray, List.getElem_cons_zero, List.getElem_cons_succ, List.setIfInBounds_toArray, List.set_cons_zero, List.set_cons_succ]
                  refine wpAnyH_take (i := 26) rfl (by kernel_rfl) (by kernel_rfl) (by kernel_rfl) (fun _ _ _ h => h) (Or.inr ⟨by rfl, rfl⟩) (by assumption) ?_
                  simp only [Act.put, List.getElem_toArray, List.getElem_cons_zero, List.getElem_cons_succ, List.setIfInBounds_toArray, List.set_cons_zero, List.set_cons_succ]
                  refine wpAnyH_take (i := 27) rfl (by kernel_rfl) (by kernel_rfl) (by kernel_rfl) (fun _ _ _ h => h) (Or.inr ⟨by rfl, rfl⟩) (by assumption) ?_
                  simp only [Act.put, List.getElem_toArray, List.getElem_cons_zero, List.getElem_cons_succ, List.setIfInBounds_toArray, List.set_cons_zero, List.set_cons_succ]
                  refine wpAnyH_take (i := 28) rfl (by kernel_rfl) (by kernel_rfl) (by kernel_rfl) (fun _ _ _ h => h) (Or.inr ⟨by rfl, rfl⟩) (by assumption) ?_
                  simp only [Act.put, List.getElem_toArray, List.getElem_cons_zero, List.getElem_cons_succ, List.setIfInBounds_toArray, List.set_cons_zero, List.set_cons_succ]
                  refine wpAnyH_take (i := 29) rfl (by kernel_rfl) (by kernel_rfl) (by kernel_rfl) (fun _ _ _ h => h) (Or.inr ⟨by rfl, rfl⟩) (by assumption) ?_
                  simp only [Act.put, List.getElem_toArray, List.getElem_cons_zero, List.getElem_cons_succ, List.setIfInBounds_toArray, List.set_cons_zero, List.set_cons_succ]
                  refine wpAnyH_take (i := 30) rfl (by kernel_rfl) (by kernel_rfl) (by kernel_rfl) (fun _ _ _ h => h) (Or.inr ⟨by rfl, rfl⟩) (by assumption) ?_
                  simp only [Act.put, List.getElem_toArray, List.getElem_cons_zero, List.getElem_cons_succ, List.setIfInBounds_toArray, List.set_cons_zero, List.set_cons_succ]
                  refine wpAnyH_take (i := 31) (v := ?_) rfl (by kernel_rfl) (by kernel_rfl) (by kernel_rfl) (fun _ _ _ h => h) (Or.inl ⟨by rfl, ?_⟩) (by assumption) ?_
                  rotate_left
                  · (intro w hSw; (try dsimp only at hSw); go_simp)
                    first | done | with_reducible rfl
                  simp only [Act.put, List.getElem_toArray, List.getElem_cons_zero, List.getElem_cons_succ, List.setIfInBounds_toArray, List.set_cons_zero, List.set_cons_succ]
                  refine wpAnyH_done (by kernel_rfl) ?_ _
                  clear hHeld x0 x2 x3 z0 z1 z2
                  go_wp2_with fail
                  go_ret
                  exact ⟨by rw [HRR.out]; rfl, HU5.out⟩
                | true =>
                  rw [hf2] at ST HEP
                  clear hf2
                  cases hf3 : inB lb 0 ((labs.length : Int) - 1) with
                  | false =>
                    rw [hf3] at SI
                    have HRR := Lib.hid (show sysOk ⟨st, ini, labs, eds⟩ = false by rw [HOK2.out, HA2.out, HEP.out, hf3]; simp)
                    clear HOK2 HA2 HEP HPR5
                    clear hf3
                    refine wp_region_held_drew (S := fun w' => w'.cell? ⟨p, 0, none⟩ = some (ei st) ∧ w'.cell? ⟨p, 2, none⟩ = some (.slice a1 labs.length c1) ∧ w'.cell? ⟨BB, 0, none⟩ = some (ei fr) ∧ w'.cell? ⟨BB, 1, none⟩ = some (ei lb) ∧ w'.cell? ⟨BB, 2, none⟩ = some (ei td)) (by kernel_rfl) ?_ (fun hHeld => ?_)
                    · exact ⟨x0, x2, z0, z1, z2⟩
                    refine wpAnyH_take (i := 0) (v := ?_) rfl (by kernel_rfl) (by kernel_rfl) (by kernel_rfl) (fun _ _ _ h => h) (Or.inl ⟨by rfl, ?_⟩) (by assumption) ?_
                    rotate_left
                    · (intro w hSw; (try dsimp only at hSw); go_simp)
                      first | done | with_reducible rfl
                    simp only [Act.put, List.getElem_toArray, List.getElem_cons_zero, List.setIfInBounds_toArray, List.set_cons_zero, List.set_cons_succ]
                    refine wpAnyH_take (i := 1) (v := ?_) rfl (by kernel_rfl) (by kernel_rfl) (by kernel_rfl) (fun _ _ _ h => h) (Or.inl ⟨by rfl, ?_⟩) (by assumption) ?_
                    rotate_left
                    · (intro w hSw; (try dsimp only at hSw); go_simp)
                      first | done | with_reducible rfl
                    simp only [Act.put, List.getElem_toArray, List.getElem_cons_zero, List.getElem_cons_succ, List.setIfInBounds_toArray, List.set_cons_zero, List.set_cons_succ]
                    refine wpAnyH_take (i := 2) (v := ?_) rfl (by kernel_rfl) (by kernel_rfl) (by kernel_rfl) (fun _ _ _ h => h) (Or.inl ⟨by rfl, ?_⟩) (by assumption) ?_
                    rotate_left
                    · (intro w hSw; (try dsimp only at hSw); go_simp)
                      first | done | with_reducible rfl
                    simp only [Act.put, List.getElem_toArray, List.getElem_cons_zero, List.getElem_cons_succ, List.setIfInBounds_toArray, List.set_cons_zero, List.set_cons_succ]
                    refine wpAnyH_take (i := 3) (v := ?_) rfl (by kernel_rfl) (by kernel_rfl) (by kernel_rfl) (fun _ _ _ h => h) (Or.inl ⟨by rfl, ?_⟩) (by assumption) ?_
                    rotate_left
                    · (intro w hSw; (try dsimp only at hSw); go_simp)
                      first | done | with_reducible rfl
                    simp only [Act.put, List.getElem_toArray, List.getElem_cons_zero, List.getElem_cons_succ, List.setIfInBounds_toArray, List.set_cons_zero, List.set_cons_succ]
                    refine wpAnyH_take (i := 4) (v := ?_) rfl (by kernel_rfl) (by kernel_rfl) (by kernel_rfl) (fun _ _ _ h => h) (Or.inl ⟨by rfl, ?_⟩) (by assumption) ?_
                    rotate_left
                    · (intro w hSw; (try dsimp only at hSw); go_simp)
                      first | done | with_reducible rfl
                    simp only [Act.put, List.getElem_toArray, List.getElem_cons_zero, List.getElem_cons_succ, List.setIfInBounds_toArray, List.set_cons_zero, List.set_cons_succ]
                    refine wpAnyH_take (i := 5) (v := ?_) rfl (by kernel_rfl) (by kernel_rfl) (by kernel_rfl) (fun _ _ _ h => h) (Or.inl ⟨by rfl, ?_⟩) (by assumption) ?_
                    rotate_left
                    · (intro w hSw; (try dsimp only at hSw); go_simp)
                      first | done | with_reducible rfl
                    simp only [Act.put, List.getElem_toArray, List.getElem_cons_zero, List.getElem_cons_succ, List.setIfInBounds_toArray, List.set_cons_zero, List.set_cons_succ]
                    refine wpAnyH_take (i := 6) (v := ?_) rfl (by kernel_rfl) (by kernel_rfl) (by kernel_rfl) (fun _ _ _ h => h) (Or.inl ⟨by rfl, ?_⟩) (by assumption) ?_
                    rotate_left
                    · (intro w hSw; (try dsimp only at hSw); go_simp)
                      first | done | with_reducible rfl
                    simp only [Act.put, List.getElem_toArray, List.getElem_cons_zero, List.getElem_cons_succ, List.setIfInBounds_toArray, List.set_cons_zero, List.set_cons_succ]
                    try simp only [iw]
                    refine wpAnyH_ready (rs := [7]) (by kernel_rfl) (by simp) ?_
                    refine AllReadyH.cons rfl (fun K hK => ?_) AllReadyH.nil
                    go_simp
                    refine (SF.out _).mono ?_
                    rintro e w7 ⟨rfl, rfl⟩
                    refine hK.out _ _ ?_ (fun hHeld => ?_)
                    · exact ⟨hHeld.1, hHeld.2.1, hHeld.2.2.1, hHeld.2.2.2.1, hHeld.2.2.2.2⟩
                    clear hK K
                    try simp only [Act.put, List.getElem_toArray, List.getElem_cons_zero, List.getElem_cons_succ, List.setIfInBounds_toArray, List.set_cons_zero, List.set_cons_succ]
                    refine wpAnyH_take (i := 8) (v := ?_) rfl (by kernel_rfl) (by kernel_rfl) (by kernel_rfl) (fun _ _ _ h => h) (Or.inl ⟨by rfl, ?_⟩) (by assumption) ?_
                    rotate_left
                    · (intro w hSw; (try dsimp only at hSw); go_simp)
                      first | done | with_reducible rfl
                    simp only [Act.put, List.getElem_toArray, List.getElem_cons_zero, List.getElem_cons_succ, List.setIfInBounds_toArray, List.set_cons_zero, List.set_cons_succ]
                    refine wpAnyH_take (i := 9) (v := ?_) rfl (by kernel_rfl) (by kernel_rfl) (by kernel_rfl) (fun _ _ _ h => h) (Or.inl ⟨by rfl, ?_⟩) (by assumption) ?_
                    rotate_left
                    · (intro w hSw; (try dsimp only at hSw); go_simp)
                      first | done | with_reducible rfl
                    simp only [Act.put, List.getElem_toArray, List.getElem_cons_zero, List.getElem_cons_succ, List.setIfInBounds_toArray, List.set_cons_zero, List.set_cons_succ]
                    refine wpAnyH_take (i := 10) (v := ?_) rfl (by kernel_rfl) (by kernel_rfl) (by kernel_rfl) (fun _ _ _ h => h) (Or.inl ⟨by rfl, ?_⟩) (by assumption) ?_
                    rotate_left
                    · (intro w hSw; (try dsimp only at hSw); go_simp)
                      first | done | with_reducible rfl
                    simp only [Act.put, List.getElem_toArray, List.getElem_cons_zero, List.getElem_cons_succ, List.setIfInBounds_toArray, List.set_cons_zero, List.set_cons_succ]
                    refine wpAnyH_take (i := 11) (v := ?_) rfl (by kernel_rfl) (by kernel_rfl) (by kernel_rfl) (fun _ _ _ h => h) (Or.inl ⟨by rfl, ?_⟩) (by assumption) ?_
                    rotate_left
                    · (intro w hSw; (try dsimp only at hSw); go_simp)
                      first | done | with_reducible rfl
                    simp only [Act.put, List.getElem_toArray, List.getElem_cons_zero, List.getElem_cons_succ, List.setIfInBounds_toArray, List.set_cons_zero, List.set_cons_succ]
                    refine wpAnyH_take (i := 12) (v := ?_) rfl (by kernel_rfl) (by kernel_rfl) (by kernel_rfl) (fun _ _ _ h => h) (Or.inl ⟨by rfl, ?_⟩) (by assumption) ?_
                    rotate_left
                    · (intro w hSw; (try dsimp only at hSw); go_simp)
                      first | done | with_reducible rfl
                    simp only [Act.put, List.getElem_toArray, List.getElem_cons_zero, List.getElem_cons_succ, List.setIfInBounds_toArray, List.set_cons_zero, List.set_cons_succ]
                    refine wpAnyH_take (i := 13) (v := ?_) rfl (by kernel_rfl) (by kernel_rfl) (by kernel_rfl) (fun _ _ _ h => h) (Or.inl ⟨by rfl, ?_⟩) (by assumption) ?_
                    rotate_left
                    · (intro w hSw; (try dsimp only at hSw); go_simp)
                      first | done | with_reducible rfl
                    simp only [Act.put, List.getElem_toArray, List.getElem_cons_zero, List.getElem_cons_succ, List.setIfInBounds_toArray, List.set_cons_zero, List.set_cons_succ]
                    refine wpAnyH_take (i := 14) (v := ?_) rfl (by kernel_rfl) (by kernel_rfl) (by kernel_rfl) (fun _ _ _ h => h) (Or.inl ⟨by rfl, ?_⟩) (by assumption) ?_
                    rotate_left
                    · (intro w hSw; (try dsimp only at hSw); go_simp)
                      first | done | with_reducible rfl
                    simp only [Act.put, List.getElem_toArray, List.getElem_cons_zero, List.getElem_cons_succ, List.setIfInBounds_toArray, List.set_cons_zero, List.set_cons_succ]
                    refine wpAnyH_take (i := 15) (v := ?_) rfl (by kernel_rfl) (by kernel_rfl) (by kernel_rfl) (fun _ _ _ h => h) (Or.inl ⟨by rfl, ?_⟩) (by assumption) ?_
                    rotate_left
                    · (intro w hSw; (try dsimp only at hSw); go_simp)
                      first | done | with_reducible rfl
                    simp only [Act.put, List.getElem_toArray, List.getElem_cons_zero, List.getElem_cons_succ, List.setIfInBounds_toArray, List.set_cons_zero, List.set_cons_succ]
                    refine wpAnyH_take (i := 16) (v := ?_) rfl (by kernel_rfl) (by kernel_rfl) (by kernel_rfl) (fun _ _ _ h => h) (Or.inl ⟨by rfl, ?_⟩) (by assumption) ?_
                    rotate_left
                    · (intro w hSw; (try dsimp only at hSw); go_simp)
                      first | done | with_reducible rfl
                    simp only [Act.put, List.getElem_toArray, List.getElem_cons_zero, List.getElem_cons_succ, List.setIfInBounds_toArray, List.set_cons_zero, List.set_cons_succ]
                    try simp only [iw]
                    refine wpAnyH_ready (rs := [17]) (by kernel_rfl) (by simp) ?_
                    refine AllReadyH.cons rfl (fun K hK => ?_) AllReadyH.nil
                    go_simp
                    refine (ST.out _).mono ?_
                    rintro e w17 ⟨rfl, rfl⟩
                    refine hK.out _ _ ?_ (fun hHeld => ?_)
                    · exact ⟨hHeld.1, hHeld.2.1, hHeld.2.2.1, hHeld.2.2.2.1, hHeld.2.2.2.2⟩
                    clear hK K
                    try simp only [Act.put, List.getElem_toArray, List.getElem_cons_zero, List.getElem_cons_succ, List.setIfInBounds_toArray, List.set_cons_zero, List.set_cons_succ]
                    refine wpAnyH_take (i := 18) (v := ?_) rfl (by kernel_rfl) (by kernel_rfl) (by kernel_rfl) (fun _ _ _ h => h) (Or.inl ⟨by rfl, ?_⟩) (by assumption) ?_
                    rotate_left
                    · (intro w hSw; (try dsimp only at hSw); go_simp)
                      first | done | with_reducible rfl
                    simp only [Act.put, List.getElem_toArray, List.getElem_cons_zero, List.getElem_cons_succ, List.setIfInBounds_toArray, List.set_cons_zero, List.set_cons_succ]
                    refine wpAnyH_take (i := 19) (v := ?_) rfl (by kernel_rfl) (by kernel_rfl) (by kernel_rfl) (fun _ _ _ h => h) (Or.inl ⟨by rfl, ?_⟩) (by assumption) ?_
                    rotate_left
                    · (intro w hSw; (try dsimp only at hSw); go_simp)
                      first | done | with_reducible rfl
                    simp only [Act.put, List.getElem_toArray, List.getElem_cons_zero, List.getElem_cons_succ, List.setIfInBounds_toArray, List.set_cons_zero, List.set_cons_succ]
                    refine wpAnyH_take (i := 20) (v := ?_) rfl (by kernel_rfl) (by kernel_rfl) (by kernel_rfl) (fun _ _ _ h => h) (Or.inl ⟨by rfl, ?_⟩) (by assumption) ?_
                    rotate_left
                    · (intro w hSw; (try dsimp only at hSw); go_simp)
                      first | done | with_reducible rfl
                    simp only [Act.put, List.getElem_toArray, List.getElem_cons_zero, List.getElem_cons_succ, List.setIfInBounds_toArray, List.set_cons_zero, List.set_cons_succ]
                    refine wpAnyH_take (i := 21) (v := ?_) rfl (by kernel_rfl) (by kernel_rfl) (by kernel_rfl) (fun _ _ _ h => h) (Or.inl ⟨by rfl, ?_⟩) (by assumption) ?_
                    rotate_left
                    · (intro w hSw; (try dsimp only at hSw); go_simp)
                      first | done | with_reducible rfl
                    simp only [Act.put, List.getElem_toArray, List.getElem_cons_zero, List.getElem_cons_succ, List.setIfInBounds_toArray, List.set_cons_zero, List.set_cons_succ]
                    refine wpAnyH_take (i := 22) (v := ?_) rfl (by kernel_rfl) (by kernel_rfl) (by kernel_rfl) (fun _ _ _ h => h) (Or.inl ⟨by rfl, ?_⟩) (by assumption) ?_
                    rotate_left
                    · (intro w hSw; (try dsimp only at hSw); go_simp)
                      first | done | with_reducible rfl
                    simp only [Act.put, List.getElem_toArray, List.getElem_cons_zero, List.getElem_cons_succ, List.setIfInBounds_toArray, List.set_cons_zero, List.set_cons_succ]
                    refine wpAnyH_take (i := 23) (v := ?_) rfl (by kernel_rfl) (by kernel_rfl) (by kernel_rfl) (fun _ _ _ h => h) (Or.inl ⟨by rfl, ?_⟩) (by assumption) ?_
                    rotate_left
                    · (intro w hSw; (try dsimp only at hSw); go_simp)
                      first | done | with_reducible rfl
                    simp only [Act.put, List.getElem_toArray, List.getElem_cons_zero, List.getElem_cons_succ, List.setIfInBounds_toArray, List.set_cons_zero, List.set_cons_succ]
                    refine wpAnyH_take (i := 24) (v := ?_) rfl (by kernel_rfl) (by kernel_rfl) (by kernel_rfl) (fun _ _ _ h => h) (Or.inl ⟨by rfl, ?_⟩) (by assumption) ?_
                    rotate_left
                    · (intro w hSw; (try dsimp only at hSw); go_simp)
                      first | done | with_reducible rfl
                    simp only [Act.put, List.getElem_toArray, List.getElem_cons_zero, List.getElem_cons_succ, List.setIfInBounds_toArray, List.set_cons_zero, List.set_cons_succ]
                    refine wpAnyH_take (i := 25) (v := ?_) rfl (by kernel_rfl) (by kernel_rfl) (by kernel_rfl) (fun _ _ _ h => h) (Or.inl ⟨by rfl, ?_⟩) (by assumption) ?_
                    rotate_left
                    · (intro w hSw; (try dsimp only at hSw); go_simp)
                      first | done | with_reducible rfl
                    simp only [Act.put, List.getElem_toArray, List.getElem_cons_zero, List.getElem_cons_succ, List.setIfInBounds_toArray, List.set_cons_zero, List.set_cons_succ]
                    refine wpAnyH_take (i := 26) (v := ?_) rfl (by kernel_rfl) (by kernel_rfl) (by kernel_rfl) (fun _ _ _ h => h) (Or.inl ⟨by rfl, ?_⟩) (by assumption) ?_
                    rotate_left
                    · (intro w hSw; (try dsimp only at hSw); go_simp)
                      first | done | with_reducible rfl
                    simp only [Act.put, List.getElem_toArray, List.getElem_cons_zero, List.getElem_cons_succ, List.setIfInBounds_toArray, List.set_cons_zero, List.set_cons_succ]
                    refine wpAnyH_take (i := 27) (v := ?_) rfl (by kernel_rfl) (by kernel_rfl) (by kernel_rfl) (fun _ _ _ h => h) (Or.inl ⟨by rfl, ?_⟩) (by assumption) ?_
                    rotate_left
                    · (intro w hSw; (try dsimp only at hSw); go_simp)
                      first | done | with_reducible rfl
                    simp only [Act.put, List.getElem_toArray, List.getElem_cons_zero, List.getElem_cons_succ, List.setIfInBounds_toArray, List.set_cons_zero, List.set_cons_succ]
                    refine wpAnyH_take (i := 28) (v := ?_) rfl (by kernel_rfl) (by kernel_rfl) (by kernel_rfl) (fun _ _ _ h => h) (Or.inl ⟨by rfl, ?_⟩) (by assumption) ?_
                    rotate_left
                    · (intro w hSw; (try dsimp only at hSw); go_simp)
                      first | done | with_reducible rfl
                    simp only [Act.put, List.getElem_toArray, List.getElem_cons_zero, List.getElem_cons_succ, List.setIfInBounds_toArray, List.set_cons_zero, List.set_cons_succ]
                    try simp only [il]
                    refine wpAnyH_ready (rs := [29]) (by kernel_rfl) (by simp) ?_
                    refine AllReadyH.cons rfl (fun K hK => ?_) AllReadyH.nil
                    go_simp
                    refine (SI.out _).mono ?_
                    rintro e w29 ⟨rfl, rfl⟩
                    refine hK.out _ _ ?_ (fun hHeld => ?_)
                    · exact ⟨hHeld.1, hHeld.2.1, hHeld.2.2.1, hHeld.2.2.2.1, hHeld.2.2.2.2⟩
                    clear hK K
                    try simp only [Act.put, List.getElem_toArray, List.getElem_cons_zero, List.getElem_cons_succ, List.setIfInBounds_toArray, List.set_cons_zero, List.set_cons_succ]
                    refine wpAnyH_take (i := 30) (v := ?_) rfl (by kernel_rfl) (by kernel_rfl) (by kernel_rfl) (fun _ _ _ h => h) (Or.inl ⟨by rfl, ?_⟩) (by assumption) ?_
                    rotate_left
                    · (intro w hSw; (try dsimp only at hSw); go_simp)
                      first | done | with_reducible rfl
                    simp only [Act.put, List.getElem_toArray, List.getElem_cons_zero, List.getElem_cons_succ, List.setIfInBounds_toArray, List.set_cons_zero, List.set_cons_succ]
                    refine wpAnyH_take (i := 31) (v := ?_) rfl (by kernel_rfl) (by kernel_rfl) (by kernel_rfl) (fun _ _ _ h => h) (Or.inl ⟨by rfl, ?_⟩) (by assumption) ?_
                    rotate_left
                    · (intro w hSw; (try dsimp only at hSw); go_simp)
                      first | done | with_reducible rfl
                    simp only [Act.put, List.getElem_toArray, List.getElem_cons_zero, List.getElem_cons_succ, List.setIfInBounds_toArray, List.set_cons_zero, List.set_cons_succ]
                    refine wpAnyH_done (by kernel_rfl) ?_ _
                    clear hHeld x0 x2 x3 z0 z1 z2
                    go_wp2_with fail
                    go_ret
                    exact ⟨by rw [HRR.out]; rfl, HU5.out⟩
                  | true =>
                    rw [hf3] at SI HEP
                    clear hf3
                    refine wp_region_held_drew (S := fun w' => w'.cell? ⟨p, 0, none⟩ = some (ei st) ∧ w'.cell? ⟨p, 2, none⟩ = some (.slice a1 labs.length c1) ∧ w'.cell? ⟨BB, 0, none⟩ = some (ei fr) ∧ w'.cell? ⟨BB, 1, none⟩ = some (ei lb) ∧ w'.cell? ⟨BB, 2, none⟩ = some (ei td)) (by kernel_rfl) ?_ (fun hHeld => ?_)
                    · exact ⟨x0, x2, z0, z1, z2⟩
                    refine wpAnyH_take (i := 0) (v := ?_) rfl (by kernel_rfl) (by kernel_rfl) (by kernel_rfl) (fun _ _ _ h => h) (Or.inl ⟨by rfl, ?_⟩) (by assumption) ?_
                    rotate_left
                    · (intro w hSw; (try dsimp only at hSw); go_simp)
                      first | done | with_reducible rfl
                    simp only [Act.put, List.getElem_toArray, List.getElem_cons_zero, List.setIfInBounds_toArray, List.set_cons_zero, List.set_cons_succ]
                    refine wpAnyH_take (i := 1) (v := ?_) rfl (by kernel_rfl) (by kernel_rfl) (by kernel_rfl) (fun _ _ _ h => h) (Or.inl ⟨by rfl, ?_⟩) (by assumption) ?_
                    rotate_left
                    · (intro w hSw; (try dsimp only at hSw); go_simp)
                      first | done | with_reducible rfl
                    simp only [Act.put, List.getElem_toArray, List.getElem_cons_zero, List.getElem_cons_succ, List.setIfInBounds_toArray, List.set_cons_zero, List.set_cons_succ]
                    refine wpAnyH_take (i := 2) (v := ?_) rfl (by kernel_rfl) (by kernel_rfl) (by kernel_rfl) (fun _ _ _ h => h) (Or.inl ⟨by rfl, ?_⟩) (by assumption) ?_
                    rotate_left
                    · (intro w hSw; (try dsimp only at hSw); go_simp)
                      first | done | with_reducible rfl
                    simp only [Act.put, List.getElem_toArray, List.getElem_cons_zero, List.getElem_cons_succ, List.setIfInBounds_toArray, List.set_cons_zero, List.set_cons_succ]
                    refine wpAnyH_take (i := 3) (v := ?_) rfl (by kernel_rfl) (by kernel_rfl) (by kernel_rfl) (fun _ _ _ h => h) (Or.inl ⟨by rfl, ?_⟩) (by assumption) ?_
                    rotate_left
                    · (intro w hSw; (try dsimp only at hSw); go_simp)
                      first | done | with_reducible rfl
                    simp only [Act.put, List.getElem_toArray, List.getElem_cons_zero, List.getElem_cons_succ, List.setIfInBounds_toArray, List.set_cons_zero, List.set_cons_succ]
                    refine wpAnyH_take (i := 4) (v := ?_) rfl (by kernel_rfl) (by kernel_rfl) (by kernel_rfl) (fun _ _ _ h => h) (Or.inl ⟨by rfl, ?_⟩) (by assumption) ?_
                    rotate_left
                    · (intro w hSw; (try dsimp only at hSw); go_simp)
                      first | done | with_reducible rfl
                    simp only [Act.put, List.getElem_toArray, List.getElem_cons_zero, List.getElem_cons_succ, List.setIfInBounds_toArray, List.set_cons_zero, List.set_cons_succ]
                    refine wpAnyH_take (i := 5) (v := ?_) rfl (by kernel_rfl) (by kernel_rfl) (by kernel_rfl) (fun _ _ _ h => h) (Or.inl ⟨by rfl, ?_⟩) (by assumption) ?_
                    rotate_left
                    · (intro w hSw; (try dsimp only at hSw); go_simp)
                      first | done | with_reducible rfl
                    simp only [Act.put, List.getElem_toArray, List.getElem_cons_zero, List.getElem_cons_succ, List.setIfInBounds_toArray, List.set_cons_zero, List.set_cons_succ]
                    refine wpAnyH_take (i := 6) (v := ?_) rfl (by kernel_rfl) (by kernel_rfl) (by kernel_rfl) (fun _ _ _ h => h) (Or.inl ⟨by rfl, ?_⟩) (by assumption) ?_
                    rotate_left
                    · (intro w hSw; (try dsimp only at hSw); go_simp)
                      first | done | with_reducible rfl
                    simp only [Act.put, List.getElem_toArray, List.getElem_cons_zero, List.getElem_cons_succ, List.setIfInBounds_toArray, List.set_cons_zero, List.set_cons_succ]
                    try simp only [iw]
                    refine wpAnyH_ready (rs := [7]) (by kernel_rfl) (by simp) ?_
                    refine AllReadyH.cons rfl (fun K hK => ?_) AllReadyH.nil
                    go_simp
                    refine (SF.out _).mono ?_
                    rintro e w7 ⟨rfl, rfl⟩
                    refine hK.out _ _ ?_ (fun hHeld => ?_)
                    · exact ⟨hHeld.1, hHeld.2.1, hHeld.2.2.1, hHeld.2.2.2.1, hHeld.2.2.2.2⟩
                    clear hK K
                    try simp only [Act.put, List.getElem_toArray, List.getElem_cons_zero, List.getElem_cons_succ, List.setIfInBounds_toArray, List.set_cons_zero, List.set_cons_succ]
                    refine wpAnyH_take (i := 8) (v := ?_) rfl (by kernel_rfl) (by kernel_rfl) (by kernel_rfl) (fun _ _ _ h => h) (Or.inl ⟨by rfl, ?_⟩) (by assumption) ?_
                    rotate_left
                    · (intro w hSw; (try dsimp only at hSw); go_simp)
                      first | done | with_reducible rfl
                    simp only [Act.put, List.getElem_toArray, List.getElem_cons_zero, List.getElem_cons_succ, List.setIfInBounds_toArray, List.set_cons_zero, List.set_cons_succ]
                    refine wpAnyH_take (i := 9) (v := ?_) rfl (by kernel_rfl) (by kernel_rfl) (by kernel_rfl) (fun _ _ _ h => h) (Or.inl ⟨by rfl, ?_⟩) (by assumption) ?_
                    rotate_left
                    · (intro w hSw; (try dsimp only at hSw); go_simp)
                      first | done | with_reducible rfl
                    simp only [Act.put, List.getElem_toArray, List.getElem_cons_zero, List.getElem_cons_succ, List.setIfInBounds_toArray, List.set_cons_zero, List.set_cons_succ]
                    refine wpAnyH_take (i := 10) (v := ?_) rfl (by kernel_rfl) (by kernel_rfl) (by kernel_rfl) (fun _ _ _ h => h) (Or.inl ⟨by rfl, ?_⟩) (by assumption) ?_
                    rotate_left
                    · (intro w hSw; (try dsimp only at hSw); go_simp)
                      first | done | with_reducible rfl
                    simp only [Act.put, List.getElem_toArray, List.getElem_cons_zero, List.getElem_cons_succ, List.setIfInBounds_toArray, List.set_cons_zero, List.set_cons_succ]
                    refine wpAnyH_take (i := 11) (v := ?_) rfl (by kernel_rfl) (by kernel_rfl) (by kernel_rfl) (fun _ _ _ h => h) (Or.inl ⟨by rfl, ?_⟩) (by assumption) ?_
                    rotate_left
                    · (intro w hSw; (try dsimp only at hSw); go_simp)
                      first | done | with_reducible rfl
                    simp only [Act.put, List.getElem_toArray, List.getElem_cons_zero, List.getElem_cons_succ, List.setIfInBounds_toArray, List.set_cons_zero, List.set_cons_succ]
                    refine wpAnyH_take (i := 12) (v := ?_) rfl (by kernel_rfl) (by kernel_rfl) (by kernel_rfl) (fun _ _ _ h => h) (Or.inl ⟨by rfl, ?_⟩) (by assumption) ?_
                    rotate_left
                    · (intro w hSw; (try dsimp only at hSw); go_simp)
                      first | done | with_reducible rfl
                    simp only [Act.put, List.getElem_toArray, List.getElem_cons_zero, List.getElem_cons_succ, List.setIfInBounds_toArray, List.set_cons_zero, List.set_cons_succ]
                    refine wpAnyH_take (i := 13) (v := ?_) rfl (by kernel_rfl) (by kernel_rfl) (by kernel_rfl) (fun _ _ _ h => h) (Or.inl ⟨by rfl, ?_⟩) (by assumption) ?_
                    rotate_left
                    · (intro w hSw; (try dsimp only at hSw); go_simp)
                      first | done | with_reducible rfl
                    simp only [Act.put, List.getElem_toArray, List.getElem_cons_zero, List.getElem_cons_succ, List.setIfInBounds_toArray, List.set_cons_zero, List.set_cons_succ]
                    refine wpAnyH_take (i := 14) (v := ?_) rfl (by kernel_rfl) (by kernel_rfl) (by kernel_rfl) (fun _ _ _ h => h) (Or.inl ⟨by rfl, ?_⟩) (by assumption) ?_
                    rotate_left
                    · (intro w hSw; (try dsimp only at hSw); go_simp)
                      first | done | with_reducible rfl
                    simp only [Act.put, List.getElem_toArray, List.getElem_cons_zero, List.getElem_cons_succ, List.setIfInBounds_toArray, List.set_cons_zero, List.set_cons_succ]
                    refine wpAnyH_take (i := 15) (v := ?_) rfl (by kernel_rfl) (by kernel_rfl) (by kernel_rfl) (fun _ _ _ h => h) (Or.inl ⟨by rfl, ?_⟩) (by assumption) ?_
                    rotate_left
                    · (intro w hSw; (try dsimp only at hSw); go_simp)
                      first | done | with_reducible rfl
                    simp only [Act.put, List.getElem_toArray, List.getElem_cons_zero, List.getElem_cons_succ, List.setIfInBounds_toArray, List.set_cons_zero, List.set_cons_succ]
                    refine wpAnyH_take (i := 16) (v := ?_) rfl (by kernel_rfl) (by kernel_rfl) (by kernel_rfl) (fun _ _ _ h => h) (Or.inl ⟨by rfl, ?_⟩) (by assumption) ?_
                    rotate_left
                    · (intro w hSw; (try dsimp only at hSw); go_simp)
                      first | done | with_reducible rfl
                    simp only [Act.put, List.getElem_toArray, List.getElem_cons_zero, List.getElem_cons_succ, List.setIfInBounds_toArray, List.set_cons_zero, List.set_cons_succ]
                    try simp only [iw]
                    refine wpAnyH_ready (rs := [17]) (by kernel_rfl) (by simp) ?_
                    refine AllReadyH.cons rfl (fun K hK => ?_) AllReadyH.nil
                    go_simp
                    refine (ST.out _).mono ?_
                    rintro e w17 ⟨rfl, rfl⟩
                    refine hK.out _ _ ?_ (fun hHeld => ?_)
                    · exact ⟨hHeld.1, hHeld.2.1, hHeld.2.2.1, hHeld.2.2.2.1, hHeld.2.2.2.2⟩
                    clear hK K
                    try simp only [Act.put, List.getElem_toArray, List.getElem_cons_zero, List.getElem_cons_succ, List.setIfInBounds_toArray, List.set_cons_zero, List.set_cons_succ]
                    refine wpAnyH_take (i := 18) (v := ?_) rfl (by kernel_rfl) (by kernel_rfl) (by kernel_rfl) (fun _ _ _ h => h) (Or.inl ⟨by rfl, ?_⟩) (by assumption) ?_
                    rotate_left
                    · (intro w hSw; (try dsimp only at hSw); go_simp)
                      first | done | with_reducible rfl
                    simp only [Act.put, List.getElem_toArray, List.getElem_cons_zero, List.getElem_cons_succ, List.setIfInBounds_toArray, List.set_cons_zero, List.set_cons_succ]
                    refine wpAnyH_take (i := 19) (v := ?_) rfl (by kernel_rfl) (by kernel_rfl) (by kernel_rfl) (fun _ _ _ h => h) (Or.inl ⟨by rfl, ?_⟩) (by assumption) ?_
                    rotate_left
                    · (intro w hSw; (try dsimp only at hSw); go_simp)
                      first | done | with_reducible rfl
                    simp only [Act.put, List.getElem_toArray, List.getElem_cons_zero, List.getElem_cons_succ, List.setIfInBounds_toArray, List.set_cons_zero, List.set_cons_succ]
                    refine wpAnyH_take (i := 20) (v := ?_) rfl (by kernel_rfl) (by kernel_rfl) (by kernel_rfl) (fun _ _ _ h => h) (Or.inl ⟨by rfl, ?_⟩) (by assumption) ?_
                    rotate_left
                    · (intro w hSw; (try dsimp only at hSw); go_simp)
                      first | done | with_reducible rfl
                    simp only [Act.put, List.getElem_toArray, List.getElem_cons_zero, List.getElem_cons_succ, List.setIfInBounds_toArray, List.set_cons_zero, List.set_cons_succ]
                    refine wpAnyH_take (i := 21) (v := ?_) rfl (by kernel_rfl) (by kernel_rfl) (by kernel_rfl) (fun _ _ _ h => h) (Or.inl ⟨by rfl, ?_⟩) (by assumption) ?_
                    rotate_left
                    · (intro w hSw; (try dsimp only at hSw); go_simp)
                      first | done | with_reducible rfl
                    simp only [Act.put, List.getElem_toArray, List.getElem_cons_zero, List.getElem_cons_succ, List.setIfInBounds_toArray, List.set_cons_zero, List.set_cons_succ]
                    refine wpAnyH_take (i := 22) (v := ?_) rfl (by kernel_rfl) (by kernel_rfl) (by kernel_rfl) (fun _ _ _ h => h) (Or.inl ⟨by rfl, ?_⟩) (by assumption) ?_
                    rotate_left
                    · (intro w hSw; (try dsimp only at hSw); go_simp)
                      first | done | with_reducible rfl
                    simp only [Act.put, List.getElem_toArray, List.getElem_cons_zero, List.getElem_cons_succ, List.setIfInBounds_toArray, List.set_cons_zero, List.set_cons_succ]
                    refine wpAnyH_take (i := 23) (v := ?_) rfl (by kernel_rfl) (by kernel_rfl) (by kernel_rfl) (fun _ _ _ h => h) (Or.inl ⟨by rfl, ?_⟩) (by assumption) ?_
                    rotate_left
                    · (intro w hSw; (try dsimp only at hSw); go_simp)
                      first | done | with_reducible rfl
                    simp only [Act.put, List.getElem_toArray, List.getElem_cons_zero, List.getElem_cons_succ, List.setIfInBounds_toArray, List.set_cons_zero, List.set_cons_succ]
                    refine wpAnyH_take (i := 24) (v := ?_) rfl (by kernel_rfl) (by kernel_rfl) (by kernel_rfl) (fun _ _ _ h => h) (Or.inl ⟨by rfl, ?_⟩) (by assumption) ?_
                    rotate_left
                    · (intro w hSw; (try dsimp only at hSw); go_simp)
                      first | done | with_reducible rfl
                    simp only [Act.put, List.getElem_toArray, List.getElem_cons_zero, List.getElem_cons_succ, List.setIfInBounds_toArray, List.set_cons_zero, List.set_cons_succ]
                    refine wpAnyH_take (i := 25) (v := ?_) rfl (by kernel_rfl) (by kernel_rfl) (by kernel_rfl) (fun _ _ _ h => h) (Or.inl ⟨by rfl, ?_⟩) (by assumption) ?_
                    rotate_left
                    · (intro w hSw; (try dsimp only at hSw); go_simp)
                      first | done | with_reducible rfl
                    simp only [Act.put, List.getElem_toArray, List.getElem_cons_zero, List.getElem_cons_succ, List.setIfInBounds_toArray, List.set_cons_zero, List.set_cons_succ]
                    refine wpAnyH_take (i := 26) (v := ?_) rfl (by kernel_rfl) (by kernel_rfl) (by kernel_rfl) (fun _ _ _ h => h) (Or.inl ⟨by rfl, ?_⟩) (by assumption) ?_
                    rotate_left
                    · (intro w hSw; (try dsimp only at hSw); go_simp)
                      first | done | with_reducible rfl
                    simp only [Act.put, List.getElem_toArray, List.getElem_cons_zero, List.getElem_cons_succ, List.setIfInBounds_toArray, List.set_cons_zero, List.set_cons_succ]
                    refine wpAnyH_take (i := 27) (v := ?_) rfl (by kernel_rfl) (by kernel_rfl) (by kernel_rfl) (fun _ _ _ h => h) (Or.inl ⟨by rfl, ?_⟩) (by assumption) ?_
                    rotate_left
                    · (intro w hSw; (try dsimp only at hSw); go_simp)
                      first | done | with_reducible rfl
                    simp only [Act.put, List.getElem_toArray, List.getElem_cons_zero, List.getElem_cons_succ, List.setIfInBounds_toArray, List.set_cons_zero, List.set_cons_succ]
                    refine wpAnyH_take (i := 28) (v := ?_) rfl (by kernel_rfl) (by kernel_rfl) (by kernel_rfl) (fun _ _ _ h => h) (Or.inl ⟨by rfl, ?_⟩) (by assumption) ?_
                    rotate_left
                    · (intro w hSw; (try dsimp only at hSw); go_simp)
                      first | done | with_reducible rfl
                    simp only [Act.put, List.getElem_toArray, List.getElem_cons_zero, List.getElem_cons_succ, List.setIfInBounds_toArray, List.set_cons_zero, List.set_cons_succ]
                    try simp only [il]
                    refine wpAnyH_ready (rs := [29]) (by kernel_rfl) (by simp) ?_
                    refine AllReadyH.cons rfl (fun K hK => ?_) AllReadyH.nil
                    go_simp
                    refine (SI.out _).mono ?_
                    rintro e w29 ⟨rfl, rfl⟩
                    refine hK.out _ _ ?_ (fun hHeld => ?_)
                    · exact ⟨hHeld.1, hHeld.2.1, hHeld.2.2.1, hHeld.2.2.2.1, hHeld.2.2.2.2⟩
                    clear hK K
                    try simp only [Act.put, List.getElem_toArray, List.getElem_cons_zero, List.getElem_cons_succ, List.setIfInBounds_toArray, List.set_cons_zero, List.set_cons_succ]
                    refine wpAnyH_take (i := 30) (v := ?_) rfl (by kernel_rfl) (by kernel_rfl) (by kernel_rfl) (fun _ _ _ h => h) (Or.inl ⟨by rfl, ?_⟩) (by assumption) ?_
                    rotate_left
                    · (intro w hSw; (try dsimp only at hSw); go_simp)
                      first | done | with_reducible rfl
                    simp only [Act.put, List.getElem_toArray, List.getElem_cons_zero, List.getElem_cons_succ, List.setIfInBounds_toArray, List.set_cons_zero, List.set_cons_succ]
                    refine wpAnyH_take (i := 31) (v := ?_) rfl (by kernel_rfl) (by kernel_rfl) (by kernel_rfl) (fun _ _ _ h => h) (Or.inl ⟨by rfl, ?_⟩) (by assumption) ?_
                    rotate_left
                    · (intro w hSw; (try dsimp only at hSw); go_simp)
                      first | done | with_reducible rfl
                    simp only [Act.put, List.getElem_toArray, List.getElem_cons_zero, List.getElem_cons_succ, List.setIfInBounds_toArray, List.set_cons_zero, List.set_cons_succ]
                    refine wpAnyH_done (by kernel_rfl) ?_ _
                    have HZ0 := Lib.hid (show w5.drew.cell? ⟨BB, 0, none⟩ = some (ei fr) ∧ w5.drew.cell? ⟨BB, 1, none⟩ = some (ei lb) ∧ w5.drew.cell? ⟨BB, 2, none⟩ = some (ei td) ∧ w5.drew.cell? ⟨p, 3, none⟩ = some (.slice (some ⟨b1, o1, none⟩) eds.length c2) from ⟨z0, z1, z2, x3⟩)
                    obtain ⟨w6, hw6⟩ : ∃ w6, w6 = w5.drew := ⟨_, rfl⟩
                    rw [← hw6] at HZ0 HPR5 HU5 ⊢
                    clear hHeld x0 x2 x3 z0 z1 z2 hw6 SF ST SI
                    obtain ⟨m0, m1, m2, m3⟩ := HZ0.out
                    by_cases k0 : k = 0
                    · have HA3 := Lib.hid (show allF (edP ⟨st, ini, labs, eds⟩) (k + 1) (eds.length - (k + 1)) = allF (edP ⟨st, ini, labs, eds⟩) 0 eds.length by rw [HA2.out, HEP.out, decide_eq_true k0]; simp)
                      have kN : decide (0 < k) = false := by rw [k0]; rfl
                      have kI : ¬ (0 : Int) < (k : Int) := by omega
                      have kM : ¬ 0 < k := by omega
                      clear HA2 HEP k0 HPR5 m0 m1 m2 HZ0
                      go_wp2_with fail
                      go_roundw
                      case rel => exact ⟨k + 1, by omega, by go_num, HA3, HU5.out⟩
                      case measure => simp [intOf]; omega
                    · obtain ⟨q0, q1, q2⟩ := HPR5.out (by omega)
                      have kN : decide (0 < k) = true := decide_eq_true (by omega)
                      have kI : (0 : Int) < (k : Int) := by omega
                      have kM : 0 < k := by omega
                      have kF : decide (k = 0) = false := decide_eq_false k0
                      rw [kF] at HEP
                      have i0 : IntKind.i64.wrap ((k : Int) - 1) = (k : Int) - 1 := IntWalk.i64_in _ (by omega)
                      have i1 : ((k : Int) - 1).toNat = k - 1 := by omega
                      have i3 : (0 : Int) ≤ (k : Int) - 1 := by omega
                      have i5 : (1 : Int) ≤ (k : Int) := by omega
                      have i4 : (k : Int) - 1 < (eds.length : Int) := by omega
                      have SC := Lib.hid (lessS pk ⟨fr, lb, td⟩ b1 (o1 + (k - 1) * 3) BB 0 w6 q0 q1 q2 m0 m1 m2)
                      clear HPR5 HZ0 k0 kF q0 q1 q2 m0 m1 m2
                      cases hlt9 : edLt pk ⟨fr, lb, td⟩ with
                      | false =>
                        rw [hlt9] at SC HEP
                        have HRR := Lib.hid (show sysOk ⟨st, ini, labs, eds⟩ = false by rw [HOK2.out, HA2.out, HEP.out]; simp)
                        clear hlt9 HOK2 HA2 HEP
                        go_wp2_with fail
                        refine SC.out.mono ?_
                        rintro e w7 ⟨rfl, hu7⟩
                        have HU7 := Lib.hid (HU5.out.trans hu7)
                        clear SC hu7 HU5 m3
                        go_wp2_with fail
                        go_ret
                        exact ⟨by rw [HRR.out]; rfl, HU7.out⟩
                      | true =>
                        rw [hlt9] at SC HEP
                        have HA3 := Lib.hid (show allF (edP ⟨st, ini, labs, eds⟩) (k + 1) (eds.length - (k + 1)) = allF (edP ⟨st, ini, labs, eds⟩) 0 eds.length by rw [HA2.out, HEP.out]; simp)
                        clear hlt9 HA2 HEP
                        go_wp2_with fail
                        refine SC.out.mono ?_
                        rintro e w7 ⟨rfl, hu7⟩
                        have HU7 := Lib.hid (HU5.out.trans hu7)
                        clear SC hu7 HU5 m3
                        go_wp2_with fail
                        go_roundw
                        case rel => exact ⟨k + 1, by omega, by go_num, HA3, HU7.out⟩
                        case measure => simp [intOf]; omega
            · obtain rfl : k = eds.length := by omega
              have HRR := Lib.hid (show sysOk ⟨st, ini, labs, eds⟩ = true by rw [HOK2.out, ← HA.out]; exact allF_end _ _)
              have HU := Lib.hid hU
              clear hlt hk HA hU HOK2
              go_wp2_with fail
              go_ret
              exact ⟨by rw [HRR.out]; rfl, HU.out⟩

end Go.Proofs.YtlogbiacnadcaaaGreatDoor

/-
  The image of a system: what the reference's call returns.
-/
namespace Go.Proofs.YtlogbiacnadcaaaGreatDoor
open Go.RowKit

theorem no_big {a : Nat} (h : a ≤ 2000000) : ¬ (9223372036854775807 < a) := by omega

set_option maxRecDepth 20000 in
set_option maxHeartbeats 4000000 in
theorem ltsS (s i : Nat) (labs : List (List UInt8)) (eds : List Ed) (p : Nat) (v1 v2 : Value) (w : World) (f1 f2 : List Nat)
    (z0 : w.cell? ⟨p, 0, none⟩ = some (ei s)) (z1 : w.cell? ⟨p, 1, none⟩ = some (ei i)) (z2 : w.cell? ⟨p, 2, none⟩ = some v1) (z3 : w.cell? ⟨p, 3, none⟩ = some v2)
    (h1 : RS f1 w [v1] labs) (h2 : R_E1 f2 w [v2] eds) (hs : s ≤ 40) (hi : i ≤ 39) (hn : 1 ≤ labs.length ∧ labs.length ≤ 12) (hm : eds.length ≤ 300) (hls : ∀ s ∈ labs, s.length ≤ 100)
    (hes : ∀ e ∈ eds, (0 ≤ e.fr ∧ e.fr ≤ 2000000) ∧ (0 ≤ e.lb ∧ e.lb ≤ 2000000) ∧ (0 ≤ e.to ∧ e.to ≤ 2000000)) :
    Calls Tryz.prog 34 #[.pointer (some ⟨p, 0, none⟩)] w fun e w' => e = .returned (es (sysImg ⟨s, i, labs, eds⟩)) ∧ Upd [] w w' := by
  have HIMG := Lib.hid (show sealL (1 :: ((((numL s ++ numL i) ++ numL labs.length) ++ (labs.drop 1).flatMap textL) ++ numL eds.length) ++ eds.flatMap edB) = sysImg ⟨s, i, labs, eds⟩ by
    have e2 : edB = fun e : Ed => (numL e.fr.toNat ++ numL e.lb.toNat) ++ numL e.to.toNat := rfl
    unfold sysImg sysB
    rw [e2]
    simp only [List.append_assoc, List.cons_append, Int.toNat_natCast])
  have HZ := Lib.hid (fun W (hu : Upd [] w W) => show W.cell? ⟨p, 0, none⟩ = some (ei s) ∧ W.cell? ⟨p, 1, none⟩ = some (ei i) ∧ W.cell? ⟨p, 2, none⟩ = some v1 ∧ W.cell? ⟨p, 3, none⟩ = some v2 from ⟨hu.keep z0, hu.keep z1, hu.keep z2, hu.keep z3⟩)
  have H1 := Lib.hid (fun W (hu : Upd [] w W) => RSk.upd h1 hu (by simp))
  have H2 := Lib.hid (fun W (hu : Upd [] w W) => R_E1k.upd h2 hu (by simp))
  obtain ⟨a1, c1, rfl, hl1, hm1, -⟩ := slF1_open h1
  obtain ⟨a2, c2, rfl, hl2, hm2, -⟩ := slF3_open h2
  unfold maxLen at hm1 hm2
  have S1 := Lib.hid (fun W : World => show Calls Tryz.prog 76 #[ei s] W fun e w' => e = .returned (es (numL s)) ∧ Upd [] W w' from numS s W (by omega))
  have S2 := Lib.hid (fun W : World => show Calls Tryz.prog 76 #[ei i] W fun e w' => e = .returned (es (numL i)) ∧ Upd [] W w' from numS i W (by omega))
  have S3 := Lib.hid (fun W : World => numS labs.length W (by omega))
  have S4 := Lib.hid (fun W : World => numS eds.length W (by omega))
  have q1 := numL_len s 2 (by omega)
  have q2 := numL_len i 2 (by omega)
  have q3 := numL_len labs.length 2 (by omega)
  have q4 := numL_len eds.length 2 (by omega)
  have HLS := Lib.hid hls
  have HES := Lib.hid hes
  clear h1 h2 hls hes
  generalize numL s = A at *
  generalize numL i = B at *
  generalize numL labs.length = C at *
  generalize numL eds.length = D at *
  have hAB := str_cat A B
  have b1 := no_big (a := A.length + B.length) (by omega)
  have hABl : (A ++ B).length ≤ 6 := by rw [List.length_append]; omega
  generalize A ++ B = AB at *
  have hABC := str_cat AB C
  have b2 := no_big (a := AB.length + C.length) (by omega)
  have hABCl : (AB ++ C).length ≤ 9 := by rw [List.length_append]; omega
  generalize AB ++ C = E1 at *
  go_enter Tryz.func34, Tryz.ntmps34
  go_wp2_with fail
  go_region_held3 (fun w' => w'.cell? ⟨p, 0, none⟩ = some (ei s) ∧ w'.cell? ⟨p, 1, none⟩ = some (ei i) ∧ w'.cell? ⟨p, 2, none⟩ = some (.slice a1 labs.length c1) ∧ w'.cell? ⟨p, 3, none⟩ = some (.slice a2 eds.length c2)) (go_keep)
    (first
      | ((with_reducible refine (S1.out _).mono ?_); rintro e w1 ⟨rfl, hu1⟩; have t1 := hu1.keep z0; have t2 := hu1.keep z1; have t3 := hu1.keep z2; have t4 := hu1.keep z3)
      | ((with_reducible refine (S2.out _).mono ?_); rintro e w2 ⟨rfl, hu2⟩; have r1 := hu2.keep t1; have r2 := hu2.keep t2; have r3 := hu2.keep t3; have r4 := hu2.keep t4)
      | ((with_reducible refine (S3.out _).mono ?_); rintro e w3 ⟨rfl, hu3⟩; have o1 := hu3.keep r1; have o2 := hu3.keep r2; have o3 := hu3.keep r3; have o4 := hu3.keep r4))
  have HU := Lib.hid (((((Upd.refl [] w).drew).trans hu1).trans hu2).trans hu3)
  clear hu1 hu2 hu3 t1 t2 t3 t4 r1 r2 r3 r4 o1 o2 o3 o4 z0 z1 z2 z3 S1 S2 S3
  go_wp2_with fail
  go_loopw [3, 4] (fun ov nv wr => ∃ (k : Nat) (O : List UInt8), ov = es O ∧ nv = .int .i64 k ∧ 1 ≤ k ∧ k ≤ labs.length ∧ O.length ≤ 9 + 103 * k ∧ Hid (O ++ (labs.drop k).flatMap textL = E1 ++ (labs.drop 1).flatMap textL) ∧ Upd [] w wr) (fun _ nv _ => labs.length - (intOf nv).toNat)
  case atStart => exact ⟨1, E1, rfl, rfl, by omega, hn.1, by omega, Lib.hid rfl, HU.out⟩
  case round =>
    clear HU
    obtain ⟨wo, rfl⟩ : ∃ wo : World, wo = wr := ⟨_, rfl⟩
    obtain ⟨k, O, rfl, rfl, hk1, hk, hOl, HO, hU⟩ := hrel
    obtain ⟨y0, y1, y2, y3⟩ := HZ.out wo hU
    by_cases hlt : k < labs.length
    · obtain ⟨aa, cc, hv0, -, -, hc0⟩ := slF1_open (H1.out wo hU)
      cases hv0
      obtain ⟨b0, o0, rfl, -, -, p1⟩ := hc0 k hlt
      have hsl := HLS.out labs[k] (List.getElem_mem hlt)
      have htl := textL_le hsl
      have S5 := Lib.hid (textS labs[k] wo (by omega))
      have HD := HO.out
      rw [List.drop_eq_getElem_cons hlt, List.flatMap_cons, ← List.append_assoc] at HD
      have hU' := Lib.hid hU
      clear hc0 HO hU
      generalize hsk : labs[k] = sk at *
      generalize textL sk = T at *
      have hcat := str_cat O T
      have hb := no_big (a := O.length + T.length) (by omega)
      have hOT : (O ++ T).length ≤ 9 + 103 * (k + 1) := by rw [List.length_append]; omega
      generalize O ++ T = OT at *
      have HD2 := Lib.hid HD
      clear HD htl hsk
      go_wp2_with fail
      refine S5.out.mono ?_
      rintro e w6 ⟨rfl, hu6⟩
      have HU6 := Lib.hid (hU'.out.trans hu6)
      clear S5 hu6
      go_wp2_with fail
      go_roundw
      case rel => exact ⟨k + 1, OT, rfl, by go_num, by omega, by omega, hOT, HD2, HU6.out⟩
      case measure => simp [intOf]; omega
    · obtain rfl : k = labs.length := by omega
      have HO1 := HO.out
      rw [List.drop_length, List.flatMap_nil, List.append_nil] at HO1
      have HU := Lib.hid hU
      rw [← HO1] at HIMG
      have HI2 := Lib.hid HIMG.out
      have hOl2 : O.length ≤ 2000 := by omega
      clear HO HO1 HIMG hU hlt hk hk1
      have hcat := str_cat O D
      have hb := no_big (a := O.length + D.length) (by omega)
      have hOD : (O ++ D).length ≤ 2003 := by rw [List.length_append]; omega
      generalize O ++ D = OD at *
      clear hOl
      go_wp2_with fail
      refine (S4.out _).mono ?_
      rintro e w6 ⟨rfl, hu6⟩
      have HU6 := Lib.hid (HU.out.trans hu6)
      clear S4 hu6 HU y0 y1 y2 y3
      go_wp2_with fail
      go_loopw [3, 5] (fun ov nv wr => ∃ (k : Nat) (P : List UInt8), ov = es P ∧ nv = .int .i64 k ∧ k ≤ eds.length ∧ P.length ≤ 2003 + 9 * k ∧ Hid (P ++ (eds.drop k).flatMap edB = OD ++ eds.flatMap edB) ∧ Upd [] w wr) (fun _ nv _ => eds.length - (intOf nv).toNat)
      case atStart => exact ⟨0, OD, rfl, rfl, Nat.zero_le _, by omega, Lib.hid rfl, HU6.out⟩
      case round =>
        clear HU6
        obtain ⟨wo, rfl⟩ : ∃ wo : World, wo = wr := ⟨_, rfl⟩
        obtain ⟨k, P, rfl, rfl, hk, hPl, HP, hU⟩ := hrel
        obtain ⟨y0, y1, y2, y3⟩ := HZ.out wo hU
        by_cases hlt : k < eds.length
        · obtain ⟨aa, cc, hv0, -, -, hc0⟩ := slF3_open (H2.out wo hU)
          cases hv0
          obtain ⟨b0, o0, rfl, -, -, p1, p2, p3⟩ := hc0 k hlt
          have hee := HES.out eds[k] (List.getElem_mem hlt)
          have htl := edB_le hee
          have HD := HP.out
          rw [List.drop_eq_getElem_cons hlt, List.flatMap_cons, ← List.append_assoc] at HD
          have hU' := Lib.hid hU
          have hE : edB eds[k] = (numL eds[k].fr.toNat ++ numL eds[k].lb.toNat) ++ numL eds[k].to.toNat := rfl
          have g1 := num3 hee.1.1 hee.1.2
          have g2 := num3 hee.2.1.1 hee.2.1.2
          have g3 := num3 hee.2.2.1 hee.2.2.2
          obtain ⟨N1, hN1⟩ : ∃ N : Nat, eds[k].fr = N := ⟨eds[k].fr.toNat, by omega⟩
          obtain ⟨N2, hN2⟩ : ∃ N : Nat, eds[k].lb = N := ⟨eds[k].lb.toNat, by omega⟩
          obtain ⟨N3, hN3⟩ : ∃ N : Nat, eds[k].to = N := ⟨eds[k].to.toNat, by omega⟩
          rw [hE] at HD htl
          rw [hN1] at p1 hee g1 HD htl
          rw [hN2] at p2 hee g2 HD htl
          rw [hN3] at p3 hee g3 HD htl
          simp only [Int.toNat_natCast] at HD htl g1 g2 g3
          have T1 := Lib.hid (fun W : World => show Calls Tryz.prog 76 #[ei N1] W fun e w' => e = .returned (es (numL N1)) ∧ Upd [] W w' from numS N1 W (by omega))
          have T2 := Lib.hid (fun W : World => show Calls Tryz.prog 76 #[ei N2] W fun e w' => e = .returned (es (numL N2)) ∧ Upd [] W w' from numS N2 W (by omega))
          have T3 := Lib.hid (fun W : World => show Calls Tryz.prog 76 #[ei N3] W fun e w' => e = .returned (es (numL N3)) ∧ Upd [] W w' from numS N3 W (by omega))
          clear hc0 HP hU hE hN1 hN2 hN3 hee
          generalize numL N1 = A1 at *
          generalize numL N2 = A2 at *
          generalize numL N3 = A3 at *
          have hc1 := str_cat A1 A2
          have hb1 := no_big (a := A1.length + A2.length) (by omega)
          have hl12 : (A1 ++ A2).length ≤ 6 := by rw [List.length_append]; omega
          generalize A1 ++ A2 = A12 at *
          have hc2 := str_cat A12 A3
          have hb2 := no_big (a := A12.length + A3.length) (by omega)
          have hl123 : (A12 ++ A3).length ≤ 9 := by rw [List.length_append]; omega
          generalize A12 ++ A3 = A123 at *
          have hc3 := str_cat P A123
          have hb3 := no_big (a := P.length + A123.length) (by omega)
          have hPT : (P ++ A123).length ≤ 2003 + 9 * (k + 1) := by rw [List.length_append]; omega
          generalize P ++ A123 = PT at *
          have HD2 := Lib.hid HD
          clear HD htl
          go_wp2_with fail
          obtain ⟨w5, hw5⟩ : ∃ w5, w5 = wo.alloc (.cells #[.int .i64 N1, .int .i64 N2, .int .i64 N3] 62) := ⟨_, rfl⟩
          rw [← hw5]
          have hu5 : Upd [] wo w5 := by rw [hw5]; exact (Upd.refl _ _).alloc _
          obtain ⟨BB, hBB⟩ : ∃ BB, BB = wo.heap.size := ⟨_, rfl⟩
          have z0 : w5.cell? ⟨BB, 0, none⟩ = some (ei N1) := by rw [hw5]; exact cell_new wo _ _ _ hBB.symm 0 _ rfl
          have z1 : w5.cell? ⟨BB, 1, none⟩ = some (ei N2) := by rw [hw5]; exact cell_new wo _ _ _ hBB.symm 1 _ rfl
          have z2 : w5.cell? ⟨BB, 2, none⟩ = some (ei N3) := by rw [hw5]; exact cell_new wo _ _ _ hBB.symm 2 _ rfl
          have HU5 := Lib.hid (hU'.out.trans hu5)
          rw [← hBB]
          clear hw5 hu5 hBB y0 y1 y2 y3 p1 p2 p3 hU'
          go_region_held3 (fun w' => w'.cell? ⟨BB, 0, none⟩ = some (ei N1) ∧ w'.cell? ⟨BB, 1, none⟩ = some (ei N2) ∧ w'.cell? ⟨BB, 2, none⟩ = some (ei N3)) (go_keep)
            (first
              | ((with_reducible refine (T1.out _).mono ?_); rintro e w1 ⟨rfl, hu1⟩; have t1 := hu1.keep z0; have t2 := hu1.keep z1; have t3 := hu1.keep z2)
              | ((with_reducible refine (T2.out _).mono ?_); rintro e w2 ⟨rfl, hu2⟩; have r1 := hu2.keep t1; have r2 := hu2.keep t2; have r3 := hu2.keep t3)
              | ((with_reducible refine (T3.out _).mono ?_); rintro e w3 ⟨rfl, hu3⟩; have m1 := hu3.keep r1; have m2 := hu3.keep r2; have m3 := hu3.keep r3))
          have HU9 := Lib.hid ((((HU5.out.drew).trans hu1).trans hu2).trans hu3)
          clear hu1 hu2 hu3 t1 t2 t3 r1 r2 r3 m1 m2 m3 z0 z1 z2 T1 T2 T3 HU5
          go_wp2_with fail
          go_roundw
          case rel => exact ⟨k + 1, PT, rfl, by go_num, by omega, hPT, HD2, HU9.out⟩
          case measure => simp [intOf]; omega
        · obtain rfl : k = eds.length := by omega
          have HP1 := HP.out
          rw [List.drop_length, List.flatMap_nil, List.append_nil] at HP1
          have S6 := Lib.hid (sealS 1 P wo (by omega) (by omega))
          have HR := Lib.hid (show sealL (UInt8.ofNat 1 :: P) = sysImg ⟨s, i, labs, eds⟩ by rw [HP1, ← HI2.out]; rfl)
          have HU := Lib.hid hU
          clear HP HP1 HI2 hU hlt hk
          generalize sealL (UInt8.ofNat 1 :: P) = Z at *
          go_wp2_with fail
          refine S6.out.mono ?_
          rintro e w9 ⟨rfl, hu9⟩
          have HU9 := Lib.hid (HU.out.trans hu9)
          clear S6 hu9 HU
          go_wp2_with fail
          go_ret
          exact ⟨by rw [← HR.out]; rfl, HU9.out⟩

end Go.Proofs.YtlogbiacnadcaaaGreatDoor

/-
  EncodeLts: what the reference's call returns.
-/
namespace Go.Proofs.YtlogbiacnadcaaaGreatDoor
open Go.RowKit

set_option maxRecDepth 20000 in
set_option maxHeartbeats 2000000 in
theorem encS (x : Sys) (v1 v2 : Value) (w : World) (f1 f2 : List Nat) (h1 : RS f1 w [v1] x.labs) (h2 : R_E1 f2 w [v2] x.eds) (hp : ∀ p ∈ x.labs, p.length ≤ 2000000) :
    Calls Tryz.prog 10 #[.agg #[ei x.st, ei x.ini, v1, v2]] w fun e w' => e = .returned (es (if sysOk x then sysImg x else [])) ∧ Upd [] w w' := by
  obtain ⟨wb, hwb⟩ : ∃ wb, wb = w.alloc (.cells #[ei x.st, ei x.ini, v1, v2] 30) := ⟨_, rfl⟩
  have hub : Upd [] w wb := by rw [hwb]; exact (Upd.refl _ _).alloc _
  have HBX := Lib.hid (fun W => fun (hu : Upd [] wb W) => show W.cell? ⟨w.heap.size, 0, none⟩ = some (ei x.st) ∧ W.cell? ⟨w.heap.size, 1, none⟩ = some (ei x.ini) ∧ W.cell? ⟨w.heap.size, 2, none⟩ = some v1 ∧ W.cell? ⟨w.heap.size, 3, none⟩ = some v2 from by
    rw [hwb] at hu
    exact ⟨hu.keep (cell_new w _ _ _ rfl 0 _ rfl), hu.keep (cell_new w _ _ _ rfl 1 _ rfl), hu.keep (cell_new w _ _ _ rfl 2 _ rfl), hu.keep (cell_new w _ _ _ rfl 3 _ rfl)⟩)
  obtain ⟨x0, x1, x2, x3⟩ := HBX.out wb (Upd.refl _ _)
  have S1 := Lib.hid (isS x w.heap.size v1 v2 wb f1 f2 x0 x1 x2 x3 (RSk.upd h1 hub (by simp)) (R_E1k.upd h2 hub (by simp)) hp)
  have H1 := Lib.hid (fun W (hu : Upd [] wb W) => RSk.upd h1 (hub.trans hu) (by simp))
  have H2 := Lib.hid (fun W (hu : Upd [] wb W) => R_E1k.upd h2 (hub.trans hu) (by simp))
  have HUB := Lib.hid hub
  clear h1 h2 hp hub x0 x1 x2 x3
  cases hok : sysOk x with
  | false =>
    rw [hok] at S1
    clear hok H1 H2 HBX
    go_enter Tryz.func10, Tryz.ntmps10
    go_wp2_with fail
    rw [← hwb]
    clear hwb
    refine S1.out.mono ?_
    rintro e w1 ⟨rfl, hu⟩
    have HU := Lib.hid (HUB.out.trans hu)
    clear S1 hu
    go_wp2_with fail
    go_ret
    exact ⟨by simp, HU.out⟩
  | true =>
    obtain ⟨hst, hini, hln, hel, hls, hes⟩ := sys_parts hok
    rw [hok] at S1
    clear hok
    obtain ⟨st, ini, labs, eds⟩ := x
    simp only at *
    obtain ⟨N1, rfl⟩ : ∃ N : Nat, st = N := ⟨st.toNat, by omega⟩
    obtain ⟨N2, rfl⟩ : ∃ N : Nat, ini = N := ⟨ini.toNat, by omega⟩
    have S2 := Lib.hid (fun W (hu : Upd [] wb W) => ltsS N1 N2 labs eds w.heap.size v1 v2 W f1 f2 (HBX.out W hu).1 (HBX.out W hu).2.1 (HBX.out W hu).2.2.1 (HBX.out W hu).2.2.2 (H1.out W hu) (H2.out W hu) (by omega) (by omega) hln hel hls hes)
    clear HBX H1 H2 hst hini hln hel hls hes
    go_enter Tryz.func10, Tryz.ntmps10
    go_wp2_with fail
    rw [← hwb]
    clear hwb
    refine S1.out.mono ?_
    rintro e w1 ⟨rfl, hu⟩
    have T2 := Lib.hid (S2.out w1 hu)
    have HU := Lib.hid (HUB.out.trans hu)
    clear S1 S2 hu
    generalize hZ : sysImg ⟨N1, N2, labs, eds⟩ = Z at *
    have HZ := Lib.hid hZ
    clear hZ
    go_wp2_with fail
    refine T2.out.mono ?_
    rintro e w2 ⟨rfl, hu2⟩
    have HU2 := Lib.hid (HU.out.trans hu2)
    clear T2 hu2 HU
    go_wp2_with fail
    go_ret
    exact ⟨by simp [HZ.out], HU2.out⟩

end Go.Proofs.YtlogbiacnadcaaaGreatDoor

/-
  DecodeLts: what the reference's call returns.
-/
namespace Go.Proofs.YtlogbiacnadcaaaGreatDoor
open Go.RowKit

set_option maxRecDepth 20000 in
set_option maxHeartbeats 4000000 in
theorem decS (s : List UInt8) (w : World) (hs : s.length ≤ 2000000) :
    Calls Tryz.prog 14 #[es s] w fun e w' => (∃ v, e = .returned (.tuple #[v, .int .i64 (decF s).2]) ∧ New R_L1 w w' v (decF s).1) ∧ Upd [] w w' := by
  obtain ⟨wA, hwA⟩ : ∃ wA, wA = w.alloc (.cells #[.int .i64 0, .int .i64 0, .slice none 0 0, .slice none 0 0] 30) := ⟨_, rfl⟩
  have uA : Upd [] w wA := by rw [hwA]; exact (Upd.refl _ _).alloc _
  have hH : SysAt w.heap.size wA 0 0 (.slice none 0 0) (.slice none 0 0) := by rw [hwA]; exact heap_alloc_new w _
  have S1 := Lib.hid (contS s wA hs)
  obtain ⟨H, hHe⟩ : ∃ H, H = w.heap.size := ⟨_, rfl⟩
  have hszA : wA.heap.size = H + 1 := by rw [hwA, hHe]; simp
  rw [← hHe] at hH
  have HE := Lib.hid hHe
  have UA := Lib.hid uA
  have HDN := Lib.hid (fun h => @decF_no s h)
  have HDS := Lib.hid (fun x h => @decF_some s x h)
  have HDQ := Lib.hid (fun h => @decF_none s h)
  generalize decF s = D at *
  clear uA
  go_enter Tryz.func14, Tryz.ntmps14
  go_wp2_with fail
  rw [← hwA, ← hHe]
  clear hwA hHe
  refine S1.out.mono ?_
  rintro e w1 ⟨hu1, hcase⟩
  have hH1 := hH.upd hu1 (by simp)
  rcases hcase with ⟨ho, rfl⟩ | ⟨ho, p, hp, rfl, hrd⟩
  · have HD := Lib.hid (HDN.out ho)
    obtain ⟨c0, c1, c2, c3, fz⟩ := hH1.facts
    have f0 := fz 0
    have f1 := fz 1
    have f2 := fz 2
    have f3 := fz 3
    have bo : ((opF s : Int) != 0) = true := by simpa using ho
    have hS := hH1.store 0 0 (.slice none 0 0) (.slice none 0 0)
    obtain ⟨n0, n1, n2, n3, -⟩ := hS.facts
    have HU := Lib.hid ((UA.out.trans hu1))
    generalize opF s = o at *
    clear S1 hH1 hS fz hu1 hH ho
    go_wp2_with fail
    refine bodyPost_ret (v := .tuple #[.agg #[ei 0, ei 0, .slice none 0 0, .slice none 0 0], .int .i64 o]) (by simp [results, Tryz.results14, go_sem, n0, n1, n2, n3]) rfl ⟨⟨_, by rw [HD.out], ?_⟩, ?_⟩
    · rw [HD.out]; exact new_zero _ _
    · exact (((HU.out.setCell (Or.inl (by simp [HE.out])) _).setCell (Or.inl (by simp [HE.out])) _).setCell (Or.inl (by simp [HE.out])) _).setCell (Or.inl (by simp [HE.out])) _
  · have bo : ((opF s : Int) != 0) = false := by simpa using ho
    have h3 := opF_len ho
    have hml : (midL s).length ≤ 2000000 := by unfold midL; simp; omega
    have HIMG := Lib.hid (imgSys_alt s (by omega))
    have hrd' : RdS p w1 (midL s) false := ⟨midL s, 0, by omega, hml, rfl, hrd⟩
    generalize midL s = c at *
    obtain ⟨a, ra, ba, hA⟩ : ∃ a r' b', rN 3 c false = (a, r', b') := ⟨_, _, _, rfl⟩
    obtain ⟨b, rb, bb, hB⟩ : ∃ a r' b', rN 3 ra ba = (a, r', b') := ⟨_, _, _, rfl⟩
    obtain ⟨k, rc, bc, hC⟩ : ∃ a r' b', rN 3 rb bb = (a, r', b') := ⟨_, _, _, rfl⟩
    obtain ⟨Ls, rd, bd, hD⟩ : ∃ a r' b', rLs 3 (k - 1) [tauL] rc bc = (a, r', b') := ⟨_, _, _, rfl⟩
    obtain ⟨m, rf, bf, hF⟩ : ∃ a r' b', rN 3 rd bd = (a, r', b') := ⟨_, _, _, rfl⟩
    obtain ⟨Es, rg, bg, hG⟩ : ∃ a r' b', rEs 3 m [] rf bf = (a, r', b') := ⟨_, _, _, rfl⟩
    have HSYS := Lib.hid (show rdSys 3 c = ⟨a, b, Ls, Es⟩ ∧ rdBad 3 c = bg by
      have eA : rA 3 c = (a, ra, ba) := hA
      have eB : rB 3 c = (b, rb, bb) := by unfold rB; rw [eA]; exact hB
      have eC : rC 3 c = (k, rc, bc) := by unfold rC; rw [eB]; exact hC
      have eD : rD 3 c = (Ls, rd, bd) := by unfold rD; rw [eC]; exact hD
      have eF : rF 3 c = (m, rf, bf) := by unfold rF; rw [eD]; exact hF
      have eG : rG 3 c = (Es, rg, bg) := by unfold rG; rw [eF]; exact hG
      unfold rdSys rdBad; rw [eA, eB, eD, eG]; exact ⟨rfl, rfl⟩)
    have p4 : (128 : Nat) ^ 3 = 2097152 := by decide
    have lc : rc.length ≤ 2000000 := by
      have h1 := (rN_fits 3 c false).2.1; have h2 := (rN_fits 3 ra ba).2.1; have h3 := (rN_fits 3 rb bb).2.1
      rw [hA] at h1; rw [hB] at h2; rw [hC] at h3; simp only at h1 h2 h3; omega
    have lf : rf.length ≤ 2000000 := by
      have h1 := rLs_len 3 (k - 1) [tauL] rc bc; have h2 := (rN_fits 3 rd bd).2.1
      rw [hD] at h1; rw [hF] at h2; simp only at h1 h2; omega
    have hk4 : k ≤ 268435456 := by have := (rN_fits 3 rb bb).1; rw [hC, p4] at this; simp only at this; omega
    have hm4 : m ≤ 268435456 := by have := (rN_fits 3 rd bd).1; rw [hF, p4] at this; simp only at this; omega
    have HDD := Lib.hid hD
    have HGG := Lib.hid hG
    have T1 := Lib.hid (fun W => numR p c false W)
    rw [hA] at T1
    have T2 := Lib.hid (fun W => numR p ra ba W)
    rw [hB] at T2
    have T3 := Lib.hid (fun W => numR p rb bb W)
    rw [hC] at T3
    have T4 := Lib.hid (fun W => numR p rd bd W)
    rw [hF] at T4
    simp only at T1 T2 T3 T4
    have HO := Lib.hid ho
    have hsz1 := hu1.size
    have HU := Lib.hid (UA.out.trans hu1)
    have HH1 := Lib.hid hH1
    have HL := Lib.hid (And.intro lc lf)
    have hp1 : p < w1.heap.size := (Array.getElem?_eq_some_iff.1 hrd).1
    obtain ⟨w4, hw4⟩ : ∃ w4, w4 = (w1.alloc (.cells #[es tauL] 9)).alloc (.cells #[.int .i64 0, .int .i64 0, .slice (some ⟨w1.heap.size, 0, none⟩) 1 1, .slice none 0 0] 30) := ⟨_, rfl⟩
    have hu4 : Upd [] w1 w4 := by rw [hw4]; exact ((Upd.refl _ _).alloc _).alloc _
    have HDL := Lib.hid (show DL H p (w1.heap.size + 1) w w4 (0 : Nat) (0 : Nat) [tauL] [] (.slice (some ⟨w1.heap.size, 0, none⟩) 1 1) (.slice none 0 0) (.cells #[es c, .int .i64 0, .bool false] 71 (0, 0)) from by
      refine ⟨by rw [hu4.block p hp1 (by simp)]; exact hrd, ?_, hH1.upd hu4 (by simp), ?_, World.ownsRow_nil _ _ _ _, HU.out.trans hu4, HE.out.symm, by omega, by omega⟩
      · rw [hw4]
        have := heap_alloc_new (w1.alloc (.cells #[es tauL] 9)) (.cells #[.int .i64 0, .int .i64 0, .slice (some ⟨w1.heap.size, 0, none⟩) 1 1, .slice none 0 0] 30)
        unfold SysAt
        simpa using this
      · rw [hw4]
        exact (World.ownsRow_lit (base := p + 1) (e := 9) (size := 1) w1 #[es tauL] 1 (by omega) (by simp [maxLen]) (by simp)).alloc _)
    have T1' := Lib.hid (T1.out w4 (hrd'.upd hu4 (by simp)))
    clear ho hrd hrd' hu1 S1 UA hA hB hC hD hF hG p4 lc lf hml h3 hH hH1 hu4 T1
    go_wp2_with fail
    have hw5 : (w1.alloc (.cells #[.string ⟨#[116, 97, 117]⟩] 9)).alloc (.cells #[.int .i64 0, .int .i64 0, .slice (some ⟨w1.heap.size, 0, none⟩) 1 1, .slice none 0 0] 30) = w4 := hw4.symm
    rw [hw5]
    generalize hTT : w1.heap.size + 1 = T at *
    clear hw4 hw5
    refine T1'.out.mono ?_
    rintro e w5 ⟨rfl, hr5, hu5⟩
    obtain ⟨o5, hD5⟩ := HDL.out.callS hu5 hr5
    obtain ⟨x0, x1, x2, x3, fz⟩ := hD5.sys.facts
    have z0 := fz 0
    have HD5 := Lib.hid (hD5.dlSetA a)
    have HR5 := Lib.hid (hr5.upd (((Upd.refl [T] w5).setCell (p := ⟨T, 0, none⟩) (Or.inr (by simp)) (ei a))) (by simp; omega))
    have hpT : p < T := by omega
    clear T1' HDL hu5 hr5 hD5 fz
    generalize (Value.slice (some ⟨w1.heap.size, 0, none⟩) 1 1) = v10 at *
    clear hTT hp1
    go_wp2_with fail
    refine (T2.out _ HR5.out).mono ?_
    rintro e w6 ⟨rfl, hr6, hu6⟩
    obtain ⟨o6, hD6⟩ := HD5.out.callS hu6 hr6
    obtain ⟨y0, y1, y2, y3, fz⟩ := hD6.sys.facts
    have z1 := fz 1
    have HD6 := Lib.hid (hD6.dlSetB b)
    have HR6 := Lib.hid (hr6.upd (((Upd.refl [T] w6).setCell (p := ⟨T, 1, none⟩) (Or.inr (by simp)) (ei b))) (by simp; omega))
    clear T2 HR5 HD5 hu6 hr6 hD6 fz x0 x1 x2 x3 z0
    go_wp2_with fail
    refine (T3.out _ HR6.out).mono ?_
    rintro e w7 ⟨rfl, hr7, hu7⟩
    have HD7 := Lib.hid (HD6.out.callS hu7 hr7)
    have HR7 := Lib.hid hr7
    obtain ⟨i1, ki, kz0, kz1, kz2⟩ := info_parts Tryz.info9
    obtain ⟨i3, ni, nz0, nz1, nz2⟩ := info_parts Tryz.infoEd
    clear T3 HR6 HD6 hu7 hr7 hsz1 HU HH1 y0 y1 y2 y3 z1
    go_wp2_with fail
    have HDS7 := Lib.hid (HD7.out.elim (fun o h => DS.of h HR7.out))
    clear HD7 HR7
    go_loopw [7] (fun iv wr => ∃ (K : Nat) (L : List (List UInt8)) (v1 : Value) (r' : List UInt8) (b' : Bool), iv = .int .i64 K ∧ K ≤ 268435456 ∧ Hid (DS H p T w wr a b L [] v1 (.slice none 0 0) r' b') ∧ Hid ((b' = false → L.length + r'.length ≤ 2000001) ∧ L.length + r'.length ≤ 2000002 ∧ r'.length ≤ 2000000) ∧ Hid (∀ q ∈ L, q.length ≤ 2000000) ∧ Hid (rLs 3 (K - 1) L r' b' = (Ls, rd, bd))) (fun iv _ => (intOf iv).toNat)
    case atStart => exact ⟨k, [tauL], v10, rc, bc, rfl, hk4, HDS7, Lib.hid ⟨fun _ => by have := HL.out; simp; omega, by have := HL.out; simp; omega, HL.out.1⟩, Lib.hid (by intro q hq; simp at hq; rw [hq]; simp [tauL]), HDD⟩
    case round =>
      clear HDS7 HDD
      obtain ⟨wo, rfl⟩ : ∃ wo : World, wo = wr := ⟨_, rfl⟩
      obtain ⟨K, L, v1, r', b', rfl, hK, HDL, HB, HQL, HRL⟩ := hrel
      have c1 : wo.cell? ⟨p, 2, none⟩ = some (.bool b') := HDL.out.rd.len.2
      go_upto_region 8 with (fail)
      go_cut [37] (fun s37 wx => ∃ q : Bool, s37 = .bool q ∧ wx = wo ∧ Hid (q = (decide (1 < K) && !b')))
      case first =>
        by_cases hk1 : 1 < K
        · have hk1i : (1 : Int) < (K : Int) := by omega
          have HH := Lib.hid hk1
          clear hk1
          cases b'
          · go_wp2_with fail
            go_meet
            exact ⟨true, rfl, rfl, Lib.hid (by simp [HH.out])⟩
          · go_wp2_with fail
            go_meet
            exact ⟨false, rfl, rfl, Lib.hid (by simp)⟩
        · have hk1i : ¬ (1 : Int) < (K : Int) := by omega
          have HH := Lib.hid hk1
          clear hk1
          go_wp2_with fail
          go_meet
          exact ⟨false, rfl, rfl, Lib.hid (by simp [HH.out])⟩
      case rest =>
        obtain ⟨q, rfl, rfl, HQ⟩ := hcut
        cases q with
        | true =>
          have hq := HQ.out.symm
          simp only [Bool.and_eq_true, decide_eq_true_eq, Bool.not_eq_true'] at hq
          obtain ⟨hk1, rfl⟩ := hq
          have HB2 := Lib.hid (And.intro (HB.out.1 rfl) HB.out.2.2)
          have S5 := Lib.hid (textR p r' false wc.drew (HDL.out.rd.upd ((Upd.refl [] wc).drew) (by simp)))
          have HT := Lib.hid (rT_fits 3 r' false)
          have HRL2 := Lib.hid ((rLs_go 3 K L r' hk1).symm.trans HRL.out)
          generalize (rT 3 r' false).1 = tx at *
          generalize (rT 3 r' false).2.1 = r2 at *
          generalize (rT 3 r' false).2.2 = b2 at *
          obtain ⟨o0, hD0⟩ := HDL.out.dl
          have HD0 := Lib.hid hD0
          have d2 : wc.cell? ⟨T, 2, none⟩ = some v1 := hD0.sys.facts.2.2.1
          have hLl : L.length ≤ 2000001 := by have := HB2.out.1; omega
          have hpW : p + 1 ≤ wc.heap.size := (Array.getElem?_eq_some_iff.1 hD0.rd).1
          have hk1i : (1 : Int) < (K : Int) := by omega
          clear HRL HB HQ c1 hD0 HDL
          go_wp2_with fail
          go_region_law ((first
            | (refine step_call (by rfl) 45 #[.pointer (some ⟨p, 0, none⟩)] (by go_simp) ?_; refine S5.out.mono ?_; rintro e w7 ⟨rfl, hr7, hu7⟩; obtain ⟨S7, i7, q1, q2, q3, q4⟩ := hr7; have hD7 := (HD0.out.dlQuiet ((Upd.refl [] wc).drew)).dlCall hu7 q4; have hD8 := hD7.dlQuiet ((Upd.refl [] w7).alloc (.cells #[es tx] 9)); have d2' : w7.cell? ⟨T, 2, none⟩ = some v1 := hD7.sys.facts.2.2.1; have d2'' : (w7.alloc (.cells #[es tx] 9)).cell? ⟨T, 2, none⟩ = some v1 := hD8.sys.facts.2.2.1; have hsz7 := hu7.size; refine ⟨_, rfl, ?_⟩)
            | (refine step_append_lies _ (by rfl) _ _ 22 (by rfl) (p + 1) 9 i1 (.string ⟨#[]⟩) 1 16 Tryz.underlying22 ki kz0 kz1 kz2 rfl (by decide) v1 L.length (L.map es) (by rfl) hD8.row1 ⟨w7.heap.size, 0, none⟩ 1 1 [es tx] (by rfl) (by rfl) (by intro j u hj; match j, hj with | 0, hj => simp at hj; subst hj; simp [Addr.add]) (by simp [Value.oneCell']) (by decide) (by unfold maxLen; omega) (by omega) (by simp at hsz7 ⊢; omega) (w7.heap.size + 1) (by simp) ?_; intro g gcap w8 hown8 hg8 hat8 hlt8; obtain ⟨f2, hfz8, HD8⟩ := hD8.dlPushL hown8 hg8)))
          all_goals
            have HD9 := Lib.hid (show DS H p T w (w8.setCell ⟨T, 2, none⟩ (.slice (some ⟨g, 0, none⟩) (L.length + 1) gcap)) a b (L ++ [tx]) [] (.slice (some ⟨g, 0, none⟩) (L.length + 1) gcap) (.slice none 0 0) r2 b2 from ⟨S7, i7, q1, q2, q3, HD8.out⟩)
            clear hD7 hD8 d2 d2' d2'' hown8 hg8 hat8 hlt8 S5 hu7 q1 q2 q3 q4 HD8 HD0
            go_wp2_with fail
            go_roundw
            case rel => exact ⟨K - 1, L ++ [tx], _, r2, b2, by rw [show ((K - 1 : Nat) : Int) = (K : Int) - 1 by omega], by omega, HD9, Lib.hid ⟨fun h => by have := HT.out.2.1 h; have := HB2.out.1; simp; omega, by have := HT.out.1; have := HB2.out.1; simp; omega, by have := HT.out.1; have := HB2.out.2; omega⟩, Lib.hid (fun q hq => by
              rcases List.mem_append.1 hq with h | h
              · exact HQL.out q h
              · simp at h; subst h; have := HT.out.2.2; have := HB2.out.2; omega), HRL2⟩
            case measure => simp [intOf]; omega
        | false =>
          have hq : (decide (1 < K) && !b') = false := HQ.out.symm
          have HZ := Lib.hid (show Ls = L ∧ rd = r' ∧ bd = b' from by
            have h9 := HRL.out
            cases b' with
            | true => rw [rLs_bad] at h9; simp only [Prod.mk.injEq] at h9; exact ⟨h9.1.symm, h9.2.1.symm, h9.2.2.symm⟩
            | false =>
              simp at hq
              rw [show K - 1 = 0 by omega, rLs] at h9; simp only [Prod.mk.injEq] at h9; exact ⟨h9.1.symm, h9.2.1.symm, h9.2.2.symm⟩)
          obtain ⟨rfl, rfl, rfl⟩ := HZ.out
          have T4' := Lib.hid (T4.out wc HDL.out.rd)
          clear HZ HB HRL T4 c1 hq
          go_wp2_with fail
          refine T4'.out.mono ?_
          rintro e w6 ⟨rfl, hr6, hu6⟩
          have HD6 := Lib.hid (HDL.out.dl.elim (fun o h => (h.callS hu6 hr6).elim (fun o' h' => DS.of h' hr6)))
          clear T4' hr6 hu6 HDL
          go_wp2_with fail
          go_loopw [8] (fun iv wr => ∃ (K : Nat) (E : List Ed) (v2 : Value) (r' : List UInt8) (b' : Bool), iv = .int .i64 K ∧ K ≤ 268435456 ∧ Hid (DS H p T w wr a b Ls E v1 v2 r' b') ∧ Hid ((b' = false → E.length + r'.length ≤ 2000001) ∧ E.length + r'.length ≤ 2000002 ∧ r'.length ≤ 2000000) ∧ Hid (rEs 3 K E r' b' = (Es, rg, bg))) (fun iv _ => (intOf iv).toNat)
          case atStart => exact ⟨m, [], .slice none 0 0, rf, bf, rfl, hm4, HD6, Lib.hid ⟨fun _ => by have := HL.out; simp; omega, by have := HL.out; simp; omega, HL.out.2⟩, HGG⟩
          case round =>
            clear HD6 HGG
            obtain ⟨wo, rfl⟩ : ∃ wo : World, wo = wr := ⟨_, rfl⟩
            obtain ⟨K, E, v2, r', b', rfl, hK, HDL, HB, HRL⟩ := hrel
            have c1 : wo.cell? ⟨p, 2, none⟩ = some (.bool b') := HDL.out.rd.len.2
            go_upto_region 12 with (fail)
            go_cut [57] (fun s57 wx => ∃ q : Bool, s57 = .bool q ∧ wx = wo ∧ Hid (q = (decide (0 < K) && !b')))
            case first =>
              by_cases hk1 : 0 < K
              · have hk1i : (0 : Int) < (K : Int) := by omega
                have HH := Lib.hid hk1
                clear hk1
                cases b'
                · go_wp2_with fail
                  go_meet
                  exact ⟨true, rfl, rfl, Lib.hid (by simp [HH.out])⟩
                · go_wp2_with fail
                  go_meet
                  exact ⟨false, rfl, rfl, Lib.hid (by simp)⟩
              · obtain rfl : K = 0 := by omega
                go_wp2_with fail
                go_meet
                exact ⟨false, rfl, rfl, Lib.hid (by simp)⟩
            case rest =>
              obtain ⟨q, rfl, rfl, HQ⟩ := hcut
              cases q with
              | true =>
                have hq := HQ.out.symm
                simp only [Bool.and_eq_true, decide_eq_true_eq, Bool.not_eq_true'] at hq
                obtain ⟨hk1, rfl⟩ := hq
                have HB2 := Lib.hid (And.intro (HB.out.1 rfl) HB.out.2.2)
                obtain ⟨x1, r1, b1, hX⟩ : ∃ a q b', rN 3 r' false = (a, q, b') := ⟨_, _, _, rfl⟩
                obtain ⟨x2, r2, b2, hY⟩ : ∃ a q b', rN 3 r1 b1 = (a, q, b') := ⟨_, _, _, rfl⟩
                obtain ⟨x3, r3, b3, hZ⟩ : ∃ a q b', rN 3 r2 b2 = (a, q, b') := ⟨_, _, _, rfl⟩
                have hE : rE 3 r' false = (⟨x1, x2, x3⟩, r3, b3) := by unfold rE; rw [hX]; simp only; rw [hY]; simp only; rw [hZ]
                obtain ⟨wQ, hwQ⟩ : ∃ wQ, wQ = wc.alloc (.cells #[.int .i64 0, .int .i64 0, .int .i64 0] 62) := ⟨_, rfl⟩
                have uQ : Upd [] wc wQ := by rw [hwQ]; exact (Upd.refl _ _).alloc _
                have eQ : EdAt wc.heap.size wQ 0 0 0 := by rw [hwQ]; exact heap_alloc_new wc _
                have S5 := Lib.hid (numR p r' false wQ (HDL.out.rd.upd uQ (by simp)))
                rw [hX] at S5
                have S6 := Lib.hid (fun W => numR p r1 b1 W)
                rw [hY] at S6
                have S7 := Lib.hid (fun W => numR p r2 b2 W)
                rw [hZ] at S7
                simp only at S5 S6 S7
                have HT := Lib.hid (rE_fits 3 r' false)
                have HRL2 := Lib.hid ((rEs_go 3 K E r' hk1).symm.trans HRL.out)
                rw [hE] at HT HRL2
                simp only at HT HRL2
                obtain ⟨o0, hD0⟩ := HDL.out.dl
                have HD0 := Lib.hid hD0
                have hLl : E.length ≤ 2000001 := by have := HB2.out.1; omega
                have hpW : p + 1 ≤ wc.heap.size := (Array.getElem?_eq_some_iff.1 hD0.rd).1
                have hk1i : (0 : Int) < (K : Int) := by omega
                have UQ := Lib.hid (uQ.mono (g := [p]) (by simp))
                have EQ := Lib.hid eQ
                obtain ⟨QQ, hQQ⟩ : ∃ QQ, QQ = wc.heap.size := ⟨_, rfl⟩
                rw [← hQQ] at EQ
                have hQp : p < QQ := by omega
                clear HRL HB HQ c1 hX hY hZ hE hD0 HDL uQ eQ
                go_wp2_with fail
                rw [← hwQ, ← hQQ]
                have HQQ := Lib.hid hQQ
                clear hwQ hQQ
                refine S5.out.mono ?_
                rintro e w7 ⟨rfl, hr7, hu7⟩
                have eQ7 := EQ.out.upd hu7 (by simp; omega)
                obtain ⟨g0, g1, g2, fz⟩ := eQ7.facts
                have z0 := fz 0
                have EQ7 := Lib.hid (eQ7.set0 x1)
                have UQ7 := Lib.hid ((UQ.out.trans hu7).setCell (p := ⟨QQ, 0, none⟩) (Or.inl (by simp [HQQ.out])) (ei x1))
                have HR7 := Lib.hid (hr7.upd ((Upd.refl [QQ] w7).setCell (p := ⟨QQ, 0, none⟩) (Or.inr (by simp)) (ei x1)) (by simp; omega))
                clear S5 EQ UQ hr7 hu7 eQ7 fz
                go_wp2_with fail
                refine (S6.out _ HR7.out).mono ?_
                rintro e w8 ⟨rfl, hr8, hu8⟩
                have eQ8 := EQ7.out.upd hu8 (by simp; omega)
                obtain ⟨k0, k1, k2, fz⟩ := eQ8.facts
                have z1 := fz 1
                have EQ8 := Lib.hid (eQ8.set1 x2)
                have UQ8 := Lib.hid ((UQ7.out.trans hu8).setCell (p := ⟨QQ, 1, none⟩) (Or.inl (by simp [HQQ.out])) (ei x2))
                have HR8 := Lib.hid (hr8.upd ((Upd.refl [QQ] w8).setCell (p := ⟨QQ, 1, none⟩) (Or.inr (by simp)) (ei x2)) (by simp; omega))
                clear S6 EQ7 UQ7 HR7 hr8 hu8 eQ8 fz g0 g1 g2 z0
                go_wp2_with fail
                refine (S7.out _ HR8.out).mono ?_
                rintro e w9 ⟨rfl, hr9, hu9⟩
                have eQ9 := EQ8.out.upd hu9 (by simp; omega)
                obtain ⟨j0, j1, j2, fz⟩ := eQ9.facts
                have z2 := fz 2
                obtain ⟨w10, hw10⟩ : ∃ w10, w10 = w9.setCell ⟨QQ, 2, none⟩ (.int .i64 x3) := ⟨_, rfl⟩
                have eQ10 : EdAt QQ w10 x1 x2 x3 := by rw [hw10]; exact eQ9.set2 x3
                have uQ10 : Upd [p] wc w10 := by rw [hw10]; exact (UQ8.out.trans hu9).setCell (p := ⟨QQ, 2, none⟩) (Or.inl (by simp [HQQ.out])) (ei x3)
                have hr10 : RdS p w10 r3 b3 := by rw [hw10]; exact hr9.upd ((Upd.refl [QQ] w9).setCell (p := ⟨QQ, 2, none⟩) (Or.inr (by simp)) (ei x3)) (by simp; omega)
                obtain ⟨o10, hD10'⟩ := HD0.out.callS uQ10 hr10
                obtain ⟨S10, i10, q1, q2, q3, hD10⟩ := DS.of hD10' hr10
                obtain ⟨l0, l1, l2, -⟩ := eQ10.facts
                have d2 : w10.cell? ⟨T, 3, none⟩ = some v2 := hD10.sys.facts.2.2.2.1
                have hD11 := hD10.dlQuiet ((Upd.refl [] w10).alloc (.cells #[.int .i64 x1, .int .i64 x2, .int .i64 x3] 62))
                have HR10 := Lib.hid hr10
                have HD11 := Lib.hid hD11
                have hs10 : p + 1 ≤ w10.heap.size := (Array.getElem?_eq_some_iff.1 hD10.rd).1
                have hrow := hD11.row2
                have HQQ2 := Lib.hid (And.intro q1 (And.intro q2 q3))
                clear S7 EQ8 UQ8 HR8 hr9 hu9 eQ9 fz k0 k1 k2 z1 eQ10 uQ10 hr10 hD10 hD10' hD11 HD0 q1 q2 q3
                go_upto_region 18 with (fail)
                rw [← hw10]
                clear hw10 j0 j1 j2 z2
                go_wp2_with (first
                  | (at_builtin; refine wpList_append_tight _ rfl _ _ 28 rfl (p + 1) 62 i3 (.agg #[.int .i64 0, .int .i64 0, .int .i64 0]) 3 24 Tryz.underlying28 ni nz0 nz1 nz2 rfl (by decide) _ _ _ rfl hrow ⟨w10.heap.size, 0, none⟩ 1 1 [.int .i64 x1, .int .i64 x2, .int .i64 x3] rfl rfl (fun j u hj => by rw [addr_add]; exact cell_new w10 #[.int .i64 x1, .int .i64 x2, .int .i64 x3] _ _ rfl _ _ (by simpa using hj)) (by simp [Value.oneCell']) (by unfold maxLen; omega) (by omega) (by simp; omega) ?_)
                  | fail)
                intro v4 w11 hown4 hg4 ht4
                obtain ⟨g4, c4, hv4⟩ := ownsRow_form hown4
                subst hv4
                obtain ⟨f2, hfz, HD12⟩ := HD11.out.dlPushE (t := ⟨x1, x2, x3⟩) hown4 hg4
                have HD13 := Lib.hid (show DS H p T w (w11.setCell ⟨T, 3, none⟩ (.slice g4 (E.length + 1) c4)) a b Ls (E ++ [⟨x1, x2, x3⟩]) v1 (.slice g4 (E.length + 1) c4) r3 b3 from ⟨S10, i10, HQQ2.out.1, HQQ2.out.2.1, HQQ2.out.2.2, HD12.out⟩)
                clear HD12 HD11 hown4 hg4 ht4 hrow d2 l0 l1 l2 HR10
                go_wp2_with fail
                go_roundw
                case rel => exact ⟨K - 1, E ++ [⟨x1, x2, x3⟩], _, r3, b3, by rw [show ((K - 1 : Nat) : Int) = (K : Int) - 1 by omega], by omega, HD13, Lib.hid ⟨fun h => by have := HT.out.2.1 h; have := HB2.out.1; simp; omega, by have := HT.out.1; have := HB2.out.1; simp; omega, by have := HT.out.1; have := HB2.out.2; omega⟩, HRL2⟩
                case measure => simp [intOf]; omega
              | false =>
                have hq : (decide (0 < K) && !b') = false := HQ.out.symm
                have HZ := Lib.hid (show Es = E ∧ rg = r' ∧ bg = b' from by
                  have h9 := HRL.out
                  cases b' with
                  | true => rw [rEs_bad] at h9; simp only [Prod.mk.injEq] at h9; exact ⟨h9.1.symm, h9.2.1.symm, h9.2.2.symm⟩
                  | false =>
                    simp at hq
                    rw [show K = 0 by omega, rEs] at h9; simp only [Prod.mk.injEq] at h9; exact ⟨h9.1.symm, h9.2.1.symm, h9.2.2.symm⟩)
                obtain ⟨rfl, rfl, rfl⟩ := HZ.out
                have HIC := Lib.hid (img_caseS (X := ⟨a, b, Ls, Es⟩) (bd := bg) (by rw [HIMG.out, HSYS.out.1, HSYS.out.2]))
                obtain ⟨o0, hD0⟩ := HDL.out.dl
                obtain ⟨f1, f2, rs, re⟩ := hD0.dlFin
                obtain ⟨y0, y1, y2, y3, -⟩ := hD0.sys.facts
                obtain ⟨s1, t1, hv1⟩ := ownsRow_form hD0.row1
                obtain ⟨s2, t2, hv2⟩ := ownsRow_form hD0.row2
                subst hv1
                subst hv2
                have S8 := Lib.hid (isS ⟨a, b, Ls, Es⟩ T _ _ wc f1 f2 y0 y1 y2 y3 rs re HQL.out)
                have S9 := Lib.hid (fun W (hu : Upd [] wc W) (hok : sysOk ⟨a, b, Ls, Es⟩ = true) => by
                  obtain ⟨g1, g2, g3, g4, g5, g6⟩ := sys_parts hok
                  simp only at g1 g2
                  exact ltsS a b Ls Es T _ _ W f1 f2 (hu.keep y0) (hu.keep y1) (hu.keep y2) (hu.keep y3) (RSk.upd rs hu (by simp)) (R_E1k.upd re hu (by simp)) (by omega) (by omega) g3 g4 g5 g6)
                have HD0 := Lib.hid hD0
                clear HZ HB HRL HQ rs re HIMG HSYS HQL hq y0 y1 y2 y3 hD0 HDL
                rcases HIC.out with ⟨hb, hi⟩ | ⟨hb, hok, hi⟩ | ⟨hb, hok, hz, hi⟩ | ⟨hb, hok, hz, hi⟩
                · subst hb
                  have HDD := Lib.hid (HDQ.out HO.out hi)
                  obtain ⟨o0', o1, o2, o3, fz⟩ := HD0.out.out.facts
                  have z0 := fz 0
                  have z1 := fz 1
                  have z2 := fz 2
                  have z3 := fz 3
                  obtain ⟨st1, st3⟩ := HD0.out.dlCleared
                  obtain ⟨n0, n1, n2, n3, -⟩ := st1.facts
                  have HST := Lib.hid st3
                  clear HIC hi st1 st3 S8 S9 fz
                  go_wp2_with fail
                  refine bodyPost_ret (v := .tuple #[.agg #[ei 0, ei 0, .slice none 0 0, .slice none 0 0], .int .i64 9]) (by simp [results, Tryz.results14, go_sem, n0, n1, n2, n3]) rfl ⟨⟨_, by rw [HDD.out]; rfl, ?_⟩, HST.out⟩
                  rw [HDD.out]; exact new_zero _ _
                · subst hb
                  rw [hok] at S8
                  have HDD := Lib.hid (HDQ.out HO.out hi)
                  clear HIC hi S9 hok
                  go_wp2_with fail
                  refine S8.out.mono ?_
                  rintro e w9 ⟨rfl, hu9⟩
                  have HD9 := Lib.hid (HD0.out.dlQuiet hu9)
                  obtain ⟨o0', o1, o2, o3, fz⟩ := HD9.out.out.facts
                  have z0 := fz 0
                  have z1 := fz 1
                  have z2 := fz 2
                  have z3 := fz 3
                  obtain ⟨st1, st3⟩ := HD9.out.dlCleared
                  obtain ⟨n0, n1, n2, n3, -⟩ := st1.facts
                  have HST := Lib.hid st3
                  clear S8 HD0 hu9 fz st1 st3
                  go_wp2_with fail
                  refine bodyPost_ret (v := .tuple #[.agg #[ei 0, ei 0, .slice none 0 0, .slice none 0 0], .int .i64 9]) (by simp [results, Tryz.results14, go_sem, n0, n1, n2, n3]) rfl ⟨⟨_, by rw [HDD.out]; rfl, ?_⟩, HST.out⟩
                  rw [HDD.out]; exact new_zero _ _
                · subst hb
                  have HOK := Lib.hid hok
                  rw [hok] at S8
                  have HDD := Lib.hid (HDS.out _ HO.out hi)
                  clear HIC hi hok
                  generalize sysImg ⟨a, b, Ls, Es⟩ = Z at *
                  subst hz
                  go_wp2_with fail
                  refine S8.out.mono ?_
                  rintro e w9 ⟨rfl, hu9⟩
                  have S10 := Lib.hid (S9.out w9 hu9 HOK.out)
                  have HU9 := Lib.hid hu9
                  clear S8 S9 hu9
                  go_wp2_with fail
                  refine S10.out.mono ?_
                  rintro e w10 ⟨rfl, hu10⟩
                  have HD10 := Lib.hid (HD0.out.dlQuiet (HU9.out.trans hu10))
                  obtain ⟨x0, x1, x2, x3, -⟩ := HD10.out.sys.facts
                  obtain ⟨o0', o1, o2, o3, fz⟩ := HD10.out.out.facts
                  have z0 := fz 0
                  have z1 := fz 1
                  have z2 := fz 2
                  have z3 := fz 3
                  obtain ⟨st1, st2, st3⟩ := HD10.out.dlStored
                  obtain ⟨n0, n1, n2, n3, -⟩ := st1.facts
                  have HST := Lib.hid (And.intro st2 st3)
                  clear S10 HD0 hu10 fz st1 st2 st3
                  go_wp2_with fail
                  refine bodyPost_ret (v := .tuple #[.agg #[ei a, ei b, .slice s1 Ls.length t1, .slice s2 Es.length t2], .int .i64 0]) (by simp [results, Tryz.results14, go_sem, n0, n1, n2, n3]) rfl ⟨⟨_, by rw [HDD.out]; rfl, ?_⟩, HST.out.2⟩
                  rw [HDD.out]; exact HST.out.1
                · subst hb
                  have HOK := Lib.hid hok
                  rw [hok] at S8
                  have HDD := Lib.hid (HDQ.out HO.out hi)
                  clear HIC hi hok
                  generalize sysImg ⟨a, b, Ls, Es⟩ = Z at *
                  have bz : (Z != s) = true := by simp [hz]
                  have bz2 : (Z == s) = false := by simp [hz]
                  clear hz
                  go_wp2_with fail
                  refine S8.out.mono ?_
                  rintro e w9 ⟨rfl, hu9⟩
                  have S10 := Lib.hid (S9.out w9 hu9 HOK.out)
                  have HU9 := Lib.hid hu9
                  clear S8 S9 hu9
                  go_wp2_with fail
                  refine S10.out.mono ?_
                  rintro e w10 ⟨rfl, hu10⟩
                  have HD10 := Lib.hid (HD0.out.dlQuiet (HU9.out.trans hu10))
                  obtain ⟨o0', o1, o2, o3, fz⟩ := HD10.out.out.facts
                  have z0 := fz 0
                  have z1 := fz 1
                  have z2 := fz 2
                  have z3 := fz 3
                  obtain ⟨st1, st3⟩ := HD10.out.dlCleared
                  obtain ⟨n0, n1, n2, n3, -⟩ := st1.facts
                  have HST := Lib.hid st3
                  clear S10 HD0 hu10 fz st1 st3
                  go_wp2_with fail
                  refine bodyPost_ret (v := .tuple #[.agg #[ei 0, ei 0, .slice none 0 0, .slice none 0 0], .int .i64 9]) (by simp [results, Tryz.results14, go_sem, n0, n1, n2, n3]) rfl ⟨⟨_, by rw [HDD.out]; rfl, ?_⟩, HST.out⟩
                  rw [HDD.out]; exact new_zero _ _

end Go.Proofs.YtlogbiacnadcaaaGreatDoor

/-
  The law FnExactDecodeLts: the call returns true for every input, and writes nothing that was there.
-/
namespace Go.Proofs.YtlogbiacnadcaaaGreatDoor
open Go.RowKit Go.ChangeShapes

/-- a system's value in the form of its four cells. -/
theorem R_L1_form {fp : List Nat} {w : World} {v : Value} {x : Sys} (h : R_L1 fp w [v] x) : ∃ a1 c1 a2 c2, v = .agg #[ei x.st, ei x.ini, .slice a1 x.labs.length c1, .slice a2 x.eds.length c2] := by
  obtain ⟨v1, v2, f1, f2, hv, r1, r2, -⟩ := h
  cases hv
  obtain ⟨a1, c1, rfl, -, -, -⟩ := slF1_open r1
  obtain ⟨a2, c2, rfl, -, -, -⟩ := slF3_open r2
  exact ⟨a1, c1, a2, c2, rfl⟩

theorem decF_small (s : List UInt8) : (decF s).1.labs.length ≤ 12 ∧ (decF s).1.eds.length ≤ 300 := by
  unfold decF
  split
  · simp [zeroSys]
  · split
    · next x hx =>
      unfold imgSys at hx
      split at hx
      · next h =>
        simp only [Bool.and_eq_true] at h
        obtain ⟨-, -, h3, h4, -, -⟩ := sys_parts h.1
        cases hx
        exact ⟨h3.2, h4⟩
      · cases hx
    · simp [zeroSys]

set_option maxRecDepth 20000 in
set_option maxHeartbeats 4000000 in
theorem lawDecodeLts (s : List UInt8) (w : World) (bs_s : s.length ≤ 9223372036854775807) (hE : Env w) :
    Calls Tryz.prog 4 #[es s] w fun e w' => e = .returned (.bool true) ∧ Upd [] w w' := by
  have HE := Lib.hid hE
  clear hE
  by_cases lb_s : 1048576 < (s.length : Int)
  · go_enter Tryz.func4, Tryz.ntmps4
    go_wp2_with fail
    go_ret
    exact ⟨rfl, Upd.refl _ _⟩
  · have lx : s.length ≤ 2000000 := by omega
    have SI := Lib.hid (fun W (h : Env W) => decI s W lx h)
    have SS := Lib.hid (decS s w lx)
    have hsm := decF_small s
    generalize decF s = D at *
    obtain ⟨x, code⟩ := D
    simp only at SI SS hsm
    have hcc : ((code : Int) != (code : Int)) = false := by simp
    go_enter Tryz.func4, Tryz.ntmps4
    go_wp2_with fail
    refine SS.out.mono ?_
    rintro e w1 ⟨⟨va, rfl, fa, ra, oa, ga⟩, u1⟩
    obtain ⟨a1, ac1, a2, ac2, rfl⟩ := R_L1_form ra
    have hmk0 := mkF_L1_nonneg x
    have hmk : 1 + mkF_L1 x ≤ 4611686018427387904 := by unfold mkF_L1 mkF_S1 mkF_E1; omega
    clear hsm
    obtain ⟨wA, hwA⟩ : ∃ wA, wA = w1.alloc (.cells #[ei x.st, ei x.ini, .slice a1 x.labs.length ac1, .slice a2 x.eds.length ac2] 30) := ⟨_, rfl⟩
    have uA : Upd [] w1 wA := by rw [hwA]; exact (Upd.refl _ _).alloc _
    have sA : SysAt w1.heap.size wA x.st x.ini (.slice a1 x.labs.length ac1) (.slice a2 x.eds.length ac2) := by rw [hwA]; exact heap_alloc_new w1 _
    have zA : wA.heap.size = w1.heap.size + 1 := by rw [hwA]; simp
    have la := R_L1k.lt ra
    obtain ⟨A, hA⟩ : ∃ A, A = w1.heap.size := ⟨_, rfl⟩
    rw [← hA] at sA zA la
    have HU := Lib.hid (u1.trans uA)
    have HA := Lib.hid (And.intro sA (R_L1k.upd ra uA (by simp)))
    have HGE := Lib.hid (And.intro (show w.heap.size ≤ A by rw [hA]; exact u1.size) la)
    have T1 := Lib.hid (SI.out wA (HE.out.upd HU.out))
    clear SS ra oa ga u1 uA sA la
    go_wp2_with fail
    rw [← hA]
    rw [← hwA]
    clear hA hwA
    refine T1.out.mono ?_
    rintro e w2 ⟨⟨vb, rfl, fb, rb, ob, gb⟩, u2⟩
    obtain ⟨b1, bc1, b2, bc2, rfl⟩ := R_L1_form rb
    obtain ⟨wB, hwB⟩ : ∃ wB, wB = w2.alloc (.cells #[ei x.st, ei x.ini, .slice b1 x.labs.length bc1, .slice b2 x.eds.length bc2] 30) := ⟨_, rfl⟩
    have uB : Upd [] w2 wB := by rw [hwB]; exact (Upd.refl _ _).alloc _
    have sB : SysAt w2.heap.size wB x.st x.ini (.slice b1 x.labs.length bc1) (.slice b2 x.eds.length bc2) := by rw [hwB]; exact heap_alloc_new w2 _
    have zB : wB.heap.size = w2.heap.size + 1 := by rw [hwB]; simp
    have lb := R_L1k.lt rb
    have z2 := u2.size
    obtain ⟨B, hB⟩ : ∃ B, B = w2.heap.size := ⟨_, rfl⟩
    rw [← hB] at sB zB lb z2
    have HU2 := Lib.hid (HU.out.trans (u2.trans uB))
    have HA2 := Lib.hid (And.intro (HA.out.1.upd (u2.trans uB) (by simp)) (R_L1k.upd HA.out.2 (u2.trans uB) (by simp)))
    have HB2 := Lib.hid (And.intro sB (And.intro (R_L1k.upd rb uB (by simp)) (ob.upd uB (by simp))))
    have HGB := Lib.hid (And.intro gb lb)
    have AB : A < B := by omega
    obtain ⟨p0, p1, p2, p3, -⟩ := HA2.out.1.facts
    obtain ⟨q0, q1, q2, q3, -⟩ := HB2.out.1.facts
    have T2 := Lib.hid (eq_Lts _ _ x wB fb fa HB2.out.2.1 HA2.out.2)
    clear T1 HU HA rb ob gb u2 uB sB lb
    go_upto_region 5 with (fail)
    rw [← hB]
    rw [← hwB]
    clear hB hwB
    go_wp2_with fail
    refine T2.out.mono ?_
    rintro e w3 ⟨rfl, u3⟩
    have HU3 := Lib.hid (HU2.out.trans u3)
    have HA3 := Lib.hid (And.intro (HA2.out.1.upd u3 (by simp)) (R_L1k.upd HA2.out.2 u3 (by simp)))
    have HB3 := Lib.hid (And.intro (HB2.out.1.upd u3 (by simp)) (And.intro (R_L1k.upd HB2.out.2.1 u3 (by simp)) (HB2.out.2.2.upd u3 (by simp))))
    obtain ⟨m0, m1, m2, m3, -⟩ := HB3.out.1.facts
    have T3 := Lib.hid (mark_Lts _ x 1 w3 fb (by omega) hmk HB3.out.2.1 HB3.out.2.2)
    clear T2 HU2 HA2 HB2 u3 p0 p1 p2 p3 q0 q1 q2 q3
    go_wp2_with fail
    refine T3.out.mono ?_
    rintro e w4 ⟨rfl, r4, o4, u4⟩
    have nB : B ∉ fb := fun h => by have := HGB.out.2 B h; omega
    have nA : A ∉ fb := fun h => by have := HGB.out.1 A h; omega
    have nf : ∀ b ∈ fa, b ∉ fb := fun b h h2 => by have := HGE.out.2 b h; have := HGB.out.1 b h2; omega
    have HU4 := Lib.hid (HU3.out.fresh u4 (fun b h => Or.inl (by have := HGB.out.1 b h; have := HGE.out.1; omega)))
    have HA4 := Lib.hid (And.intro (HA3.out.1.upd u4 nA) (R_L1k.upd HA3.out.2 u4 nf))
    have HB4 := Lib.hid (And.intro (HB3.out.1.upd u4 nB) r4)
    obtain ⟨p0, p1, p2, p3, -⟩ := HB4.out.1.facts
    have T4 := Lib.hid (fun W (hu : Upd [] w4 W) => held_Lts _ x 1 W fb (by omega) hmk (R_L1k.upd HB4.out.2 hu (by simp)))
    have T4' := Lib.hid (T4.out w4 (Upd.refl _ _))
    have hne : ((1 + mkF_L1 x) != (1 + mkF_L1 x)) = false := by simp
    have hge : ¬ 1 + mkF_L1 x < 0 := by omega
    generalize 1 + mkF_L1 x = Mk at *
    clear T3 HU3 HA3 HB3 r4 o4 u4 m0 m1 m2 m3 nA nB nf
    go_wp2_with fail
    refine T4'.out.mono ?_
    rintro e w5 ⟨rfl, u5⟩
    have HU5 := Lib.hid (HU4.out.trans u5)
    have T5 := Lib.hid (SI.out w5 (HE.out.upd HU5.out))
    have HX5 := Lib.hid u5
    clear T4' p0 p1 p2 p3 u5
    go_wp2_with fail
    refine T5.out.mono ?_
    rintro e w6 ⟨⟨vc, rfl, fc, rc, oc, gc⟩, u6⟩
    obtain ⟨c1, cc1, c2, cc2, rfl⟩ := R_L1_form rc
    obtain ⟨wC, hwC⟩ : ∃ wC, wC = w6.alloc (.cells #[ei x.st, ei x.ini, .slice c1 x.labs.length cc1, .slice c2 x.eds.length cc2] 30) := ⟨_, rfl⟩
    have uC : Upd [] w6 wC := by rw [hwC]; exact (Upd.refl _ _).alloc _
    have HUC := Lib.hid (HX5.out.trans (u6.trans uC))
    have HU6 := Lib.hid (HU4.out.trans HUC.out)
    have sC : SysAt w6.heap.size wC x.st x.ini (.slice c1 x.labs.length cc1) (.slice c2 x.eds.length cc2) := by rw [hwC]; exact heap_alloc_new w6 _
    obtain ⟨q0, q1, q2, q3, -⟩ := sC.facts
    obtain ⟨p0, p1, p2, p3, -⟩ := (HA4.out.1.upd HUC.out (by simp)).facts
    have T6 := Lib.hid (eq_Lts _ _ x wC fc fa (R_L1k.upd rc uC (by simp)) (R_L1k.upd HA4.out.2 HUC.out (by simp)))
    obtain ⟨C, hC⟩ : ∃ C, C = w6.heap.size := ⟨_, rfl⟩
    rw [← hC] at q0 q1 q2 q3
    clear T5 SI rc oc gc u6 uC sC HX5 HU5
    go_upto_region 16 with (fail)
    rw [← hC]
    rw [← hwC]
    clear hC hwC
    go_wp2_with fail
    refine T6.out.mono ?_
    rintro e w7 ⟨rfl, u7⟩
    have HU7 := Lib.hid (HU6.out.trans u7)
    have HX7 := Lib.hid (HUC.out.trans u7)
    obtain ⟨m0, m1, m2, m3, -⟩ := (HB4.out.1.upd HX7.out (by simp)).facts
    have T7 := Lib.hid (T4.out w7 HX7.out)
    clear T6 T4 u7 p0 p1 p2 p3 q0 q1 q2 q3 HU6 HUC
    go_wp2_with fail
    refine T7.out.mono ?_
    rintro e w8 ⟨rfl, u8⟩
    have HU8 := Lib.hid (HU7.out.trans u8)
    clear T7 u8
    go_wp2_with fail
    go_ret
    exact ⟨rfl, HU8.out⟩

end Go.Proofs.YtlogbiacnadcaaaGreatDoor

/-
  What the listed variables and the world's shape give the walks of labels.
-/
namespace Go.Proofs.YtlogbiacnadcaaaGreatDoor
open Go.RowKit Go.ChangeShapes

theorem errStar : "*" ++ "errors.errorString" = "*errors.errorString" := by decide
theorem errRow (u : TypeId) (h : Tryz.prog.typeName? 3 u = some "*errors.errorString") : u = 252 :=
  typeName_ptr_named (nm := "errors.errorString") (by rw [errStar]; kernel_rfl) (by kernel_rfl) (by decide) u (by rw [errStar]; exact h)

theorem env_of {W : World} {r1 r2 r3 : List (String × DataW Unit)} {d : DataW Unit} {x1 x2 : List UInt8} (hd : d = Lib.tabData .u64 Lib.pow10Tab)
    (h1 : laidMet Tryz.prog (("internal/strconv.uint64pow10", d) :: r1) W)
    (h2 : laidMet Tryz.prog (("strconv.ErrRange", .iface "*errors.errorString" (.ptr (.agg [.lit (.string x1)]))) :: r2) W)
    (h3 : laidMet Tryz.prog (("strconv.ErrSyntax", .iface "*errors.errorString" (.ptr (.agg [.lit (.string x2)]))) :: r3) W)
    (hs : W.ShapedOpen Tryz.prog) : Env W := by
  subst hd
  refine ⟨?_, ?_, ?_, ?_⟩
  · exact cell_of_shapedOpen_int (g := 0) (zero := #[.int .i64 0]) (t := 3) hs (of_decide_eq_true (by kernel_rfl)) (by kernel_rfl) rfl (by kernel_rfl) (by kernel_rfl) Tryz.underlying3
  · exact Lib.tabIs_of_head (g := 5) (t := 256) (e := 194) (n := 20) (by kernel_rfl) (by kernel_rfl) Tryz.underlying256 Tryz.underlying194 (by kernel_rfl) (by kernel_rfl) h1
  · obtain ⟨a, s, hv, -⟩ := laid_sentinel (g := 1) (ti := 202) (tp := 252) (te := 254) (ts := 9) h3 (by kernel_rfl) (by kernel_rfl) Tryz.underlying202 errRow Tryz.underlying252 Tryz.underlying254 rfl rfl Tryz.underlying9 (by kernel_rfl) (by kernel_rfl)
    exact ⟨_, _, hv⟩
  · obtain ⟨a, s, hv, -⟩ := laid_sentinel (g := 2) (ti := 202) (tp := 252) (te := 254) (ts := 9) h2 (by kernel_rfl) (by kernel_rfl) Tryz.underlying202 errRow Tryz.underlying252 Tryz.underlying254 rfl rfl Tryz.underlying9 (by kernel_rfl) (by kernel_rfl)
    exact ⟨_, _, hv⟩

/-- the wrap with a condition on the world, the world's shape kept. -/
theorem handed_and_shaped {H : Type} {enc : TypeId × Value → H} {a : Assume} {C : Checked} {os : Os} {f : FuncId} {fn : Func} {s : ChangeSpec} {conds : List PathCond} {apart fresh handsOn twice : Bool} {X : World → Array Value → Prop}
    (hX : ∀ (w w' : World) (args : Array Value), w.heap = w'.heap → X w args → X w' args)
    (own : ownKnob C.prog.godebug = none) (started : os.Started) (noInit : C.prog.inits.idxOf? f = none) (hfn : C.prog.funcs[f]? = some fn)
    (witness : ∃ (w : World) (tape : Tape) (i : Input), w.os = os ∧ (w.forCall tape i).Shaped C.prog ∧ i.vars = [] ∧ Input.okWide C.prog (w.forCall tape i) .any w.heap.size f i ∧
      ((s.pre enc C.prog fn conds apart (w.forCall tape i).memory i.args ∧ X (w.forCall tape i).memory i.args) ∧ sizedMet enc C.prog fn (OpenSpec.ofChange s) apart (w.forCall tape i).memory i.args) ∧ a.holds C.prog (lone (Frame.enter C.prog f i.args CallKind.normal) [] (w.forCall tape i)))
    (contract : ∀ (W : World) (base : Nat) (args : Array Value) (ds gs : List (DataW H)) (before : List MemPlace),
      (∀ (j : Nat) t v, fn.params[j]? = some t → args[j]? = some v → Value.okWide C.prog W .any base t v) →
      DataW.Whole enc C.prog fn.params.toList s.vars apart W args.toList ds gs before →
      conds.all (PathCond.test C.prog ⟨fn.params.toList, ds, s.plain.varTypes C.prog, gs⟩) = true → X W args →
      W.ShapedOpen C.prog →
      Calls C.prog f args W fun e W' => ∃ v, e = .returned v ∧ s.post enc C.prog fn apart fresh handsOn twice W args v W') :
    ReturnsInHanded a C os f .any (fun w args => (s.pre enc C.prog fn conds apart w args ∧ X w args) ∧ sizedMet enc C.prog fn (OpenSpec.ofChange s) apart w args) (s.post enc C.prog fn apart fresh handsOn twice) := by
  refine returnsInHanded_of_calls own started noInit witness ?_
  intro w tape i _ hsh _ hok hpre _
  obtain ⟨_, _, _, fn', hfn', _, _, _, _, hval⟩ := hok
  have e : fn' = fn := Option.some.inj (hfn'.symm.trans hfn)
  subst e
  obtain ⟨⟨⟨ds, gs, before, hw, hc⟩, hx⟩, hz⟩ := hpre
  have hw' := DataW.Whole.of_heap (w' := w.forCall tape i) (by rfl) hw
  refine (contract (w.forCall tape i) w.heap.size i.args ds gs before hval hw' hc (hX _ _ _ (by rfl) hx) hsh).mono fun e W' ⟨v, he, hp⟩ => ?_
  subst he
  exact ChangeSpec.post_blind hp

end Go.Proofs.YtlogbiacnadcaaaGreatDoor

/-
  The form's reading of texts and lists of texts.
-/
namespace Go.Proofs.YtlogbiacnadcaaaGreatDoor
open Go.RowKit Go.ChangeShapes Go.WideShapes Go.Deep

theorem opens_S1 : Opens Tryz.prog 22 R_S1 (fun xs => ∀ p ∈ xs, p.length ≤ maxLen) :=
  opens_slF1 Tryz.underlying22 (by kernel_rfl) (by
    intro H enc w fuel v x hx
    obtain ⟨s, hv, -, hs⟩ := DataW.trod_string Tryz.underlying9 hx
    simp at hv
    exact ⟨s.data.toList, hv, hs⟩)
theorem strs_of {xs : List (List UInt8)} (h : ∀ p ∈ xs, p.length ≤ maxLen) : strsOk xs := fun p hp => by
  have := h p hp
  simp only [maxLen] at this
  omega
theorem str_len {H : Type} {enc : TypeId × Value → H} {w : World} {t : TypeId} {l : List UInt8} {d : DataW H} {ps : List MemPlace} (ht : Tryz.prog.underlying t = some .string)
    (h : DataW.Trod enc Tryz.prog w 0 (fun _ => true) true t (.string ⟨l.toArray⟩) d ps) : l.length ≤ 9223372036854775807 := by
  obtain ⟨fuel, hf⟩ := h
  obtain ⟨s, hv, -, hs⟩ := DataW.trod_string ht hf
  simp [Value.cells] at hv
  subst hv
  have h2 : (⟨l.toArray⟩ : ByteArray).size = l.length := rfl
  rw [h2] at hs
  simp only [maxLen] at hs
  omega

end Go.Proofs.YtlogbiacnadcaaaGreatDoor
