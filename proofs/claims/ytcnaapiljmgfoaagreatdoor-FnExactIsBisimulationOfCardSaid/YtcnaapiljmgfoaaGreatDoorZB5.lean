/-
  Texts joined in one file: EncS, EncI, BisT, BisF, BisV, BisA, BisB.
-/
import Derived.Test.YtcnaapiljmgfoaaGreatDoorZB1
import Derived.Test.YtcnaapiljmgfoaaGreatDoorZB2
import Derived.Test.YtcnaapiljmgfoaaGreatDoorZB3
import Derived.Test.YtcnaapiljmgfoaaGreatDoorZB4
import Derived.Deep.RegionLaw
/-
  Validity of systems: what the reference's call returns.
-/
namespace Go.Proofs.YtcnaapiljmgfoaaGreatDoor
open Go.RowKit

set_option maxRecDepth 20000 in
set_option maxHeartbeats 8000000 in
theorem isS (x : Sys) (p : Nat) (v1 v2 : Value) (w : World) (f1 f2 : List Nat)
    (z0 : w.cell? ⟨p, 0, none⟩ = some (ei x.st)) (z1 : w.cell? ⟨p, 1, none⟩ = some (ei x.ini)) (z2 : w.cell? ⟨p, 2, none⟩ = some v1) (z3 : w.cell? ⟨p, 3, none⟩ = some v2)
    (h1 : RS f1 w [v1] x.labs) (h2 : R_E1 f2 w [v2] x.eds) (hp : ∀ p ∈ x.labs, p.length ≤ 2000000) :
    Calls Tryz.prog 27 #[.pointer (some ⟨p, 0, none⟩)] w fun e w' => e = .returned (.bool (sysOk x)) ∧ Upd [] w w' := by
  obtain ⟨st, ini, labs, eds⟩ := x
  simp only at z0 z1 h1 h2 hp ⊢
  have HOK := Lib.hid (show sysOk ⟨st, ini, labs, eds⟩ = (inB st 1 40 && inB ini 0 (st - 1) && labsOk labs && decide (eds.length ≤ 300) && allF (edP ⟨st, ini, labs, eds⟩) 0 eds.length) from rfl)
  have S1 := Lib.hid (fun W : World => l00In st 1 40 W)
  have S2 := Lib.hid (fun W : World => l00In ini 0 (st - 1) W)
  have S3 := Lib.hid (namesS labs v1 w.drew f1 (RSk.drew h1) hp)
  have H2 := Lib.hid (fun W (hu : Upd [] w W) => R_E1k.upd h2 hu (by simp))
  have HZ := Lib.hid (fun W (hu : Upd [] w W) => show W.cell? ⟨p, 0, none⟩ = some (ei st) ∧ W.cell? ⟨p, 1, none⟩ = some (ei ini) ∧ W.cell? ⟨p, 2, none⟩ = some v1 ∧ W.cell? ⟨p, 3, none⟩ = some v2 from ⟨hu.keep z0, hu.keep z1, hu.keep z2, hu.keep z3⟩)
  obtain ⟨a1, c1, rfl, hl1, hm1, -⟩ := slF1_open h1
  obtain ⟨a2, c2, rfl, hl2, hm2, -⟩ := slF3_open h2
  unfold maxLen at hm1 hm2
  clear h1 h2 hp
  cases hb1 : inB st 1 40 with
  | false =>
    have HRR := Lib.hid (show sysOk ⟨st, ini, labs, eds⟩ = false by rw [HOK.out, hb1]; simp)
    rw [hb1] at S1
    clear HOK hb1
    go_enter Tryz.func27, Tryz.ntmps27
    go_wp2_with fail
    refine wp_region_held_drew (S := fun w' => w'.cell? ⟨p, 0, none⟩ = some (ei st) ∧ w'.cell? ⟨p, 1, none⟩ = some (ei ini) ∧ w'.cell? ⟨p, 2, none⟩ = some (.slice a1 labs.length c1) ∧ w'.cell? ⟨p, 3, none⟩ = some (.slice a2 eds.length c2)) (by kernel_rfl) ?_ (fun hHeld => ?_)
    · exact ⟨z0, z1, z2, z3⟩
    refine wpAnyH_take (i := 0) (v := ?_) rfl (by kernel_rfl) (by kernel_rfl) (by kernel_rfl) (fun _ _ _ h => h) (Or.inl ⟨by rfl, ?_⟩) (by assumption) ?_
    rotate_left
    · (intro w hSw; (try dsimp only at hSw); go_simp)
      first | done | with_reducible rfl
    simp only [Act.put, List.getElem_toArray, List.getElem_cons_zero, List.setIfInBounds_toArray, List.set_cons_zero, List.set_cons_succ]
    refine wpAnyH_take (i := 1) (v := ?_) rfl (by kernel_rfl) (by kernel_rfl) (by kernel_rfl) (fun _ _ _ h => h) (Or.inl ⟨by rfl, ?_⟩) (by assumption) ?_
    rotate_left
    · (intro w hSw; (try dsimp only at hSw); go_simp)
      first | done | with_reducible rfl
    simp only [Act.put, List.getElem_toArray, List.getElem_cons_zero, List.getElem_cons_succ, List.setIfInBounds_toArray, List.set_cons_zero, List.set_cons_succ]
    refine wpAnyH_take (i := 2) (v := ?_) rfl (by kernel_rfl) (by kernel_rfl) (by kernel_rfl) (fun _ _ _ h => h) (Or.inl ⟨by rfl, ?_⟩) (by assumption) ?_
    rotate_left
    · (intro w hSw; (try dsimp only at hSw); go_simp)
      first | done | with_reducible rfl
    simp only [Act.put, List.getElem_toArray, List.getElem_cons_zero, List.getElem_cons_succ, List.setIfInBounds_toArray, List.set_cons_zero, List.set_cons_succ]
    refine wpAnyH_take (i := 3) (v := ?_) rfl (by kernel_rfl) (by kernel_rfl) (by kernel_rfl) (fun _ _ _ h => h) (Or.inl ⟨by rfl, ?_⟩) (by assumption) ?_
    rotate_left
    · (intro w hSw; (try dsimp only at hSw); go_simp)
      first | done | with_reducible rfl
    simp only [Act.put, List.getElem_toArray, List.getElem_cons_zero, List.getElem_cons_succ, List.setIfInBounds_toArray, List.set_cons_zero, List.set_cons_succ]
    refine wpAnyH_ready (rs := [4]) (by kernel_rfl) (by simp) ?_
    refine AllReadyH.cons rfl (fun K hK => ?_) AllReadyH.nil
    go_simp
    refine (S1.out _).mono ?_
    rintro e w4 ⟨rfl, rfl⟩
    refine hK.out _ _ ?_ (fun hHeld => ?_)
    · exact ⟨hHeld.1, hHeld.2.1, hHeld.2.2.1, hHeld.2.2.2⟩
    clear hK K
    try simp only [Act.put, List.getElem_toArray, List.getElem_cons_zero, List.getElem_cons_succ, List.setIfInBounds_toArray, List.set_cons_zero, List.set_cons_succ]
    refine wpAnyH_take (i := 5) (v := ?_) rfl (by kernel_rfl) (by kernel_rfl) (by kernel_rfl) (fun _ _ _ h => h) (Or.inl ⟨by rfl, ?_⟩) (by assumption) ?_
    rotate_left
    · (intro w hSw; (try dsimp only at hSw); go_simp)
      first | done | with_reducible rfl
    simp only [Act.put, List.getElem_toArray, List.getElem_cons_zero, List.getElem_cons_succ, List.setIfInBounds_toArray, List.set_cons_zero, List.set_cons_succ]
    refine wpAnyH_take (i := 6) (v := ?_) rfl (by kernel_rfl) (by kernel_rfl) (by kernel_rfl) (fun _ _ _ h => h) (Or.inl ⟨by rfl, ?_⟩) (by assumption) ?_
    rotate_left
    · (intro w hSw; (try dsimp only at hSw); go_simp)
      first | done | with_reducible rfl
    simp only [Act.put, List.getElem_toArray, List.getElem_cons_zero, List.getElem_cons_succ, List.setIfInBounds_toArray, List.set_cons_zero, List.set_cons_succ]
    refine wpAnyH_take (i := 7) rfl (by kernel_rfl) (by kernel_rfl) (by kernel_rfl) (fun _ _ _ h => h) (Or.inr ⟨by rfl, rfl⟩) (by assumption) ?_
    simp only [Act.put, List.getElem_toArray, List.getElem_cons_zero, List.getElem_cons_succ, List.setIfInBounds_toArray, List.set_cons_zero, List.set_cons_succ]
    refine wpAnyH_take (i := 8) rfl (by kernel_rfl) (by kernel_rfl) (by kernel_rfl) (fun _ _ _ h => h) (Or.inr ⟨by rfl, rfl⟩) (by assumption) ?_
    simp only [Act.put, List.getElem_toArray, List.getElem_cons_zero, List.getElem_cons_succ, List.setIfInBounds_toArray, List.set_cons_zero, List.set_cons_succ]
    refine wpAnyH_take (i := 9) rfl (by kernel_rfl) (by kernel_rfl) (by kernel_rfl) (fun _ _ _ h => h) (Or.inr ⟨by rfl, rfl⟩) (by assumption) ?_
    simp only [Act.put, List.getElem_toArray, List.getElem_cons_zero, List.getElem_cons_succ, List.setIfInBounds_toArray, List.set_cons_zero, List.set_cons_succ]
    refine wpAnyH_take (i := 10) rfl (by kernel_rfl) (by kernel_rfl) (by kernel_rfl) (fun _ _ _ h => h) (Or.inr ⟨by rfl, rfl⟩) (by assumption) ?_
    simp only [Act.put, List.getElem_toArray, List.getElem_cons_zero, List.getElem_cons_succ, List.setIfInBounds_toArray, List.set_cons_zero, List.set_cons_succ]
    refine wpAnyH_take (i := 11) rfl (by kernel_rfl) (by kernel_rfl) (by kernel_rfl) (fun _ _ _ h => h) (Or.inr ⟨by rfl, rfl⟩) (by assumption) ?_
    simp only [Act.put, List.getElem_toArray, List.getElem_cons_zero, List.getElem_cons_succ, List.setIfInBounds_toArray, List.set_cons_zero, List.set_cons_succ]
    refine wpAnyH_take (i := 12) rfl (by kernel_rfl) (by kernel_rfl) (by kernel_rfl) (fun _ _ _ h => h) (Or.inr ⟨by rfl, rfl⟩) (by assumption) ?_
    simp only [Act.put, List.getElem_toArray, List.getElem_cons_zero, List.getElem_cons_succ, List.setIfInBounds_toArray, List.set_cons_zero, List.set_cons_succ]
    refine wpAnyH_take (i := 13) rfl (by kernel_rfl) (by kernel_rfl) (by kernel_rfl) (fun _ _ _ h => h) (Or.inr ⟨by rfl, rfl⟩) (by assumption) ?_
    simp only [Act.put, List.getElem_toArray, List.getElem_cons_zero, List.getElem_cons_succ, List.setIfInBounds_toArray, List.set_cons_zero, List.set_cons_succ]
    refine wpAnyH_take (i := 14) rfl (by kernel_rfl) (by kernel_rfl) (by kernel_rfl) (fun _ _ _ h => h) (Or.inr ⟨by rfl, rfl⟩) (by assumption) ?_
    simp only [Act.put, List.getElem_toArray, List.getElem_cons_zero, List.getElem_cons_succ, List.setIfInBounds_toArray, List.set_cons_zero, List.set_cons_succ]
    refine wpAnyH_take (i := 15) rfl (by kernel_rfl) (by kernel_rfl) (by kernel_rfl) (fun _ _ _ h => h) (Or.inr ⟨by rfl, rfl⟩) (by assumption) ?_
    simp only [Act.put, List.getElem_toArray, List.getElem_cons_zero, List.getElem_cons_succ, List.setIfInBounds_toArray, List.set_cons_zero, List.set_cons_succ]
    refine wpAnyH_take (i := 16) rfl (by kernel_rfl) (by kernel_rfl) (by kernel_rfl) (fun _ _ _ h => h) (Or.inr ⟨by rfl, rfl⟩) (by assumption) ?_
    simp only [Act.put, List.getElem_toArray, List.getElem_cons_zero, List.getElem_cons_succ, List.setIfInBounds_toArray, List.set_cons_zero, List.set_cons_succ]
    refine wpAnyH_take (i := 17) rfl (by kernel_rfl) (by kernel_rfl) (by kernel_rfl) (fun _ _ _ h => h) (Or.inr ⟨by rfl, rfl⟩) (by assumption) ?_
    simp only [Act.put, List.getElem_toArray, List.getElem_cons_zero, List.getElem_cons_succ, List.setIfInBounds_toArray, List.set_cons_zero, List.set_cons_succ]
    refine wpAnyH_take (i := 18) (v := ?_) rfl (by kernel_rfl) (by kernel_rfl) (by kernel_rfl) (fun _ _ _ h => h) (Or.inl ⟨by rfl, ?_⟩) (by assumption) ?_
    rotate_left
    · (intro w hSw; (try dsimp only at hSw); go_simp)
      first | done | with_reducible rfl
    simp only [Act.put, List.getElem_toArray, List.getElem_cons_zero, List.getElem_cons_succ, List.setIfInBounds_toArray, List.set_cons_zero, List.set_cons_succ]
    refine wpAnyH_take (i := 19) (v := ?_) rfl (by kernel_rfl) (by kernel_rfl) (by kernel_rfl) (fun _ _ _ h => h) (Or.inl ⟨by rfl, ?_⟩) (by assumption) ?_
    rotate_left
    · (intro w hSw; (try dsimp only at hSw); go_simp)
      first | done | with_reducible rfl
    simp only [Act.put, List.getElem_toArray, List.getElem_cons_zero, List.getElem_cons_succ, List.setIfInBounds_toArray, List.set_cons_zero, List.set_cons_succ]
    refine wpAnyH_take (i := 20) rfl (by kernel_rfl) (by kernel_rfl) (by kernel_rfl) (fun _ _ _ h => h) (Or.inr ⟨by rfl, rfl⟩) (by assumption) ?_
    simp only [Act.put, List.getElem_toArray, List.getElem_cons_zero, List.getElem_cons_succ, List.setIfInBounds_toArray, List.set_cons_zero, List.set_cons_succ]
    refine wpAnyH_take (i := 21) rfl (by kernel_rfl) (by kernel_rfl) (by kernel_rfl) (fun _ _ _ h => h) (Or.inr ⟨by rfl, rfl⟩) (by assumption) ?_
    simp only [Act.put, List.getElem_toArray, List.getElem_cons_zero, List.getElem_cons_succ, List.setIfInBounds_toArray, List.set_cons_zero, List.set_cons_succ]
    refine wpAnyH_take (i := 22) rfl (by kernel_rfl) (by kernel_rfl) (by kernel_rfl) (fun _ _ _ h => h) (Or.inr ⟨by rfl, rfl⟩) (by assumption) ?_
    simp only [Act.put, List.getElem_toArray, List.getElem_cons_zero, List.getElem_cons_succ, List.setIfInBounds_toArray, List.set_cons_zero, List.set_cons_succ]
    refine wpAnyH_take (i := 23) rfl (by kernel_rfl) (by kernel_rfl) (by kernel_rfl) (fun _ _ _ h => h) (Or.inr ⟨by rfl, rfl⟩) (by assumption) ?_
    simp only [Act.put, List.getElem_toArray, List.getElem_cons_zero, List.getElem_cons_succ, List.setIfInBounds_toArray, List.set_cons_zero, List.set_cons_succ]
    refine wpAnyH_take (i := 24) rfl (by kernel_rfl) (by kernel_rfl) (by kernel_rfl) (fun _ _ _ h => h) (Or.inr ⟨by rfl, rfl⟩) (by assumption) ?_
    simp only [Act.put, List.getElem_toArray, List.getElem_cons_zero, List.getElem_cons_succ, List.setIfInBounds_toArray, List.set_cons_zero, List.set_cons_succ]
    refine wpAnyH_take (i := 25) rfl (by kernel_rfl) (by kernel_rfl) (by kernel_rfl) (fun _ _ _ h => h) (Or.inr ⟨by rfl, rfl⟩) (by assumption) ?_
    simp only [Act.put, List.getElem_toArray, List.getElem_cons_zero, List.getElem_cons_succ, List.setIfInBounds_toArray, List.set_cons_zero, List.set_cons_succ]
    refine wpAnyH_take (i := 26) (v := ?_) rfl (by kernel_rfl) (by kernel_rfl) (by kernel_rfl) (fun _ _ _ h => h) (Or.inl ⟨by rfl, ?_⟩) (by assumption) ?_
    rotate_left
    · (intro w hSw; (try dsimp only at hSw); go_simp)
      first | done | with_reducible rfl
    simp only [Act.put, List.getElem_toArray, List.getElem_cons_zero, List.getElem_cons_succ, List.setIfInBounds_toArray, List.set_cons_zero, List.set_cons_succ]
    refine wpAnyH_take (i := 27) (v := ?_) rfl (by kernel_rfl) (by kernel_rfl) (by kernel_rfl) (fun _ _ _ h => h) (Or.inl ⟨by rfl, ?_⟩) (by assumption) ?_
    rotate_left
    · (intro w hSw; (try dsimp only at hSw); go_simp)
      first | done | with_reducible rfl
    simp only [Act.put, List.getElem_toArray, List.getElem_cons_zero, List.getElem_cons_succ, List.setIfInBounds_toArray, List.set_cons_zero, List.set_cons_succ]
    refine wpAnyH_take (i := 28) rfl (by kernel_rfl) (by kernel_rfl) (by kernel_rfl) (fun _ _ _ h => h) (Or.inr ⟨by rfl, rfl⟩) (by assumption) ?_
    simp only [Act.put, List.getElem_toArray, List.getElem_cons_zero, List.getElem_cons_succ, List.setIfInBounds_toArray, List.set_cons_zero, List.set_cons_succ]
    refine wpAnyH_take (i := 29) rfl (by kernel_rfl) (by kernel_rfl) (by kernel_rfl) (fun _ _ _ h => h) (Or.inr ⟨by rfl, rfl⟩) (by assumption) ?_
    simp only [Act.put, List.getElem_toArray, List.getElem_cons_zero, List.getElem_cons_succ, List.setIfInBounds_toArray, List.set_cons_zero, List.set_cons_succ]
    refine wpAnyH_take (i := 30) rfl (by kernel_rfl) (by kernel_rfl) (by kernel_rfl) (fun _ _ _ h => h) (Or.inr ⟨by rfl, rfl⟩) (by assumption) ?_
    simp only [Act.put, List.getElem_toArray, List.getElem_cons_zero, List.getElem_cons_succ, List.setIfInBounds_toArray, List.set_cons_zero, List.set_cons_succ]
    refine wpAnyH_take (i := 31) rfl (by kernel_rfl) (by kernel_rfl) (by kernel_rfl) (fun _ _ _ h => h) (Or.inr ⟨by rfl, rfl⟩) (by assumption) ?_
    simp only [Act.put, List.getElem_toArray, List.getElem_cons_zero, List.getElem_cons_succ, List.setIfInBounds_toArray, List.set_cons_zero, List.set_cons_succ]
    refine wpAnyH_take (i := 32) rfl (by kernel_rfl) (by kernel_rfl) (by kernel_rfl) (fun _ _ _ h => h) (Or.inr ⟨by rfl, rfl⟩) (by assumption) ?_
    simp only [Act.put, List.getElem_toArray, List.getElem_cons_zero, List.getElem_cons_succ, List.setIfInBounds_toArray, List.set_cons_zero, List.set_cons_succ]
    refine wpAnyH_take (i := 33) rfl (by kernel_rfl) (by kernel_rfl) (by kernel_rfl) (fun _ _ _ h => h) (Or.inr ⟨by rfl, rfl⟩) (by assumption) ?_
    simp only [Act.put, List.getElem_toArray, List.getElem_cons_zero, List.getElem_cons_succ, List.setIfInBounds_toArray, List.set_cons_zero, List.set_cons_succ]
    refine wpAnyH_take (i := 34) (v := ?_) rfl (by kernel_rfl) (by kernel_rfl) (by kernel_rfl) (fun _ _ _ h => h) (Or.inl ⟨by rfl, ?_⟩) (by assumption) ?_
    rotate_left
    · (intro w hSw; (try dsimp only at hSw); go_simp)
      first | done | with_reducible rfl
    simp only [Act.put, List.getElem_toArray, List.getElem_cons_zero, List.getElem_cons_succ, List.setIfInBounds_toArray, List.set_cons_zero, List.set_cons_succ]
    refine wpAnyH_done (by kernel_rfl) ?_ _
    have HU9 := Lib.hid ((Upd.refl [] w).drew)
    clear hHeld z0 z1 z2 z3 HZ H2
    go_wp2_with fail
    go_ret
    exact ⟨by rw [HRR.out]; rfl, HU9.out⟩
  | true =>
    have hst := inB_true hb1
    have iw : IntKind.i64.wrap (st - 1) = st - 1 := IntWalk.i64_in _ (by omega)
    rw [hb1] at S1
    cases hb2 : inB ini 0 (st - 1) with
    | false =>
      have HRR := Lib.hid (show sysOk ⟨st, ini, labs, eds⟩ = false by rw [HOK.out, hb2]; simp)
      rw [hb2] at S2
      clear HOK hb1 hb2
      go_enter Tryz.func27, Tryz.ntmps27
      go_wp2_with fail
      refine wp_region_held_drew (S := fun w' => w'.cell? ⟨p, 0, none⟩ = some (ei st) ∧ w'.cell? ⟨p, 1, none⟩ = some (ei ini) ∧ w'.cell? ⟨p, 2, none⟩ = some (.slice a1 labs.length c1) ∧ w'.cell? ⟨p, 3, none⟩ = some (.slice a2 eds.length c2)) (by kernel_rfl) ?_ (fun hHeld => ?_)
      · exact ⟨z0, z1, z2, z3⟩
      refine wpAnyH_take (i := 0) (v := ?_) rfl (by kernel_rfl) (by kernel_rfl) (by kernel_rfl) (fun _ _ _ h => h) (Or.inl ⟨by rfl, ?_⟩) (by assumption) ?_
      rotate_left
      · (intro w hSw; (try dsimp only at hSw); go_simp)
        first | done | with_reducible rfl
      simp only [Act.put, List.getElem_toArray, List.getElem_cons_zero, List.setIfInBounds_toArray, List.set_cons_zero, List.set_cons_succ]
      refine wpAnyH_take (i := 1) (v := ?_) rfl (by kernel_rfl) (by kernel_rfl) (by kernel_rfl) (fun _ _ _ h => h) (Or.inl ⟨by rfl, ?_⟩) (by assumption) ?_
      rotate_left
      · (intro w hSw; (try dsimp only at hSw); go_simp)
        first | done | with_reducible rfl
      simp only [Act.put, List.getElem_toArray, List.getElem_cons_zero, List.getElem_cons_succ, List.setIfInBounds_toArray, List.set_cons_zero, List.set_cons_succ]
      refine wpAnyH_take (i := 2) (v := ?_) rfl (by kernel_rfl) (by kernel_rfl) (by kernel_rfl) (fun _ _ _ h => h) (Or.inl ⟨by rfl, ?_⟩) (by assumption) ?_
      rotate_left
      · (intro w hSw; (try dsimp only at hSw); go_simp)
        first | done | with_reducible rfl
      simp only [Act.put, List.getElem_toArray, List.getElem_cons_zero, List.getElem_cons_succ, List.setIfInBounds_toArray, List.set_cons_zero, List.set_cons_succ]
      refine wpAnyH_take (i := 3) (v := ?_) rfl (by kernel_rfl) (by kernel_rfl) (by kernel_rfl) (fun _ _ _ h => h) (Or.inl ⟨by rfl, ?_⟩) (by assumption) ?_
      rotate_left
      · (intro w hSw; (try dsimp only at hSw); go_simp)
        first | done | with_reducible rfl
      simp only [Act.put, List.getElem_toArray, List.getElem_cons_zero, List.getElem_cons_succ, List.setIfInBounds_toArray, List.set_cons_zero, List.set_cons_succ]
      refine wpAnyH_ready (rs := [4]) (by kernel_rfl) (by simp) ?_
      refine AllReadyH.cons rfl (fun K hK => ?_) AllReadyH.nil
      go_simp
      refine (S1.out _).mono ?_
      rintro e w4 ⟨rfl, rfl⟩
      refine hK.out _ _ ?_ (fun hHeld => ?_)
      · exact ⟨hHeld.1, hHeld.2.1, hHeld.2.2.1, hHeld.2.2.2⟩
      clear hK K
      try simp only [Act.put, List.getElem_toArray, List.getElem_cons_zero, List.getElem_cons_succ, List.setIfInBounds_toArray, List.set_cons_zero, List.set_cons_succ]
      refine wpAnyH_take (i := 5) (v := ?_) rfl (by kernel_rfl) (by kernel_rfl) (by kernel_rfl) (fun _ _ _ h => h) (Or.inl ⟨by rfl, ?_⟩) (by assumption) ?_
      rotate_left
      · (intro w hSw; (try dsimp only at hSw); go_simp)
        first | done | with_reducible rfl
      simp only [Act.put, List.getElem_toArray, List.getElem_cons_zero, List.getElem_cons_succ, List.setIfInBounds_toArray, List.set_cons_zero, List.set_cons_succ]
      refine wpAnyH_take (i := 6) (v := ?_) rfl (by kernel_rfl) (by kernel_rfl) (by kernel_rfl) (fun _ _ _ h => h) (Or.inl ⟨by rfl, ?_⟩) (by assumption) ?_
      rotate_left
      · (intro w hSw; (try dsimp only at hSw); go_simp)
        first | done | with_reducible rfl
      simp only [Act.put, List.getElem_toArray, List.getElem_cons_zero, List.getElem_cons_succ, List.setIfInBounds_toArray, List.set_cons_zero, List.set_cons_succ]
      refine wpAnyH_take (i := 7) (v := ?_) rfl (by kernel_rfl) (by kernel_rfl) (by kernel_rfl) (fun _ _ _ h => h) (Or.inl ⟨by rfl, ?_⟩) (by assumption) ?_
      rotate_left
      · (intro w hSw; (try dsimp only at hSw); go_simp)
        first | done | with_reducible rfl
      simp only [Act.put, List.getElem_toArray, List.getElem_cons_zero, List.getElem_cons_succ, List.setIfInBounds_toArray, List.set_cons_zero, List.set_cons_succ]
      refine wpAnyH_take (i := 8) (v := ?_) rfl (by kernel_rfl) (by kernel_rfl) (by kernel_rfl) (fun _ _ _ h => h) (Or.inl ⟨by rfl, ?_⟩) (by assumption) ?_
      rotate_left
      · (intro w hSw; (try dsimp only at hSw); go_simp)
        first | done | with_reducible rfl
      simp only [Act.put, List.getElem_toArray, List.getElem_cons_zero, List.getElem_cons_succ, List.setIfInBounds_toArray, List.set_cons_zero, List.set_cons_succ]
      refine wpAnyH_take (i := 9) (v := ?_) rfl (by kernel_rfl) (by kernel_rfl) (by kernel_rfl) (fun _ _ _ h => h) (Or.inl ⟨by rfl, ?_⟩) (by assumption) ?_
      rotate_left
      · (intro w hSw; (try dsimp only at hSw); go_simp)
        first | done | with_reducible rfl
      simp only [Act.put, List.getElem_toArray, List.getElem_cons_zero, List.getElem_cons_succ, List.setIfInBounds_toArray, List.set_cons_zero, List.set_cons_succ]
      refine wpAnyH_take (i := 10) (v := ?_) rfl (by kernel_rfl) (by kernel_rfl) (by kernel_rfl) (fun _ _ _ h => h) (Or.inl ⟨by rfl, ?_⟩) (by assumption) ?_
      rotate_left
      · (intro w hSw; (try dsimp only at hSw); go_simp)
        first | done | with_reducible rfl
      simp only [Act.put, List.getElem_toArray, List.getElem_cons_zero, List.getElem_cons_succ, List.setIfInBounds_toArray, List.set_cons_zero, List.set_cons_succ]
      refine wpAnyH_take (i := 11) (v := ?_) rfl (by kernel_rfl) (by kernel_rfl) (by kernel_rfl) (fun _ _ _ h => h) (Or.inl ⟨by rfl, ?_⟩) (by assumption) ?_
      rotate_left
      · (intro w hSw; (try dsimp only at hSw); go_simp)
        first | done | with_reducible rfl
      simp only [Act.put, List.getElem_toArray, List.getElem_cons_zero, List.getElem_cons_succ, List.setIfInBounds_toArray, List.set_cons_zero, List.set_cons_succ]
      refine wpAnyH_take (i := 12) (v := ?_) rfl (by kernel_rfl) (by kernel_rfl) (by kernel_rfl) (fun _ _ _ h => h) (Or.inl ⟨by rfl, ?_⟩) (by assumption) ?_
      rotate_left
      · (intro w hSw; (try dsimp only at hSw); go_simp)
        first | done | with_reducible rfl
      simp only [Act.put, List.getElem_toArray, List.getElem_cons_zero, List.getElem_cons_succ, List.setIfInBounds_toArray, List.set_cons_zero, List.set_cons_succ]
      refine wpAnyH_take (i := 13) (v := ?_) rfl (by kernel_rfl) (by kernel_rfl) (by kernel_rfl) (fun _ _ _ h => h) (Or.inl ⟨by rfl, ?_⟩) (by assumption) ?_
      rotate_left
      · (intro w hSw; (try dsimp only at hSw); go_simp)
        first | done | with_reducible rfl
      simp only [Act.put, List.getElem_toArray, List.getElem_cons_zero, List.getElem_cons_succ, List.setIfInBounds_toArray, List.set_cons_zero, List.set_cons_succ]
      refine wpAnyH_take (i := 14) (v := ?_) rfl (by kernel_rfl) (by kernel_rfl) (by kernel_rfl) (fun _ _ _ h => h) (Or.inl ⟨by rfl, ?_⟩) (by assumption) ?_
      rotate_left
      · (intro w hSw; (try dsimp only at hSw); go_simp)
        first | done | with_reducible rfl
      simp only [Act.put, List.getElem_toArray, List.getElem_cons_zero, List.getElem_cons_succ, List.setIfInBounds_toArray, List.set_cons_zero, List.set_cons_succ]
      refine wpAnyH_take (i := 15) (v := ?_) rfl (by kernel_rfl) (by kernel_rfl) (by kernel_rfl) (fun _ _ _ h => h) (Or.inl ⟨by rfl, ?_⟩) (by assumption) ?_
      rotate_left
      · (intro w hSw; (try dsimp only at hSw); go_simp)
        first | done | with_reducible rfl
      simp only [Act.put, List.getElem_toArray, List.getElem_cons_zero, List.getElem_cons_succ, List.setIfInBounds_toArray, List.set_cons_zero, List.set_cons_succ]
      try simp only [iw]
      refine wpAnyH_ready (rs := [16]) (by kernel_rfl) (by simp) ?_
      refine AllReadyH.cons rfl (fun K hK => ?_) AllReadyH.nil
      go_simp
      refine (S2.out _).mono ?_
      rintro e w16 ⟨rfl, rfl⟩
      refine hK.out _ _ ?_ (fun hHeld => ?_)
      · exact ⟨hHeld.1, hHeld.2.1, hHeld.2.2.1, hHeld.2.2.2⟩
      clear hK K
      try simp only [Act.put, List.getElem_toArray, List.getElem_cons_zero, List.getElem_cons_succ, List.setIfInBounds_toArray, List.set_cons_zero, List.set_cons_succ]
      refine wpAnyH_take (i := 17) (v := ?_) rfl (by kernel_rfl) (by kernel_rfl) (by kernel_rfl) (fun _ _ _ h => h) (Or.inl ⟨by rfl, ?_⟩) (by assumption) ?_
      rotate_left
      · (intro w hSw; (try dsimp only at hSw); go_simp)
        first | done | with_reducible rfl
      simp only [Act.put, List.getElem_toArray, List.getElem_cons_zero, List.getElem_cons_succ, List.setIfInBounds_toArray, List.set_cons_zero, List.set_cons_succ]
      refine wpAnyH_take (i := 18) (v := ?_) rfl (by kernel_rfl) (by kernel_rfl) (by kernel_rfl) (fun _ _ _ h => h) (Or.inl ⟨by rfl, ?_⟩) (by assumption) ?_
      rotate_left
      · (intro w hSw; (try dsimp only at hSw); go_simp)
        first | done | with_reducible rfl
      simp only [Act.put, List.getElem_toArray, List.getElem_cons_zero, List.getElem_cons_succ, List.setIfInBounds_toArray, List.set_cons_zero, List.set_cons_succ]
      refine wpAnyH_take (i := 19) (v := ?_) rfl (by kernel_rfl) (by kernel_rfl) (by kernel_rfl) (fun _ _ _ h => h) (Or.inl ⟨by rfl, ?_⟩) (by assumption) ?_
      rotate_left
      · (intro w hSw; (try dsimp only at hSw); go_simp)
        first | done | with_reducible rfl
      simp only [Act.put, List.getElem_toArray, List.getElem_cons_zero, List.getElem_cons_succ, List.setIfInBounds_toArray, List.set_cons_zero, List.set_cons_succ]
      refine wpAnyH_take (i := 20) rfl (by kernel_rfl) (by kernel_rfl) (by kernel_rfl) (fun _ _ _ h => h) (Or.inr ⟨by rfl, rfl⟩) (by assumption) ?_
      simp only [Act.put, List.getElem_toArray, List.getElem_cons_zero, List.getElem_cons_succ, List.setIfInBounds_toArray, List.set_cons_zero, List.set_cons_succ]
      refine wpAnyH_take (i := 21) rfl (by kernel_rfl) (by kernel_rfl) (by kernel_rfl) (fun _ _ _ h => h) (Or.inr ⟨by rfl, rfl⟩) (by assumption) ?_
      simp only [Act.put, List.getElem_toArray, List.getElem_cons_zero, List.getElem_cons_succ, List.setIfInBounds_toArray, List.set_cons_zero, List.set_cons_succ]
      refine wpAnyH_take (i := 22) rfl (by kernel_rfl) (by kernel_rfl) (by kernel_rfl) (fun _ _ _ h => h) (Or.inr ⟨by rfl, rfl⟩) (by assumption) ?_
      simp only [Act.put, List.getElem_toArray, List.getElem_cons_zero, List.getElem_cons_succ, List.setIfInBounds_toArray, List.set_cons_zero, List.set_cons_succ]
      refine wpAnyH_take (i := 23) rfl (by kernel_rfl) (by kernel_rfl) (by kernel_rfl) (fun _ _ _ h => h) (Or.inr ⟨by rfl, rfl⟩) (by assumption) ?_
      simp only [Act.put, List.getElem_toArray, List.getElem_cons_zero, List.getElem_cons_succ, List.setIfInBounds_toArray, List.set_cons_zero, List.set_cons_succ]
      refine wpAnyH_take (i := 24) rfl (by kernel_rfl) (by kernel_rfl) (by kernel_rfl) (fun _ _ _ h => h) (Or.inr ⟨by rfl, rfl⟩) (by assumption) ?_
      simp only [Act.put, List.getElem_toArray, List.getElem_cons_zero, List.getElem_cons_succ, List.setIfInBounds_toArray, List.set_cons_zero, List.set_cons_succ]
      refine wpAnyH_take (i := 25) rfl (by kernel_rfl) (by kernel_rfl) (by kernel_rfl) (fun _ _ _ h => h) (Or.inr ⟨by rfl, rfl⟩) (by assumption) ?_
      simp only [Act.put, List.getElem_toArray, List.getElem_cons_zero, List.getElem_cons_succ, List.setIfInBounds_toArray, List.set_cons_zero, List.set_cons_succ]
      refine wpAnyH_take (i := 26) (v := ?_) rfl (by kernel_rfl) (by kernel_rfl) (by kernel_rfl) (fun _ _ _ h => h) (Or.inl ⟨by rfl, ?_⟩) (by assumption) ?_
      rotate_left
      · (intro w hSw; (try dsimp only at hSw); go_simp)
        first | done | with_reducible rfl
      simp only [Act.put, List.getElem_toArray, List.getElem_cons_zero, List.getElem_cons_succ, List.setIfInBounds_toArray, List.set_cons_zero, List.set_cons_succ]
      refine wpAnyH_take (i := 27) (v := ?_) rfl (by kernel_rfl) (by kernel_rfl) (by kernel_rfl) (fun _ _ _ h => h) (Or.inl ⟨by rfl, ?_⟩) (by assumption) ?_
      rotate_left
      · (intro w hSw; (try dsimp only at hSw); go_simp)
        first | done | with_reducible rfl
      simp only [Act.put, List.getElem_toArray, List.getElem_cons_zero, List.getElem_cons_succ, List.setIfInBounds_toArray, List.set_cons_zero, List.set_cons_succ]
      refine wpAnyH_take (i := 28) rfl (by kernel_rfl) (by kernel_rfl) (by kernel_rfl) (fun _ _ _ h => h) (Or.inr ⟨by rfl, rfl⟩) (by assumption) ?_
      simp only [Act.put, List.getElem_toArray, List.getElem_cons_zero, List.getElem_cons_succ, List.setIfInBounds_toArray, List.set_cons_zero, List.set_cons_succ]
      refine wpAnyH_take (i := 29) rfl (by kernel_rfl) (by kernel_rfl) (by kernel_rfl) (fun _ _ _ h => h) (Or.inr ⟨by rfl, rfl⟩) (by assumption) ?_
      simp only [Act.put, List.getElem_toArray, List.getElem_cons_zero, List.getElem_cons_succ, List.setIfInBounds_toArray, List.set_cons_zero, List.set_cons_succ]
      refine wpAnyH_take (i := 30) rfl (by kernel_rfl) (by kernel_rfl) (by kernel_rfl) (fun _ _ _ h => h) (Or.inr ⟨by rfl, rfl⟩) (by assumption) ?_
      simp only [Act.put, List.getElem_toArray, List.getElem_cons_zero, List.getElem_cons_succ, List.setIfInBounds_toArray, List.set_cons_zero, List.set_cons_succ]
      refine wpAnyH_take (i := 31) rfl (by kernel_rfl) (by kernel_rfl) (by kernel_rfl) (fun _ _ _ h => h) (Or.inr ⟨by rfl, rfl⟩) (by assumption) ?_
      simp only [Act.put, List.getElem_toArray, List.getElem_cons_zero, List.getElem_cons_succ, List.setIfInBounds_toArray, List.set_cons_zero, List.set_cons_succ]
      refine wpAnyH_take (i := 32) rfl (by kernel_rfl) (by kernel_rfl) (by kernel_rfl) (fun _ _ _ h => h) (Or.inr ⟨by rfl, rfl⟩) (by assumption) ?_
      simp only [Act.put, List.getElem_toArray, List.getElem_cons_zero, List.getElem_cons_succ, List.setIfInBounds_toArray, List.set_cons_zero, List.set_cons_succ]
      refine wpAnyH_take (i := 33) rfl (by kernel_rfl) (by kernel_rfl) (by kernel_rfl) (fun _ _ _ h => h) (Or.inr ⟨by rfl, rfl⟩) (by assumption) ?_
      simp only [Act.put, List.getElem_toArray, List.getElem_cons_zero, List.getElem_cons_succ, List.setIfInBounds_toArray, List.set_cons_zero, List.set_cons_succ]
      refine wpAnyH_take (i := 34) (v := ?_) rfl (by kernel_rfl) (by kernel_rfl) (by kernel_rfl) (fun _ _ _ h => h) (Or.inl ⟨by rfl, ?_⟩) (by assumption) ?_
      rotate_left
      · (intro w hSw; (try dsimp only at hSw); go_simp)
        first | done | with_reducible rfl
      simp only [Act.put, List.getElem_toArray, List.getElem_cons_zero, List.getElem_cons_succ, List.setIfInBounds_toArray, List.set_cons_zero, List.set_cons_succ]
      refine wpAnyH_done (by kernel_rfl) ?_ _
      have HU9 := Lib.hid ((Upd.refl [] w).drew)
      clear hHeld z0 z1 z2 z3 HZ H2
      go_wp2_with fail
      go_ret
      exact ⟨by rw [HRR.out]; rfl, HU9.out⟩
    | true =>
      rw [hb2] at S2
      cases hb3 : labsOk labs with
      | false =>
        have HRR := Lib.hid (show sysOk ⟨st, ini, labs, eds⟩ = false by rw [HOK.out, hb3]; simp)
        rw [hb3] at S3
        clear HOK hb1 hb2 hb3
        go_enter Tryz.func27, Tryz.ntmps27
        go_wp2_with fail
        refine wp_region_held_drew (S := fun w' => w'.cell? ⟨p, 0, none⟩ = some (ei st) ∧ w'.cell? ⟨p, 1, none⟩ = some (ei ini) ∧ w'.cell? ⟨p, 2, none⟩ = some (.slice a1 labs.length c1) ∧ w'.cell? ⟨p, 3, none⟩ = some (.slice a2 eds.length c2)) (by kernel_rfl) ?_ (fun hHeld => ?_)
        · exact ⟨z0, z1, z2, z3⟩
        refine wpAnyH_take (i := 0) (v := ?_) rfl (by kernel_rfl) (by kernel_rfl) (by kernel_rfl) (fun _ _ _ h => h) (Or.inl ⟨by rfl, ?_⟩) (by assumption) ?_
        rotate_left
        · (intro w hSw; (try dsimp only at hSw); go_simp)
          first | done | with_reducible rfl
        simp only [Act.put, List.getElem_toArray, List.getElem_cons_zero, List.setIfInBounds_toArray, List.set_cons_zero, List.set_cons_succ]
        refine wpAnyH_take (i := 1) (v := ?_) rfl (by kernel_rfl) (by kernel_rfl) (by kernel_rfl) (fun _ _ _ h => h) (Or.inl ⟨by rfl, ?_⟩) (by assumption) ?_
        rotate_left
        · (intro w hSw; (try dsimp only at hSw); go_simp)
          first | done | with_reducible rfl
        simp only [Act.put, List.getElem_toArray, List.getElem_cons_zero, List.getElem_cons_succ, List.setIfInBounds_toArray, List.set_cons_zero, List.set_cons_succ]
        refine wpAnyH_take (i := 2) (v := ?_) rfl (by kernel_rfl) (by kernel_rfl) (by kernel_rfl) (fun _ _ _ h => h) (Or.inl ⟨by rfl, ?_⟩) (by assumption) ?_
        rotate_left
        · (intro w hSw; (try dsimp only at hSw); go_simp)
          first | done | with_reducible rfl
        simp only [Act.put, List.getElem_toArray, List.getElem_cons_zero, List.getElem_cons_succ, List.setIfInBounds_toArray, List.set_cons_zero, List.set_cons_succ]
        refine wpAnyH_take (i := 3) (v := ?_) rfl (by kernel_rfl) (by kernel_rfl) (by kernel_rfl) (fun _ _ _ h => h) (Or.inl ⟨by rfl, ?_⟩) (by assumption) ?_
        rotate_left
        · (intro w hSw; (try dsimp only at hSw); go_simp)
          first | done | with_reducible rfl
        simp only [Act.put, List.getElem_toArray, List.getElem_cons_zero, List.getElem_cons_succ, List.setIfInBounds_toArray, List.set_cons_zero, List.set_cons_succ]
        refine wpAnyH_ready (rs := [4]) (by kernel_rfl) (by simp) ?_
        refine AllReadyH.cons rfl (fun K hK => ?_) AllReadyH.nil
        go_simp
        refine (S1.out _).mono ?_
        rintro e w4 ⟨rfl, rfl⟩
        refine hK.out _ _ ?_ (fun hHeld => ?_)
        · exact ⟨hHeld.1, hHeld.2.1, hHeld.2.2.1, hHeld.2.2.2⟩
        clear hK K
        try simp only [Act.put, List.getElem_toArray, List.getElem_cons_zero, List.getElem_cons_succ, List.setIfInBounds_toArray, List.set_cons_zero, List.set_cons_succ]
        refine wpAnyH_take (i := 5) (v := ?_) rfl (by kernel_rfl) (by kernel_rfl) (by kernel_rfl) (fun _ _ _ h => h) (Or.inl ⟨by rfl, ?_⟩) (by assumption) ?_
        rotate_left
        · (intro w hSw; (try dsimp only at hSw); go_simp)
          first | done | with_reducible rfl
        simp only [Act.put, List.getElem_toArray, List.getElem_cons_zero, List.getElem_cons_succ, List.setIfInBounds_toArray, List.set_cons_zero, List.set_cons_succ]
        refine wpAnyH_take (i := 6) (v := ?_) rfl (by kernel_rfl) (by kernel_rfl) (by kernel_rfl) (fun _ _ _ h => h) (Or.inl ⟨by rfl, ?_⟩) (by assumption) ?_
        rotate_left
        · (intro w hSw; (try dsimp only at hSw); go_simp)
          first | done | with_reducible rfl
        simp only [Act.put, List.getElem_toArray, List.getElem_cons_zero, List.getElem_cons_succ, List.setIfInBounds_toArray, List.set_cons_zero, List.set_cons_succ]
        refine wpAnyH_take (i := 7) (v := ?_) rfl (by kernel_rfl) (by kernel_rfl) (by kernel_rfl) (fun _ _ _ h => h) (Or.inl ⟨by rfl, ?_⟩) (by assumption) ?_
        rotate_left
        · (intro w hSw; (try dsimp only at hSw); go_simp)
          first | done | with_reducible rfl
        simp only [Act.put, List.getElem_toArray, List.getElem_cons_zero, List.getElem_cons_succ, List.setIfInBounds_toArray, List.set_cons_zero, List.set_cons_succ]
        refine wpAnyH_take (i := 8) (v := ?_) rfl (by kernel_rfl) (by kernel_rfl) (by kernel_rfl) (fun _ _ _ h => h) (Or.inl ⟨by rfl, ?_⟩) (by assumption) ?_
        rotate_left
        · (intro w hSw; (try dsimp only at hSw); go_simp)
          first | done | with_reducible rfl
        simp only [Act.put, List.getElem_toArray, List.getElem_cons_zero, List.getElem_cons_succ, List.setIfInBounds_toArray, List.set_cons_zero, List.set_cons_succ]
        refine wpAnyH_take (i := 9) (v := ?_) rfl (by kernel_rfl) (by kernel_rfl) (by kernel_rfl) (fun _ _ _ h => h) (Or.inl ⟨by rfl, ?_⟩) (by assumption) ?_
        rotate_left
        · (intro w hSw; (try dsimp only at hSw); go_simp)
          first | done | with_reducible rfl
        simp only [Act.put, List.getElem_toArray, List.getElem_cons_zero, List.getElem_cons_succ, List.setIfInBounds_toArray, List.set_cons_zero, List.set_cons_succ]
        refine wpAnyH_take (i := 10) (v := ?_) rfl (by kernel_rfl) (by kernel_rfl) (by kernel_rfl) (fun _ _ _ h => h) (Or.inl ⟨by rfl, ?_⟩) (by assumption) ?_
        rotate_left
        · (intro w hSw; (try dsimp only at hSw); go_simp)
          first | done | with_reducible rfl
        simp only [Act.put, List.getElem_toArray, List.getElem_cons_zero, List.getElem_cons_succ, List.setIfInBounds_toArray, List.set_cons_zero, List.set_cons_succ]
        refine wpAnyH_take (i := 11) (v := ?_) rfl (by kernel_rfl) (by kernel_rfl) (by kernel_rfl) (fun _ _ _ h => h) (Or.inl ⟨by rfl, ?_⟩) (by assumption) ?_
        rotate_left
        · (intro w hSw; (try dsimp only at hSw); go_simp)
          first | done | with_reducible rfl
        simp only [Act.put, List.getElem_toArray, List.getElem_cons_zero, List.getElem_cons_succ, List.setIfInBounds_toArray, List.set_cons_zero, List.set_cons_succ]
        refine wpAnyH_take (i := 12) (v := ?_) rfl (by kernel_rfl) (by kernel_rfl) (by kernel_rfl) (fun _ _ _ h => h) (Or.inl ⟨by rfl, ?_⟩) (by assumption) ?_
        rotate_left
        · (intro w hSw; (try dsimp only at hSw); go_simp)
          first | done | with_reducible rfl
        simp only [Act.put, List.getElem_toArray, List.getElem_cons_zero, List.getElem_cons_succ, List.setIfInBounds_toArray, List.set_cons_zero, List.set_cons_succ]
        refine wpAnyH_take (i := 13) (v := ?_) rfl (by kernel_rfl) (by kernel_rfl) (by kernel_rfl) (fun _ _ _ h => h) (Or.inl ⟨by rfl, ?_⟩) (by assumption) ?_
        rotate_left
        · (intro w hSw; (try dsimp only at hSw); go_simp)
          first | done | with_reducible rfl
        simp only [Act.put, List.getElem_toArray, List.getElem_cons_zero, List.getElem_cons_succ, List.setIfInBounds_toArray, List.set_cons_zero, List.set_cons_succ]
        refine wpAnyH_take (i := 14) (v := ?_) rfl (by kernel_rfl) (by kernel_rfl) (by kernel_rfl) (fun _ _ _ h => h) (Or.inl ⟨by rfl, ?_⟩) (by assumption) ?_
        rotate_left
        · (intro w hSw; (try dsimp only at hSw); go_simp)
          first | done | with_reducible rfl
        simp only [Act.put, List.getElem_toArray, List.getElem_cons_zero, List.getElem_cons_succ, List.setIfInBounds_toArray, List.set_cons_zero, List.set_cons_succ]
        refine wpAnyH_take (i := 15) (v := ?_) rfl (by kernel_rfl) (by kernel_rfl) (by kernel_rfl) (fun _ _ _ h => h) (Or.inl ⟨by rfl, ?_⟩) (by assumption) ?_
        rotate_left
        · (intro w hSw; (try dsimp only at hSw); go_simp)
          first | done | with_reducible rfl
        simp only [Act.put, List.getElem_toArray, List.getElem_cons_zero, List.getElem_cons_succ, List.setIfInBounds_toArray, List.set_cons_zero, List.set_cons_succ]
        try simp only [iw]
        refine wpAnyH_ready (rs := [16]) (by kernel_rfl) (by simp) ?_
        refine AllReadyH.cons rfl (fun K hK => ?_) AllReadyH.nil
        go_simp
        refine (S2.out _).mono ?_
        rintro e w16 ⟨rfl, rfl⟩
        refine hK.out _ _ ?_ (fun hHeld => ?_)
        · exact ⟨hHeld.1, hHeld.2.1, hHeld.2.2.1, hHeld.2.2.2⟩
        clear hK K
        try simp only [Act.put, List.getElem_toArray, List.getElem_cons_zero, List.getElem_cons_succ, List.setIfInBounds_toArray, List.set_cons_zero, List.set_cons_succ]
        refine wpAnyH_take (i := 17) (v := ?_) rfl (by kernel_rfl) (by kernel_rfl) (by kernel_rfl) (fun _ _ _ h => h) (Or.inl ⟨by rfl, ?_⟩) (by assumption) ?_
        rotate_left
        · (intro w hSw; (try dsimp only at hSw); go_simp)
          first | done | with_reducible rfl
        simp only [Act.put, List.getElem_toArray, List.getElem_cons_zero, List.getElem_cons_succ, List.setIfInBounds_toArray, List.set_cons_zero, List.set_cons_succ]
        refine wpAnyH_take (i := 18) (v := ?_) rfl (by kernel_rfl) (by kernel_rfl) (by kernel_rfl) (fun _ _ _ h => h) (Or.inl ⟨by rfl, ?_⟩) (by assumption) ?_
        rotate_left
        · (intro w hSw; (try dsimp only at hSw); go_simp)
          first | done | with_reducible rfl
        simp only [Act.put, List.getElem_toArray, List.getElem_cons_zero, List.getElem_cons_succ, List.setIfInBounds_toArray, List.set_cons_zero, List.set_cons_succ]
        refine wpAnyH_take (i := 19) (v := ?_) rfl (by kernel_rfl) (by kernel_rfl) (by kernel_rfl) (fun _ _ _ h => h) (Or.inl ⟨by rfl, ?_⟩) (by assumption) ?_
        rotate_left
        · (intro w hSw; (try dsimp only at hSw); go_simp)
          first | done | with_reducible rfl
        simp only [Act.put, List.getElem_toArray, List.getElem_cons_zero, List.getElem_cons_succ, List.setIfInBounds_toArray, List.set_cons_zero, List.set_cons_succ]
        refine wpAnyH_take (i := 20) (v := ?_) rfl (by kernel_rfl) (by kernel_rfl) (by kernel_rfl) (fun _ _ _ h => h) (Or.inl ⟨by rfl, ?_⟩) (by assumption) ?_
        rotate_left
        · (intro w hSw; (try dsimp only at hSw); go_simp)
          first | done | with_reducible rfl
        simp only [Act.put, List.getElem_toArray, List.getElem_cons_zero, List.getElem_cons_succ, List.setIfInBounds_toArray, List.set_cons_zero, List.set_cons_succ]
        refine wpAnyH_take (i := 21) (v := ?_) rfl (by kernel_rfl) (by kernel_rfl) (by kernel_rfl) (fun _ _ _ h => h) (Or.inl ⟨by rfl, ?_⟩) (by assumption) ?_
        rotate_left
        · (intro w hSw; (try dsimp only at hSw); go_simp)
          first | done | with_reducible rfl
        simp only [Act.put, List.getElem_toArray, List.getElem_cons_zero, List.getElem_cons_succ, List.setIfInBounds_toArray, List.set_cons_zero, List.set_cons_succ]
        refine wpAnyH_take (i := 22) (v := ?_) rfl (by kernel_rfl) (by kernel_rfl) (by kernel_rfl) (fun _ _ _ h => h) (Or.inl ⟨by rfl, ?_⟩) (by assumption) ?_
        rotate_left
        · (intro w hSw; (try dsimp only at hSw); go_simp)
          first | done | with_reducible rfl
        simp only [Act.put, List.getElem_toArray, List.getElem_cons_zero, List.getElem_cons_succ, List.setIfInBounds_toArray, List.set_cons_zero, List.set_cons_succ]
        refine wpAnyH_take (i := 23) (v := ?_) rfl (by kernel_rfl) (by kernel_rfl) (by kernel_rfl) (fun _ _ _ h => h) (Or.inl ⟨by rfl, ?_⟩) (by assumption) ?_
        rotate_left
        · (intro w hSw; (try dsimp only at hSw); go_simp)
          first | done | with_reducible rfl
        simp only [Act.put, List.getElem_toArray, List.getElem_cons_zero, List.getElem_cons_succ, List.setIfInBounds_toArray, List.set_cons_zero, List.set_cons_succ]
        refine wpAnyH_ready (rs := [24]) (by kernel_rfl) (by simp) ?_
        refine AllReadyH.cons rfl (fun K hK => ?_) AllReadyH.nil
        go_simp
        refine (S3.out).mono ?_
        rintro e w24 ⟨rfl, hu3⟩
        refine hK.out _ _ ?_ (fun hHeld => ?_)
        · exact ⟨hu3.keep hHeld.1, hu3.keep hHeld.2.1, hu3.keep hHeld.2.2.1, hu3.keep hHeld.2.2.2⟩
        clear hK K
        try simp only [Act.put, List.getElem_toArray, List.getElem_cons_zero, List.getElem_cons_succ, List.setIfInBounds_toArray, List.set_cons_zero, List.set_cons_succ]
        refine wpAnyH_take (i := 25) (v := ?_) rfl (by kernel_rfl) (by kernel_rfl) (by kernel_rfl) (fun _ _ _ h => h) (Or.inl ⟨by rfl, ?_⟩) (by assumption) ?_
        rotate_left
        · (intro w hSw; (try dsimp only at hSw); go_simp)
          first | done | with_reducible rfl
        simp only [Act.put, List.getElem_toArray, List.getElem_cons_zero, List.getElem_cons_succ, List.setIfInBounds_toArray, List.set_cons_zero, List.set_cons_succ]
        refine wpAnyH_take (i := 26) (v := ?_) rfl (by kernel_rfl) (by kernel_rfl) (by kernel_rfl) (fun _ _ _ h => h) (Or.inl ⟨by rfl, ?_⟩) (by assumption) ?_
        rotate_left
        · (intro w hSw; (try dsimp only at hSw); go_simp)
          first | done | with_reducible rfl
        simp only [Act.put, List.getElem_toArray, List.getElem_cons_zero, List.getElem_cons_succ, List.setIfInBounds_toArray, List.set_cons_zero, List.set_cons_succ]
        refine wpAnyH_take (i := 27) (v := ?_) rfl (by kernel_rfl) (by kernel_rfl) (by kernel_rfl) (fun _ _ _ h => h) (Or.inl ⟨by rfl, ?_⟩) (by assumption) ?_
        rotate_left
        · (intro w hSw; (try dsimp only at hSw); go_simp)
          first | done | with_reducible rfl
        simp only [Act.put, List.getElem_toArray, List.getElem_cons_zero, List.getElem_cons_succ, List.setIfInBounds_toArray, List.set_cons_zero, List.set_cons_succ]
        refine wpAnyH_take (i := 28) rfl (by kernel_rfl) (by kernel_rfl) (by kernel_rfl) (fun _ _ _ h => h) (Or.inr ⟨by rfl, rfl⟩) (by assumption) ?_
        simp only [Act.put, List.getElem_toArray, List.getElem_cons_zero, List.getElem_cons_succ, List.setIfInBounds_toArray, List.set_cons_zero, List.set_cons_succ]
        refine wpAnyH_take (i := 29) rfl (by kernel_rfl) (by kernel_rfl) (by kernel_rfl) (fun _ _ _ h => h) (Or.inr ⟨by rfl, rfl⟩) (by assumption) ?_
        simp only [Act.put, List.getElem_toArray, List.getElem_cons_zero, List.getElem_cons_succ, List.setIfInBounds_toArray, List.set_cons_zero, List.set_cons_succ]
        refine wpAnyH_take (i := 30) rfl (by kernel_rfl) (by kernel_rfl) (by kernel_rfl) (fun _ _ _ h => h) (Or.inr ⟨by rfl, rfl⟩) (by assumption) ?_
        simp only [Act.put, List.getElem_toArray, List.getElem_cons_zero, List.getElem_cons_succ, List.setIfInBounds_toArray, List.set_cons_zero, List.set_cons_succ]
        refine wpAnyH_take (i := 31) rfl (by kernel_rfl) (by kernel_rfl) (by kernel_rfl) (fun _ _ _ h => h) (Or.inr ⟨by rfl, rfl⟩) (by assumption) ?_
        simp only [Act.put, List.getElem_toArray, List.getElem_cons_zero, List.getElem_cons_succ, List.setIfInBounds_toArray, List.set_cons_zero, List.set_cons_succ]
        refine wpAnyH_take (i := 32) rfl (by kernel_rfl) (by kernel_rfl) (by kernel_rfl) (fun _ _ _ h => h) (Or.inr ⟨by rfl, rfl⟩) (by assumption) ?_
        simp only [Act.put, List.getElem_toArray, List.getElem_cons_zero, List.getElem_cons_succ, List.setIfInBounds_toArray, List.set_cons_zero, List.set_cons_succ]
        refine wpAnyH_take (i := 33) rfl (by kernel_rfl) (by kernel_rfl) (by kernel_rfl) (fun _ _ _ h => h) (Or.inr ⟨by rfl, rfl⟩) (by assumption) ?_
        simp only [Act.put, List.getElem_toArray, List.getElem_cons_zero, List.getElem_cons_succ, List.setIfInBounds_toArray, List.set_cons_zero, List.set_cons_succ]
        refine wpAnyH_take (i := 34) (v := ?_) rfl (by kernel_rfl) (by kernel_rfl) (by kernel_rfl) (fun _ _ _ h => h) (Or.inl ⟨by rfl, ?_⟩) (by assumption) ?_
        rotate_left
        · (intro w hSw; (try dsimp only at hSw); go_simp)
          first | done | with_reducible rfl
        simp only [Act.put, List.getElem_toArray, List.getElem_cons_zero, List.getElem_cons_succ, List.setIfInBounds_toArray, List.set_cons_zero, List.set_cons_succ]
        refine wpAnyH_done (by kernel_rfl) ?_ _
        have HU9 := Lib.hid ((Upd.refl [] w).drew.trans hu3)
        clear hHeld z0 z1 z2 z3 HZ H2
        go_wp2_with fail
        go_ret
        exact ⟨by rw [HRR.out]; rfl, HU9.out⟩
      | true =>
        have hll : labs.length ≤ 12 := by unfold labsOk at hb3; simp only [Bool.and_eq_true, decide_eq_true_eq] at hb3; exact hb3.1.2
        rw [hb3] at S3
        by_cases hel : 300 < eds.length
        · have HRR := Lib.hid (show sysOk ⟨st, ini, labs, eds⟩ = false by rw [HOK.out, decide_eq_false (show ¬ eds.length ≤ 300 by omega)]; simp)
          have kI : decide ((300 : Int) < (eds.length : Int)) = true := decide_eq_true (by omega)
          have kN : decide (300 < eds.length) = true := decide_eq_true hel
          clear HOK hb1 hb2 hb3
          go_enter Tryz.func27, Tryz.ntmps27
          go_wp2_with fail
          refine wp_region_held_drew (S := fun w' => w'.cell? ⟨p, 0, none⟩ = some (ei st) ∧ w'.cell? ⟨p, 1, none⟩ = some (ei ini) ∧ w'.cell? ⟨p, 2, none⟩ = some (.slice a1 labs.length c1) ∧ w'.cell? ⟨p, 3, none⟩ = some (.slice a2 eds.length c2)) (by kernel_rfl) ?_ (fun hHeld => ?_)
          · exact ⟨z0, z1, z2, z3⟩
          refine wpAnyH_take (i := 0) (v := ?_) rfl (by kernel_rfl) (by kernel_rfl) (by kernel_rfl) (fun _ _ _ h => h) (Or.inl ⟨by rfl, ?_⟩) (by assumption) ?_
          rotate_left
          · (intro w hSw; (try dsimp only at hSw); go_simp)
            first | done | with_reducible rfl
          simp only [Act.put, List.getElem_toArray, List.getElem_cons_zero, List.setIfInBounds_toArray, List.set_cons_zero, List.set_cons_succ]
          refine wpAnyH_take (i := 1) (v := ?_) rfl (by kernel_rfl) (by kernel_rfl) (by kernel_rfl) (fun _ _ _ h => h) (Or.inl ⟨by rfl, ?_⟩) (by assumption) ?_
          rotate_left
          · (intro w hSw; (try dsimp only at hSw); go_simp)
            first | done | with_reducible rfl
          simp only [Act.put, List.getElem_toArray, List.getElem_cons_zero, List.getElem_cons_succ, List.setIfInBounds_toArray, List.set_cons_zero, List.set_cons_succ]
          refine wpAnyH_take (i := 2) (v := ?_) rfl (by kernel_rfl) (by kernel_rfl) (by kernel_rfl) (fun _ _ _ h => h) (Or.inl ⟨by rfl, ?_⟩) (by assumption) ?_
          rotate_left
          · (intro w hSw; (try dsimp only at hSw); go_simp)
            first | done | with_reducible rfl
          simp only [Act.put, List.getElem_toArray, List.getElem_cons_zero, List.getElem_cons_succ, List.setIfInBounds_toArray, List.set_cons_zero, List.set_cons_succ]
          refine wpAnyH_take (i := 3) (v := ?_) rfl (by kernel_rfl) (by kernel_rfl) (by kernel_rfl) (fun _ _ _ h => h) (Or.inl ⟨by rfl, ?_⟩) (by assumption) ?_
          rotate_left
          · (intro w hSw; (try dsimp only at hSw); go_simp)
            first | done | with_reducible rfl
          simp only [Act.put, List.getElem_toArray, List.getElem_cons_zero, List.getElem_cons_succ, List.setIfInBounds_toArray, List.set_cons_zero, List.set_cons_succ]
          refine wpAnyH_ready (rs := [4]) (by kernel_rfl) (by simp) ?_
          refine AllReadyH.cons rfl (fun K hK => ?_) AllReadyH.nil
          go_simp
          refine (S1.out _).mono ?_
          rintro e w4 ⟨rfl, rfl⟩
          refine hK.out _ _ ?_ (fun hHeld => ?_)
          · exact ⟨hHeld.1, hHeld.2.1, hHeld.2.2.1, hHeld.2.2.2⟩
          clear hK K
          try simp only [Act.put, List.getElem_toArray, List.getElem_cons_zero, List.getElem_cons_succ, List.setIfInBounds_toArray, List.set_cons_zero, List.set_cons_succ]
          refine wpAnyH_take (i := 5) (v := ?_) rfl (by kernel_rfl) (by kernel_rfl) (by kernel_rfl) (fun _ _ _ h => h) (Or.inl ⟨by rfl, ?_⟩) (by assumption) ?_
          rotate_left
          · (intro w hSw; (try dsimp only at hSw); go_simp)
            first | done | with_reducible rfl
          simp only [Act.put, List.getElem_toArray, List.getElem_cons_zero, List.getElem_cons_succ, List.setIfInBounds_toArray, List.set_cons_zero, List.set_cons_succ]
          refine wpAnyH_take (i := 6) (v := ?_) rfl (by kernel_rfl) (by kernel_rfl) (by kernel_rfl) (fun _ _ _ h => h) (Or.inl ⟨by rfl, ?_⟩) (by assumption) ?_
          rotate_left
          · (intro w hSw; (try dsimp only at hSw); go_simp)
            first | done | with_reducible rfl
          simp only [Act.put, List.getElem_toArray, List.getElem_cons_zero, List.getElem_cons_succ, List.setIfInBounds_toArray, List.set_cons_zero, List.set_cons_succ]
          refine wpAnyH_take (i := 7) (v := ?_) rfl (by kernel_rfl) (by kernel_rfl) (by kernel_rfl) (fun _ _ _ h => h) (Or.inl ⟨by rfl, ?_⟩) (by assumption) ?_
          rotate_left
          · (intro w hSw; (try dsimp only at hSw); go_simp)
            first | done | with_reducible rfl
          simp only [Act.put, List.getElem_toArray, List.getElem_cons_zero, List.getElem_cons_succ, List.setIfInBounds_toArray, List.set_cons_zero, List.set_cons_succ]
          refine wpAnyH_take (i := 8) (v := ?_) rfl (by kernel_rfl) (by kernel_rfl) (by kernel_rfl) (fun _ _ _ h => h) (Or.inl ⟨by rfl, ?_⟩) (by assumption) ?_
          rotate_left
          · (intro w hSw; (try dsimp only at hSw); go_simp)
            first | done | with_reducible rfl
          simp only [Act.put, List.getElem_toArray, List.getElem_cons_zero, List.getElem_cons_succ, List.setIfInBounds_toArray, List.set_cons_zero, List.set_cons_succ]
          refine wpAnyH_take (i := 9) (v := ?_) rfl (by kernel_rfl) (by kernel_rfl) (by kernel_rfl) (fun _ _ _ h => h) (Or.inl ⟨by rfl, ?_⟩) (by assumption) ?_
          rotate_left
          · (intro w hSw; (try dsimp only at hSw); go_simp)
            first | done | with_reducible rfl
          simp only [Act.put, List.getElem_toArray, List.getElem_cons_zero, List.getElem_cons_succ, List.setIfInBounds_toArray, List.set_cons_zero, List.set_cons_succ]
          refine wpAnyH_take (i := 10) (v := ?_) rfl (by kernel_rfl) (by kernel_rfl) (by kernel_rfl) (fun _ _ _ h => h) (Or.inl ⟨by rfl, ?_⟩) (by assumption) ?_
          rotate_left
          · (intro w hSw; (try dsimp only at hSw); go_simp)
            first | done | with_reducible rfl
          simp only [Act.put, List.getElem_toArray, List.getElem_cons_zero, List.getElem_cons_succ, List.setIfInBounds_toArray, List.set_cons_zero, List.set_cons_succ]
          refine wpAnyH_take (i := 11) (v := ?_) rfl (by kernel_rfl) (by kernel_rfl) (by kernel_rfl) (fun _ _ _ h => h) (Or.inl ⟨by rfl, ?_⟩) (by assumption) ?_
          rotate_left
          · (intro w hSw; (try dsimp only at hSw); go_simp)
            first | done | with_reducible rfl
          simp only [Act.put, List.getElem_toArray, List.getElem_cons_zero, List.getElem_cons_succ, List.setIfInBounds_toArray, List.set_cons_zero, List.set_cons_succ]
          refine wpAnyH_take (i := 12) (v := ?_) rfl (by kernel_rfl) (by kernel_rfl) (by kernel_rfl) (fun _ _ _ h => h) (Or.inl ⟨by rfl, ?_⟩) (by assumption) ?_
          rotate_left
          · (intro w hSw; (try dsimp only at hSw); go_simp)
            first | done | with_reducible rfl
          simp only [Act.put, List.getElem_toArray, List.getElem_cons_zero, List.getElem_cons_succ, List.setIfInBounds_toArray, List.set_cons_zero, List.set_cons_succ]
          refine wpAnyH_take (i := 13) (v := ?_) rfl (by kernel_rfl) (by kernel_rfl) (by kernel_rfl) (fun _ _ _ h => h) (Or.inl ⟨by rfl, ?_⟩) (by assumption) ?_
          rotate_left
          · (intro w hSw; (try dsimp only at hSw); go_simp)
            first | done | with_reducible rfl
          simp only [Act.put, List.getElem_toArray, List.getElem_cons_zero, List.getElem_cons_succ, List.setIfInBounds_toArray, List.set_cons_zero, List.set_cons_succ]
          refine wpAnyH_take (i := 14) (v := ?_) rfl (by kernel_rfl) (by kernel_rfl) (by kernel_rfl) (fun _ _ _ h => h) (Or.inl ⟨by rfl, ?_⟩) (by assumption) ?_
          rotate_left
          · (intro w hSw; (try dsimp only at hSw); go_simp)
            first | done | with_reducible rfl
          simp only [Act.put, List.getElem_toArray, List.getElem_cons_zero, List.getElem_cons_succ, List.setIfInBounds_toArray, List.set_cons_zero, List.set_cons_succ]
          refine wpAnyH_take (i := 15) (v := ?_) rfl (by kernel_rfl) (by kernel_rfl) (by kernel_rfl) (fun _ _ _ h => h) (Or.inl ⟨by rfl, ?_⟩) (by assumption) ?_
          rotate_left
          · (intro w hSw; (try dsimp only at hSw); go_simp)
            first | done | with_reducible rfl
          simp only [Act.put, List.getElem_toArray, List.getElem_cons_zero, List.getElem_cons_succ, List.setIfInBounds_toArray, List.set_cons_zero, List.set_cons_succ]
          try simp only [iw]
          refine wpAnyH_ready (rs := [16]) (by kernel_rfl) (by simp) ?_
          refine AllReadyH.cons rfl (fun K hK => ?_) AllReadyH.nil
          go_simp
          refine (S2.out _).mono ?_
          rintro e w16 ⟨rfl, rfl⟩
          refine hK.out _ _ ?_ (fun hHeld => ?_)
          · exact ⟨hHeld.1, hHeld.2.1, hHeld.2.2.1, hHeld.2.2.2⟩
          clear hK K
          try simp only [Act.put, List.getElem_toArray, List.getElem_cons_zero, List.getElem_cons_succ, List.setIfInBounds_toArray, List.set_cons_zero, List.set_cons_succ]
          refine wpAnyH_take (i := 17) (v := ?_) rfl (by kernel_rfl) (by kernel_rfl) (by kernel_rfl) (fun _ _ _ h => h) (Or.inl ⟨by rfl, ?_⟩) (by assumption) ?_
          rotate_left
          · (intro w hSw; (try dsimp only at hSw); go_simp)
            first | done | with_reducible rfl
          simp only [Act.put, List.getElem_toArray, List.getElem_cons_zero, List.getElem_cons_succ, List.setIfInBounds_toArray, List.set_cons_zero, List.set_cons_succ]
          refine wpAnyH_take (i := 18) (v := ?_) rfl (by kernel_rfl) (by kernel_rfl) (by kernel_rfl) (fun _ _ _ h => h) (Or.inl ⟨by rfl, ?_⟩) (by assumption) ?_
          rotate_left
          · (intro w hSw; (try dsimp only at hSw); go_simp)
            first | done | with_reducible rfl
          simp only [Act.put, List.getElem_toArray, List.getElem_cons_zero, List.getElem_cons_succ, List.setIfInBounds_toArray, List.set_cons_zero, List.set_cons_succ]
          refine wpAnyH_take (i := 19) (v := ?_) rfl (by kernel_rfl) (by kernel_rfl) (by kernel_rfl) (fun _ _ _ h => h) (Or.inl ⟨by rfl, ?_⟩) (by assumption) ?_
          rotate_left
          · (intro w hSw; (try dsimp only at hSw); go_simp)
            first | done | with_reducible rfl
          simp only [Act.put, List.getElem_toArray, List.getElem_cons_zero, List.getElem_cons_succ, List.setIfInBounds_toArray, List.set_cons_zero, List.set_cons_succ]
          refine wpAnyH_take (i := 20) (v := ?_) rfl (by kernel_rfl) (by kernel_rfl) (by kernel_rfl) (fun _ _ _ h => h) (Or.inl ⟨by rfl, ?_⟩) (by assumption) ?_
          rotate_left
          · (intro w hSw; (try dsimp only at hSw); go_simp)
            first | done | with_reducible rfl
          simp only [Act.put, List.getElem_toArray, List.getElem_cons_zero, List.getElem_cons_succ, List.setIfInBounds_toArray, List.set_cons_zero, List.set_cons_succ]
          refine wpAnyH_take (i := 21) (v := ?_) rfl (by kernel_rfl) (by kernel_rfl) (by kernel_rfl) (fun _ _ _ h => h) (Or.inl ⟨by rfl, ?_⟩) (by assumption) ?_
          rotate_left
          · (intro w hSw; (try dsimp only at hSw); go_simp)
            first | done | with_reducible rfl
          simp only [Act.put, List.getElem_toArray, List.getElem_cons_zero, List.getElem_cons_succ, List.setIfInBounds_toArray, List.set_cons_zero, List.set_cons_succ]
          refine wpAnyH_take (i := 22) (v := ?_) rfl (by kernel_rfl) (by kernel_rfl) (by kernel_rfl) (fun _ _ _ h => h) (Or.inl ⟨by rfl, ?_⟩) (by assumption) ?_
          rotate_left
          · (intro w hSw; (try dsimp only at hSw); go_simp)
            first | done | with_reducible rfl
          simp only [Act.put, List.getElem_toArray, List.getElem_cons_zero, List.getElem_cons_succ, List.setIfInBounds_toArray, List.set_cons_zero, List.set_cons_succ]
          refine wpAnyH_take (i := 23) (v := ?_) rfl (by kernel_rfl) (by kernel_rfl) (by kernel_rfl) (fun _ _ _ h => h) (Or.inl ⟨by rfl, ?_⟩) (by assumption) ?_
          rotate_left
          · (intro w hSw; (try dsimp only at hSw); go_simp)
            first | done | with_reducible rfl
          simp only [Act.put, List.getElem_toArray, List.getElem_cons_zero, List.getElem_cons_succ, List.setIfInBounds_toArray, List.set_cons_zero, List.set_cons_succ]
          refine wpAnyH_ready (rs := [24]) (by kernel_rfl) (by simp) ?_
          refine AllReadyH.cons rfl (fun K hK => ?_) AllReadyH.nil
          go_simp
          refine (S3.out).mono ?_
          rintro e w24 ⟨rfl, hu3⟩
          refine hK.out _ _ ?_ (fun hHeld => ?_)
          · exact ⟨hu3.keep hHeld.1, hu3.keep hHeld.2.1, hu3.keep hHeld.2.2.1, hu3.keep hHeld.2.2.2⟩
          clear hK K
          try simp only [Act.put, List.getElem_toArray, List.getElem_cons_zero, List.getElem_cons_succ, List.setIfInBounds_toArray, List.set_cons_zero, List.set_cons_succ]
          refine wpAnyH_take (i := 25) (v := ?_) rfl (by kernel_rfl) (by kernel_rfl) (by kernel_rfl) (fun _ _ _ h => h) (Or.inl ⟨by rfl, ?_⟩) (by assumption) ?_
          rotate_left
          · (intro w hSw; (try dsimp only at hSw); go_simp)
            first | done | with_reducible rfl
          simp only [Act.put, List.getElem_toArray, List.getElem_cons_zero, List.getElem_cons_succ, List.setIfInBounds_toArray, List.set_cons_zero, List.set_cons_succ]
          refine wpAnyH_take (i := 26) (v := ?_) rfl (by kernel_rfl) (by kernel_rfl) (by kernel_rfl) (fun _ _ _ h => h) (Or.inl ⟨by rfl, ?_⟩) (by assumption) ?_
          rotate_left
          · (intro w hSw; (try dsimp only at hSw); go_simp)
            first | done | with_reducible rfl
          simp only [Act.put, List.getElem_toArray, List.getElem_cons_zero, List.getElem_cons_succ, List.setIfInBounds_toArray, List.set_cons_zero, List.set_cons_succ]
          refine wpAnyH_take (i := 27) (v := ?_) rfl (by kernel_rfl) (by kernel_rfl) (by kernel_rfl) (fun _ _ _ h => h) (Or.inl ⟨by rfl, ?_⟩) (by assumption) ?_
          rotate_left
          · (intro w hSw; (try dsimp only at hSw); go_simp)
            first | done | with_reducible rfl
          simp only [Act.put, List.getElem_toArray, List.getElem_cons_zero, List.getElem_cons_succ, List.setIfInBounds_toArray, List.set_cons_zero, List.set_cons_succ]
          refine wpAnyH_take (i := 28) (v := ?_) rfl (by kernel_rfl) (by kernel_rfl) (by kernel_rfl) (fun _ _ _ h => h) (Or.inl ⟨by rfl, ?_⟩) (by assumption) ?_
          rotate_left
          · (intro w hSw; (try dsimp only at hSw); go_simp)
            first | done | with_reducible rfl
          simp only [Act.put, List.getElem_toArray, List.getElem_cons_zero, List.getElem_cons_succ, List.setIfInBounds_toArray, List.set_cons_zero, List.set_cons_succ]
          refine wpAnyH_take (i := 29) (v := ?_) rfl (by kernel_rfl) (by kernel_rfl) (by kernel_rfl) (fun _ _ _ h => h) (Or.inl ⟨by rfl, ?_⟩) (by assumption) ?_
          rotate_left
          · (intro w hSw; (try dsimp only at hSw); go_simp)
            first | done | with_reducible rfl
          simp only [Act.put, List.getElem_toArray, List.getElem_cons_zero, List.getElem_cons_succ, List.setIfInBounds_toArray, List.set_cons_zero, List.set_cons_succ]
          refine wpAnyH_take (i := 30) (v := ?_) rfl (by kernel_rfl) (by kernel_rfl) (by kernel_rfl) (fun _ _ _ h => h) (Or.inl ⟨by rfl, ?_⟩) (by assumption) ?_
          rotate_left
          · (intro w hSw; (try dsimp only at hSw); go_simp)
            first | done | with_reducible rfl
          simp only [Act.put, List.getElem_toArray, List.getElem_cons_zero, List.getElem_cons_succ, List.setIfInBounds_toArray, List.set_cons_zero, List.set_cons_succ]
          refine wpAnyH_take (i := 31) (v := ?_) rfl (by kernel_rfl) (by kernel_rfl) (by kernel_rfl) (fun _ _ _ h => h) (Or.inl ⟨by rfl, ?_⟩) (by assumption) ?_
          rotate_left
          · (intro w hSw; (try dsimp only at hSw); go_simp)
            first | done | with_reducible rfl
          simp only [Act.put, List.getElem_toArray, List.getElem_cons_zero, List.getElem_cons_succ, List.setIfInBounds_toArray, List.set_cons_zero, List.set_cons_succ]
          refine wpAnyH_take (i := 32) (v := ?_) rfl (by kernel_rfl) (by kernel_rfl) (by kernel_rfl) (fun _ _ _ h => h) (Or.inl ⟨by rfl, ?_⟩) (by assumption) ?_
          rotate_left
          · (intro w hSw; (try dsimp only at hSw); go_simp)
            first | done | with_reducible rfl
          simp only [Act.put, List.getElem_toArray, List.getElem_cons_zero, List.getElem_cons_succ, List.setIfInBounds_toArray, List.set_cons_zero, List.set_cons_succ]
          refine wpAnyH_take (i := 33) (v := ?_) rfl (by kernel_rfl) (by kernel_rfl) (by kernel_rfl) (fun _ _ _ h => h) (Or.inl ⟨by rfl, ?_⟩) (by assumption) ?_
          rotate_left
          · (intro w hSw; (try dsimp only at hSw); go_simp)
            first | done | with_reducible rfl
          simp only [Act.put, List.getElem_toArray, List.getElem_cons_zero, List.getElem_cons_succ, List.setIfInBounds_toArray, List.set_cons_zero, List.set_cons_succ]
          try simp only [kI]
          try simp only [kN]
          refine wpAnyH_take (i := 34) (v := ?_) rfl (by kernel_rfl) (by kernel_rfl) (by kernel_rfl) (fun _ _ _ h => h) (Or.inl ⟨by rfl, ?_⟩) (by assumption) ?_
          rotate_left
          · (intro w hSw; (try dsimp only at hSw); go_simp)
            first | done | with_reducible rfl
          simp only [Act.put, List.getElem_toArray, List.getElem_cons_zero, List.getElem_cons_succ, List.setIfInBounds_toArray, List.set_cons_zero, List.set_cons_succ]
          refine wpAnyH_done (by kernel_rfl) ?_ _
          have HU9 := Lib.hid ((Upd.refl [] w).drew.trans hu3)
          clear hHeld z0 z1 z2 z3 HZ H2
          go_wp2_with fail
          go_ret
          exact ⟨by rw [HRR.out]; rfl, HU9.out⟩
        · have HOK2 := Lib.hid (show sysOk ⟨st, ini, labs, eds⟩ = allF (edP ⟨st, ini, labs, eds⟩) 0 eds.length by rw [HOK.out, hb1, hb2, hb3, decide_eq_true (show eds.length ≤ 300 by omega)]; simp)
          have kI : decide ((300 : Int) < (eds.length : Int)) = false := decide_eq_false (by omega)
          have kN : decide (300 < eds.length) = false := decide_eq_false hel
          have il : IntKind.i64.wrap ((labs.length : Int) - 1) = (labs.length : Int) - 1 := IntWalk.i64_in _ (by omega)
          clear HOK hb1 hb2 hb3
          go_enter Tryz.func27, Tryz.ntmps27
          go_wp2_with fail
          refine wp_region_held_drew (S := fun w' => w'.cell? ⟨p, 0, none⟩ = some (ei st) ∧ w'.cell? ⟨p, 1, none⟩ = some (ei ini) ∧ w'.cell? ⟨p, 2, none⟩ = some (.slice a1 labs.length c1) ∧ w'.cell? ⟨p, 3, none⟩ = some (.slice a2 eds.length c2)) (by kernel_rfl) ?_ (fun hHeld => ?_)
          · exact ⟨z0, z1, z2, z3⟩
          refine wpAnyH_take (i := 0) (v := ?_) rfl (by kernel_rfl) (by kernel_rfl) (by kernel_rfl) (fun _ _ _ h => h) (Or.inl ⟨by rfl, ?_⟩) (by assumption) ?_
          rotate_left
          · (intro w hSw; (try dsimp only at hSw); go_simp)
            first | done | with_reducible rfl
          simp only [Act.put, List.getElem_toArray, List.getElem_cons_zero, List.setIfInBounds_toArray, List.set_cons_zero, List.set_cons_succ]
          refine wpAnyH_take (i := 1) (v := ?_) rfl (by kernel_rfl) (by kernel_rfl) (by kernel_rfl) (fun _ _ _ h => h) (Or.inl ⟨by rfl, ?_⟩) (by assumption) ?_
          rotate_left
          · (intro w hSw; (try dsimp only at hSw); go_simp)
            first | done | with_reducible rfl
          simp only [Act.put, List.getElem_toArray, List.getElem_cons_zero, List.getElem_cons_succ, List.setIfInBounds_toArray, List.set_cons_zero, List.set_cons_succ]
          refine wpAnyH_take (i := 2) (v := ?_) rfl (by kernel_rfl) (by kernel_rfl) (by kernel_rfl) (fun _ _ _ h => h) (Or.inl ⟨by rfl, ?_⟩) (by assumption) ?_
          rotate_left
          · (intro w hSw; (try dsimp only at hSw); go_simp)
            first | done | with_reducible rfl
          simp only [Act.put, List.getElem_toArray, List.getElem_cons_zero, List.getElem_cons_succ, List.setIfInBounds_toArray, List.set_cons_zero, List.set_cons_succ]
          refine wpAnyH_take (i := 3) (v := ?_) rfl (by kernel_rfl) (by kernel_rfl) (by kernel_rfl) (fun _ _ _ h => h) (Or.inl ⟨by rfl, ?_⟩) (by assumption) ?_
          rotate_left
          · (intro w hSw; (try dsimp only at hSw); go_simp)
            first | done | with_reducible rfl
          simp only [Act.put, List.getElem_toArray, List.getElem_cons_zero, List.getElem_cons_succ, List.setIfInBounds_toArray, List.set_cons_zero, List.set_cons_succ]
          refine wpAnyH_ready (rs := [4]) (by kernel_rfl) (by simp) ?_
          refine AllReadyH.cons rfl (fun K hK => ?_) AllReadyH.nil
          go_simp
          refine (S1.out _).mono ?_
          rintro e w4 ⟨rfl, rfl⟩
          refine hK.out _ _ ?_ (fun hHeld => ?_)
          · exact ⟨hHeld.1, hHeld.2.1, hHeld.2.2.1, hHeld.2.2.2⟩
          clear hK K
          try simp only [Act.put, List.getElem_toArray, List.getElem_cons_zero, List.getElem_cons_succ, List.setIfInBounds_toArray, List.set_cons_zero, List.set_cons_succ]
          refine wpAnyH_take (i := 5) (v := ?_) rfl (by kernel_rfl) (by kernel_rfl) (by kernel_rfl) (fun _ _ _ h => h) (Or.inl ⟨by rfl, ?_⟩) (by assumption) ?_
          rotate_left
          · (intro w hSw; (try dsimp only at hSw); go_simp)
            first | done | with_reducible rfl
          simp only [Act.put, List.getElem_toArray, List.getElem_cons_zero, List.getElem_cons_succ, List.setIfInBounds_toArray, List.set_cons_zero, List.set_cons_succ]
          refine wpAnyH_take (i := 6) (v := ?_) rfl (by kernel_rfl) (by kernel_rfl) (by kernel_rfl) (fun _ _ _ h => h) (Or.inl ⟨by rfl, ?_⟩) (by assumption) ?_
          rotate_left
          · (intro w hSw; (try dsimp only at hSw); go_simp)
            first | done | with_reducible rfl
          simp only [Act.put, List.getElem_toArray, List.getElem_cons_zero, List.getElem_cons_succ, List.setIfInBounds_toArray, List.set_cons_zero, List.set_cons_succ]
          refine wpAnyH_take (i := 7) (v := ?_) rfl (by kernel_rfl) (by kernel_rfl) (by kernel_rfl) (fun _ _ _ h => h) (Or.inl ⟨by rfl, ?_⟩) (by assumption) ?_
          rotate_left
          · (intro w hSw; (try dsimp only at hSw); go_simp)
            first | done | with_reducible rfl
          simp only [Act.put, List.getElem_toArray, List.getElem_cons_zero, List.getElem_cons_succ, List.setIfInBounds_toArray, List.set_cons_zero, List.set_cons_succ]
          refine wpAnyH_take (i := 8) (v := ?_) rfl (by kernel_rfl) (by kernel_rfl) (by kernel_rfl) (fun _ _ _ h => h) (Or.inl ⟨by rfl, ?_⟩) (by assumption) ?_
          rotate_left
          · (intro w hSw; (try dsimp only at hSw); go_simp)
            first | done | with_reducible rfl
          simp only [Act.put, List.getElem_toArray, List.getElem_cons_zero, List.getElem_cons_succ, List.setIfInBounds_toArray, List.set_cons_zero, List.set_cons_succ]
          refine wpAnyH_take (i := 9) (v := ?_) rfl (by kernel_rfl) (by kernel_rfl) (by kernel_rfl) (fun _ _ _ h => h) (Or.inl ⟨by rfl, ?_⟩) (by assumption) ?_
          rotate_left
          · (intro w hSw; (try dsimp only at hSw); go_simp)
            first | done | with_reducible rfl
          simp only [Act.put, List.getElem_toArray, List.getElem_cons_zero, List.getElem_cons_succ, List.setIfInBounds_toArray, List.set_cons_zero, List.set_cons_succ]
          refine wpAnyH_take (i := 10) (v := ?_) rfl (by kernel_rfl) (by kernel_rfl) (by kernel_rfl) (fun _ _ _ h => h) (Or.inl ⟨by rfl, ?_⟩) (by assumption) ?_
          rotate_left
          · (intro w hSw; (try dsimp only at hSw); go_simp)
            first | done | with_reducible rfl
          simp only [Act.put, List.getElem_toArray, List.getElem_cons_zero, List.getElem_cons_succ, List.setIfInBounds_toArray, List.set_cons_zero, List.set_cons_succ]
          refine wpAnyH_take (i := 11) (v := ?_) rfl (by kernel_rfl) (by kernel_rfl) (by kernel_rfl) (fun _ _ _ h => h) (Or.inl ⟨by rfl, ?_⟩) (by assumption) ?_
          rotate_left
          · (intro w hSw; (try dsimp only at hSw); go_simp)
            first | done | with_reducible rfl
          simp only [Act.put, List.getElem_toArray, List.getElem_cons_zero, List.getElem_cons_succ, List.setIfInBounds_toArray, List.set_cons_zero, List.set_cons_succ]
          refine wpAnyH_take (i := 12) (v := ?_) rfl (by kernel_rfl) (by kernel_rfl) (by kernel_rfl) (fun _ _ _ h => h) (Or.inl ⟨by rfl, ?_⟩) (by assumption) ?_
          rotate_left
          · (intro w hSw; (try dsimp only at hSw); go_simp)
            first | done | with_reducible rfl
          simp only [Act.put, List.getElem_toArray, List.getElem_cons_zero, List.getElem_cons_succ, List.setIfInBounds_toArray, List.set_cons_zero, List.set_cons_succ]
          refine wpAnyH_take (i := 13) (v := ?_) rfl (by kernel_rfl) (by kernel_rfl) (by kernel_rfl) (fun _ _ _ h => h) (Or.inl ⟨by rfl, ?_⟩) (by assumption) ?_
          rotate_left
          · (intro w hSw; (try dsimp only at hSw); go_simp)
            first | done | with_reducible rfl
          simp only [Act.put, List.getElem_toArray, List.getElem_cons_zero, List.getElem_cons_succ, List.setIfInBounds_toArray, List.set_cons_zero, List.set_cons_succ]
          refine wpAnyH_take (i := 14) (v := ?_) rfl (by kernel_rfl) (by kernel_rfl) (by kernel_rfl) (fun _ _ _ h => h) (Or.inl ⟨by rfl, ?_⟩) (by assumption) ?_
          rotate_left
          · (intro w hSw; (try dsimp only at hSw); go_simp)
            first | done | with_reducible rfl
          simp only [Act.put, List.getElem_toArray, List.getElem_cons_zero, List.getElem_cons_succ, List.setIfInBounds_toArray, List.set_cons_zero, List.set_cons_succ]
          refine wpAnyH_take (i := 15) (v := ?_) rfl (by kernel_rfl) (by kernel_rfl) (by kernel_rfl) (fun _ _ _ h => h) (Or.inl ⟨by rfl, ?_⟩) (by assumption) ?_
          rotate_left
          · (intro w hSw; (try dsimp only at hSw); go_simp)
            first | done | with_reducible rfl
          simp only [Act.put, List.getElem_toArray, List.getElem_cons_zero, List.getElem_cons_succ, List.setIfInBounds_toArray, List.set_cons_zero, List.set_cons_succ]
          try simp only [iw]
          refine wpAnyH_ready (rs := [16]) (by kernel_rfl) (by simp) ?_
          refine AllReadyH.cons rfl (fun K hK => ?_) AllReadyH.nil
          go_simp
          refine (S2.out _).mono ?_
          rintro e w16 ⟨rfl, rfl⟩
          refine hK.out _ _ ?_ (fun hHeld => ?_)
          · exact ⟨hHeld.1, hHeld.2.1, hHeld.2.2.1, hHeld.2.2.2⟩
          clear hK K
          try simp only [Act.put, List.getElem_toArray, List.getElem_cons_zero, List.getElem_cons_succ, List.setIfInBounds_toArray, List.set_cons_zero, List.set_cons_succ]
          refine wpAnyH_take (i := 17) (v := ?_) rfl (by kernel_rfl) (by kernel_rfl) (by kernel_rfl) (fun _ _ _ h => h) (Or.inl ⟨by rfl, ?_⟩) (by assumption) ?_
          rotate_left
          · (intro w hSw; (try dsimp only at hSw); go_simp)
            first | done | with_reducible rfl
          simp only [Act.put, List.getElem_toArray, List.getElem_cons_zero, List.getElem_cons_succ, List.setIfInBounds_toArray, List.set_cons_zero, List.set_cons_succ]
          refine wpAnyH_take (i := 18) (v := ?_) rfl (by kernel_rfl) (by kernel_rfl) (by kernel_rfl) (fun _ _ _ h => h) (Or.inl ⟨by rfl, ?_⟩) (by assumption) ?_
          rotate_left
          · (intro w hSw; (try dsimp only at hSw); go_simp)
            first | done | with_reducible rfl
          simp only [Act.put, List.getElem_toArray, List.getElem_cons_zero, List.getElem_cons_succ, List.setIfInBounds_toArray, List.set_cons_zero, List.set_cons_succ]
          refine wpAnyH_take (i := 19) (v := ?_) rfl (by kernel_rfl) (by kernel_rfl) (by kernel_rfl) (fun _ _ _ h => h) (Or.inl ⟨by rfl, ?_⟩) (by assumption) ?_
          rotate_left
          · (intro w hSw; (try dsimp only at hSw); go_simp)
            first | done | with_reducible rfl
          simp only [Act.put, List.getElem_toArray, List.getElem_cons_zero, List.getElem_cons_succ, List.setIfInBounds_toArray, List.set_cons_zero, List.set_cons_succ]
          refine wpAnyH_take (i := 20) (v := ?_) rfl (by kernel_rfl) (by kernel_rfl) (by kernel_rfl) (fun _ _ _ h => h) (Or.inl ⟨by rfl, ?_⟩) (by assumption) ?_
          rotate_left
          · (intro w hSw; (try dsimp only at hSw); go_simp)
            first | done | with_reducible rfl
          simp only [Act.put, List.getElem_toArray, List.getElem_cons_zero, List.getElem_cons_succ, List.setIfInBounds_toArray, List.set_cons_zero, List.set_cons_succ]
          refine wpAnyH_take (i := 21) (v := ?_) rfl (by kernel_rfl) (by kernel_rfl) (by kernel_rfl) (fun _ _ _ h => h) (Or.inl ⟨by rfl, ?_⟩) (by assumption) ?_
          rotate_left
          · (intro w hSw; (try dsimp only at hSw); go_simp)
            first | done | with_reducible rfl
          simp only [Act.put, List.getElem_toArray, List.getElem_cons_zero, List.getElem_cons_succ, List.setIfInBounds_toArray, List.set_cons_zero, List.set_cons_succ]
          refine wpAnyH_take (i := 22) (v := ?_) rfl (by kernel_rfl) (by kernel_rfl) (by kernel_rfl) (fun _ _ _ h => h) (Or.inl ⟨by rfl, ?_⟩) (by assumption) ?_
          rotate_left
          · (intro w hSw; (try dsimp only at hSw); go_simp)
            first | done | with_reducible rfl
          simp only [Act.put, List.getElem_toArray, List.getElem_cons_zero, List.getElem_cons_succ, List.setIfInBounds_toArray, List.set_cons_zero, List.set_cons_succ]
          refine wpAnyH_take (i := 23) (v := ?_) rfl (by kernel_rfl) (by kernel_rfl) (by kernel_rfl) (fun _ _ _ h => h) (Or.inl ⟨by rfl, ?_⟩) (by assumption) ?_
          rotate_left
          · (intro w hSw; (try dsimp only at hSw); go_simp)
            first | done | with_reducible rfl
          simp only [Act.put, List.getElem_toArray, List.getElem_cons_zero, List.getElem_cons_succ, List.setIfInBounds_toArray, List.set_cons_zero, List.set_cons_succ]
          refine wpAnyH_ready (rs := [24]) (by kernel_rfl) (by simp) ?_
          refine AllReadyH.cons rfl (fun K hK => ?_) AllReadyH.nil
          go_simp
          refine (S3.out).mono ?_
          rintro e w24 ⟨rfl, hu3⟩
          refine hK.out _ _ ?_ (fun hHeld => ?_)
          · exact ⟨hu3.keep hHeld.1, hu3.keep hHeld.2.1, hu3.keep hHeld.2.2.1, hu3.keep hHeld.2.2.2⟩
          clear hK K
          try simp only [Act.put, List.getElem_toArray, List.getElem_cons_zero, List.getElem_cons_succ, List.setIfInBounds_toArray, List.set_cons_zero, List.set_cons_succ]
          refine wpAnyH_take (i := 25) (v := ?_) rfl (by kernel_rfl) (by kernel_rfl) (by kernel_rfl) (fun _ _ _ h => h) (Or.inl ⟨by rfl, ?_⟩) (by assumption) ?_
          rotate_left
          · (intro w hSw; (try dsimp only at hSw); go_simp)
            first | done | with_reducible rfl
          simp only [Act.put, List.getElem_toArray, List.getElem_cons_zero, List.getElem_cons_succ, List.setIfInBounds_toArray, List.set_cons_zero, List.set_cons_succ]
          refine wpAnyH_take (i := 26) (v := ?_) rfl (by kernel_rfl) (by kernel_rfl) (by kernel_rfl) (fun _ _ _ h => h) (Or.inl ⟨by rfl, ?_⟩) (by assumption) ?_
          rotate_left
          · (intro w hSw; (try dsimp only at hSw); go_simp)
            first | done | with_reducible rfl
          simp only [Act.put, List.getElem_toArray, List.getElem_cons_zero, List.getElem_cons_succ, List.setIfInBounds_toArray, List.set_cons_zero, List.set_cons_succ]
          refine wpAnyH_take (i := 27) (v := ?_) rfl (by kernel_rfl) (by kernel_rfl) (by kernel_rfl) (fun _ _ _ h => h) (Or.inl ⟨by rfl, ?_⟩) (by assumption) ?_
          rotate_left
          · (intro w hSw; (try dsimp only at hSw); go_simp)
            first | done | with_reducible rfl
          simp only [Act.put, List.getElem_toArray, List.getElem_cons_zero, List.getElem_cons_succ, List.setIfInBounds_toArray, List.set_cons_zero, List.set_cons_succ]
          refine wpAnyH_take (i := 28) (v := ?_) rfl (by kernel_rfl) (by kernel_rfl) (by kernel_rfl) (fun _ _ _ h => h) (Or.inl ⟨by rfl, ?_⟩) (by assumption) ?_
          rotate_left
          · (intro w hSw; (try dsimp only at hSw); go_simp)
            first | done | with_reducible rfl
          simp only [Act.put, List.getElem_toArray, List.getElem_cons_zero, List.getElem_cons_succ, List.setIfInBounds_toArray, List.set_cons_zero, List.set_cons_succ]
          refine wpAnyH_take (i := 29) (v := ?_) rfl (by kernel_rfl) (by kernel_rfl) (by kernel_rfl) (fun _ _ _ h => h) (Or.inl ⟨by rfl, ?_⟩) (by assumption) ?_
          rotate_left
          · (intro w hSw; (try dsimp only at hSw); go_simp)
            first | done | with_reducible rfl
          simp only [Act.put, List.getElem_toArray, List.getElem_cons_zero, List.getElem_cons_succ, List.setIfInBounds_toArray, List.set_cons_zero, List.set_cons_succ]
          refine wpAnyH_take (i := 30) (v := ?_) rfl (by kernel_rfl) (by kernel_rfl) (by kernel_rfl) (fun _ _ _ h => h) (Or.inl ⟨by rfl, ?_⟩) (by assumption) ?_
          rotate_left
          · (intro w hSw; (try dsimp only at hSw); go_simp)
            first | done | with_reducible rfl
          simp only [Act.put, List.getElem_toArray, List.getElem_cons_zero, List.getElem_cons_succ, List.setIfInBounds_toArray, List.set_cons_zero, List.set_cons_succ]
          refine wpAnyH_take (i := 31) (v := ?_) rfl (by kernel_rfl) (by kernel_rfl) (by kernel_rfl) (fun _ _ _ h => h) (Or.inl ⟨by rfl, ?_⟩) (by assumption) ?_
          rotate_left
          · (intro w hSw; (try dsimp only at hSw); go_simp)
            first | done | with_reducible rfl
          simp only [Act.put, List.getElem_toArray, List.getElem_cons_zero, List.getElem_cons_succ, List.setIfInBounds_toArray, List.set_cons_zero, List.set_cons_succ]
          refine wpAnyH_take (i := 32) (v := ?_) rfl (by kernel_rfl) (by kernel_rfl) (by kernel_rfl) (fun _ _ _ h => h) (Or.inl ⟨by rfl, ?_⟩) (by assumption) ?_
          rotate_left
          · (intro w hSw; (try dsimp only at hSw); go_simp)
            first | done | with_reducible rfl
          simp only [Act.put, List.getElem_toArray, List.getElem_cons_zero, List.getElem_cons_succ, List.setIfInBounds_toArray, List.set_cons_zero, List.set_cons_succ]
          refine wpAnyH_take (i := 33) (v := ?_) rfl (by kernel_rfl) (by kernel_rfl) (by kernel_rfl) (fun _ _ _ h => h) (Or.inl ⟨by rfl, ?_⟩) (by assumption) ?_
          rotate_left
          · (intro w hSw; (try dsimp only at hSw); go_simp)
            first | done | with_reducible rfl
          simp only [Act.put, List.getElem_toArray, List.getElem_cons_zero, List.getElem_cons_succ, List.setIfInBounds_toArray, List.set_cons_zero, List.set_cons_succ]
          try simp only [kI]
          try simp only [kN]
          refine wpAnyH_take (i := 34) (v := ?_) rfl (by kernel_rfl) (by kernel_rfl) (by kernel_rfl) (fun _ _ _ h => h) (Or.inl ⟨by rfl, ?_⟩) (by assumption) ?_
          rotate_left
          · (intro w hSw; (try dsimp only at hSw); go_simp)
            first | done | with_reducible rfl
          simp only [Act.put, List.getElem_toArray, List.getElem_cons_zero, List.getElem_cons_succ, List.setIfInBounds_toArray, List.set_cons_zero, List.set_cons_succ]
          refine wpAnyH_done (by kernel_rfl) ?_ _
          have HU := Lib.hid ((Upd.refl [] w).drew.trans hu3)
          clear hHeld z0 z1 z2 z3 S1 S2 S3 hu3 kI kN
          go_wp2_with fail
          go_loopw [3] (fun iv wr => ∃ k : Nat, k ≤ eds.length ∧ iv = .int .i64 k ∧ Hid (allF (edP ⟨st, ini, labs, eds⟩) k (eds.length - k) = allF (edP ⟨st, ini, labs, eds⟩) 0 eds.length) ∧ Upd [] w wr) (fun iv _ => eds.length - (intOf iv).toNat)
          case atStart => exact ⟨0, Nat.zero_le _, rfl, Lib.hid rfl, HU.out⟩
          case round =>
            clear HU
            obtain ⟨wo, rfl⟩ : ∃ wo : World, wo = wr := ⟨_, rfl⟩
            obtain ⟨k, hk, rfl, HA, hU⟩ := hrel
            obtain ⟨y0, y1, y2, y3⟩ := HZ.out wo hU
            by_cases hlt : k < eds.length
            · obtain ⟨aa, cc, hv0, -, -, hc0⟩ := slF3_open (H2.out wo hU)
              cases hv0
              obtain ⟨b1, o1, rfl, -, -, p1, p2, p3⟩ := hc0 k hlt
              have HA2 := Lib.hid (HA.out.symm.trans (allF_step (edP ⟨st, ini, labs, eds⟩) k eds.length hlt))
              have HEP := Lib.hid (edP_at ⟨st, ini, labs, eds⟩ k hlt)
              simp only at HEP
              have hpr : 0 < k → wo.cell? ⟨b1, o1 + (k - 1) * 3, none⟩ = some (ei (eds.getD (k - 1) ⟨0, 0, 0⟩).fr) ∧ wo.cell? ⟨b1, o1 + (k - 1) * 3 + 1, none⟩ = some (ei (eds.getD (k - 1) ⟨0, 0, 0⟩).lb) ∧ wo.cell? ⟨b1, o1 + (k - 1) * 3 + 2, none⟩ = some (ei (eds.getD (k - 1) ⟨0, 0, 0⟩).to) := fun h => by
                obtain ⟨b3, o3, hv3, -, -, q1, q2, q3⟩ := hc0 (k - 1) (by omega)
                cases hv3
                rw [List.getD_eq_getElem?_getD, List.getElem?_eq_getElem (by omega)]
                exact ⟨q1, q2, q3⟩
              have HPR := Lib.hid hpr
              generalize eds.getD (k - 1) ⟨0, 0, 0⟩ = pk at *
              generalize eds[k] = ek at *
              obtain ⟨fr, lb, td⟩ := ek
              simp only at p1 p2 p3 HEP
              have HU := Lib.hid hU
              have SF := Lib.hid (fun W : World => l00In fr 0 (st - 1) W)
              have ST := Lib.hid (fun W : World => l00In td 0 (st - 1) W)
              have SI := Lib.hid (fun W : World => l00In lb 0 ((labs.length : Int) - 1) W)
              clear hc0 HA hU hpr
              go_wp2_with fail
              obtain ⟨w5, hw5⟩ : ∃ w5, w5 = wo.alloc (.cells #[.int .i64 fr, .int .i64 lb, .int .i64 td] 74) := ⟨_, rfl⟩
              rw [← hw5]
              have hu5 : Upd [] wo w5 := by rw [hw5]; exact (Upd.refl _ _).alloc _
              obtain ⟨BB, hBB⟩ : ∃ BB, BB = wo.heap.size := ⟨_, rfl⟩
              have z0 : w5.cell? ⟨BB, 0, none⟩ = some (ei fr) := by rw [hw5]; exact cell_new wo _ _ _ hBB.symm 0 _ rfl
              have z1 : w5.cell? ⟨BB, 1, none⟩ = some (ei lb) := by rw [hw5]; exact cell_new wo _ _ _ hBB.symm 1 _ rfl
              have z2 : w5.cell? ⟨BB, 2, none⟩ = some (ei td) := by rw [hw5]; exact cell_new wo _ _ _ hBB.symm 2 _ rfl
              have x0 := hu5.keep y0
              have x2 := hu5.keep y2
              have x3 := hu5.keep y3
              have HPR5 := Lib.hid (fun h : 0 < k => show w5.drew.cell? ⟨b1, o1 + (k - 1) * 3, none⟩ = some (ei pk.fr) ∧ w5.drew.cell? ⟨b1, o1 + (k - 1) * 3 + 1, none⟩ = some (ei pk.lb) ∧ w5.drew.cell? ⟨b1, o1 + (k - 1) * 3 + 2, none⟩ = some (ei pk.to) from ⟨hu5.keep (HPR.out h).1, hu5.keep (HPR.out h).2.1, hu5.keep (HPR.out h).2.2⟩)
              have HU5 := Lib.hid ((HU.out.trans hu5).drew)
              rw [← hBB]
              clear hw5 hu5 hBB y0 y1 y2 y3 p1 p2 p3 HPR HU
              cases hf1 : inB fr 0 (st - 1) with
              | false =>
                rw [hf1] at SF
                have HRR := Lib.hid (show sysOk ⟨st, ini, labs, eds⟩ = false by rw [HOK2.out, HA2.out, HEP.out, hf1]; simp)
                clear HOK2 HA2 HEP HPR5
                clear hf1
                refine wp_region_held_drew (S := fun w' => w'.cell? ⟨p, 0, none⟩ = some (ei st) ∧ w'.cell? ⟨p, 2, none⟩ = some (.slice a1 labs.length c1) ∧ w'.cell? ⟨BB, 0, none⟩ = some (ei fr) ∧ w'.cell? ⟨BB, 1, none⟩ = some (ei lb) ∧ w'.cell? ⟨BB, 2, none⟩ = some (ei td)) (by kernel_rfl) ?_ (fun hHeld => ?_)
                · exact ⟨x0, x2, z0, z1, z2⟩
                refine wpAnyH_take (i := 0) (v := ?_) rfl (by kernel_rfl) (by kernel_rfl) (by kernel_rfl) (fun _ _ _ h => h) (Or.inl ⟨by rfl, ?_⟩) (by assumption) ?_
                rotate_left
                · (intro w hSw; (try dsimp only at hSw); go_simp)
                  first | done | with_reducible rfl
                simp only [Act.put, List.getElem_toArray, List.getElem_cons_zero, List.setIfInBounds_toArray, List.set_cons_zero, List.set_cons_succ]
                refine wpAnyH_take (i := 1) (v := ?_) rfl (by kernel_rfl) (by kernel_rfl) (by kernel_rfl) (fun _ _ _ h => h) (Or.inl ⟨by rfl, ?_⟩) (by assumption) ?_
                rotate_left
                · (intro w hSw; (try dsimp only at hSw); go_simp)
                  first | done | with_reducible rfl
                simp only [Act.put, List.getElem_toArray, List.getElem_cons_zero, List.getElem_cons_succ, List.setIfInBounds_toArray, List.set_cons_zero, List.set_cons_succ]
                refine wpAnyH_take (i := 2) (v := ?_) rfl (by kernel_rfl) (by kernel_rfl) (by kernel_rfl) (fun _ _ _ h => h) (Or.inl ⟨by rfl, ?_⟩) (by assumption) ?_
                rotate_left
                · (intro w hSw; (try dsimp only at hSw); go_simp)
                  first | done | with_reducible rfl
                simp only [Act.put, List.getElem_toArray, List.getElem_cons_zero, List.getElem_cons_succ, List.setIfInBounds_toArray, List.set_cons_zero, List.set_cons_succ]
                refine wpAnyH_take (i := 3) (v := ?_) rfl (by kernel_rfl) (by kernel_rfl) (by kernel_rfl) (fun _ _ _ h => h) (Or.inl ⟨by rfl, ?_⟩) (by assumption) ?_
                rotate_left
                · (intro w hSw; (try dsimp only at hSw); go_simp)
                  first | done | with_reducible rfl
                simp only [Act.put, List.getElem_toArray, List.getElem_cons_zero, List.getElem_cons_succ, List.setIfInBounds_toArray, List.set_cons_zero, List.set_cons_succ]
                refine wpAnyH_take (i := 4) (v := ?_) rfl (by kernel_rfl) (by kernel_rfl) (by kernel_rfl) (fun _ _ _ h => h) (Or.inl ⟨by rfl, ?_⟩) (by assumption) ?_
                rotate_left
                · (intro w hSw; (try dsimp only at hSw); go_simp)
                  first | done | with_reducible rfl
                simp only [Act.put, List.getElem_toArray, List.getElem_cons_zero, List.getElem_cons_succ, List.setIfInBounds_toArray, List.set_cons_zero, List.set_cons_succ]
                refine wpAnyH_take (i := 5) (v := ?_) rfl (by kernel_rfl) (by kernel_rfl) (by kernel_rfl) (fun _ _ _ h => h) (Or.inl ⟨by rfl, ?_⟩) (by assumption) ?_
                rotate_left
                · (intro w hSw; (try dsimp only at hSw); go_simp)
                  first | done | with_reducible rfl
                simp only [Act.put, List.getElem_toArray, List.getElem_cons_zero, List.getElem_cons_succ, List.setIfInBounds_toArray, List.set_cons_zero, List.set_cons_succ]
                refine wpAnyH_take (i := 6) (v := ?_) rfl (by kernel_rfl) (by kernel_rfl) (by kernel_rfl) (fun _ _ _ h => h) (Or.inl ⟨by rfl, ?_⟩) (by assumption) ?_
                rotate_left
                · (intro w hSw; (try dsimp only at hSw); go_simp)
                  first | done | with_reducible rfl
                simp only [Act.put, List.getElem_toArray, List.getElem_cons_zero, List.getElem_cons_succ, List.setIfInBounds_toArray, List.set_cons_zero, List.set_cons_succ]
                try simp only [iw]
                refine wpAnyH_ready (rs := [7]) (by kernel_rfl) (by simp) ?_
                refine AllReadyH.cons rfl (fun K hK => ?_) AllReadyH.nil
                go_simp
                refine (SF.out _).mono ?_
                rintro e w7 ⟨rfl, rfl⟩
                refine hK.out _ _ ?_ (fun hHeld => ?_)
                · exact ⟨hHeld.1, hHeld.2.1, hHeld.2.2.1, hHeld.2.2.2.1, hHeld.2.2.2.2⟩
                clear hK K
                try simp only [Act.put, List.getElem_toArray, List.getElem_cons_zero, List.getElem_cons_succ, List.setIfInBounds_toArray, List.set_cons_zero, List.set_cons_succ]
                refine wpAnyH_take (i := 8) (v := ?_) rfl (by kernel_rfl) (by kernel_rfl) (by kernel_rfl) (fun _ _ _ h => h) (Or.inl ⟨by rfl, ?_⟩) (by assumption) ?_
                rotate_left
                · (intro w hSw; (try dsimp only at hSw); go_simp)
                  first | done | with_reducible rfl
                simp only [Act.put, List.getElem_toArray, List.getElem_cons_zero, List.getElem_cons_succ, List.setIfInBounds_toArray, List.set_cons_zero, List.set_cons_succ]
                refine wpAnyH_take (i := 9) (v := ?_) rfl (by kernel_rfl) (by kernel_rfl) (by kernel_rfl) (fun _ _ _ h => h) (Or.inl ⟨by rfl, ?_⟩) (by assumption) ?_
                rotate_left
                · (intro w hSw; (try dsimp only at hSw); go_simp)
                  first | done | with_reducible rfl
                simp only [Act.put, List.getElem_toArray, List.getElem_cons_zero, List.getElem_cons_succ, List.setIfInBounds_toArray, List.set_cons_zero, List.set_cons_succ]
                refine wpAnyH_take (i := 10) rfl (by kernel_rfl) (by kernel_rfl) (by kernel_rfl) (fun _ _ _ h => h) (Or.inr ⟨by rfl, rfl⟩) (by assumption) ?_
                simp only [Act.put, List.getElem_toArray, List.getElem_cons_zero, List.getElem_cons_succ, List.setIfInBounds_toArray, List.set_cons_zero, List.set_cons_succ]
                refine wpAnyH_take (i := 11) rfl (by kernel_rfl) (by kernel_rfl) (by kernel_rfl) (fun _ _ _ h => h) (Or.inr ⟨by rfl, rfl⟩) (by assumption) ?_
                simp only [Act.put, List.getElem_toArray, List.getElem_cons_zero, List.getElem_cons_succ, List.setIfInBounds_toArray, List.set_cons_zero, List.set_cons_succ]
                refine wpAnyH_take (i := 12) rfl (by kernel_rfl) (by kernel_rfl) (by kernel_rfl) (fun _ _ _ h => h) (Or.inr ⟨by rfl, rfl⟩) (by assumption) ?_
                simp only [Act.put, List.getElem_toArray, List.getElem_cons_zero, List.getElem_cons_succ, List.setIfInBounds_toArray, List.set_cons_zero, List.set_cons_succ]
                refine wpAnyH_take (i := 13) rfl (by kernel_rfl) (by kernel_rfl) (by kernel_rfl) (fun _ _ _ h => h) (Or.inr ⟨by rfl, rfl⟩) (by assumption) ?_
                simp only [Act.put, List.getElem_toArray, List.getElem_cons_zero, List.getElem_cons_succ, List.setIfInBounds_toArray, List.set_cons_zero, List.set_cons_succ]
                refine wpAnyH_take (i := 14) rfl (by kernel_rfl) (by kernel_rfl) (by kernel_rfl) (fun _ _ _ h => h) (Or.inr ⟨by rfl, rfl⟩) (by assumption) ?_
                simp only [Act.put, List.getElem_toArray, List.getElem_cons_zero, List.getElem_cons_succ, List.setIfInBounds_toArray, List.set_cons_zero, List.set_cons_succ]
                refine wpAnyH_take (i := 15) rfl (by kernel_rfl) (by kernel_rfl) (by kernel_rfl) (fun _ _ _ h => h) (Or.inr ⟨by rfl, rfl⟩) (by assumption) ?_
                simp only [Act.put, List.getElem_toArray, List.getElem_cons_zero, List.getElem_cons_succ, List.setIfInBounds_toArray, List.set_cons_zero, List.set_cons_succ]
                refine wpAnyH_take (i := 16) rfl (by kernel_rfl) (by kernel_rfl) (by kernel_rfl) (fun _ _ _ h => h) (Or.inr ⟨by rfl, rfl⟩) (by assumption) ?_
                simp only [Act.put, List.getElem_toArray, List.getElem_cons_zero, List.getElem_cons_succ, List.setIfInBounds_toArray, List.set_cons_zero, List.set_cons_succ]
                refine wpAnyH_take (i := 17) rfl (by kernel_rfl) (by kernel_rfl) (by kernel_rfl) (fun _ _ _ h => h) (Or.inr ⟨by rfl, rfl⟩) (by assumption) ?_
                simp only [Act.put, List.getElem_toArray, List.getElem_cons_zero, List.getElem_cons_succ, List.setIfInBounds_toArray, List.set_cons_zero, List.set_cons_succ]
                refine wpAnyH_take (i := 18) rfl (by kernel_rfl) (by kernel_rfl) (by kernel_rfl) (fun _ _ _ h => h) (Or.inr ⟨by rfl, rfl⟩) (by assumption) ?_
                simp only [Act.put, List.getElem_toArray, List.getElem_cons_zero, List.getElem_cons_succ, List.setIfInBounds_toArray, List.set_cons_zero, List.set_cons_succ]
                refine wpAnyH_take (i := 19) (v := ?_) rfl (by kernel_rfl) (by kernel_rfl) (by kernel_rfl) (fun _ _ _ h => h) (Or.inl ⟨by rfl, ?_⟩) (by assumption) ?_
                rotate_left
                · (intro w hSw; (try dsimp only at hSw); go_simp)
                  first | done | with_reducible rfl
                simp only [Act.put, List.getElem_toArray, List.getElem_cons_zero, List.getElem_cons_succ, List.setIfInBounds_toArray, List.set_cons_zero, List.set_cons_succ]
                refine wpAnyH_take (i := 20) (v := ?_) rfl (by kernel_rfl) (by kernel_rfl) (by kernel_rfl) (fun _ _ _ h => h) (Or.inl ⟨by rfl, ?_⟩) (by assumption) ?_
                rotate_left
                · (intro w hSw; (try dsimp only at hSw); go_simp)
                  first | done | with_reducible rfl
                simp only [Act.put, List.getElem_toArray, List.getElem_cons_zero, List.getElem_cons_succ, List.setIfInBounds_toArray, List.set_cons_zero, List.set_cons_succ]
                refine wpAnyH_take (i := 21) rfl (by kernel_rfl) (by kernel_rfl) (by kernel_rfl) (fun _ _ _ h => h) (Or.inr ⟨by rfl, rfl⟩) (by assumption) ?_
                simp only [Act.put, List.getElem_toArray, List.getElem_cons_zero, List.getElem_cons_succ, List.setIfInBounds_toArray, List.set_cons_zero, List.set_cons_succ]
                refine wpAnyH_take (i := 22) rfl (by kernel_rfl) (by kernel_rfl) (by kernel_rfl) (fun _ _ _ h => h) (Or.inr ⟨by rfl, rfl⟩) (by assumption) ?_
                simp only [Act.put, List.getElem_toArray, List.getElem_cons_zero, List.getElem_cons_succ, List.setIfInBounds_toArray, List.set_cons_zero, List.set_cons_succ]
                refine wpAnyH_take (i := 23) rfl (by kernel_rfl) (by kernel_rfl) (by kernel_rfl) (fun _ _ _ h => h) (Or.inr ⟨by rfl, rfl⟩) (by assumption) ?_
                simp only [Act.put, List.getElem_toArray, List.getElem_cons_zero, List.getElem_cons_succ, List.setIfInBounds_toArray, List.set_cons_zero, List.set_cons_succ]
                refine wpAnyH_take (i := 24) rfl (by kernel_rfl) (by kernel_rfl) (by kernel_rfl) (fun _ _ _ h => h) (Or.inr ⟨by rfl, rfl⟩) (by assumption) ?_
                simp only [Act.put, List.getElem_toArray, List.getElem_cons_zero, List.getElem_cons_succ, List.setIfInBounds_toArray, List.set_cons_zero, List.set_cons_succ]
                refine wpAnyH_take (i := 25) rfl (by kernel_rfl) (by kernel_rfl) (by kernel_rfl) (fun _ _ _ h => h) (Or.inr ⟨by rfl, rfl⟩) (by assumption) ?_
                simp only [Act.put, List.getElem_toArray, List.getElem_cons_zero, List.getElem_cons_succ, List.setIfInBounds_toArray, List.set_cons_zero, List.set_cons_succ]
                refine wpAnyH_take (i := 26) rfl (by kernel_rfl) (by kernel_rfl) (by kernel_rfl) (fun _ _ _ h => h) (Or.inr ⟨by rfl, rfl⟩) (by assumption) ?_
                simp only [Act.put, List.getElem_toArray, List.getElem_cons_zero, List.getElem_cons_succ, List.setIfInBounds_toArray, List.set_cons_zero, List.set_cons_succ]
                refine wpAnyH_take (i := 27) rfl (by kernel_rfl) (by kernel_rfl) (by kernel_rfl) (fun _ _ _ h => h) (Or.inr ⟨by rfl, rfl⟩) (by assumption) ?_
                simp only [Act.put, List.getElem_toArray, List.getElem_cons_zero, List.getElem_cons_succ, List.setIfInBounds_toArray, List.set_cons_zero, List.set_cons_succ]
                refine wpAnyH_take (i := 28) rfl (by kernel_rfl) (by kernel_rfl) (by kernel_rfl) (fun _ _ _ h => h) (Or.inr ⟨by rfl, rfl⟩) (by assumption) ?_
                simp only [Act.put, List.getElem_toArray, List.getElem_cons_zero, List.getElem_cons_succ, List.setIfInBounds_toArray, List.set_cons_zero, List.set_cons_succ]
                refine wpAnyH_take (i := 29) rfl (by kernel_rfl) (by kernel_rfl) (by kernel_rfl) (fun _ _ _ h => h) (Or.inr ⟨by rfl, rfl⟩) (by assumption) ?_
                simp only [Act.put, List.getElem_toArray, List.getElem_cons_zero, List.getElem_cons_succ, List.setIfInBounds_toArray, List.set_cons_zero, List.set_cons_succ]
                refine wpAnyH_take (i := 30) rfl (by kernel_rfl) (by kernel_rfl) (by kernel_rfl) (fun _ _ _ h => h) (Or.inr ⟨by rfl, rfl⟩) (by assumption) ?_
                simp only [Act.put, List.getElem_toArray, List.getElem_cons_zero, List.getElem_cons_succ, List.setIfInBounds_toArray, List.set_cons_zero, List.set_cons_succ]
                refine wpAnyH_take (i := 31) (v := ?_) rfl (by kernel_rfl) (by kernel_rfl) (by kernel_rfl) (fun _ _ _ h => h) (Or.inl ⟨by rfl, ?_⟩) (by assumption) ?_
                rotate_left
                · (intro w hSw; (try dsimp only at hSw); go_simp)
                  first | done | with_reducible rfl
                simp only [Act.put, List.getElem_toArray, List.getElem_cons_zero, List.getElem_cons_succ, List.setIfInBounds_toArray, List.set_cons_zero, List.set_cons_succ]
                refine wpAnyH_done (by kernel_rfl) ?_ _
                clear hHeld x0 x2 x3 z0 z1 z2
                go_wp2_with fail
                go_ret
                exact ⟨by rw [HRR.out]; rfl, HU5.out⟩
              | true =>
                rw [hf1] at SF HEP
                clear hf1
                cases hf2 : inB td 0 (st - 1) with
                | false =>
                  rw [hf2] at ST
                  have HRR := Lib.hid (show sysOk ⟨st, ini, labs, eds⟩ = false by rw [HOK2.out, HA2.out, HEP.out, hf2]; simp)
                  clear HOK2 HA2 HEP HPR5
                  clear hf2
                  refine wp_region_held_drew (S := fun w' => w'.cell? ⟨p, 0, none⟩ = some (ei st) ∧ w'.cell? ⟨p, 2, none⟩ = some (.slice a1 labs.length c1) ∧ w'.cell? ⟨BB, 0, none⟩ = some (ei fr) ∧ w'.cell? ⟨BB, 1, none⟩ = some (ei lb) ∧ w'.cell? ⟨BB, 2, none⟩ = some (ei td)) (by kernel_rfl) ?_ (fun hHeld => ?_)
                  · exact ⟨x0, x2, z0, z1, z2⟩
                  refine wpAnyH_take (i := 0) (v := ?_) rfl (by kernel_rfl) (by kernel_rfl) (by kernel_rfl) (fun _ _ _ h => h) (Or.inl ⟨by rfl, ?_⟩) (by assumption) ?_
                  rotate_left
                  · (intro w hSw; (try dsimp only at hSw); go_simp)
                    first | done | with_reducible rfl
                  simp only [Act.put, List.getElem_toArray, List.getElem_cons_zero, List.setIfInBounds_toArray, List.set_cons_zero, List.set_cons_succ]
                  refine wpAnyH_take (i := 1) (v := ?_) rfl (by kernel_rfl) (by kernel_rfl) (by kernel_rfl) (fun _ _ _ h => h) (Or.inl ⟨by rfl, ?_⟩) (by assumption) ?_
                  rotate_left
                  · (intro w hSw; (try dsimp only at hSw); go_simp)
                    first | done | with_reducible rfl
                  simp only [Act.put, List.getElem_toArray, List.getElem_cons_zero, List.getElem_cons_succ, List.setIfInBounds_toArray, List.set_cons_zero, List.set_cons_succ]
                  refine wpAnyH_take (i := 2) (v := ?_) rfl (by kernel_rfl) (by kernel_rfl) (by kernel_rfl) (fun _ _ _ h => h) (Or.inl ⟨by rfl, ?_⟩) (by assumption) ?_
                  rotate_left
                  · (intro w hSw; (try dsimp only at hSw); go_simp)
                    first | done | with_reducible rfl
                  simp only [Act.put, List.getElem_toArray, List.getElem_cons_zero, List.getElem_cons_succ, List.setIfInBounds_toArray, List.set_cons_zero, List.set_cons_succ]
                  refine wpAnyH_take (i := 3) (v := ?_) rfl (by kernel_rfl) (by kernel_rfl) (by kernel_rfl) (fun _ _ _ h => h) (Or.inl ⟨by rfl, ?_⟩) (by assumption) ?_
                  rotate_left
                  · (intro w hSw; (try dsimp only at hSw); go_simp)
                    first | done | with_reducible rfl
                  simp only [Act.put, List.getElem_toArray, List.getElem_cons_zero, List.getElem_cons_succ, List.setIfInBounds_toArray, List.set_cons_zero, List.set_cons_succ]
                  refine wpAnyH_take (i := 4) (v := ?_) rfl (by kernel_rfl) (by kernel_rfl) (by kernel_rfl) (fun _ _ _ h => h) (Or.inl ⟨by rfl, ?_⟩) (by assumption) ?_
                  rotate_left
                  · (intro w hSw; (try dsimp only at hSw); go_simp)
                    first | done | with_reducible rfl
                  simp only [Act.put, List.getElem_toArray, List.getElem_cons_zero, List.getElem_cons_succ, List.setIfInBounds_toArray, List.set_cons_zero, List.set_cons_succ]
                  refine wpAnyH_take (i := 5) (v := ?_) rfl (by kernel_rfl) (by kernel_rfl) (by kernel_rfl) (fun _ _ _ h => h) (Or.inl ⟨by rfl, ?_⟩) (by assumption) ?_
                  rotate_left
                  · (intro w hSw; (try dsimp only at hSw); go_simp)
                    first | done | with_reducible rfl
                  simp only [Act.put, List.getElem_toArray, List.getElem_cons_zero, List.getElem_cons_succ, List.setIfInBounds_toArray, List.set_cons_zero, List.set_cons_succ]
                  refine wpAnyH_take (i := 6) (v := ?_) rfl (by kernel_rfl) (by kernel_rfl) (by kernel_rfl) (fun _ _ _ h => h) (Or.inl ⟨by rfl, ?_⟩) (by assumption) ?_
                  rotate_left
                  · (intro w hSw; (try dsimp only at hSw); go_simp)
                    first | done | with_reducible rfl
                  simp only [Act.put, List.getElem_toArray, List.getElem_cons_zero, List.getElem_cons_succ, List.setIfInBounds_toArray, List.set_cons_zero, List.set_cons_succ]
                  try simp only [iw]
                  refine wpAnyH_ready (rs := [7]) (by kernel_rfl) (by simp) ?_
                  refine AllReadyH.cons rfl (fun K hK => ?_) AllReadyH.nil
                  go_simp
                  refine (SF.out _).mono ?_
                  rintro e w7 ⟨rfl, rfl⟩
                  refine hK.out _ _ ?_ (fun hHeld => ?_)
                  · exact ⟨hHeld.1, hHeld.2.1, hHeld.2.2.1, hHeld.2.2.2.1, hHeld.2.2.2.2⟩
                  clear hK K
                  try simp only [Act.put, List.getElem_toArray, List.getElem_cons_zero, List.getElem_cons_succ, List.setIfInBounds_toArray, List.set_cons_zero, List.set_cons_succ]
                  refine wpAnyH_take (i := 8) (v := ?_) rfl (by kernel_rfl) (by kernel_rfl) (by kernel_rfl) (fun _ _ _ h => h) (Or.inl ⟨by rfl, ?_⟩) (by assumption) ?_
                  rotate_left
                  · (intro w hSw; (try dsimp only at hSw); go_simp)
                    first | done | with_reducible rfl
                  simp only [Act.put, List.getElem_toArray, List.getElem_cons_zero, List.getElem_cons_succ, List.setIfInBounds_toArray, List.set_cons_zero, List.set_cons_succ]
                  refine wpAnyH_take (i := 9) (v := ?_) rfl (by kernel_rfl) (by kernel_rfl) (by kernel_rfl) (fun _ _ _ h => h) (Or.inl ⟨by rfl, ?_⟩) (by assumption) ?_
                  rotate_left
                  · (intro w hSw; (try dsimp only at hSw); go_simp)
                    first | done | with_reducible rfl
                  simp only [Act.put, List.getElem_toArray, List.getElem_cons_zero, List.getElem_cons_succ, List.setIfInBounds_toArray, List.set_cons_zero, List.set_cons_succ]
                  refine wpAnyH_take (i := 10) (v := ?_) rfl (by kernel_rfl) (by kernel_rfl) (by kernel_rfl) (fun _ _ _ h => h) (Or.inl ⟨by rfl, ?_⟩) (by assumption) ?_
                  rotate_left
                  · (intro w hSw; (try dsimp only at hSw); go_simp)
                    first | done | with_reducible rfl
                  simp only [Act.put, List.getElem_toArray, List.getElem_cons_zero, List.getElem_cons_succ, List.setIfInBounds_toArray, List.set_cons_zero, List.set_cons_succ]
                  refine wpAnyH_take (i := 11) (v := ?_) rfl (by kernel_rfl) (by kernel_rfl) (by kernel_rfl) (fun _ _ _ h => h) (Or.inl ⟨by rfl, ?_⟩) (by assumption) ?_
                  rotate_left
                  · (intro w hSw; (try dsimp only at hSw); go_simp)
                    first | done | with_reducible rfl
                  simp only [Act.put, List.getElem_toArray, List.getElem_cons_zero, List.getElem_cons_succ, List.setIfInBounds_toArray, List.set_cons_zero, List.set_cons_succ]
                  refine wpAnyH_take (i := 12) (v := ?_) rfl (by kernel_rfl) (by kernel_rfl) (by kernel_rfl) (fun _ _ _ h => h) (Or.inl ⟨by rfl, ?_⟩) (by assumption) ?_
                  rotate_left
                  · (intro w hSw; (try dsimp only at hSw); go_simp)
                    first | done | with_reducible rfl
                  simp only [Act.put, List.getElem_toArray, List.getElem_cons_zero, List.getElem_cons_succ, List.setIfInBounds_toArray, List.set_cons_zero, List.set_cons_succ]
                  refine wpAnyH_take (i := 13) (v := ?_) rfl (by kernel_rfl) (by kernel_rfl) (by kernel_rfl) (fun _ _ _ h => h) (Or.inl ⟨by rfl, ?_⟩) (by assumption) ?_
                  rotate_left
                  · (intro w hSw; (try dsimp only at hSw); go_simp)
                    first | done | with_reducible rfl
                  simp only [Act.put, List.getElem_toArray, List.getElem_cons_zero, List.getElem_cons_succ, List.setIfInBounds_toArray, List.set_cons_zero, List.set_cons_succ]
                  refine wpAnyH_take (i := 14) (v := ?_) rfl (by kernel_rfl) (by kernel_rfl) (by kernel_rfl) (fun _ _ _ h => h) (Or.inl ⟨by rfl, ?_⟩) (by assumption) ?_
                  rotate_left
                  · (intro w hSw; (try dsimp only at hSw); go_simp)
                    first | done | with_reducible rfl
                  simp only [Act.put, List.getElem_toArray, List.getElem_cons_zero, List.getElem_cons_succ, List.setIfInBounds_toArray, List.set_cons_zero, List.set_cons_succ]
                  refine wpAnyH_take (i := 15) (v := ?_) rfl (by kernel_rfl) (by kernel_rfl) (by kernel_rfl) (fun _ _ _ h => h) (Or.inl ⟨by rfl, ?_⟩) (by assumption) ?_
                  rotate_left
                  · (intro w hSw; (try dsimp only at hSw); go_simp)
                    first | done | with_reducible rfl
                  simp only [Act.put, List.getElem_toArray, List.getElem_cons_zero, List.getElem_cons_succ, List.setIfInBounds_toArray, List.set_cons_zero, List.set_cons_succ]
                  refine wpAnyH_take (i := 16) (v := ?_) rfl (by kernel_rfl) (by kernel_rfl) (by kernel_rfl) (fun _ _ _ h => h) (Or.inl ⟨by rfl, ?_⟩) (by assumption) ?_
                  rotate_left
                  · (intro w hSw; (try dsimp only at hSw); go_simp)
                    first | done | with_reducible rfl
                  simp only [Act.put, List.getElem_toArray, List.getElem_cons_zero, List.getElem_cons_succ, List.setIfInBounds_toArray, List.set_cons_zero, List.set_cons_succ]
                  try simp only [iw]
                  refine wpAnyH_ready (rs := [17]) (by kernel_rfl) (by simp) ?_
                  refine AllReadyH.cons rfl (fun K hK => ?_) AllReadyH.nil
                  go_simp
                  refine (ST.out _).mono ?_
                  rintro e w17 ⟨rfl, rfl⟩
                  refine hK.out _ _ ?_ (fun hHeld => ?_)
                  · exact ⟨hHeld.1, hHeld.2.1, hHeld.2.2.1, hHeld.2.2.2.1, hHeld.2.2.2.2⟩
                  clear hK K
                  try simp only [Act.put, List.getElem_toArray, List.getElem_cons_zero, List.getElem_cons_succ, List.setIfInBounds_toArray, List.set_cons_zero, List.set_cons_succ]
                  refine wpAnyH_take (i := 18) (v := ?_) rfl (by kernel_rfl) (by kernel_rfl) (by kernel_rfl) (fun _ _ _ h => h) (Or.inl ⟨by rfl, ?_⟩) (by assumption) ?_
                  rotate_left
                  · (intro w hSw; (try dsimp only at hSw); go_simp)
                    first | done | with_reducible rfl
                  simp only [Act.put, List.getElem_toArray, List.getElem_cons_zero, List.getElem_cons_succ, List.setIfInBounds_toArray, List.set_cons_zero, List.set_cons_succ]
                  refine wpAnyH_take (i := 19) (v := ?_) rfl (by kernel_rfl) (by kernel_rfl) (by kernel_rfl) (fun _ _ _ h => h) (Or.inl ⟨by rfl, ?_⟩) (by assumption) ?_
                  rotate_left
                  · (intro w hSw; (try dsimp only at hSw); go_simp)
                    first | done | with_reducible rfl
                  simp only [Act.put, List.getElem_toArray, List.getElem_cons_zero, List.getElem_cons_succ, List.setIfInBounds_toArray, List.set_cons_zero, List.set_cons_succ]
                  refine wpAnyH_take (i := 20) (v := ?_) rfl (by kernel_rfl) (by kernel_rfl) (by kernel_rfl) (fun _ _ _ h => h) (Or.inl ⟨by rfl, ?_⟩) (by assumption) ?_
                  rotate_left
                  · (intro w hSw; (try dsimp only at hSw); go_simp)
                    first | done | with_reducible rfl
                  simp only [Act.put, List.getElem_toArray, List.getElem_cons_zero, List.getElem_cons_succ, List.setIfInBounds_toArray, List.set_cons_zero, List.set_cons_succ]
                  refine wpAnyH_take (i := 21) rfl (by kernel_rfl) (by kernel_rfl) (by kernel_rfl) (fun _ _ _ h => h) (Or.inr ⟨by rfl, rfl⟩) (by assumption) ?_
                  simp only [Act.put, List.getElem_toArray, List.getElem_cons_zero, List.getElem_cons_succ, List.setIfInBounds_toArray, List.set_cons_zero, List.set_cons_succ]
                  refine wpAnyH_take (i := 22) rfl (by kernel_rfl) (by kernel_rfl) (by kernel_rfl) (fun _ _ _ h => h) (Or.inr ⟨by rfl, rfl⟩) (by assumption) ?_
                  simp only [Act.put, List.getElem_toArray, List.getElem_cons_zero, List.getElem_cons_succ, List.setIfInBounds_toArray, List.set_cons_zero, List.set_cons_succ]
                  refine wpAnyH_take (i := 23) rfl (by kernel_rfl) (by kernel_rfl) (by kernel_rfl) (fun _ _ _ h => h) (Or.inr ⟨by rfl, rfl⟩) (by assumption) ?_
                  simp only [Act.put, List.getElem_toArray, List.getElem_cons_zero, List.getElem_cons_succ, List.setIfInBounds_toArray, List.set_cons_zero, List.set_cons_succ]
                  refine wpAnyH_take (i := 24) rfl (by kernel_rfl) (by kernel_rfl) (by kernel_rfl) (fun _ _ _ h => h) (Or.inr ⟨by rfl, rfl⟩) (by assumption) ?_
                  simp only [Act.put, List.getElem_toArray, List.getElem_cons_zero, List.getElem_cons_succ, List.setIfInBounds_toArray, List.set_cons_zero, List.set_cons_succ]
                  refine wpAnyH_take (i := 25) rfl (by kernel_rfl) (by kernel_rfl) (by kernel_rfl) (fun _ _ _ h => h) (Or.inr ⟨by rfl, rfl⟩) (by assumption) ?_
                  simp only [Act.put, List.getElem_toArray, List.getElem_cons_zero, List.getElem_cons_succ, List.setIfInBounds_toArray, List.set_cons_zero, List.set_cons_succ]
                  refine wpAnyH_take (i := 26) rfl (by kernel_rfl) (by kernel_rfl) (by kernel_rfl) (fun _ _ _ h => h) (Or.inr ⟨by rfl, rfl⟩) (by assumption) ?_
                  simp only [Act.put, List.getElem_toArray, List.getElem_cons_zero, List.getElem_cons_succ, List.setIfInBounds_toArray, List.set_cons_zero, List.set_cons_succ]
                  refine wpAnyH_take (i := 27) rfl (by kernel_rfl) (by kernel_rfl) (by kernel_rfl) (fun _ _ _ h => h) (Or.inr ⟨by rfl, rfl⟩) (by assumption) ?_
                  simp only [Act.put, List.getElem_toArray, List.getElem_cons_zero, List.getElem_cons_succ, List.setIfInBounds_toArray, List.set_cons_zero, List.set_cons_succ]
                  refine wpAnyH_take (i := 28) rfl (by kernel_rfl) (by kernel_rfl) (by kernel_rfl) (fun _ _ _ h => h) (Or.inr ⟨by rfl, rfl⟩) (by assumption) ?_
                  simp only [Act.put, List.getElem_toArray, List.getElem_cons_zero, List.getElem_cons_succ, List.setIfInBounds_toArray, List.set_cons_zero, List.set_cons_succ]
                  refine wpAnyH_take (i := 29) rfl (by kernel_rfl) (by kernel_rfl) (by kernel_rfl) (fun _ _ _ h => h) (Or.inr ⟨by rfl, rfl⟩) (by assumption) ?_
                  simp only [Act.put, List.getElem_toArray, List.getElem_cons_zero, List.getElem_cons_succ, List.setIfInBounds_toArray, List.set_cons_zero, List.set_cons_succ]
                  refine wpAnyH_take (i := 30) rfl (by kernel_rfl) (by kernel_rfl) (by kernel_rfl) (fun _ _ _ h => h) (Or.inr ⟨by rfl, rfl⟩) (by assumption) ?_
                  simp only [Act.put, List.getElem_toArray, List.getElem_cons_zero, List.getElem_cons_succ, List.setIfInBounds_toArray, List.set_cons_zero, List.set_cons_succ]
                  refine wpAnyH_take (i := 31) (v := ?_) rfl (by kernel_rfl) (by kernel_rfl) (by kernel_rfl) (fun _ _ _ h => h) (Or.inl ⟨by rfl, ?_⟩) (by assumption) ?_
                  rotate_left
                  · (intro w hSw; (try dsimp only at hSw); go_simp)
                    first | done | with_reducible rfl
                  simp only [Act.put, List.getElem_toArray, List.getElem_cons_zero, List.getElem_cons_succ, List.setIfInBounds_toArray, List.set_cons_zero, List.set_cons_succ]
                  refine wpAnyH_done (by kernel_rfl) ?_ _
                  clear hHeld x0 x2 x3 z0 z1 z2
                  go_wp2_with fail
                  go_ret
                  exact ⟨by rw [HRR.out]; rfl, HU5.out⟩
                | true =>
                  rw [hf2] at ST HEP
                  clear hf2
                  cases hf3 : inB lb 0 ((labs.length : Int) - 1) with
                  | false =>
                    rw [hf3] at SI
                    have HRR := Lib.hid (show sysOk ⟨st, ini, labs, eds⟩ = false by rw [HOK2.out, HA2.out, HEP.out, hf3]; simp)
                    clear HOK2 HA2 HEP HPR5
                    clear hf3
                    refine wp_region_held_drew (S := fun w' => w'.cell? ⟨p, 0, none⟩ = some (ei st) ∧ w'.cell? ⟨p, 2, none⟩ = some (.slice a1 labs.length c1) ∧ w'.cell? ⟨BB, 0, none⟩ = some (ei fr) ∧ w'.cell? ⟨BB, 1, none⟩ = some (ei lb) ∧ w'.cell? ⟨BB, 2, none⟩ = some (ei td)) (by kernel_rfl) ?_ (fun hHeld => ?_)
                    · exact ⟨x0, x2, z0, z1, z2⟩
                    refine wpAnyH_take (i := 0) (v := ?_) rfl (by kernel_rfl) (by kernel_rfl) (by kernel_rfl) (fun _ _ _ h => h) (Or.inl ⟨by rfl, ?_⟩) (by assumption) ?_
                    rotate_left
                    · (intro w hSw; (try dsimp only at hSw); go_simp)
                      first | done | with_reducible rfl
                    simp only [Act.put, List.getElem_toArray, List.getElem_cons_zero, List.setIfInBounds_toArray, List.set_cons_zero, List.set_cons_succ]
                    refine wpAnyH_take (i := 1) (v := ?_) rfl (by kernel_rfl) (by kernel_rfl) (by kernel_rfl) (fun _ _ _ h => h) (Or.inl ⟨by rfl, ?_⟩) (by assumption) ?_
                    rotate_left
                    · (intro w hSw; (try dsimp only at hSw); go_simp)
                      first | done | with_reducible rfl
                    simp only [Act.put, List.getElem_toArray, List.getElem_cons_zero, List.getElem_cons_succ, List.setIfInBounds_toArray, List.set_cons_zero, List.set_cons_succ]
                    refine wpAnyH_take (i := 2) (v := ?_) rfl (by kernel_rfl) (by kernel_rfl) (by kernel_rfl) (fun _ _ _ h => h) (Or.inl ⟨by rfl, ?_⟩) (by assumption) ?_
                    rotate_left
                    · (intro w hSw; (try dsimp only at hSw); go_simp)
                      first | done | with_reducible rfl
                    simp only [Act.put, List.getElem_toArray, List.getElem_cons_zero, List.getElem_cons_succ, List.setIfInBounds_toArray, List.set_cons_zero, List.set_cons_succ]
                    refine wpAnyH_take (i := 3) (v := ?_) rfl (by kernel_rfl) (by kernel_rfl) (by kernel_rfl) (fun _ _ _ h => h) (Or.inl ⟨by rfl, ?_⟩) (by assumption) ?_
                    rotate_left
                    · (intro w hSw; (try dsimp only at hSw); go_simp)
                      first | done | with_reducible rfl
                    simp only [Act.put, List.getElem_toArray, List.getElem_cons_zero, List.getElem_cons_succ, List.setIfInBounds_toArray, List.set_cons_zero, List.set_cons_succ]
                    refine wpAnyH_take (i := 4) (v := ?_) rfl (by kernel_rfl) (by kernel_rfl) (by kernel_rfl) (fun _ _ _ h => h) (Or.inl ⟨by rfl, ?_⟩) (by assumption) ?_
                    rotate_left
                    · (intro w hSw; (try dsimp only at hSw); go_simp)
                      first | done | with_reducible rfl
                    simp only [Act.put, List.getElem_toArray, List.getElem_cons_zero, List.getElem_cons_succ, List.setIfInBounds_toArray, List.set_cons_zero, List.set_cons_succ]
                    refine wpAnyH_take (i := 5) (v := ?_) rfl (by kernel_rfl) (by kernel_rfl) (by kernel_rfl) (fun _ _ _ h => h) (Or.inl ⟨by rfl, ?_⟩) (by assumption) ?_
                    rotate_left
                    · (intro w hSw; (try dsimp only at hSw); go_simp)
                      first | done | with_reducible rfl
                    simp only [Act.put, List.getElem_toArray, List.getElem_cons_zero, List.getElem_cons_succ, List.setIfInBounds_toArray, List.set_cons_zero, List.set_cons_succ]
                    refine wpAnyH_take (i := 6) (v := ?_) rfl (by kernel_rfl) (by kernel_rfl) (by kernel_rfl) (fun _ _ _ h => h) (Or.inl ⟨by rfl, ?_⟩) (by assumption) ?_
                    rotate_left
                    · (intro w hSw; (try dsimp only at hSw); go_simp)
                      first | done | with_reducible rfl
                    simp only [Act.put, List.getElem_toArray, List.getElem_cons_zero, List.getElem_cons_succ, List.setIfInBounds_toArray, List.set_cons_zero, List.set_cons_succ]
                    try simp only [iw]
                    refine wpAnyH_ready (rs := [7]) (by kernel_rfl) (by simp) ?_
                    refine AllReadyH.cons rfl (fun K hK => ?_) AllReadyH.nil
                    go_simp
                    refine (SF.out _).mono ?_
                    rintro e w7 ⟨rfl, rfl⟩
                    refine hK.out _ _ ?_ (fun hHeld => ?_)
                    · exact ⟨hHeld.1, hHeld.2.1, hHeld.2.2.1, hHeld.2.2.2.1, hHeld.2.2.2.2⟩
                    clear hK K
                    try simp only [Act.put, List.getElem_toArray, List.getElem_cons_zero, List.getElem_cons_succ, List.setIfInBounds_toArray, List.set_cons_zero, List.set_cons_succ]
                    refine wpAnyH_take (i := 8) (v := ?_) rfl (by kernel_rfl) (by kernel_rfl) (by kernel_rfl) (fun _ _ _ h => h) (Or.inl ⟨by rfl, ?_⟩) (by assumption) ?_
                    rotate_left
                    · (intro w hSw; (try dsimp only at hSw); go_simp)
                      first | done | with_reducible rfl
                    simp only [Act.put, List.getElem_toArray, List.getElem_cons_zero, List.getElem_cons_succ, List.setIfInBounds_toArray, List.set_cons_zero, List.set_cons_succ]
                    refine wpAnyH_take (i := 9) (v := ?_) rfl (by kernel_rfl) (by kernel_rfl) (by kernel_rfl) (fun _ _ _ h => h) (Or.inl ⟨by rfl, ?_⟩) (by assumption) ?_
                    rotate_left
                    · (intro w hSw; (try dsimp only at hSw); go_simp)
                      first | done | with_reducible rfl
                    simp only [Act.put, List.getElem_toArray, List.getElem_cons_zero, List.getElem_cons_succ, List.setIfInBounds_toArray, List.set_cons_zero, List.set_cons_succ]
                    refine wpAnyH_take (i := 10) (v := ?_) rfl (by kernel_rfl) (by kernel_rfl) (by kernel_rfl) (fun _ _ _ h => h) (Or.inl ⟨by rfl, ?_⟩) (by assumption) ?_
                    rotate_left
                    · (intro w hSw; (try dsimp only at hSw); go_simp)
                      first | done | with_reducible rfl
                    simp only [Act.put, List.getElem_toArray, List.getElem_cons_zero, List.getElem_cons_succ, List.setIfInBounds_toArray, List.set_cons_zero, List.set_cons_succ]
                    refine wpAnyH_take (i := 11) (v := ?_) rfl (by kernel_rfl) (by kernel_rfl) (by kernel_rfl) (fun _ _ _ h => h) (Or.inl ⟨by rfl, ?_⟩) (by assumption) ?_
                    rotate_left
                    · (intro w hSw; (try dsimp only at hSw); go_simp)
                      first | done | with_reducible rfl
                    simp only [Act.put, List.getElem_toArray, List.getElem_cons_zero, List.getElem_cons_succ, List.setIfInBounds_toArray, List.set_cons_zero, List.set_cons_succ]
                    refine wpAnyH_take (i := 12) (v := ?_) rfl (by kernel_rfl) (by kernel_rfl) (by kernel_rfl) (fun _ _ _ h => h) (Or.inl ⟨by rfl, ?_⟩) (by assumption) ?_
                    rotate_left
                    · (intro w hSw; (try dsimp only at hSw); go_simp)
                      first | done | with_reducible rfl
                    simp only [Act.put, List.getElem_toArray, List.getElem_cons_zero, List.getElem_cons_succ, List.setIfInBounds_toArray, List.set_cons_zero, List.set_cons_succ]
                    refine wpAnyH_take (i := 13) (v := ?_) rfl (by kernel_rfl) (by kernel_rfl) (by kernel_rfl) (fun _ _ _ h => h) (Or.inl ⟨by rfl, ?_⟩) (by assumption) ?_
                    rotate_left
                    · (intro w hSw; (try dsimp only at hSw); go_simp)
                      first | done | with_reducible rfl
                    simp only [Act.put, List.getElem_toArray, List.getElem_cons_zero, List.getElem_cons_succ, List.setIfInBounds_toArray, List.set_cons_zero, List.set_cons_succ]
                    refine wpAnyH_take (i := 14) (v := ?_) rfl (by kernel_rfl) (by kernel_rfl) (by kernel_rfl) (fun _ _ _ h => h) (Or.inl ⟨by rfl, ?_⟩) (by assumption) ?_
                    rotate_left
                    · (intro w hSw; (try dsimp only at hSw); go_simp)
                      first | done | with_reducible rfl
                    simp only [Act.put, List.getElem_toArray, List.getElem_cons_zero, List.getElem_cons_succ, List.setIfInBounds_toArray, List.set_cons_zero, List.set_cons_succ]
                    refine wpAnyH_take (i := 15) (v := ?_) rfl (by kernel_rfl) (by kernel_rfl) (by kernel_rfl) (fun _ _ _ h => h) (Or.inl ⟨by rfl, ?_⟩) (by assumption) ?_
                    rotate_left
                    · (intro w hSw; (try dsimp only at hSw); go_simp)
                      first | done | with_reducible rfl
                    simp only [Act.put, List.getElem_toArray, List.getElem_cons_zero, List.getElem_cons_succ, List.setIfInBounds_toArray, List.set_cons_zero, List.set_cons_succ]
                    refine wpAnyH_take (i := 16) (v := ?_) rfl (by kernel_rfl) (by kernel_rfl) (by kernel_rfl) (fun _ _ _ h => h) (Or.inl ⟨by rfl, ?_⟩) (by assumption) ?_
                    rotate_left
                    · (intro w hSw; (try dsimp only at hSw); go_simp)
                      first | done | with_reducible rfl
                    simp only [Act.put, List.getElem_toArray, List.getElem_cons_zero, List.getElem_cons_succ, List.setIfInBounds_toArray, List.set_cons_zero, List.set_cons_succ]
                    try simp only [iw]
                    refine wpAnyH_ready (rs := [17]) (by kernel_rfl) (by simp) ?_
                    refine AllReadyH.cons rfl (fun K hK => ?_) AllReadyH.nil
                    go_simp
                    refine (ST.out _).mono ?_
                    rintro e w17 ⟨rfl, rfl⟩
                    refine hK.out _ _ ?_ (fun hHeld => ?_)
                    · exact ⟨hHeld.1, hHeld.2.1, hHeld.2.2.1, hHeld.2.2.2.1, hHeld.2.2.2.2⟩
                    clear hK K
                    try simp only [Act.put, List.getElem_toArray, List.getElem_cons_zero, List.getElem_cons_succ, List.setIfInBounds_toArray, List.set_cons_zero, List.set_cons_succ]
                    refine wpAnyH_take (i := 18) (v := ?_) rfl (by kernel_rfl) (by kernel_rfl) (by kernel_rfl) (fun _ _ _ h => h) (Or.inl ⟨by rfl, ?_⟩) (by assumption) ?_
                    rotate_left
                    · (intro w hSw; (try dsimp only at hSw); go_simp)
                      first | done | with_reducible rfl
                    simp only [Act.put, List.getElem_toArray, List.getElem_cons_zero, List.getElem_cons_succ, List.setIfInBounds_toArray, List.set_cons_zero, List.set_cons_succ]
                    refine wpAnyH_take (i := 19) (v := ?_) rfl (by kernel_rfl) (by kernel_rfl) (by kernel_rfl) (fun _ _ _ h => h) (Or.inl ⟨by rfl, ?_⟩) (by assumption) ?_
                    rotate_left
                    · (intro w hSw; (try dsimp only at hSw); go_simp)
                      first | done | with_reducible rfl
                    simp only [Act.put, List.getElem_toArray, List.getElem_cons_zero, List.getElem_cons_succ, List.setIfInBounds_toArray, List.set_cons_zero, List.set_cons_succ]
                    refine wpAnyH_take (i := 20) (v := ?_) rfl (by kernel_rfl) (by kernel_rfl) (by kernel_rfl) (fun _ _ _ h => h) (Or.inl ⟨by rfl, ?_⟩) (by assumption) ?_
                    rotate_left
                    · (intro w hSw; (try dsimp only at hSw); go_simp)
                      first | done | with_reducible rfl
                    simp only [Act.put, List.getElem_toArray, List.getElem_cons_zero, List.getElem_cons_succ, List.setIfInBounds_toArray, List.set_cons_zero, List.set_cons_succ]
                    refine wpAnyH_take (i := 21) (v := ?_) rfl (by kernel_rfl) (by kernel_rfl) (by kernel_rfl) (fun _ _ _ h => h) (Or.inl ⟨by rfl, ?_⟩) (by assumption) ?_
                    rotate_left
                    · (intro w hSw; (try dsimp only at hSw); go_simp)
                      first | done | with_reducible rfl
                    simp only [Act.put, List.getElem_toArray, List.getElem_cons_zero, List.getElem_cons_succ, List.setIfInBounds_toArray, List.set_cons_zero, List.set_cons_succ]
                    refine wpAnyH_take (i := 22) (v := ?_) rfl (by kernel_rfl) (by kernel_rfl) (by kernel_rfl) (fun _ _ _ h => h) (Or.inl ⟨by rfl, ?_⟩) (by assumption) ?_
                    rotate_left
                    · (intro w hSw; (try dsimp only at hSw); go_simp)
                      first | done | with_reducible rfl
                    simp only [Act.put, List.getElem_toArray, List.getElem_cons_zero, List.getElem_cons_succ, List.setIfInBounds_toArray, List.set_cons_zero, List.set_cons_succ]
                    refine wpAnyH_take (i := 23) (v := ?_) rfl (by kernel_rfl) (by kernel_rfl) (by kernel_rfl) (fun _ _ _ h => h) (Or.inl ⟨by rfl, ?_⟩) (by assumption) ?_
                    rotate_left
                    · (intro w hSw; (try dsimp only at hSw); go_simp)
                      first | done | with_reducible rfl
                    simp only [Act.put, List.getElem_toArray, List.getElem_cons_zero, List.getElem_cons_succ, List.setIfInBounds_toArray, List.set_cons_zero, List.set_cons_succ]
                    refine wpAnyH_take (i := 24) (v := ?_) rfl (by kernel_rfl) (by kernel_rfl) (by kernel_rfl) (fun _ _ _ h => h) (Or.inl ⟨by rfl, ?_⟩) (by assumption) ?_
                    rotate_left
                    · (intro w hSw; (try dsimp only at hSw); go_simp)
                      first | done | with_reducible rfl
                    simp only [Act.put, List.getElem_toArray, List.getElem_cons_zero, List.getElem_cons_succ, List.setIfInBounds_toArray, List.set_cons_zero, List.set_cons_succ]
                    refine wpAnyH_take (i := 25) (v := ?_) rfl (by kernel_rfl) (by kernel_rfl) (by kernel_rfl) (fun _ _ _ h => h) (Or.inl ⟨by rfl, ?_⟩) (by assumption) ?_
                    rotate_left
                    · (intro w hSw; (try dsimp only at hSw); go_simp)
                      first | done | with_reducible rfl
                    simp only [Act.put, List.getElem_toArray, List.getElem_cons_zero, List.getElem_cons_succ, List.setIfInBounds_toArray, List.set_cons_zero, List.set_cons_succ]
                    refine wpAnyH_take (i := 26) (v := ?_) rfl (by kernel_rfl) (by kernel_rfl) (by kernel_rfl) (fun _ _ _ h => h) (Or.inl ⟨by rfl, ?_⟩) (by assumption) ?_
                    rotate_left
                    · (intro w hSw; (try dsimp only at hSw); go_simp)
                      first | done | with_reducible rfl
                    simp only [Act.put, List.getElem_toArray, List.getElem_cons_zero, List.getElem_cons_succ, List.setIfInBounds_toArray, List.set_cons_zero, List.set_cons_succ]
                    refine wpAnyH_take (i := 27) (v := ?_) rfl (by kernel_rfl) (by kernel_rfl) (by kernel_rfl) (fun _ _ _ h => h) (Or.inl ⟨by rfl, ?_⟩) (by assumption) ?_
                    rotate_left
                    · (intro w hSw; (try dsimp only at hSw); go_simp)
                      first | done | with_reducible rfl
                    simp only [Act.put, List.getElem_toArray, List.getElem_cons_zero, List.getElem_cons_succ, List.setIfInBounds_toArray, List.set_cons_zero, List.set_cons_succ]
                    refine wpAnyH_take (i := 28) (v := ?_) rfl (by kernel_rfl) (by kernel_rfl) (by kernel_rfl) (fun _ _ _ h => h) (Or.inl ⟨by rfl, ?_⟩) (by assumption) ?_
                    rotate_left
                    · (intro w hSw; (try dsimp only at hSw); go_simp)
                      first | done | with_reducible rfl
                    simp only [Act.put, List.getElem_toArray, List.getElem_cons_zero, List.getElem_cons_succ, List.setIfInBounds_toArray, List.set_cons_zero, List.set_cons_succ]
                    try simp only [il]
                    refine wpAnyH_ready (rs := [29]) (by kernel_rfl) (by simp) ?_
                    refine AllReadyH.cons rfl (fun K hK => ?_) AllReadyH.nil
                    go_simp
                    refine (SI.out _).mono ?_
                    rintro e w29 ⟨rfl, rfl⟩
                    refine hK.out _ _ ?_ (fun hHeld => ?_)
                    · exact ⟨hHeld.1, hHeld.2.1, hHeld.2.2.1, hHeld.2.2.2.1, hHeld.2.2.2.2⟩
                    clear hK K
                    try simp only [Act.put, List.getElem_toArray, List.getElem_cons_zero, List.getElem_cons_succ, List.setIfInBounds_toArray, List.set_cons_zero, List.set_cons_succ]
                    refine wpAnyH_take (i := 30) (v := ?_) rfl (by kernel_rfl) (by kernel_rfl) (by kernel_rfl) (fun _ _ _ h => h) (Or.inl ⟨by rfl, ?_⟩) (by assumption) ?_
                    rotate_left
                    · (intro w hSw; (try dsimp only at hSw); go_simp)
                      first | done | with_reducible rfl
                    simp only [Act.put, List.getElem_toArray, List.getElem_cons_zero, List.getElem_cons_succ, List.setIfInBounds_toArray, List.set_cons_zero, List.set_cons_succ]
                    refine wpAnyH_take (i := 31) (v := ?_) rfl (by kernel_rfl) (by kernel_rfl) (by kernel_rfl) (fun _ _ _ h => h) (Or.inl ⟨by rfl, ?_⟩) (by assumption) ?_
                    rotate_left
                    · (intro w hSw; (try dsimp only at hSw); go_simp)
                      first | done | with_reducible rfl
                    simp only [Act.put, List.getElem_toArray, List.getElem_cons_zero, List.getElem_cons_succ, List.setIfInBounds_toArray, List.set_cons_zero, List.set_cons_succ]
                    refine wpAnyH_done (by kernel_rfl) ?_ _
                    clear hHeld x0 x2 x3 z0 z1 z2
                    go_wp2_with fail
                    go_ret
                    exact ⟨by rw [HRR.out]; rfl, HU5.out⟩
                  | true =>
                    rw [hf3] at SI HEP
                    clear hf3
                    refine wp_region_held_drew (S := fun w' => w'.cell? ⟨p, 0, none⟩ = some (ei st) ∧ w'.cell? ⟨p, 2, none⟩ = some (.slice a1 labs.length c1) ∧ w'.cell? ⟨BB, 0, none⟩ = some (ei fr) ∧ w'.cell? ⟨BB, 1, none⟩ = some (ei lb) ∧ w'.cell? ⟨BB, 2, none⟩ = some (ei td)) (by kernel_rfl) ?_ (fun hHeld => ?_)
                    · exact ⟨x0, x2, z0, z1, z2⟩
                    refine wpAnyH_take (i := 0) (v := ?_) rfl (by kernel_rfl) (by kernel_rfl) (by kernel_rfl) (fun _ _ _ h => h) (Or.inl ⟨by rfl, ?_⟩) (by assumption) ?_
                    rotate_left
                    · (intro w hSw; (try dsimp only at hSw); go_simp)
                      first | done | with_reducible rfl
                    simp only [Act.put, List.getElem_toArray, List.getElem_cons_zero, List.setIfInBounds_toArray, List.set_cons_zero, List.set_cons_succ]
                    refine wpAnyH_take (i := 1) (v := ?_) rfl (by kernel_rfl) (by kernel_rfl) (by kernel_rfl) (fun _ _ _ h => h) (Or.inl ⟨by rfl, ?_⟩) (by assumption) ?_
                    rotate_left
                    · (intro w hSw; (try dsimp only at hSw); go_simp)
                      first | done | with_reducible rfl
                    simp only [Act.put, List.getElem_toArray, List.getElem_cons_zero, List.getElem_cons_succ, List.setIfInBounds_toArray, List.set_cons_zero, List.set_cons_succ]
                    refine wpAnyH_take (i := 2) (v := ?_) rfl (by kernel_rfl) (by kernel_rfl) (by kernel_rfl) (fun _ _ _ h => h) (Or.inl ⟨by rfl, ?_⟩) (by assumption) ?_
                    rotate_left
                    · (intro w hSw; (try dsimp only at hSw); go_simp)
                      first | done | with_reducible rfl
                    simp only [Act.put, List.getElem_toArray, List.getElem_cons_zero, List.getElem_cons_succ, List.setIfInBounds_toArray, List.set_cons_zero, List.set_cons_succ]
                    refine wpAnyH_take (i := 3) (v := ?_) rfl (by kernel_rfl) (by kernel_rfl) (by kernel_rfl) (fun _ _ _ h => h) (Or.inl ⟨by rfl, ?_⟩) (by assumption) ?_
                    rotate_left
                    · (intro w hSw; (try dsimp only at hSw); go_simp)
                      first | done | with_reducible rfl
                    simp only [Act.put, List.getElem_toArray, List.getElem_cons_zero, List.getElem_cons_succ, List.setIfInBounds_toArray, List.set_cons_zero, List.set_cons_succ]
                    refine wpAnyH_take (i := 4) (v := ?_) rfl (by kernel_rfl) (by kernel_rfl) (by kernel_rfl) (fun _ _ _ h => h) (Or.inl ⟨by rfl, ?_⟩) (by assumption) ?_
                    rotate_left
                    · (intro w hSw; (try dsimp only at hSw); go_simp)
                      first | done | with_reducible rfl
                    simp only [Act.put, List.getElem_toArray, List.getElem_cons_zero, List.getElem_cons_succ, List.setIfInBounds_toArray, List.set_cons_zero, List.set_cons_succ]
                    refine wpAnyH_take (i := 5) (v := ?_) rfl (by kernel_rfl) (by kernel_rfl) (by kernel_rfl) (fun _ _ _ h => h) (Or.inl ⟨by rfl, ?_⟩) (by assumption) ?_
                    rotate_left
                    · (intro w hSw; (try dsimp only at hSw); go_simp)
                      first | done | with_reducible rfl
                    simp only [Act.put, List.getElem_toArray, List.getElem_cons_zero, List.getElem_cons_succ, List.setIfInBounds_toArray, List.set_cons_zero, List.set_cons_succ]
                    refine wpAnyH_take (i := 6) (v := ?_) rfl (by kernel_rfl) (by kernel_rfl) (by kernel_rfl) (fun _ _ _ h => h) (Or.inl ⟨by rfl, ?_⟩) (by assumption) ?_
                    rotate_left
                    · (intro w hSw; (try dsimp only at hSw); go_simp)
                      first | done | with_reducible rfl
                    simp only [Act.put, List.getElem_toArray, List.getElem_cons_zero, List.getElem_cons_succ, List.setIfInBounds_toArray, List.set_cons_zero, List.set_cons_succ]
                    try simp only [iw]
                    refine wpAnyH_ready (rs := [7]) (by kernel_rfl) (by simp) ?_
                    refine AllReadyH.cons rfl (fun K hK => ?_) AllReadyH.nil
                    go_simp
                    refine (SF.out _).mono ?_
                    rintro e w7 ⟨rfl, rfl⟩
                    refine hK.out _ _ ?_ (fun hHeld => ?_)
                    · exact ⟨hHeld.1, hHeld.2.1, hHeld.2.2.1, hHeld.2.2.2.1, hHeld.2.2.2.2⟩
                    clear hK K
                    try simp only [Act.put, List.getElem_toArray, List.getElem_cons_zero, List.getElem_cons_succ, List.setIfInBounds_toArray, List.set_cons_zero, List.set_cons_succ]
                    refine wpAnyH_take (i := 8) (v := ?_) rfl (by kernel_rfl) (by kernel_rfl) (by kernel_rfl) (fun _ _ _ h => h) (Or.inl ⟨by rfl, ?_⟩) (by assumption) ?_
                    rotate_left
                    · (intro w hSw; (try dsimp only at hSw); go_simp)
                      first | done | with_reducible rfl
                    simp only [Act.put, List.getElem_toArray, List.getElem_cons_zero, List.getElem_cons_succ, List.setIfInBounds_toArray, List.set_cons_zero, List.set_cons_succ]
                    refine wpAnyH_take (i := 9) (v := ?_) rfl (by kernel_rfl) (by kernel_rfl) (by kernel_rfl) (fun _ _ _ h => h) (Or.inl ⟨by rfl, ?_⟩) (by assumption) ?_
                    rotate_left
                    · (intro w hSw; (try dsimp only at hSw); go_simp)
                      first | done | with_reducible rfl
                    simp only [Act.put, List.getElem_toArray, List.getElem_cons_zero, List.getElem_cons_succ, List.setIfInBounds_toArray, List.set_cons_zero, List.set_cons_succ]
                    refine wpAnyH_take (i := 10) (v := ?_) rfl (by kernel_rfl) (by kernel_rfl) (by kernel_rfl) (fun _ _ _ h => h) (Or.inl ⟨by rfl, ?_⟩) (by assumption) ?_
                    rotate_left
                    · (intro w hSw; (try dsimp only at hSw); go_simp)
                      first | done | with_reducible rfl
                    simp only [Act.put, List.getElem_toArray, List.getElem_cons_zero, List.getElem_cons_succ, List.setIfInBounds_toArray, List.set_cons_zero, List.set_cons_succ]
                    refine wpAnyH_take (i := 11) (v := ?_) rfl (by kernel_rfl) (by kernel_rfl) (by kernel_rfl) (fun _ _ _ h => h) (Or.inl ⟨by rfl, ?_⟩) (by assumption) ?_
                    rotate_left
                    · (intro w hSw; (try dsimp only at hSw); go_simp)
                      first | done | with_reducible rfl
                    simp only [Act.put, List.getElem_toArray, List.getElem_cons_zero, List.getElem_cons_succ, List.setIfInBounds_toArray, List.set_cons_zero, List.set_cons_succ]
                    refine wpAnyH_take (i := 12) (v := ?_) rfl (by kernel_rfl) (by kernel_rfl) (by kernel_rfl) (fun _ _ _ h => h) (Or.inl ⟨by rfl, ?_⟩) (by assumption) ?_
                    rotate_left
                    · (intro w hSw; (try dsimp only at hSw); go_simp)
                      first | done | with_reducible rfl
                    simp only [Act.put, List.getElem_toArray, List.getElem_cons_zero, List.getElem_cons_succ, List.setIfInBounds_toArray, List.set_cons_zero, List.set_cons_succ]
                    refine wpAnyH_take (i := 13) (v := ?_) rfl (by kernel_rfl) (by kernel_rfl) (by kernel_rfl) (fun _ _ _ h => h) (Or.inl ⟨by rfl, ?_⟩) (by assumption) ?_
                    rotate_left
                    · (intro w hSw; (try dsimp only at hSw); go_simp)
                      first | done | with_reducible rfl
                    simp only [Act.put, List.getElem_toArray, List.getElem_cons_zero, List.getElem_cons_succ, List.setIfInBounds_toArray, List.set_cons_zero, List.set_cons_succ]
                    refine wpAnyH_take (i := 14) (v := ?_) rfl (by kernel_rfl) (by kernel_rfl) (by kernel_rfl) (fun _ _ _ h => h) (Or.inl ⟨by rfl, ?_⟩) (by assumption) ?_
                    rotate_left
                    · (intro w hSw; (try dsimp only at hSw); go_simp)
                      first | done | with_reducible rfl
                    simp only [Act.put, List.getElem_toArray, List.getElem_cons_zero, List.getElem_cons_succ, List.setIfInBounds_toArray, List.set_cons_zero, List.set_cons_succ]
                    refine wpAnyH_take (i := 15) (v := ?_) rfl (by kernel_rfl) (by kernel_rfl) (by kernel_rfl) (fun _ _ _ h => h) (Or.inl ⟨by rfl, ?_⟩) (by assumption) ?_
                    rotate_left
                    · (intro w hSw; (try dsimp only at hSw); go_simp)
                      first | done | with_reducible rfl
                    simp only [Act.put, List.getElem_toArray, List.getElem_cons_zero, List.getElem_cons_succ, List.setIfInBounds_toArray, List.set_cons_zero, List.set_cons_succ]
                    refine wpAnyH_take (i := 16) (v := ?_) rfl (by kernel_rfl) (by kernel_rfl) (by kernel_rfl) (fun _ _ _ h => h) (Or.inl ⟨by rfl, ?_⟩) (by assumption) ?_
                    rotate_left
                    · (intro w hSw; (try dsimp only at hSw); go_simp)
                      first | done | with_reducible rfl
                    simp only [Act.put, List.getElem_toArray, List.getElem_cons_zero, List.getElem_cons_succ, List.setIfInBounds_toArray, List.set_cons_zero, List.set_cons_succ]
                    try simp only [iw]
                    refine wpAnyH_ready (rs := [17]) (by kernel_rfl) (by simp) ?_
                    refine AllReadyH.cons rfl (fun K hK => ?_) AllReadyH.nil
                    go_simp
                    refine (ST.out _).mono ?_
                    rintro e w17 ⟨rfl, rfl⟩
                    refine hK.out _ _ ?_ (fun hHeld => ?_)
                    · exact ⟨hHeld.1, hHeld.2.1, hHeld.2.2.1, hHeld.2.2.2.1, hHeld.2.2.2.2⟩
                    clear hK K
                    try simp only [Act.put, List.getElem_toArray, List.getElem_cons_zero, List.getElem_cons_succ, List.setIfInBounds_toArray, List.set_cons_zero, List.set_cons_succ]
                    refine wpAnyH_take (i := 18) (v := ?_) rfl (by kernel_rfl) (by kernel_rfl) (by kernel_rfl) (fun _ _ _ h => h) (Or.inl ⟨by rfl, ?_⟩) (by assumption) ?_
                    rotate_left
                    · (intro w hSw; (try dsimp only at hSw); go_simp)
                      first | done | with_reducible rfl
                    simp only [Act.put, List.getElem_toArray, List.getElem_cons_zero, List.getElem_cons_succ, List.setIfInBounds_toArray, List.set_cons_zero, List.set_cons_succ]
                    refine wpAnyH_take (i := 19) (v := ?_) rfl (by kernel_rfl) (by kernel_rfl) (by kernel_rfl) (fun _ _ _ h => h) (Or.inl ⟨by rfl, ?_⟩) (by assumption) ?_
                    rotate_left
                    · (intro w hSw; (try dsimp only at hSw); go_simp)
                      first | done | with_reducible rfl
                    simp only [Act.put, List.getElem_toArray, List.getElem_cons_zero, List.getElem_cons_succ, List.setIfInBounds_toArray, List.set_cons_zero, List.set_cons_succ]
                    refine wpAnyH_take (i := 20) (v := ?_) rfl (by kernel_rfl) (by kernel_rfl) (by kernel_rfl) (fun _ _ _ h => h) (Or.inl ⟨by rfl, ?_⟩) (by assumption) ?_
                    rotate_left
                    · (intro w hSw; (try dsimp only at hSw); go_simp)
                      first | done | with_reducible rfl
                    simp only [Act.put, List.getElem_toArray, List.getElem_cons_zero, List.getElem_cons_succ, List.setIfInBounds_toArray, List.set_cons_zero, List.set_cons_succ]
                    refine wpAnyH_take (i := 21) (v := ?_) rfl (by kernel_rfl) (by kernel_rfl) (by kernel_rfl) (fun _ _ _ h => h) (Or.inl ⟨by rfl, ?_⟩) (by assumption) ?_
                    rotate_left
                    · (intro w hSw; (try dsimp only at hSw); go_simp)
                      first | done | with_reducible rfl
                    simp only [Act.put, List.getElem_toArray, List.getElem_cons_zero, List.getElem_cons_succ, List.setIfInBounds_toArray, List.set_cons_zero, List.set_cons_succ]
                    refine wpAnyH_take (i := 22) (v := ?_) rfl (by kernel_rfl) (by kernel_rfl) (by kernel_rfl) (fun _ _ _ h => h) (Or.inl ⟨by rfl, ?_⟩) (by assumption) ?_
                    rotate_left
                    · (intro w hSw; (try dsimp only at hSw); go_simp)
                      first | done | with_reducible rfl
                    simp only [Act.put, List.getElem_toArray, List.getElem_cons_zero, List.getElem_cons_succ, List.setIfInBounds_toArray, List.set_cons_zero, List.set_cons_succ]
                    refine wpAnyH_take (i := 23) (v := ?_) rfl (by kernel_rfl) (by kernel_rfl) (by kernel_rfl) (fun _ _ _ h => h) (Or.inl ⟨by rfl, ?_⟩) (by assumption) ?_
                    rotate_left
                    · (intro w hSw; (try dsimp only at hSw); go_simp)
                      first | done | with_reducible rfl
                    simp only [Act.put, List.getElem_toArray, List.getElem_cons_zero, List.getElem_cons_succ, List.setIfInBounds_toArray, List.set_cons_zero, List.set_cons_succ]
                    refine wpAnyH_take (i := 24) (v := ?_) rfl (by kernel_rfl) (by kernel_rfl) (by kernel_rfl) (fun _ _ _ h => h) (Or.inl ⟨by rfl, ?_⟩) (by assumption) ?_
                    rotate_left
                    · (intro w hSw; (try dsimp only at hSw); go_simp)
                      first | done | with_reducible rfl
                    simp only [Act.put, List.getElem_toArray, List.getElem_cons_zero, List.getElem_cons_succ, List.setIfInBounds_toArray, List.set_cons_zero, List.set_cons_succ]
                    refine wpAnyH_take (i := 25) (v := ?_) rfl (by kernel_rfl) (by kernel_rfl) (by kernel_rfl) (fun _ _ _ h => h) (Or.inl ⟨by rfl, ?_⟩) (by assumption) ?_
                    rotate_left
                    · (intro w hSw; (try dsimp only at hSw); go_simp)
                      first | done | with_reducible rfl
                    simp only [Act.put, List.getElem_toArray, List.getElem_cons_zero, List.getElem_cons_succ, List.setIfInBounds_toArray, List.set_cons_zero, List.set_cons_succ]
                    refine wpAnyH_take (i := 26) (v := ?_) rfl (by kernel_rfl) (by kernel_rfl) (by kernel_rfl) (fun _ _ _ h => h) (Or.inl ⟨by rfl, ?_⟩) (by assumption) ?_
                    rotate_left
                    · (intro w hSw; (try dsimp only at hSw); go_simp)
                      first | done | with_reducible rfl
                    simp only [Act.put, List.getElem_toArray, List.getElem_cons_zero, List.getElem_cons_succ, List.setIfInBounds_toArray, List.set_cons_zero, List.set_cons_succ]
                    refine wpAnyH_take (i := 27) (v := ?_) rfl (by kernel_rfl) (by kernel_rfl) (by kernel_rfl) (fun _ _ _ h => h) (Or.inl ⟨by rfl, ?_⟩) (by assumption) ?_
                    rotate_left
                    · (intro w hSw; (try dsimp only at hSw); go_simp)
                      first | done | with_reducible rfl
                    simp only [Act.put, List.getElem_toArray, List.getElem_cons_zero, List.getElem_cons_succ, List.setIfInBounds_toArray, List.set_cons_zero, List.set_cons_succ]
                    refine wpAnyH_take (i := 28) (v := ?_) rfl (by kernel_rfl) (by kernel_rfl) (by kernel_rfl) (fun _ _ _ h => h) (Or.inl ⟨by rfl, ?_⟩) (by assumption) ?_
                    rotate_left
                    · (intro w hSw; (try dsimp only at hSw); go_simp)
                      first | done | with_reducible rfl
                    simp only [Act.put, List.getElem_toArray, List.getElem_cons_zero, List.getElem_cons_succ, List.setIfInBounds_toArray, List.set_cons_zero, List.set_cons_succ]
                    try simp only [il]
                    refine wpAnyH_ready (rs := [29]) (by kernel_rfl) (by simp) ?_
                    refine AllReadyH.cons rfl (fun K hK => ?_) AllReadyH.nil
                    go_simp
                    refine (SI.out _).mono ?_
                    rintro e w29 ⟨rfl, rfl⟩
                    refine hK.out _ _ ?_ (fun hHeld => ?_)
                    · exact ⟨hHeld.1, hHeld.2.1, hHeld.2.2.1, hHeld.2.2.2.1, hHeld.2.2.2.2⟩
                    clear hK K
                    try simp only [Act.put, List.getElem_toArray, List.getElem_cons_zero, List.getElem_cons_succ, List.setIfInBounds_toArray, List.set_cons_zero, List.set_cons_succ]
                    refine wpAnyH_take (i := 30) (v := ?_) rfl (by kernel_rfl) (by kernel_rfl) (by kernel_rfl) (fun _ _ _ h => h) (Or.inl ⟨by rfl, ?_⟩) (by assumption) ?_
                    rotate_left
                    · (intro w hSw; (try dsimp only at hSw); go_simp)
                      first | done | with_reducible rfl
                    simp only [Act.put, List.getElem_toArray, List.getElem_cons_zero, List.getElem_cons_succ, List.setIfInBounds_toArray, List.set_cons_zero, List.set_cons_succ]
                    refine wpAnyH_take (i := 31) (v := ?_) rfl (by kernel_rfl) (by kernel_rfl) (by kernel_rfl) (fun _ _ _ h => h) (Or.inl ⟨by rfl, ?_⟩) (by assumption) ?_
                    rotate_left
                    · (intro w hSw; (try dsimp only at hSw); go_simp)
                      first | done | with_reducible rfl
                    simp only [Act.put, List.getElem_toArray, List.getElem_cons_zero, List.getElem_cons_succ, List.setIfInBounds_toArray, List.set_cons_zero, List.set_cons_succ]
                    refine wpAnyH_done (by kernel_rfl) ?_ _
                    have HZ0 := Lib.hid (show w5.drew.cell? ⟨BB, 0, none⟩ = some (ei fr) ∧ w5.drew.cell? ⟨BB, 1, none⟩ = some (ei lb) ∧ w5.drew.cell? ⟨BB, 2, none⟩ = some (ei td) ∧ w5.drew.cell? ⟨p, 3, none⟩ = some (.slice (some ⟨b1, o1, none⟩) eds.length c2) from ⟨z0, z1, z2, x3⟩)
                    obtain ⟨w6, hw6⟩ : ∃ w6, w6 = w5.drew := ⟨_, rfl⟩
                    rw [← hw6] at HZ0 HPR5 HU5 ⊢
                    clear hHeld x0 x2 x3 z0 z1 z2 hw6 SF ST SI
                    obtain ⟨m0, m1, m2, m3⟩ := HZ0.out
                    by_cases k0 : k = 0
                    · have HA3 := Lib.hid (show allF (edP ⟨st, ini, labs, eds⟩) (k + 1) (eds.length - (k + 1)) = allF (edP ⟨st, ini, labs, eds⟩) 0 eds.length by rw [HA2.out, HEP.out, decide_eq_true k0]; simp)
                      have kN : decide (0 < k) = false := by rw [k0]; rfl
                      have kI : ¬ (0 : Int) < (k : Int) := by omega
                      have kM : ¬ 0 < k := by omega
                      clear HA2 HEP k0 HPR5 m0 m1 m2 HZ0
                      go_wp2_with fail
                      go_roundw
                      case rel => exact ⟨k + 1, by omega, by go_num, HA3, HU5.out⟩
                      case measure => simp [intOf]; omega
                    · obtain ⟨q0, q1, q2⟩ := HPR5.out (by omega)
                      have kN : decide (0 < k) = true := decide_eq_true (by omega)
                      have kI : (0 : Int) < (k : Int) := by omega
                      have kM : 0 < k := by omega
                      have kF : decide (k = 0) = false := decide_eq_false k0
                      rw [kF] at HEP
                      have i0 : IntKind.i64.wrap ((k : Int) - 1) = (k : Int) - 1 := IntWalk.i64_in _ (by omega)
                      have i1 : ((k : Int) - 1).toNat = k - 1 := by omega
                      have i3 : (0 : Int) ≤ (k : Int) - 1 := by omega
                      have i5 : (1 : Int) ≤ (k : Int) := by omega
                      have i4 : (k : Int) - 1 < (eds.length : Int) := by omega
                      have SC := Lib.hid (lessS pk ⟨fr, lb, td⟩ b1 (o1 + (k - 1) * 3) BB 0 w6 q0 q1 q2 m0 m1 m2)
                      clear HPR5 HZ0 k0 kF q0 q1 q2 m0 m1 m2
                      cases hlt9 : edLt pk ⟨fr, lb, td⟩ with
                      | false =>
                        rw [hlt9] at SC HEP
                        have HRR := Lib.hid (show sysOk ⟨st, ini, labs, eds⟩ = false by rw [HOK2.out, HA2.out, HEP.out]; simp)
                        clear hlt9 HOK2 HA2 HEP
                        go_wp2_with fail
                        refine SC.out.mono ?_
                        rintro e w7 ⟨rfl, hu7⟩
                        have HU7 := Lib.hid (HU5.out.trans hu7)
                        clear SC hu7 HU5 m3
                        go_wp2_with fail
                        go_ret
                        exact ⟨by rw [HRR.out]; rfl, HU7.out⟩
                      | true =>
                        rw [hlt9] at SC HEP
                        have HA3 := Lib.hid (show allF (edP ⟨st, ini, labs, eds⟩) (k + 1) (eds.length - (k + 1)) = allF (edP ⟨st, ini, labs, eds⟩) 0 eds.length by rw [HA2.out, HEP.out]; simp)
                        clear hlt9 HA2 HEP
                        go_wp2_with fail
                        refine SC.out.mono ?_
                        rintro e w7 ⟨rfl, hu7⟩
                        have HU7 := Lib.hid (HU5.out.trans hu7)
                        clear SC hu7 HU5 m3
                        go_wp2_with fail
                        go_roundw
                        case rel => exact ⟨k + 1, by omega, by go_num, HA3, HU7.out⟩
                        case measure => simp [intOf]; omega
            · obtain rfl : k = eds.length := by omega
              have HRR := Lib.hid (show sysOk ⟨st, ini, labs, eds⟩ = true by rw [HOK2.out, ← HA.out]; exact allF_end _ _)
              have HU := Lib.hid hU
              clear hlt hk HA hU HOK2
              go_wp2_with fail
              go_ret
              exact ⟨by rw [HRR.out]; rfl, HU.out⟩

end Go.Proofs.YtcnaapiljmgfoaaGreatDoor

/-
  The image of a system: what the program's call returns.
-/
namespace Go.Proofs.YtcnaapiljmgfoaaGreatDoor
open Go.RowKit

theorem isLab_le {s : List UInt8} (h : isLab s = true) : s.length ≤ 100 := by
  obtain ⟨nm, vs, hl⟩ : ∃ nm vs, labT nm vs = some s := by
    unfold isLab readF at h
    split at h
    · split at h
      · simp at h
      · split at h
        · next hq => exact ⟨_, _, hq⟩
        · simp at h
    · split at h
      · next hq => exact ⟨_, _, hq⟩
      · simp at h
  unfold labT at hl
  split at hl
  · split at hl
    · cases hl; simp [tauL]
    · simp at hl
  · split at hl
    · next hc =>
      simp only [Bool.and_eq_true, decide_eq_true_eq] at hc
      obtain ⟨⟨ha, h2⟩, hv⟩ := hc
      have hn : nm.length ≤ 10 := by unfold actF nameF at ha; simp only [Bool.and_eq_true, decide_eq_true_eq] at ha; omega
      split at hl
      · cases hl; omega
      · cases hl
        have := joinC_le 44 30 (vs.map Lib.itoa) (by
          intro p hp
          obtain ⟨x, hx, rfl⟩ := List.mem_map.1 hp
          exact (isV_itoa (List.all_eq_true.1 hv x hx)).2)
        have h3 : (vs.map Lib.itoa).length * (30 + 1) ≤ 2 * 31 := Nat.mul_le_mul (by simpa using h2) (by omega)
        simp only [List.length_append, List.length_cons, List.length_nil, txtV]
        omega
    · simp at hl

theorem allF_get {P : Nat → Bool} : ∀ {k m : Nat}, allF P k m = true → ∀ i, k ≤ i → i < k + m → P i = true
  | _, 0, _, i, h1, h2 => by omega
  | k, m + 1, h, i, h1, h2 => by
    rw [allF, Bool.and_eq_true] at h
    by_cases hk : i = k
    · rw [hk]; exact h.1
    · exact allF_get h.2 i (by omega) (by omega)

/-- what a valid system's parts are. -/
theorem sys_parts {x : Sys} (h : sysOk x = true) : (1 ≤ x.st ∧ x.st ≤ 40) ∧ (0 ≤ x.ini ∧ x.ini ≤ 39) ∧ (1 ≤ x.labs.length ∧ x.labs.length ≤ 12) ∧ x.eds.length ≤ 300 ∧ (∀ s ∈ x.labs, s.length ≤ 100) ∧
    ∀ e ∈ x.eds, (0 ≤ e.fr ∧ e.fr ≤ 2000000) ∧ (0 ≤ e.lb ∧ e.lb ≤ 2000000) ∧ (0 ≤ e.to ∧ e.to ≤ 2000000) := by
  unfold sysOk labsOk at h
  simp only [Bool.and_eq_true, decide_eq_true_eq] at h
  obtain ⟨⟨⟨⟨h1, h2⟩, ⟨h3, h4⟩, h5⟩, h6⟩, h7⟩ := h
  have g1 := inB_true h1
  have g2 := inB_true h2
  refine ⟨g1, by omega, ⟨h3, h4⟩, h6, ?_, ?_⟩
  · intro s hs
    obtain ⟨i, hi, rfl⟩ := List.getElem_of_mem hs
    have := allF_get h5 i (by omega) (by omega)
    rw [labP_at _ _ hi] at this
    simp only [Bool.and_eq_true] at this
    exact isLab_le this.1.1
  · intro e he
    obtain ⟨i, hi, rfl⟩ := List.getElem_of_mem he
    have := allF_get h7 i (by omega) (by omega)
    rw [edP_at _ _ hi] at this
    simp only [Bool.and_eq_true] at this
    obtain ⟨⟨⟨q1, q2⟩, q3⟩, -⟩ := this
    have r1 := inB_true q1
    have r2 := inB_true q2
    have r3 := inB_true q3
    omega

theorem flat_le {α : Type} (f : α → List UInt8) (c : Nat) : ∀ l : List α, (∀ x ∈ l, (f x).length ≤ c) → (l.flatMap f).length ≤ c * l.length
  | [], _ => by simp
  | x :: l, h => by
    have h1 := h x (by simp)
    have h2 := flat_le f c l (fun y hy => h y (by simp [hy]))
    rw [List.flatMap_cons, List.length_append, List.length_cons, Nat.mul_succ]
    omega

def edB (e : Ed) : List UInt8 := (numL e.fr.toNat ++ numL e.lb.toNat) ++ numL e.to.toNat
theorem textL_le {s : List UInt8} (h : s.length ≤ 100) : (textL s).length ≤ 103 := by
  unfold textL
  have := numL_len s.length 2 (by omega)
  simp only [List.length_append]; omega
theorem num3 {n : Int} (h0 : 0 ≤ n) (h : n ≤ 2000000) : (numL n.toNat).length ≤ 3 := numL_len n.toNat 2 (by omega)
theorem edB_le {e : Ed} (h : (0 ≤ e.fr ∧ e.fr ≤ 2000000) ∧ (0 ≤ e.lb ∧ e.lb ≤ 2000000) ∧ (0 ≤ e.to ∧ e.to ≤ 2000000)) : (edB e).length ≤ 9 := by
  unfold edB
  have h1 := num3 h.1.1 h.1.2
  have h2 := num3 h.2.1.1 h.2.1.2
  have h3 := num3 h.2.2.1 h.2.2.2
  simp only [List.length_append]; omega

end Go.Proofs.YtcnaapiljmgfoaaGreatDoor

/-
  IsBisimulationOf: what the reference's call returns.
-/
namespace Go.Proofs.YtcnaapiljmgfoaaGreatDoor
open Go.RowKit

/-- pairs are a strong bisimulation of two systems with their initial states. -/
def bisF (A B : Sys) (R : List (List Int)) : Bool := sysOk A && sysOk B && pairsF R A.st B.st && hasP R A.ini B.ini && holdsF A B R
theorem pairsF_two {R : List (List Int)} {a b : Int} (h : pairsF R a b = true) : ∀ p ∈ R, p.length = 2 := by
  intro p hp
  obtain ⟨i, hi, rfl⟩ := List.getElem_of_mem hp
  have h2 := allF_get h i (by omega) (by omega)
  unfold pairP at h2
  have gk : R.getD i [] = R[i] := by rw [List.getD_eq_getElem?_getD, List.getElem?_eq_getElem hi]; rfl
  rw [gk] at h2
  simp only [Bool.and_eq_true, beq_iff_eq] at h2
  exact h2.1.1.1
theorem sys_labs {x : Sys} (h : sysOk x = true) : ∀ e ∈ x.eds, 0 ≤ e.lb ∧ e.lb < x.labs.length := by
  intro e he
  unfold sysOk at h
  simp only [Bool.and_eq_true] at h
  obtain ⟨i, hi, rfl⟩ := List.getElem_of_mem he
  have := allF_get h.2 i (by omega) (by omega)
  rw [edP_at _ _ hi] at this
  simp only [Bool.and_eq_true] at this
  have r3 := inB_true this.1.2
  omega

set_option maxRecDepth 20000 in
set_option maxHeartbeats 8000000 in
theorem bisS (A B : Sys) (a1 a2 b1 b2 : Value) (v : Value) (R : List (List Int)) (w : World) (f1 f2 f3 f4 fr : List Nat)
    (hA1 : RS f1 w [a1] A.labs) (hA2 : R_E1 f2 w [a2] A.eds) (hB1 : RS f3 w [b1] B.labs) (hB2 : R_E1 f4 w [b2] B.eds) (hR : R_N2 fr w [v] R)
    (hpA : ∀ p ∈ A.labs, p.length ≤ 2000000) (hpB : ∀ p ∈ B.labs, p.length ≤ 2000000) :
    Calls Tryz.prog 9 #[.agg #[ei A.st, ei A.ini, a1, a2], .agg #[ei B.st, ei B.ini, b1, b2], v] w fun e w' => e = .returned (.bool (bisF A B R)) ∧ Upd [] w w' := by
  obtain ⟨rv, rc, hv, -, -, -⟩ := slP_open hR
  subst hv
  obtain ⟨wA, hwA⟩ : ∃ wA, wA = w.alloc (.cells #[ei A.st, ei A.ini, a1, a2] 32) := ⟨_, rfl⟩
  obtain ⟨wB, hwB⟩ : ∃ wB, wB = wA.alloc (.cells #[ei B.st, ei B.ini, b1, b2] 32) := ⟨_, rfl⟩
  have uA : Upd [] w wA := by rw [hwA]; exact (Upd.refl _ _).alloc _
  have uB : Upd [] wA wB := by rw [hwB]; exact (Upd.refl _ _).alloc _
  have sA : SysAt w.heap.size wA A.st A.ini a1 a2 := by rw [hwA]; exact heap_alloc_new w _
  have sB : SysAt wA.heap.size wB B.st B.ini b1 b2 := by rw [hwB]; exact heap_alloc_new wA _
  have zA : wA.heap.size = w.heap.size + 1 := by rw [hwA]; simp
  rw [zA] at sB
  obtain ⟨Ta, hTa⟩ : ∃ Ta, Ta = w.heap.size := ⟨_, rfl⟩
  rw [← hTa] at sA sB zA
  have U0 := Lib.hid (uA.trans uB)
  have HS := Lib.hid (fun W (hu : Upd [] wB W) => And.intro ((sA.upd uB (by simp)).upd hu (by simp)) (sB.upd hu (by simp)))
  have K1 := Lib.hid (fun W (hu : Upd [] wB W) => RSk.upd hA1 ((uA.trans uB).trans hu) (by simp))
  have K2 := Lib.hid (fun W (hu : Upd [] wB W) => R_E1k.upd hA2 ((uA.trans uB).trans hu) (by simp))
  have K3 := Lib.hid (fun W (hu : Upd [] wB W) => RSk.upd hB1 ((uA.trans uB).trans hu) (by simp))
  have K4 := Lib.hid (fun W (hu : Upd [] wB W) => R_E1k.upd hB2 ((uA.trans uB).trans hu) (by simp))
  have K5 := Lib.hid (fun W (hu : Upd [] wB W) => R_N2k.upd hR ((uA.trans uB).trans hu) (by simp))
  have C1 := Lib.hid (fun W (hu : Upd [] wB W) => isS A Ta a1 a2 W f1 f2 (HS.out W hu).1.facts.1 (HS.out W hu).1.facts.2.1 (HS.out W hu).1.facts.2.2.1 (HS.out W hu).1.facts.2.2.2.1 (K1.out W hu) (K2.out W hu) hpA)
  have C2 := Lib.hid (fun W (hu : Upd [] wB W) => isS B (Ta + 1) b1 b2 W f3 f4 (HS.out W hu).2.facts.1 (HS.out W hu).2.facts.2.1 (HS.out W hu).2.facts.2.2.1 (HS.out W hu).2.facts.2.2.2.1 (K3.out W hu) (K4.out W hu) hpB)
  have T1 := Lib.hid (C1.out wB (Upd.refl _ _))
  have HB := Lib.hid (show bisF A B R = (sysOk A && sysOk B && pairsF R A.st B.st && hasP R A.ini B.ini && holdsF A B R) from rfl)
  clear uA uB sA sB hA1 hA2 hB1 hB2 hR hpA hpB C1
  generalize bisF A B R = Z at *
  go_enter Tryz.func9, Tryz.ntmps9
  go_wp2_with fail
  rw [← hwA, ← hTa, ← hwB]
  clear hwA hwB hTa
  cases okA : sysOk A with
  | false =>
    have HE := Lib.hid (show Z = false by rw [HB.out, okA]; rfl)
    rw [okA] at T1
    clear HB okA
    refine T1.out.mono ?_
    rintro e w1 ⟨rfl, hu1⟩
    have HU := Lib.hid (U0.out.trans hu1)
    clear T1 hu1
    go_wp2_with fail
    go_ret
    exact ⟨by rw [HE.out]; rfl, HU.out⟩
  | true =>
    rw [okA] at T1
    obtain ⟨gA1, gA2, gA3, gA4, -, -⟩ := sys_parts okA
    have HLA := Lib.hid (sys_labs okA)
    refine T1.out.mono ?_
    rintro e w1 ⟨rfl, hu1⟩
    have T2 := Lib.hid (C2.out w1 hu1)
    have V1 := Lib.hid hu1
    clear T1 hu1 C2
    cases okB : sysOk B with
    | false =>
      have HE := Lib.hid (show Z = false by rw [HB.out, okA, okB]; rfl)
      rw [okB] at T2
      clear HB okA okB
      go_wp2_with fail
      refine T2.out.mono ?_
      rintro e w2 ⟨rfl, hu2⟩
      have HU := Lib.hid (U0.out.trans (V1.out.trans hu2))
      clear T2 hu2
      go_wp2_with fail
      go_ret
      exact ⟨by rw [HE.out]; rfl, HU.out⟩
    | true =>
      rw [okB] at T2
      obtain ⟨gB1, gB2, gB3, gB4, -, -⟩ := sys_parts okB
      have HLB := Lib.hid (sys_labs okB)
      have HB2 := Lib.hid (show Z = (pairsF R A.st B.st && hasP R A.ini B.ini && holdsF A B R) by rw [HB.out, okA, okB]; rfl)
      clear HB okA okB
      go_wp2_with fail
      refine T2.out.mono ?_
      rintro e w2 ⟨rfl, hu2⟩
      have V2 := Lib.hid (V1.out.trans hu2)
      obtain ⟨x0, x1, -, -, -⟩ := (HS.out w2 V2.out).1.facts
      obtain ⟨y0, y1, -, -, -⟩ := (HS.out w2 V2.out).2.facts
      have T3 := Lib.hid (pairsS _ R A.st B.st w2 fr (K5.out w2 V2.out) (by omega) (by omega))
      clear T2 hu2 V1
      cases hp : pairsF R A.st B.st with
      | false =>
        have HE := Lib.hid (show Z = false by rw [HB2.out, hp]; rfl)
        rw [hp] at T3
        clear HB2 hp
        go_wp2_with fail
        refine T3.out.mono ?_
        rintro e w3 ⟨rfl, hu3⟩
        have HU := Lib.hid (U0.out.trans (V2.out.trans hu3))
        clear T3 hu3
        go_wp2_with fail
        go_ret
        exact ⟨by rw [HE.out]; rfl, HU.out⟩
      | true =>
        have h2 := Lib.hid (pairsF_two hp)
        rw [hp] at T3
        go_wp2_with fail
        refine T3.out.mono ?_
        rintro e w3 ⟨rfl, hu3⟩
        have V3 := Lib.hid (V2.out.trans hu3)
        obtain ⟨x0, x1, x2, x3, -⟩ := (HS.out w3 V3.out).1.facts
        obtain ⟨y0, y1, y2, y3, -⟩ := (HS.out w3 V3.out).2.facts
        have T4 := Lib.hid (hasPS _ R A.ini B.ini w3 fr (K5.out w3 V3.out) h2.out)
        have T5 := Lib.hid (holdsS A B Ta (Ta + 1) a1 a2 b1 b2 _ R w3 f1 f2 f3 f4 fr x2 x3 y2 y3 (K1.out w3 V3.out) (K2.out w3 V3.out) (K3.out w3 V3.out) (K4.out w3 V3.out) (K5.out w3 V3.out) h2.out HLA.out HLB.out (by omega) (by omega))
        clear T3 hu3 V2 x2 x3 y2 y3
        cases hh : hasP R A.ini B.ini with
        | false =>
          have HE := Lib.hid (show Z = false by rw [HB2.out, hp, hh]; rfl)
          rw [hh] at T4
          clear HB2 hp hh T5
          go_wp2_with fail
          refine T4.out.mono ?_
          rintro e w4 ⟨rfl, rfl⟩
          clear T4
          go_wp2_with fail
          go_ret
          exact ⟨by rw [HE.out]; rfl, U0.out.trans V3.out⟩
        | true =>
          have HE := Lib.hid (show Z = holdsF A B R by rw [HB2.out, hp, hh]; rfl)
          rw [hh] at T4
          clear HB2 hp hh
          go_wp2_with fail
          refine T4.out.mono ?_
          rintro e w4 ⟨rfl, rfl⟩
          clear T4
          go_wp2_with fail
          refine T5.out.mono ?_
          rintro e w5 ⟨rfl, hu5⟩
          have HU := Lib.hid (U0.out.trans (V3.out.trans hu5))
          clear T5 hu5
          go_wp2_with fail
          go_ret
          exact ⟨by rw [HE.out]; rfl, HU.out⟩

end Go.Proofs.YtcnaapiljmgfoaaGreatDoor

/-
  Relations between systems: the states that an edge with a label leads to; the plain part.
-/
namespace Go.Proofs.YtcnaapiljmgfoaaGreatDoor
open Go.RowKit

theorem bl_irr : ∀ a : List UInt8, bl a a = false
  | [] => rfl
  | x :: xs => by
    have ih := bl_irr xs
    unfold bl at ih ⊢
    simp only [Op.bytesLess]
    simp [ih]
theorem bl_trans : ∀ a b c : List UInt8, bl a b = true → bl b c = true → bl a c = true
  | [], [], _, h, _ => by simp [bl, Op.bytesLess] at h
  | [], _ :: _, [], _, h => by simp [bl, Op.bytesLess] at h
  | [], _ :: _, _ :: _, _, _ => by simp [bl, Op.bytesLess]
  | _ :: _, [], _, h, _ => by simp [bl, Op.bytesLess] at h
  | _ :: _, _ :: _, [], _, h => by simp [bl, Op.bytesLess] at h
  | x :: xs, y :: ys, z :: zs, h1, h2 => by
    have ih := bl_trans xs ys zs
    unfold bl at *
    simp only [Op.bytesLess, Bool.or_eq_true, Bool.and_eq_true, decide_eq_true_eq, beq_iff_eq] at h1 h2 ⊢
    rcases h1 with h1 | ⟨h1, g1⟩ <;> rcases h2 with h2 | ⟨h2, g2⟩
    · exact Or.inl (UInt8.lt_trans h1 h2)
    · exact Or.inl (h2 ▸ h1)
    · exact Or.inl (h1 ▸ h2)
    · exact Or.inr ⟨h1.trans h2, ih g1 g2⟩

/-- the labels of a valid system differ. -/
theorem labs_inj {labs : List (List UInt8)} (h : labsOk labs = true) : ∀ i j : Nat, i < labs.length → j < labs.length → labs.getD i [] = labs.getD j [] → i = j := by
  unfold labsOk at h
  simp only [Bool.and_eq_true] at h
  have hall := allF_get h.2
  have h0 : ∀ i, i < labs.length → labs.getD i [] = tauL → i = 0 := by
    intro i hi he
    have := hall i (by omega) (by omega)
    unfold labP at this
    simp only [Bool.and_eq_true, beq_iff_eq] at this
    have h1 := this.1.2
    rw [beq_iff_eq.2 he] at h1
    exact of_decide_eq_true h1.symm
  have ht : 0 < labs.length → labs.getD 0 [] = tauL := by
    intro hi
    have := hall 0 (by omega) (by omega)
    unfold labP at this
    simp only [Bool.and_eq_true, beq_iff_eq] at this
    have h1 := this.1.2
    simpa using h1
  have hlt : ∀ d i, 1 ≤ i → i + d + 1 < labs.length → bl (labs.getD i []) (labs.getD (i + d + 1) []) = true := by
    intro d
    induction d with
    | zero =>
      intro i h1 h2
      have := hall (i + 1) (by omega) (by omega)
      unfold labP at this
      simp only [Bool.and_eq_true] at this
      have h3 := this.2
      rw [decide_eq_true (show 1 < i + 1 by omega)] at h3
      simpa using h3
    | succ d ih =>
      intro i h1 h2
      have g1 := ih i h1 (by omega)
      have := hall (i + (d + 1) + 1) (by omega) (by omega)
      unfold labP at this
      simp only [Bool.and_eq_true] at this
      have h3 := this.2
      rw [decide_eq_true (show 1 < i + (d + 1) + 1 by omega)] at h3
      rw [show i + (d + 1) + 1 - 1 = i + d + 1 by omega] at h3
      exact bl_trans _ _ _ g1 (by simpa using h3)
  have main : ∀ i j, i < j → j < labs.length → labs.getD i [] ≠ labs.getD j [] := by
    intro i j hij hj he
    by_cases hi : i = 0
    · subst hi
      have := h0 j hj (he ▸ ht (by omega))
      omega
    · have := hlt (j - i - 1) i (by omega) (by omega)
      rw [show i + (j - i - 1) + 1 = j by omega, he, bl_irr] at this
      exact absurd this (by simp)
  intro i j hi hj he
  rcases Nat.lt_trichotomy i j with h | h | h
  · exact absurd he (main i j h hj)
  · exact h
  · exact absurd he.symm (main j i h hi)

theorem edLt_iff (a b : Ed) : edLt a b = true ↔ (a.fr < b.fr ∨ (a.fr = b.fr ∧ (a.lb < b.lb ∨ (a.lb = b.lb ∧ a.to < b.to)))) := by
  unfold edLt
  split
  · rw [decide_eq_true_iff]; omega
  · split
    · rw [decide_eq_true_iff]; omega
    · rw [decide_eq_true_iff]; omega
theorem edLt_trans {a b c : Ed} (h1 : edLt a b = true) (h2 : edLt b c = true) : edLt a c = true := by
  rw [edLt_iff] at *
  omega
theorem eds_pair {x : Sys} (h : sysOk x = true) : x.eds.Pairwise (fun a b => edLt a b = true) := by
  unfold sysOk at h
  simp only [Bool.and_eq_true] at h
  have hall := allF_get h.2
  have hlt : ∀ d i (h1 : i + d + 1 < x.eds.length), edLt x.eds[i] x.eds[i + d + 1] = true := by
    intro d
    induction d with
    | zero =>
      intro i h1
      have := hall (i + 1) (by omega) (by omega)
      rw [edP_at _ _ (by omega)] at this
      simp only [Bool.and_eq_true] at this
      have h3 := this.2
      rw [decide_eq_false (show ¬ i + 1 = 0 by omega)] at h3
      simp only [Bool.false_or, Nat.add_sub_cancel] at h3
      rw [List.getD_eq_getElem?_getD, List.getElem?_eq_getElem (by omega)] at h3
      exact h3
    | succ d ih =>
      intro i h1
      have g1 := ih i (by omega)
      have := hall (i + (d + 1) + 1) (by omega) (by omega)
      rw [edP_at _ _ (by omega)] at this
      simp only [Bool.and_eq_true] at this
      have h3 := this.2
      rw [decide_eq_false (show ¬ i + (d + 1) + 1 = 0 by omega)] at h3
      simp only [Bool.false_or, Nat.add_sub_cancel] at h3
      rw [List.getD_eq_getElem?_getD, List.getElem?_eq_getElem (by omega)] at h3
      exact edLt_trans g1 h3
  rw [List.pairwise_iff_getElem]
  intro i j hi hj hij
  have := hlt (j - i - 1) i (by omega)
  simp only [show i + (j - i - 1) + 1 = j by omega] at this
  exact this

def folP (T : Sys) (ys : List Int) (s : List UInt8) (e : Ed) : Bool := T.labs.getD e.lb.toNat [] == s && ys.contains e.fr
/-- the states to which edges with a label lead from states. -/
def folF (T : Sys) (ys : List Int) (s : List UInt8) : List Int := (T.eds.filter (folP T ys s)).map Ed.to
theorem folF_rising {T : Sys} (h : sysOk T = true) (y : Int) (s : List UInt8) : Rising (folF T [y] s) := by
  have hp : (folF T [y] s).Pairwise (· < ·) := by
    unfold folF
    rw [List.pairwise_map]
    have h1 := (eds_pair h).filter (folP T [y] s)
    refine List.Pairwise.imp_of_mem ?_ h1
    intro a b ha hb hlt
    rw [List.mem_filter] at ha hb
    obtain ⟨ha, qa⟩ := ha
    obtain ⟨hb, qb⟩ := hb
    unfold folP at qa qb
    simp only [Bool.and_eq_true, beq_iff_eq, List.contains_cons, List.contains_nil, Bool.or_false] at qa qb
    have la := sys_labs h a ha
    have lb := sys_labs h b hb
    have hl : labsOk T.labs = true := by
      unfold sysOk at h
      simp only [Bool.and_eq_true] at h
      exact h.1.1.2
    have hi := labs_inj hl a.lb.toNat b.lb.toNat (by omega) (by omega) (qa.1.trans qb.1.symm)
    unfold edLt at hlt
    have e1 : a.fr = b.fr := qa.2.trans qb.2.symm
    have e2 : a.lb = b.lb := by omega
    simpa [e1, e2] using hlt
  intro i j hi hj hij
  exact List.pairwise_iff_getElem.1 hp i j hi hj hij
theorem folF_le {T : Sys} (h : sysOk T = true) (y : Int) (s : List UInt8) : (folF T [y] s).length ≤ 40 := by
  have hr := folF_rising h y s
  have hb : ∀ z ∈ folF T [y] s, 0 ≤ z ∧ z ≤ 39 := by
    intro z hz
    unfold folF at hz
    rw [List.mem_map] at hz
    obtain ⟨e, he, rfl⟩ := hz
    rw [List.mem_filter] at he
    have hst := (sys_parts h).1
    unfold sysOk at h
    simp only [Bool.and_eq_true] at h
    obtain ⟨i, hi, rfl⟩ := List.getElem_of_mem he.1
    have := allF_get h.2 i (by omega) (by omega)
    rw [edP_at _ _ hi] at this
    simp only [Bool.and_eq_true] at this
    have r3 := inB_true this.1.1.2
    omega
  generalize folF T [y] s = L at *
  have hge : ∀ i (hi : i < L.length), (i : Int) ≤ L[i] := by
    intro i
    induction i with
    | zero => intro hi; have := hb L[0] (List.getElem_mem hi); omega
    | succ i ih => intro hi; have g1 := ih (by omega); have g2 := hr i (i + 1) (by omega) hi (by omega); omega
  by_cases h0 : L.length = 0
  · omega
  · have g1 := hge (L.length - 1) (by omega)
    have g2 := hb L[L.length - 1] (List.getElem_mem _)
    omega

end Go.Proofs.YtcnaapiljmgfoaaGreatDoor

/-
  Relations between systems, the program's follow: its result is sorted already.
-/
namespace Go.Proofs.YtcnaapiljmgfoaaGreatDoor
open Go.RowKit

theorem folF_step (T : Sys) (y : Int) (s : List UInt8) (i : Nat) (h : i < T.eds.length) :
    ((T.eds.take (i + 1)).filter (folP T [y] s)).map Ed.to = ((T.eds.take i).filter (folP T [y] s)).map Ed.to ++ (if folP T [y] s T.eds[i] then [T.eds[i].to] else []) := by
  rw [List.take_succ_eq_append_getElem h, List.filter_append, List.map_append]
  congr 1
  cases hp : folP T [y] s T.eds[i] <;> simp [hp]

set_option maxRecDepth 20000 in
set_option maxHeartbeats 8000000 in
theorem followI (T : Sys) (v1 v2 v3 : Value) (y : Int) (s : List UInt8) (w : World) (f1 f2 f3 : List Nat) (h1 : RS f1 w [v1] T.labs) (h2 : R_E1 f2 w [v2] T.eds) (h3 : R1 f3 w [v3] [y]) (hok : sysOk T = true) :
    Calls Tryz.prog 65 #[.agg #[ei T.st, ei T.ini, v1, v2], v3, es s] w fun e w' => (∃ v' f', e = .returned v' ∧ R1 f' w' [v'] (folF T [y] s)) ∧ Upd [] w w' := by
  obtain ⟨i1, ki, kz0, kz1, kz2⟩ := info_parts Tryz.info2
  obtain ⟨-, -, hlabs, heds, -, -⟩ := sys_parts hok
  have hlab := Lib.hid (sys_labs hok)
  have HRI := Lib.hid (And.intro (folF_rising hok y s) (folF_le hok y s))
  obtain ⟨la, ca, rfl, la1, la2, hca⟩ := slF1_open h1
  obtain ⟨a, cap, rfl, l1, l2, hc⟩ := slF3_open h2
  unfold maxLen at l2 la2
  have HCA := Lib.hid hca
  have HC := Lib.hid hc
  have HCO := Lib.hid (fun (x : Int) W (hu : Upd [] w W) => containsI v3 [y] x W f3 (R1k.upd h3 hu (by simp)))
  obtain ⟨wA, hwA⟩ : ∃ wA, wA = w.alloc (.cells #[ei T.st, ei T.ini, .slice la T.labs.length ca, .slice a T.eds.length cap] 32) := ⟨_, rfl⟩
  have HUA := Lib.hid (show Upd [] w wA by rw [hwA]; exact (Upd.refl _ _).alloc _)
  have Z2 := Lib.hid (fun W (hu : Upd [] wA W) => hu.keep (show wA.cell? ⟨w.heap.size, 2, none⟩ = some (.slice la T.labs.length ca) by rw [hwA]; exact cell_new w _ _ _ rfl 2 _ rfl))
  have z3 : wA.cell? ⟨w.heap.size, 3, none⟩ = some (.slice a T.eds.length cap) := by rw [hwA]; exact cell_new w _ _ _ rfl 3 _ rfl
  have hszA : w.heap.size < wA.heap.size := by rw [hwA]; simp
  obtain ⟨BX, hBX⟩ : ∃ BX, BX = w.heap.size := ⟨_, rfl⟩
  rw [← hBX] at Z2 z3
  have HBX := Lib.hid (show BX < wA.heap.size by omega)
  have HF := Lib.hid (show folF T [y] s = ((T.eds.take T.eds.length).filter (folP T [y] s)).map Ed.to by rw [List.take_length]; rfl)
  have HST := Lib.hid (folF_step T y s)
  have HP := Lib.hid (fun e => show folP T [y] s e = (T.labs.getD e.lb.toNat [] == s && [y].contains e.fr) from rfl)
  have HL := Lib.hid (fun k => show (((T.eds.take k).filter (folP T [y] s)).map Ed.to).length ≤ 300 by
    rw [List.length_map]
    refine Nat.le_trans (List.length_filter_le _ _) ?_
    rw [List.length_take]; omega)
  clear h1 h2 h3 hc hca hok
  generalize folF T [y] s = FF at *
  generalize folP T [y] s = FP at *
  go_enter Tryz.func65, Tryz.ntmps65
  go_upto_region 1 with (fail)
  rw [← hwA, ← hBX]
  clear hwA hBX hszA
  go_wp2_with fail
  go_loopw [7, 13] (fun ov iv wr => ∃ i : Nat, i ≤ T.eds.length ∧ iv = .int .i64 i ∧ Hid (wr.ownsRow wA.heap.size 2 1 ov (((T.eds.take i).filter FP).map Ed.to).length ((((T.eds.take i).filter FP).map Ed.to).map ei)) ∧ Hid (Upd [] wA wr)) (fun _ iv _ => T.eds.length - (intOf iv).toNat)
  case atStart => exact ⟨0, Nat.zero_le _, rfl, Lib.hid (World.ownsRow_nil _ _ _ _), Lib.hid (Upd.refl _ _)⟩
  case round =>
    clear z3
    obtain ⟨wo, rfl⟩ : ∃ wo : World, wo = wr := ⟨_, rfl⟩
    obtain ⟨i, hi, rfl, HO, HU⟩ := hrel
    obtain ⟨oa, oc, hov⟩ := ownsRow_form HO.out
    subst hov
    by_cases hlt : i < T.eds.length
    · obtain ⟨b, o, rfl, -, -, p1, p2, p3⟩ := HC.out i hlt
      have q1 := HU.out.keep (HUA.out.keep p1)
      have q2 := HU.out.keep (HUA.out.keep p2)
      have q3 := HU.out.keep (HUA.out.keep p3)
      have z2 := Z2.out wo HU.out
      have HS := Lib.hid (HST.out i hlt)
      have hpe := HP.out T.eds[i]
      have hll := HL.out i
      have hil : (i : Int) < (T.eds.length : Int) := by omega
      have hlb := hlab.out T.eds[i] (List.getElem_mem hlt)
      clear p1 p2 p3
      generalize ((T.eds.take i).filter FP).map Ed.to = P at *
      generalize T.eds[i] = x at *
      obtain ⟨x1, x2, x3⟩ := x
      simp only at q1 q2 q3 HS hpe hlb
      obtain ⟨le, rfl⟩ : ∃ N : Nat, x2 = N := ⟨x2.toNat, by omega⟩
      have hle : le < T.labs.length := by omega
      have hlei : (le : Int) < (T.labs.length : Int) := by omega
      obtain ⟨ba, obx, rfl, -, -, pA⟩ := HCA.out le hle
      have pA := HU.out.keep (HUA.out.keep pA)
      have gA : T.labs.getD le [] = T.labs[le] := by rw [List.getD_eq_getElem?_getD, List.getElem?_eq_getElem hle]; rfl
      rw [Int.toNat_natCast, gA] at hpe
      clear gA hlb
      generalize T.labs[le] = sa at *
      have HPE := Lib.hid hpe
      clear hpe
      obtain ⟨wB, hwB⟩ : ∃ wB, wB = wo.alloc (.cells #[.int .i64 x1, .int .i64 le, .int .i64 x3] 74) := ⟨_, rfl⟩
      have hown0 : wB.ownsRow wA.heap.size 2 1 (.slice oa P.length oc) P.length (P.map ei) := by rw [hwB]; exact HO.out.alloc _
      have UB : Upd [] wo wB := by rw [hwB]; exact (Upd.refl _ _).alloc _
      have HUB := Lib.hid (HU.out.trans UB)
      have t0 : wB.cell? ⟨wo.heap.size, 0, none⟩ = some (ei x1) := by rw [hwB]; exact cell_new wo _ _ _ rfl 0 _ rfl
      have t1 : wB.cell? ⟨wo.heap.size, 1, none⟩ = some (ei le) := by rw [hwB]; exact cell_new wo _ _ _ rfl 1 _ rfl
      have t2 : wB.cell? ⟨wo.heap.size, 2, none⟩ = some (ei x3) := by rw [hwB]; exact cell_new wo _ _ _ rfl 2 _ rfl
      have r2 := UB.keep z2
      have rA := UB.keep pA
      have SC := Lib.hid (HCO.out x1 wB (HUA.out.trans HUB.out))
      have hszB : wA.heap.size ≤ wB.heap.size := HUB.out.size
      obtain ⟨BE, hBE⟩ : ∃ BE, BE = wo.heap.size := ⟨_, rfl⟩
      rw [← hBE] at t0 t1 t2
      go_upto_region 5 with (fail)
      rw [← hwB, ← hBE]
      clear hwB hBE HO HU q1 q2 q3 z2 pA UB HCO
      cases hs : (sa == s) with
      | false =>
        have HN := Lib.hid (show (((T.eds.take (i + 1)).filter FP).map Ed.to) = P by rw [HS.out, HPE.out, hs]; simp)
        clear HS HPE SC
        go_wp2_with fail
        go_roundw
        case rel => exact ⟨i + 1, by omega, by go_num, Lib.hid (by rw [HN.out]; exact hown0), HUB⟩
        case measure => simp [intOf]; omega
      | true =>
        go_wp2_with fail
        refine SC.out.mono ?_
        rintro e w1 ⟨rfl, rfl⟩
        clear SC
        cases hy : [y].contains x1 with
        | false =>
          have HN := Lib.hid (show (((T.eds.take (i + 1)).filter FP).map Ed.to) = P by rw [HS.out, HPE.out, hs, hy]; simp)
          clear HS HPE hs hy
          go_wp2_with fail
          go_roundw
          case rel => exact ⟨i + 1, by omega, by go_num, Lib.hid (by rw [HN.out]; exact hown0), HUB⟩
          case measure => simp [intOf]; omega
        | true =>
          have HN := Lib.hid (show (((T.eds.take (i + 1)).filter FP).map Ed.to) = P ++ [x3] by rw [HS.out, HPE.out, hs, hy]; simp)
          clear HS HPE hs hy
          go_wp2_with (first
            | (at_builtin; refine wpList_append_tight _ rfl _ _ 45 rfl wA.heap.size 2 i1 (.int .i64 0) 1 8 Tryz.underlying45 ki kz0 kz1 kz2 rfl (by decide) _ _ _ rfl (hown0.alloc _) ⟨wB.heap.size, 0, none⟩ 1 1 [ei x3] rfl rfl (fun j u hj => by rw [addr_add]; exact cell_new wB #[ei x3] _ _ rfl _ _ (by simpa using hj)) (by simp [Value.oneCell']) (by unfold maxLen; omega) (by omega) (by simp; omega) ?_)
            | fail)
          intro v4 w4 hown4 hg4 ht4
          have HO4 := Lib.hid (show w4.ownsRow wA.heap.size 2 1 v4 (P ++ [x3]).length ((P ++ [x3]).map ei) by
            rw [List.length_append, List.map_append]; simpa using hown4)
          have HU4 := Lib.hid ((HUB.out.alloc (.cells #[ei x3] 2)).grown hg4 (fun b hb => Or.inl ((hown0.lt b hb).1)))
          clear hown4 hg4 ht4 hown0 t0 t1 t2 HUB r2 rA
          go_wp2_with fail
          go_roundw
          case rel => exact ⟨i + 1, by omega, by go_num, Lib.hid (by rw [HN.out]; exact HO4.out), HU4⟩
          case measure => simp [intOf]; omega
    · obtain rfl : i = T.eds.length := by omega
      have HOF := HO.out
      rw [← HF.out] at HOF
      obtain ⟨f9, r9, -, -⟩ := New.ofOwns HOF
      have S1 := Lib.hid (sortI _ FF wo f9 r9 HRI.out.1 HRI.out.2)
      have S2 := Lib.hid (fun W (hu : Upd [] wo W) => compactI _ FF W f9 (R1k.upd r9 hu (by simp)) HRI.out.1 HRI.out.2)
      have HR9 := Lib.hid r9
      rw [← HF.out]
      clear HO HOF r9 HRI
      go_wp2_with fail
      refine S1.out.mono ?_
      rintro e w1 ⟨rfl, hu1⟩
      have T2 := Lib.hid (S2.out w1 hu1)
      have U1 := Lib.hid hu1
      clear S1 S2 hu1
      go_wp2_with fail
      refine T2.out.mono ?_
      rintro e w2 ⟨rfl, n2, rfl⟩
      clear T2
      go_wp2_with fail
      go_ret
      exact ⟨⟨_, f9, rfl, R1k.upd HR9.out (U1.out.drewN n2) (by simp)⟩, HUA.out.trans (HU.out.trans (U1.out.drewN n2))⟩

end Go.Proofs.YtcnaapiljmgfoaaGreatDoor

/-
  Relations between systems, the program's: what answers an edge is a function's value; the relation turned round.
-/
namespace Go.Proofs.YtcnaapiljmgfoaaGreatDoor
open Go.RowKit Go.Maps

theorem Upd.setRow {f : List Nat} {w w1 : World} (h : Upd f w w1) {g : Nat} (hg : w.heap.size ≤ g ∨ g ∈ f) (cs : Array Value) : Upd f w (w1.setRow g cs) :=
  h.fresh (f := [g]) ⟨rfl, rfl, rfl, by simp, fun k _ hf => setRow_other _ _ _ _ (by simpa using hf)⟩ (by simpa using hg)
/-- the nine cells of a relation in a block of their own. -/
def RelAt (T : Nat) (W : World) (A B : Sys) (a1 a2 b1 b2 hv : Value) : Prop := W.heap[T]? = some (.cells #[ei A.st, ei A.ini, a1, a2, ei B.st, ei B.ini, b1, b2, hv] 86 (0, 0))
theorem RelAt.facts {T : Nat} {W : World} {A B : Sys} {a1 a2 b1 b2 hv : Value} (h : RelAt T W A B a1 a2 b1 b2 hv) :
    (W.cell? ⟨T, 0, none⟩ = some (ei A.st) ∧ W.cell? ⟨T, 1, none⟩ = some (ei A.ini) ∧ W.cell? ⟨T, 2, none⟩ = some a1 ∧ W.cell? ⟨T, 3, none⟩ = some a2) ∧
    (W.cell? ⟨T, 4, none⟩ = some (ei B.st) ∧ W.cell? ⟨T, 5, none⟩ = some (ei B.ini) ∧ W.cell? ⟨T, 6, none⟩ = some b1 ∧ W.cell? ⟨T, 7, none⟩ = some b2) ∧ W.cell? ⟨T, 8, none⟩ = some hv := by
  unfold RelAt at h
  refine ⟨⟨?_, ?_, ?_, ?_⟩, ⟨?_, ?_, ?_, ?_⟩, ?_⟩ <;> simp [World.cell?, h]
theorem RelAt.upd {T : Nat} {w w1 : World} {A B : Sys} {a1 a2 b1 b2 hv : Value} (h : RelAt T w A B a1 a2 b1 b2 hv) {f : List Nat} (hu : Upd f w w1) (hf : T ∉ f) : RelAt T w1 A B a1 a2 b1 b2 hv := by
  unfold RelAt at *
  rw [hu.block T (Array.getElem?_eq_some_iff.1 h).1 hf]; exact h
theorem RelAt.new (w : World) (A B : Sys) (a1 a2 b1 b2 hv : Value) : RelAt w.heap.size (w.alloc (.cells #[ei A.st, ei A.ini, a1, a2, ei B.st, ei B.ini, b1, b2, hv] 86)) A B a1 a2 b1 b2 hv := heap_alloc_new w _
theorem rel_size : (Tryz.prog.info? 86).map (·.size) = some 9 := by kernel_rfl
abbrev relV (A B : Sys) (a1 a2 b1 b2 hv : Value) : Value := .agg #[ei A.st, ei A.ini, a1, a2, ei B.st, ei B.ini, b1, b2, hv]

/-- two valid systems as they lie. -/
structure Two (w : World) (A B : Sys) (a1 a2 b1 b2 : Value) (f1 f2 f3 f4 : List Nat) : Prop where
  la : RS f1 w [a1] A.labs
  ea : R_E1 f2 w [a2] A.eds
  lb : RS f3 w [b1] B.labs
  eb : R_E1 f4 w [b2] B.eds
  oka : sysOk A = true
  okb : sysOk B = true
theorem Two.upd {w w1 : World} {A B : Sys} {a1 a2 b1 b2 : Value} {f1 f2 f3 f4 : List Nat} (h : Two w A B a1 a2 b1 b2 f1 f2 f3 f4) (hu : Upd [] w w1) : Two w1 A B a1 a2 b1 b2 f1 f2 f3 f4 :=
  ⟨RSk.upd h.la hu (by simp), R_E1k.upd h.ea hu (by simp), RSk.upd h.lb hu (by simp), R_E1k.upd h.eb hu (by simp), h.oka, h.okb⟩
theorem Two.turn {w : World} {A B : Sys} {a1 a2 b1 b2 : Value} {f1 f2 f3 f4 : List Nat} (h : Two w A B a1 a2 b1 b2 f1 f2 f3 f4) : Two w B A b1 b2 a1 a2 f3 f4 f1 f2 := ⟨h.lb, h.eb, h.la, h.ea, h.okb, h.oka⟩

/-- a function's value that tells of two states whether they are related. -/
def HasC (hv : Value) (sa sb : Int) (H : Int → Int → Bool) (w : World) : Prop :=
  ∃ (g : FuncId) (caps : Array Value), hv = .func (.func g) #[] caps ∧ (∀ args W, Sem.run Tryz.prog (callFunc g args) W = .ok (.enter g args) W) ∧
    ∀ (W : World) (x y : Int), Upd [] w W → 0 ≤ x → x < sa → 0 ≤ y → y < sb → Calls Tryz.prog g (#[.int .i64 x, .int .i64 y] ++ caps) W fun e w' => e = .returned (.bool (H x y)) ∧ Upd [] W w'
theorem HasC.upd {hv : Value} {sa sb : Int} {H : Int → Int → Bool} {w w1 : World} (h : HasC hv sa sb H w) (hu : Upd [] w w1) : HasC hv sa sb H w1 := by
  obtain ⟨g, caps, h1, h2, h3⟩ := h
  exact ⟨g, caps, h1, h2, fun W x y hu2 => h3 W x y (hu.trans hu2)⟩

/-- a function's value that answers an edge. -/
def WayC (fn : FuncId) (F : Sys → Sys → (Int → Int → Bool) → Int → Int → List UInt8 → Int → Bool) : Prop :=
  (∀ args W, Sem.run Tryz.prog (callFunc fn args) W = .ok (.enter fn args) W) ∧
  ∀ (A B : Sys) (a1 a2 b1 b2 hv : Value) (H : Int → Int → Bool) (x y v : Int) (s : List UInt8) (w : World) (f1 f2 f3 f4 : List Nat), Two w A B a1 a2 b1 b2 f1 f2 f3 f4 → HasC hv A.st B.st H w → 0 ≤ x → x < A.st → 0 ≤ y → y < B.st → 0 ≤ v → v < A.st →
    Calls Tryz.prog fn #[relV A B a1 a2 b1 b2 hv, .int .i64 x, .int .i64 y, es s, .int .i64 v] w fun e w' => e = .returned (.bool (F A B H x y s v)) ∧ Upd [] w w'

theorem enter_turned1 (args : Array Value) (w : World) : Sem.run Tryz.prog (callFunc 134 args) w = .ok (.enter 134 args) w := by go_simp

set_option maxRecDepth 20000 in
set_option maxHeartbeats 2000000 in
theorem turned1I (T : Nat) (A B : Sys) (a1 a2 b1 b2 hv : Value) (H : Int → Int → Bool) (x y : Int) (w : World) (hT : RelAt T w A B a1 a2 b1 b2 hv) (hh : HasC hv A.st B.st H w) (h1 : 0 ≤ x) (h2 : x < B.st) (h3 : 0 ≤ y) (h4 : y < A.st) :
    Calls Tryz.prog 134 #[.int .i64 x, .int .i64 y, .pointer (some ⟨T, 0, none⟩)] w fun e w' => e = .returned (.bool (H y x)) ∧ Upd [] w w' := by
  obtain ⟨g, caps, rfl, hent, hc⟩ := hh
  have S1 := Lib.hid (hc w y x (Upd.refl _ _) h3 h4 h1 h2)
  have z8 := hT.facts.2.2
  generalize H y x = b at *
  clear hc hT h1 h2 h3 h4
  go_enter Tryz.func134, Tryz.ntmps134
  go_wp2_with fail
  refine S1.out.mono ?_
  rintro e w1 ⟨rfl, hu⟩
  have U := Lib.hid hu
  clear S1 hu
  go_wp2_with fail
  go_ret
  exact ⟨rfl, U.out⟩

set_option maxRecDepth 20000 in
set_option maxHeartbeats 4000000 in
theorem turnedI (A B : Sys) (a1 a2 b1 b2 hv : Value) (H : Int → Int → Bool) (w : World) (f1 f2 f3 f4 : List Nat) (h : Two w A B a1 a2 b1 b2 f1 f2 f3 f4) (hh : HasC hv A.st B.st H w) :
    Calls Tryz.prog 115 #[relV A B a1 a2 b1 b2 hv] w fun e w' => (∃ hv', e = .returned (relV B A b1 b2 a1 a2 hv') ∧ HasC hv' B.st A.st (fun x y => H y x) w') ∧ Upd [] w w' := by
  obtain ⟨wA, hwA⟩ : ∃ wA, wA = w.alloc (.cells #[ei A.st, ei A.ini, a1, a2, ei B.st, ei B.ini, b1, b2, hv] 86) := ⟨_, rfl⟩
  have U := Lib.hid (show Upd [] w wA by rw [hwA]; exact (Upd.refl _ _).alloc _)
  have hR : RelAt w.heap.size wA A B a1 a2 b1 b2 hv := by rw [hwA]; exact RelAt.new w A B a1 a2 b1 b2 hv
  have HR := Lib.hid hR
  have HH := Lib.hid (hh.upd U.out)
  obtain ⟨T, hT⟩ : ∃ T, T = w.heap.size := ⟨_, rfl⟩
  rw [← hT] at HR hR
  obtain ⟨⟨z0, z1, z2, z3⟩, ⟨z4, z5, z6, z7⟩, -⟩ := hR.facts
  obtain ⟨p1, q1, rfl, -, -, -⟩ := slF1_open h.la
  obtain ⟨p2, q2, rfl, -, -, -⟩ := slF3_open h.ea
  obtain ⟨p3, q3, rfl, -, -, -⟩ := slF1_open h.lb
  obtain ⟨p4, q4, rfl, -, -, -⟩ := slF3_open h.eb
  clear hh hR h
  obtain ⟨sa, ia, la, ea⟩ := A
  obtain ⟨sb, ib, lb, eb⟩ := B
  simp only at *
  go_enter Tryz.func115, Tryz.ntmps115
  go_upto_region 1 with (fail)
  rw [← hwA, ← hT]
  have hsz : wA.heap.size = T + 1 := by rw [hwA, hT]; simp
  clear hwA hT
  obtain ⟨wB, hwB⟩ : ∃ wB, wB = wA.alloc (.cells #[.int .i64 0, .int .i64 0, .slice none 0 0, .slice none 0 0, .int .i64 0, .int .i64 0, .slice none 0 0, .slice none 0 0, .nilFunc] 86) := ⟨_, rfl⟩
  have UB := Lib.hid (show Upd [] wA wB by rw [hwB]; exact (Upd.refl _ _).alloc _)
  have hB : wB.heap[T + 1]? = some (.cells #[.int .i64 0, .int .i64 0, .slice none 0 0, .slice none 0 0, .int .i64 0, .int .i64 0, .slice none 0 0, .slice none 0 0, .nilFunc] 86 (0, 0)) := by rw [hwB, ← hsz]; exact heap_alloc_new wA _
  have y0 := UB.out.keep z0
  have y1 := UB.out.keep z1
  have y2 := UB.out.keep z2
  have y3 := UB.out.keep z3
  have y4 := UB.out.keep z4
  have y5 := UB.out.keep z5
  have y6 := UB.out.keep z6
  have y7 := UB.out.keep z7
  rw [← hwB]
  clear hwB z0 z1 z2 z3 z4 z5 z6 z7
  go_wp2_with (first
    | (refine wpList_store_row rfl 86 _ _ rfl (T + 1) #[ei sb, ei ib, .slice p3 lb.length q3, .slice p4 eb.length q4, ei sa, ei ia, .slice p1 la.length q1, .slice p2 ea.length q2, .func (.func 134) #[] #[.pointer (some ⟨T, 0, none⟩)]] rfl rfl 86 _ hB rel_size rfl (by simp [Value.oneCell']) ?_)
    | fail)
  obtain ⟨wC, hwC⟩ : ∃ wC, wC = wB.setRow (T + 1) #[ei sb, ei ib, .slice p3 lb.length q3, .slice p4 eb.length q4, ei sa, ei ia, .slice p1 la.length q1, .slice p2 ea.length q2, .func (.func 134) #[] #[.pointer (some ⟨T, 0, none⟩)]] := ⟨_, rfl⟩
  have hC : wC.heap[T + 1]? = some (.cells #[ei sb, ei ib, .slice p3 lb.length q3, .slice p4 eb.length q4, ei sa, ei ia, .slice p1 la.length q1, .slice p2 ea.length q2, .func (.func 134) #[] #[.pointer (some ⟨T, 0, none⟩)]] 86 (0, 0)) := by rw [hwC]; exact setRow_heap _ _ _ _ _ _ hB
  have UC : Upd [] wA wC := by rw [hwC]; exact UB.out.setRow (Or.inl (by omega)) _
  rw [← hwC]
  clear hwC hB y0 y1 y2 y3 y4 y5 y6 y7
  refine bodyPost_ret (results_cell_row Tryz.results115 _ _ (T + 1) 86 _ (0, 0) _ rfl hC Tryz.underlying86 rfl rel_size) rfl ?_
  refine ⟨⟨_, rfl, ?_⟩, U.out.trans UC⟩
  refine ⟨134, #[.pointer (some ⟨T, 0, none⟩)], rfl, enter_turned1, ?_⟩
  intro W x y hu hx1 hx2 hy1 hy2
  exact turned1I T _ _ _ _ _ _ _ H x y W (HR.out.upd (UC.trans hu) (by simp)) (HH.out.upd (UC.trans hu)) hx1 hx2 hy1 hy2

end Go.Proofs.YtcnaapiljmgfoaaGreatDoor

/-
  Relations between systems, the program's answered: all edges from a state are answered. (The drawn region's way is printed by tools/genbisb.py.)
-/
namespace Go.Proofs.YtcnaapiljmgfoaaGreatDoor
open Go.RowKit

/-- all edges from a state are answered. -/
def ansF (A : Sys) (x : Int) (W : List UInt8 → Int → Bool) : Bool := (outF A.eds x).all fun e => W (A.labs.getD e.lb.toNat []) e.to
theorem sys_eds {x : Sys} (h : sysOk x = true) : ∀ e ∈ x.eds, (0 ≤ e.fr ∧ e.fr < x.st) ∧ (0 ≤ e.to ∧ e.to < x.st) := by
  intro e he
  unfold sysOk at h
  simp only [Bool.and_eq_true] at h
  obtain ⟨i, hi, rfl⟩ := List.getElem_of_mem he
  have := allF_get h.2 i (by omega) (by omega)
  rw [edP_at _ _ hi] at this
  simp only [Bool.and_eq_true] at this
  have r1 := inB_true this.1.1.1
  have r2 := inB_true this.1.1.2
  omega

set_option maxRecDepth 20000 in
set_option maxHeartbeats 8000000 in
theorem answeredI (fn : FuncId) (F : Sys → Sys → (Int → Int → Bool) → Int → Int → List UInt8 → Int → Bool) (hway : WayC fn F) (A B : Sys) (a1 a2 b1 b2 hv : Value) (H : Int → Int → Bool) (x y : Int) (w : World) (f1 f2 f3 f4 : List Nat)
    (h : Two w A B a1 a2 b1 b2 f1 f2 f3 f4) (hh : HasC hv A.st B.st H w) (hx0 : 0 ≤ x) (hx1 : x < A.st) (hy0 : 0 ≤ y) (hy1 : y < B.st) :
    Calls Tryz.prog 114 #[relV A B a1 a2 b1 b2 hv, .int .i64 x, .int .i64 y, .func (.func fn) #[] #[]] w fun e w' => e = .returned (.bool (ansF A x (F A B H x y))) ∧ Upd [] w w' := by
  obtain ⟨-, -, hlabs, heds, -, -⟩ := sys_parts h.oka
  have hent := hway.1
  have HLB := Lib.hid (sys_labs h.oka)
  have HTO := Lib.hid (sys_eds h.oka)
  obtain ⟨wA, hwA⟩ : ∃ wA, wA = w.alloc (.cells #[ei A.st, ei A.ini, a1, a2, ei B.st, ei B.ini, b1, b2, hv] 86) := ⟨_, rfl⟩
  have U := Lib.hid (show Upd [] w wA by rw [hwA]; exact (Upd.refl _ _).alloc _)
  have hR : RelAt w.heap.size wA A B a1 a2 b1 b2 hv := by rw [hwA]; exact RelAt.new w A B a1 a2 b1 b2 hv
  obtain ⟨BR, hBR⟩ : ∃ BR, BR = w.heap.size := ⟨_, rfl⟩
  rw [← hBR] at hR
  have HR := Lib.hid hR
  have W0 := Lib.hid (fun (s : List UInt8) (v : Int) (h0 : 0 ≤ v) (h1 : v < A.st) W (hu : Upd [] wA W) => hway.2 A B a1 a2 b1 b2 hv H x y v s W f1 f2 f3 f4 (h.upd (U.out.trans hu)) (hh.upd (U.out.trans hu)) hx0 hx1 hy0 hy1 h0 h1)
  have S1 := Lib.hid (outEI A.st A.ini a1 a2 A.eds x wA f2 (h.upd U.out).ea (by omega))
  obtain ⟨la, ca, rfl, la1, la2, hca⟩ := slF1_open (h.upd U.out).la
  obtain ⟨l2a, c2a, rfl, -, -, -⟩ := slF3_open (h.upd U.out).ea
  unfold maxLen at la2
  have HCA := Lib.hid hca
  have HM := Lib.hid (show ansF A x (F A B H x y) = ((outF A.eds x).drop 0).all fun e => F A B H x y (A.labs.getD e.lb.toNat []) e.to from rfl)
  have HOA := Lib.hid (fun e (h : e ∈ outF A.eds x) => And.intro (HLB.out e (outF_mem h)) (HTO.out e (outF_mem h)).2)
  obtain ⟨⟨z0, z1, z2, z3⟩, ⟨z4, z5, z6, z7⟩, z8⟩ := hR.facts
  clear hca hR h hh hway HLB HTO hx0 hx1 hy0 hy1
  generalize outF A.eds x = OA at *
  generalize ansF A x (F A B H x y) = Z at *
  generalize F A B H x y = FF at *
  go_enter Tryz.func114, Tryz.ntmps114
  go_upto_region 1 with (fail)
  rw [← hwA, ← hBR]
  clear hwA hBR
  go_wp2_with fail
  refine S1.out.mono ?_
  rintro e w1 ⟨⟨vl, rfl, fl, rl, -, -⟩, hu1⟩
  obtain ⟨l1, cl, rfl, ll1, ll2, hcl⟩ := slF3_open rl
  unfold maxLen at ll2
  have HCL := Lib.hid hcl
  have HU1 := Lib.hid hu1
  clear S1 rl hu1 hcl z0 z1 z2 z3 z4 z5 z6 z7 z8
  go_wp2_with fail
  go_loopw [16] (fun iv wr => ∃ i : Nat, i ≤ OA.length ∧ iv = .int .i64 i ∧ Hid (((OA.drop i).all fun e => FF (A.labs.getD e.lb.toNat []) e.to) = Z) ∧ Hid (Upd [] w1 wr)) (fun iv _ => OA.length - (intOf iv).toNat)
  case atStart => exact ⟨0, Nat.zero_le _, rfl, Lib.hid HM.out.symm, Lib.hid (Upd.refl _ _)⟩
  case round =>
    clear HM
    obtain ⟨wo, rfl⟩ : ∃ wo : World, wo = wr := ⟨_, rfl⟩
    obtain ⟨i, hi, rfl, HA, HU⟩ := hrel
    by_cases hlt : i < OA.length
    · obtain ⟨bl, ol, rfl, -, -, p1, p2, p3⟩ := HCL.out i hlt
      obtain ⟨hlab, hto0, hto1⟩ := HOA.out OA[i] (List.getElem_mem hlt)
      have hS := HA.out
      rw [List.drop_eq_getElem_cons hlt, List.all_cons] at hS
      have HS := Lib.hid hS
      have hil : (i : Int) < (OA.length : Int) := by omega
      have q1 := HU.out.keep p1
      have q2 := HU.out.keep p2
      have q3 := HU.out.keep p3
      clear hS HA p1 p2 p3
      generalize OA[i] = e at *
      obtain ⟨e1, e2, e3⟩ := e
      simp only at q1 q2 q3 hlab hto0 hto1 HS
      obtain ⟨le, rfl⟩ : ∃ N : Nat, e2 = N := ⟨e2.toNat, by omega⟩
      have hle : le < A.labs.length := by omega
      have hlei : (le : Int) < (A.labs.length : Int) := by omega
      obtain ⟨ba, obx, rfl, -, -, pA⟩ := HCA.out le hle
      have gA : A.labs.getD le [] = A.labs[le] := by rw [List.getD_eq_getElem?_getD, List.getElem?_eq_getElem hle]; rfl
      rw [Int.toNat_natCast, gA] at HS
      clear gA hlab
      generalize A.labs[le] = sa at *
      obtain ⟨wB, hwB⟩ : ∃ wB, wB = wo.alloc (.cells #[.int .i64 e1, .int .i64 le, .int .i64 e3] 74) := ⟨_, rfl⟩
      have UB : Upd [] wo wB := by rw [hwB]; exact (Upd.refl _ _).alloc _
      have HUB := Lib.hid (HU.out.trans UB)
      have t0 : wB.cell? ⟨wo.heap.size, 0, none⟩ = some (ei e1) := by rw [hwB]; exact cell_new wo _ _ _ rfl 0 _ rfl
      have t1 : wB.cell? ⟨wo.heap.size, 1, none⟩ = some (ei le) := by rw [hwB]; exact cell_new wo _ _ _ rfl 1 _ rfl
      have t2 : wB.cell? ⟨wo.heap.size, 2, none⟩ = some (ei e3) := by rw [hwB]; exact cell_new wo _ _ _ rfl 2 _ rfl
      have rA := HUB.out.keep (HU1.out.keep pA)
      obtain ⟨⟨z0, z1, z2, z3⟩, ⟨z4, z5, z6, z7⟩, z8⟩ := (HR.out.upd (HU1.out.trans HUB.out) (by simp)).facts
      have WY := Lib.hid (fun W (hu : Upd [] wB W) => W0.out sa e3 hto0 hto1 W (HU1.out.trans (HUB.out.trans hu)))
      generalize FF sa e3 = bb at *
      obtain ⟨BE, hBE⟩ : ∃ BE, BE = wo.heap.size := ⟨_, rfl⟩
      rw [← hBE] at t0 t1 t2
      go_upto_region 4 with (fail)
      rw [← hwB, ← hBE]
      clear hwB hBE HU q1 q2 q3 pA UB W0 HCA HCL HOA hto0 hto1
      refine wp_region_held_drew (S := fun w' => w'.cell? ⟨BR, 0, none⟩ = some (ei A.st) ∧ w'.cell? ⟨BR, 1, none⟩ = some (ei A.ini) ∧ w'.cell? ⟨BR, 2, none⟩ = some (.slice (some ⟨ba, obx, none⟩) A.labs.length ca) ∧ w'.cell? ⟨BR, 3, none⟩ = some (.slice l2a A.eds.length c2a) ∧ w'.cell? ⟨BR, 4, none⟩ = some (ei B.st) ∧ w'.cell? ⟨BR, 5, none⟩ = some (ei B.ini) ∧ w'.cell? ⟨BR, 6, none⟩ = some b1 ∧ w'.cell? ⟨BR, 7, none⟩ = some b2 ∧ w'.cell? ⟨BR, 8, none⟩ = some hv ∧ w'.cell? ⟨BE, 0, none⟩ = some (ei e1) ∧ w'.cell? ⟨BE, 1, none⟩ = some (ei le) ∧ w'.cell? ⟨BE, 2, none⟩ = some (ei e3) ∧ w'.cell? ⟨ba, obx + le, none⟩ = some (es sa)) (by kernel_rfl) ?_ (fun hHeld => ?_)
      · exact ⟨z0, z1, z2, z3, z4, z5, z6, z7, z8, t0, t1, t2, rA⟩
      refine wpAnyH_take (i := 0) (v := ?_) rfl (by kernel_rfl) (by kernel_rfl) (by kernel_rfl) (fun _ _ _ h => h) (Or.inl ⟨by rfl, ?_⟩) (by assumption) ?_
      rotate_left
      · (intro w hSw; (try dsimp only at hSw); go_simp)
        first | done | with_reducible rfl
      simp only [Act.put, List.getElem_toArray, List.getElem_cons_zero, List.getElem_cons_succ, List.setIfInBounds_toArray, List.set_cons_zero, List.set_cons_succ]
      refine wpAnyH_take (i := 1) (v := ?_) rfl (by kernel_rfl) (by kernel_rfl) (by kernel_rfl) (fun _ _ _ h => h) (Or.inl ⟨by rfl, ?_⟩) (by assumption) ?_
      rotate_left
      · (intro w hSw; (try dsimp only at hSw); go_simp)
        first | done | with_reducible rfl
      simp only [Act.put, List.getElem_toArray, List.getElem_cons_zero, List.getElem_cons_succ, List.setIfInBounds_toArray, List.set_cons_zero, List.set_cons_succ]
      refine wpAnyH_take (i := 2) (v := ?_) rfl (by kernel_rfl) (by kernel_rfl) (by kernel_rfl) (fun _ _ _ h => h) (Or.inl ⟨by rfl, ?_⟩) (by assumption) ?_
      rotate_left
      · (intro w hSw; (try dsimp only at hSw); go_simp)
        first | done | with_reducible rfl
      simp only [Act.put, List.getElem_toArray, List.getElem_cons_zero, List.getElem_cons_succ, List.setIfInBounds_toArray, List.set_cons_zero, List.set_cons_succ]
      refine wpAnyH_take (i := 3) (v := ?_) rfl (by kernel_rfl) (by kernel_rfl) (by kernel_rfl) (fun _ _ _ h => h) (Or.inl ⟨by rfl, ?_⟩) (by assumption) ?_
      rotate_left
      · (intro w hSw; (try dsimp only at hSw); go_simp)
        first | done | with_reducible rfl
      simp only [Act.put, List.getElem_toArray, List.getElem_cons_zero, List.getElem_cons_succ, List.setIfInBounds_toArray, List.set_cons_zero, List.set_cons_succ]
      refine wpAnyH_take (i := 4) (v := ?_) rfl (by kernel_rfl) (by kernel_rfl) (by kernel_rfl) (fun _ _ _ h => h) (Or.inl ⟨by rfl, ?_⟩) (by assumption) ?_
      rotate_left
      · (intro w hSw; (try dsimp only at hSw); go_simp)
        first | done | with_reducible rfl
      simp only [Act.put, List.getElem_toArray, List.getElem_cons_zero, List.getElem_cons_succ, List.setIfInBounds_toArray, List.set_cons_zero, List.set_cons_succ]
      refine wpAnyH_take (i := 5) (v := ?_) rfl (by kernel_rfl) (by kernel_rfl) (by kernel_rfl) (fun _ _ _ h => h) (Or.inl ⟨by rfl, ?_⟩) (by assumption) ?_
      rotate_left
      · (intro w hSw; (try dsimp only at hSw); go_simp)
        first | done | with_reducible rfl
      simp only [Act.put, List.getElem_toArray, List.getElem_cons_zero, List.getElem_cons_succ, List.setIfInBounds_toArray, List.set_cons_zero, List.set_cons_succ]
      refine wpAnyH_take (i := 6) (v := ?_) rfl (by kernel_rfl) (by kernel_rfl) (by kernel_rfl) (fun _ _ _ h => h) (Or.inl ⟨by rfl, ?_⟩) (by assumption) ?_
      rotate_left
      · (intro w hSw; (try dsimp only at hSw); go_simp)
        first | done | with_reducible rfl
      simp only [Act.put, List.getElem_toArray, List.getElem_cons_zero, List.getElem_cons_succ, List.setIfInBounds_toArray, List.set_cons_zero, List.set_cons_succ]
      refine wpAnyH_take (i := 7) (v := ?_) rfl (by kernel_rfl) (by kernel_rfl) (by kernel_rfl) (fun _ _ _ h => h) (Or.inl ⟨by rfl, ?_⟩) (by assumption) ?_
      rotate_left
      · (intro w hSw; (try dsimp only at hSw); go_simp)
        first | done | with_reducible rfl
      simp only [Act.put, List.getElem_toArray, List.getElem_cons_zero, List.getElem_cons_succ, List.setIfInBounds_toArray, List.set_cons_zero, List.set_cons_succ]
      refine wpAnyH_take (i := 8) (v := ?_) rfl (by kernel_rfl) (by kernel_rfl) (by kernel_rfl) (fun _ _ _ h => h) (Or.inl ⟨by rfl, ?_⟩) (by assumption) ?_
      rotate_left
      · (intro w hSw; (try dsimp only at hSw); go_simp)
        first | done | with_reducible rfl
      simp only [Act.put, List.getElem_toArray, List.getElem_cons_zero, List.getElem_cons_succ, List.setIfInBounds_toArray, List.set_cons_zero, List.set_cons_succ]
      refine wpAnyH_take (i := 9) (v := ?_) rfl (by kernel_rfl) (by kernel_rfl) (by kernel_rfl) (fun _ _ _ h => h) (Or.inl ⟨by rfl, ?_⟩) (by assumption) ?_
      rotate_left
      · (intro w hSw; (try dsimp only at hSw); go_simp)
        first | done | with_reducible rfl
      simp only [Act.put, List.getElem_toArray, List.getElem_cons_zero, List.getElem_cons_succ, List.setIfInBounds_toArray, List.set_cons_zero, List.set_cons_succ]
      refine wpAnyH_take (i := 10) (v := ?_) rfl (by kernel_rfl) (by kernel_rfl) (by kernel_rfl) (fun _ _ _ h => h) (Or.inl ⟨by rfl, ?_⟩) (by assumption) ?_
      rotate_left
      · (intro w hSw; (try dsimp only at hSw); go_simp)
        first | done | with_reducible rfl
      simp only [Act.put, List.getElem_toArray, List.getElem_cons_zero, List.getElem_cons_succ, List.setIfInBounds_toArray, List.set_cons_zero, List.set_cons_succ]
      refine wpAnyH_take (i := 11) (v := ?_) rfl (by kernel_rfl) (by kernel_rfl) (by kernel_rfl) (fun _ _ _ h => h) (Or.inl ⟨by rfl, ?_⟩) (by assumption) ?_
      rotate_left
      · (intro w hSw; (try dsimp only at hSw); go_simp)
        first | done | with_reducible rfl
      simp only [Act.put, List.getElem_toArray, List.getElem_cons_zero, List.getElem_cons_succ, List.setIfInBounds_toArray, List.set_cons_zero, List.set_cons_succ]
      refine wpAnyH_take (i := 12) (v := ?_) rfl (by kernel_rfl) (by kernel_rfl) (by kernel_rfl) (fun _ _ _ h => h) (Or.inl ⟨by rfl, ?_⟩) (by assumption) ?_
      rotate_left
      · (intro w hSw; (try dsimp only at hSw); go_simp)
        first | done | with_reducible rfl
      simp only [Act.put, List.getElem_toArray, List.getElem_cons_zero, List.getElem_cons_succ, List.setIfInBounds_toArray, List.set_cons_zero, List.set_cons_succ]
      refine wpAnyH_ready (rs := [13]) (by kernel_rfl) (by simp) ?_
      refine AllReadyH.cons rfl (fun K hK => ?_) AllReadyH.nil
      go_simp
      refine (WY.out _ ((Upd.refl [] wB).drew)).mono ?_
      rintro e w13 ⟨rfl, hu2⟩
      have hv2 : Upd [] wB w13 := (Upd.refl [] wB).drew.trans hu2
      refine hK.out _ _ ?_ (fun hHeld => ?_)
      · exact ⟨hu2.keep hHeld.1, hu2.keep hHeld.2.1, hu2.keep hHeld.2.2.1, hu2.keep hHeld.2.2.2.1, hu2.keep hHeld.2.2.2.2.1, hu2.keep hHeld.2.2.2.2.2.1, hu2.keep hHeld.2.2.2.2.2.2.1, hu2.keep hHeld.2.2.2.2.2.2.2.1, hu2.keep hHeld.2.2.2.2.2.2.2.2.1, hu2.keep hHeld.2.2.2.2.2.2.2.2.2.1, hu2.keep hHeld.2.2.2.2.2.2.2.2.2.2.1, hu2.keep hHeld.2.2.2.2.2.2.2.2.2.2.2.1, hu2.keep hHeld.2.2.2.2.2.2.2.2.2.2.2.2⟩
      clear hK K
      try simp only [Act.put, List.getElem_toArray, List.getElem_cons_zero, List.getElem_cons_succ, List.setIfInBounds_toArray, List.set_cons_zero, List.set_cons_succ]
      refine wpAnyH_take (i := 14) (v := ?_) rfl (by kernel_rfl) (by kernel_rfl) (by kernel_rfl) (fun _ _ _ h => h) (Or.inl ⟨by rfl, ?_⟩) (by assumption) ?_
      rotate_left
      · (intro w hSw; (try dsimp only at hSw); go_simp)
        first | done | with_reducible rfl
      simp only [Act.put, List.getElem_toArray, List.getElem_cons_zero, List.getElem_cons_succ, List.setIfInBounds_toArray, List.set_cons_zero, List.set_cons_succ]
      refine wpAnyH_done (by kernel_rfl) ?_ _
      have HU9 := Lib.hid (HUB.out.trans hv2)
      clear hHeld z0 z1 z2 z3 z4 z5 z6 z7 z8 t0 t1 t2 rA HUB WY hv2 hu2
      cases bb with
      | false =>
        have HE := Lib.hid (show Z = false by rw [← HS.out]; rfl)
        clear HS
        go_wp2_with fail
        go_ret
        exact ⟨by rw [HE.out]; rfl, U.out.trans (HU1.out.trans HU9.out)⟩
      | true =>
        have HE := Lib.hid (show ((OA.drop (i + 1)).all fun e => FF (A.labs.getD e.lb.toNat []) e.to) = Z by rw [← HS.out]; rfl)
        clear HS
        go_wp2_with fail
        go_roundw
        case rel => exact ⟨i + 1, by omega, by go_num, HE, HU9⟩
        case measure => simp [intOf]; omega
    · obtain rfl : i = OA.length := by omega
      have HE := Lib.hid (show Z = true by rw [← HA.out, List.drop_length]; rfl)
      clear HA
      go_wp2_with fail
      go_ret
      exact ⟨by rw [HE.out]; rfl, U.out.trans (HU1.out.trans HU.out)⟩

end Go.Proofs.YtcnaapiljmgfoaaGreatDoor
