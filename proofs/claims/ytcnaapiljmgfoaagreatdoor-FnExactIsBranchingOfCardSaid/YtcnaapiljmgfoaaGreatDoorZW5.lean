/-
  Texts joined in one file: BisE, FunM, FunN, BisG, BisW, BisY, BisL0, EncN.
-/
import Derived.Test.YtcnaapiljmgfoaaGreatDoorZW1
import Derived.Test.YtcnaapiljmgfoaaGreatDoorZW2
import Derived.Test.YtcnaapiljmgfoaaGreatDoorZW3
import Derived.Test.YtcnaapiljmgfoaaGreatDoorZW4
/-
  Relations between systems, the program's holds: all pairs of a set are gone through, in whatever order. (The drawn region's ways are printed by tools/genbise.py.)
-/
namespace Go.Proofs.YtcnaapiljmgfoaaGreatDoor
open Go.RowKit Go.Maps

/-- all edges of a pair are answered, in both directions. -/
def relF (F : Sys → Sys → (Int → Int → Bool) → Int → Int → List UInt8 → Int → Bool) (A B : Sys) (H : Int → Int → Bool) (p : Int × Int) : Bool := ansF A p.1 (F A B H p.1 p.2) && ansF B p.2 (F B A (fun u v => H v u) p.2 p.1)

theorem ranges_upd {w w' : World} {f : List Nat} {b r n cnt : Nat} {D : DataW Unit} {left : Lit → Bool} (h : w.ranges Tryz.prog 108 ElB b r n D left cnt) (hu : Upd f w w') (hb : b ∉ f) (hr : r ∉ f) : w'.ranges Tryz.prog 108 ElB b r n D left cnt := by
  have h1 := h.owns.lt
  have h2 := h.lt
  obtain ⟨es, clock, since, seen, c0, e1, F, e2, e3, e4, e5⟩ := h
  exact ⟨es, clock, since, seen, c0, (hu.block b h1 hb).trans e1, F, e2, e3, (hu.block r h2 hr).trans e4, e5⟩

set_option maxRecDepth 20000 in
set_option maxHeartbeats 16000000 in
theorem holdsI (fn : FuncId) (F : Sys → Sys → (Int → Int → Bool) → Int → Int → List UInt8 → Int → Bool) (hway : WayC fn F) (A B : Sys) (a1 a2 b1 b2 hv : Value) (H : Int → Int → Bool) (b n : Nat) (S : List (Int × Int)) (D : DataW Unit) (w : World) (f1 f2 f3 f4 : List Nat)
    (h : Two w A B a1 a2 b1 b2 f1 f2 f3 f4) (hh : HasC hv A.st B.st H w) (hm : w.ownsMap Tryz.prog 108 ElB b n D) (hp : PMap S D) (hS : ∀ p ∈ S, (0 ≤ p.1 ∧ p.1 < A.st) ∧ 0 ≤ p.2 ∧ p.2 < B.st) :
    Calls Tryz.prog 92 #[relV A B a1 a2 b1 b2 hv, .map (some b), .func (.func fn) #[] #[]] w fun e w' => e = .returned (.bool (S.all (relF F A B H))) ∧ Upd [] w w' := by
  have hent := hway.1
  have HAS := Lib.hid (And.intro (sys_parts h.oka).1 (sys_parts h.okb).1)
  obtain ⟨wA, hwA⟩ : ∃ wA, wA = w.alloc (.cells #[ei A.st, ei A.ini, a1, a2, ei B.st, ei B.ini, b1, b2, hv] 86) := ⟨_, rfl⟩
  have U := Lib.hid (show Upd [] w wA by rw [hwA]; exact (Upd.refl _ _).alloc _)
  have hR : RelAt w.heap.size wA A B a1 a2 b1 b2 hv := by rw [hwA]; exact RelAt.new w A B a1 a2 b1 b2 hv
  have hown : wA.ownsMap Tryz.prog 108 ElB b n D := by rw [hwA]; exact hm.alloc _
  obtain ⟨BR, hBR⟩ : ∃ BR, BR = w.heap.size := ⟨_, rfl⟩
  rw [← hBR] at hR
  have HR := Lib.hid hR
  have HP := Lib.hid hp
  have HS := Lib.hid hS
  have W10 := Lib.hid (fun (x y : Int) (hx : (0 ≤ x ∧ x < A.st) ∧ 0 ≤ y ∧ y < B.st) W (hu : Upd [] wA W) => answeredI fn F hway A B a1 a2 b1 b2 hv H x y W f1 f2 f3 f4 (h.upd (U.out.trans hu)) (hh.upd (U.out.trans hu)) hx.1.1 hx.1.2 hx.2.1 hx.2.2)
  have W20 := Lib.hid (fun W (hu : Upd [] wA W) => turnedI A B a1 a2 b1 b2 hv H W f1 f2 f3 f4 (h.upd (U.out.trans hu)) (hh.upd (U.out.trans hu)))
  have W30 := Lib.hid (fun (x y : Int) (hx : (0 ≤ x ∧ x < A.st) ∧ 0 ≤ y ∧ y < B.st) W (hu : Upd [] wA W) hvt (hht : HasC hvt B.st A.st (fun u v => H v u) W) => answeredI fn F hway B A b1 b2 a1 a2 hvt (fun u v => H v u) y x W f3 f4 f1 f2 (h.upd (U.out.trans hu)).turn hht hx.2.1 hx.2.2 hx.1.1 hx.1.2)
  have HF := Lib.hid (fun x y => show relF F A B H (x, y) = (ansF A x (F A B H x y) && ansF B y (F B A (fun u v => H v u) y x)) from rfl)
  clear hR h hh hway hm hp hS
  generalize relF F A B H = RF at *
  go_enter Tryz.func92, Tryz.ntmps92
  go_upto_region 1 with (fail)
  rw [← hwA, ← hBR]
  clear hwA hBR
  go_wp2_with (first
    | (at_range; refine wpList_range_own _ rfl _ 105 rfl 108 4 keyP Tryz.underlying105 _ b n D rfl hown ?_; intro w0 hrg0 hg0 hs0)
    | fail)
  go_frame
  have HU0 := Lib.hid ((Upd.refl [] wA).grown hg0 (fun j hj => by cases hj))
  have HRG0 := Lib.hid hrg0
  clear hg0 hs0 hrg0 hown
  obtain ⟨BI, hBI⟩ : ∃ BI, BI = wA.heap.size := ⟨_, rfl⟩
  rw [← hBI] at HRG0 ⊢
  have HBI := Lib.hid hBI
  clear hBI
  go_loopw [6] (fun _ wr => ∃ (left : Lit → Bool) (cnt : Nat), Hid (wr.ranges Tryz.prog 108 ElB b BI n D left cnt) ∧ Hid (Upd [] wA wr) ∧ Hid (∀ x y : Int, (x, y) ∈ S → left (klP x y) = false → RF (x, y) = true))
    (fun _ wr => wr.rangeLeft b BI)
  case atStart => exact ⟨_, _, HRG0, HU0, Lib.hid (fun x y hxy hl => by
    have hb := HS.out _ hxy
    have hb2 := HAS.out
    have h0 : Maps.has D (klP x y) = true := by
      rw [HP.out.2.1 x y (in64_of (by omega)) (in64_of (by omega))]
      simpa using hxy
    rw [h0] at hl
    exact absurd hl (by simp))⟩
  case round =>
    clear HRG0 HU0
    obtain ⟨wo, rfl⟩ : ∃ wo : World, wo = wr := ⟨_, rfl⟩
    obtain ⟨left, cnt, HRG, HU, HI⟩ := hrel
    go_wp2_with (first
      | (at_next; refine wpList_next_pairs rfl _ rfl b BI n S D left cnt HP.out rfl HRG.out ?_ ?_)
      | fail)
    · intro hl0
      have HE := Lib.hid (show S.all RF = true by
        rw [List.all_eq_true]
        rintro ⟨x, y⟩ hxy
        exact HI.out x y hxy (hl0 _))
      clear hl0 HI
      go_wp2_with fail
      go_ret
      exact ⟨by rw [HE.out]; rfl, U.out.trans HU.out⟩
    · intro x y w1 cnt1 hin hxi hyi hrg1 hlt hg1 hs1 hen
      have hbd := HS.out _ hin
      have HU1 := Lib.hid (HU.out.fresh ((Upd.refl [BI] wo).grown hg1 (fun j hj => Or.inr (by simp at hj ⊢; exact hj.symm))) (fun j hj => Or.inl (by simp at hj; have := HBI.out; omega)))
      have HLT := Lib.hid (show cnt1 < wo.rangeLeft b BI by rw [HRG.out.left_eq]; exact hlt)
      have HRG1 := Lib.hid hrg1
      have HIN := Lib.hid (And.intro hin (And.intro hxi hyi))
      clear hin hrg1 hlt hg1 hs1 hxi hyi HRG HU
      simp only at hbd hen ⊢
      obtain ⟨wB, hwB⟩ : ∃ wB, wB = w1.alloc (.cells #[ei x, ei y] 108) := ⟨_, rfl⟩
      have UB : Upd [] w1 wB := by rw [hwB]; exact (Upd.refl _ _).alloc _
      have HUB := Lib.hid (HU1.out.trans UB)
      have HRB := Lib.hid (ranges_upd HRG1.out UB (by simp) (by simp))
      have t0 : wB.cell? ⟨w1.heap.size, 0, none⟩ = some (ei x) := by rw [hwB]; exact cell_new w1 _ _ _ rfl 0 _ rfl
      have t1 : wB.cell? ⟨w1.heap.size, 1, none⟩ = some (ei y) := by rw [hwB]; exact cell_new w1 _ _ _ rfl 1 _ rfl
      obtain ⟨⟨z0, z1, z2, z3⟩, ⟨z4, z5, z6, z7⟩, z8⟩ := (HR.out.upd HUB.out (by simp)).facts
      have W1 := Lib.hid (fun W (hu : Upd [] wB W) => W10.out x y hbd W (HUB.out.trans hu))
      have W2 := Lib.hid (fun W (hu : Upd [] wB W) => W20.out W (HUB.out.trans hu))
      have W3 := Lib.hid (fun W (hu : Upd [] wB W) hvt hht => W30.out x y hbd W (HUB.out.trans hu) hvt hht)
      have HFX := Lib.hid (HF.out x y)
      generalize ansF A x (F A B H x y) = m1 at *
      generalize ansF B y (F B A (fun u v => H v u) y x) = m2 at *
      obtain ⟨BE, hBE⟩ : ∃ BE, BE = w1.heap.size := ⟨_, rfl⟩
      rw [← hBE] at t0 t1
      go_upto_region 4 with (fail)
      rw [← hwB, ← hBE]
      clear hwB hBE UB W10 W20 W30 HF hen HRG1 HU1 hbd
      cases m1 with
      | false =>
          refine wp_region_held_drew (S := fun w' => w'.cell? ⟨BR, 0, none⟩ = some (ei A.st) ∧ w'.cell? ⟨BR, 1, none⟩ = some (ei A.ini) ∧ w'.cell? ⟨BR, 2, none⟩ = some a1 ∧ w'.cell? ⟨BR, 3, none⟩ = some a2 ∧ w'.cell? ⟨BR, 4, none⟩ = some (ei B.st) ∧ w'.cell? ⟨BR, 5, none⟩ = some (ei B.ini) ∧ w'.cell? ⟨BR, 6, none⟩ = some b1 ∧ w'.cell? ⟨BR, 7, none⟩ = some b2 ∧ w'.cell? ⟨BR, 8, none⟩ = some hv ∧ w'.cell? ⟨BE, 0, none⟩ = some (ei x) ∧ w'.cell? ⟨BE, 1, none⟩ = some (ei y)) (by kernel_rfl) ?_ (fun hHeld => ?_)
          · exact ⟨z0, z1, z2, z3, z4, z5, z6, z7, z8, t0, t1⟩
          refine wpAnyH_take (i := 0) (v := ?_) rfl (by kernel_rfl) (by kernel_rfl) (by kernel_rfl) (fun _ _ _ h => h) (Or.inl ⟨by rfl, ?_⟩) (by assumption) ?_
          rotate_left
          · (intro w hSw; (try dsimp only at hSw); go_simp)
            first | done | with_reducible rfl
          simp only [Act.put, List.getElem_toArray, List.getElem_cons_zero, List.setIfInBounds_toArray, List.set_cons_zero, List.set_cons_succ]
          refine wpAnyH_take (i := 1) (v := ?_) rfl (by kernel_rfl) (by kernel_rfl) (by kernel_rfl) (fun _ _ _ h => h) (Or.inl ⟨by rfl, ?_⟩) (by assumption) ?_
          rotate_left
          · (intro w hSw; (try dsimp only at hSw); go_simp)
            first | done | with_reducible rfl
          simp only [Act.put, List.getElem_toArray, List.getElem_cons_zero, List.getElem_cons_succ, List.setIfInBounds_toArray, List.set_cons_zero, List.set_cons_succ]
          refine wpAnyH_take (i := 2) (v := ?_) rfl (by kernel_rfl) (by kernel_rfl) (by kernel_rfl) (fun _ _ _ h => h) (Or.inl ⟨by rfl, ?_⟩) (by assumption) ?_
          rotate_left
          · (intro w hSw; (try dsimp only at hSw); go_simp)
            first | done | with_reducible rfl
          simp only [Act.put, List.getElem_toArray, List.getElem_cons_zero, List.getElem_cons_succ, List.setIfInBounds_toArray, List.set_cons_zero, List.set_cons_succ]
          refine wpAnyH_take (i := 3) (v := ?_) rfl (by kernel_rfl) (by kernel_rfl) (by kernel_rfl) (fun _ _ _ h => h) (Or.inl ⟨by rfl, ?_⟩) (by assumption) ?_
          rotate_left
          · (intro w hSw; (try dsimp only at hSw); go_simp)
            first | done | with_reducible rfl
          simp only [Act.put, List.getElem_toArray, List.getElem_cons_zero, List.getElem_cons_succ, List.setIfInBounds_toArray, List.set_cons_zero, List.set_cons_succ]
          refine wpAnyH_take (i := 4) (v := ?_) rfl (by kernel_rfl) (by kernel_rfl) (by kernel_rfl) (fun _ _ _ h => h) (Or.inl ⟨by rfl, ?_⟩) (by assumption) ?_
          rotate_left
          · (intro w hSw; (try dsimp only at hSw); go_simp)
            first | done | with_reducible rfl
          simp only [Act.put, List.getElem_toArray, List.getElem_cons_zero, List.getElem_cons_succ, List.setIfInBounds_toArray, List.set_cons_zero, List.set_cons_succ]
          refine wpAnyH_take (i := 5) (v := ?_) rfl (by kernel_rfl) (by kernel_rfl) (by kernel_rfl) (fun _ _ _ h => h) (Or.inl ⟨by rfl, ?_⟩) (by assumption) ?_
          rotate_left
          · (intro w hSw; (try dsimp only at hSw); go_simp)
            first | done | with_reducible rfl
          simp only [Act.put, List.getElem_toArray, List.getElem_cons_zero, List.getElem_cons_succ, List.setIfInBounds_toArray, List.set_cons_zero, List.set_cons_succ]
          refine wpAnyH_ready (rs := [6]) (by kernel_rfl) (by simp) ?_
          refine AllReadyH.cons rfl (fun K hK => ?_) AllReadyH.nil
          go_simp
          refine (W1.out _ ((Upd.refl [] wB).drew)).mono ?_
          rintro e w6 ⟨rfl, hu1⟩
          have hv1 : Upd [] wB w6 := (Upd.refl [] wB).drew.trans hu1
          refine hK.out _ _ ?_ (fun hHeld => ?_)
          · exact ⟨hu1.keep hHeld.1, hu1.keep hHeld.2.1, hu1.keep hHeld.2.2.1, hu1.keep hHeld.2.2.2.1, hu1.keep hHeld.2.2.2.2.1, hu1.keep hHeld.2.2.2.2.2.1, hu1.keep hHeld.2.2.2.2.2.2.1, hu1.keep hHeld.2.2.2.2.2.2.2.1, hu1.keep hHeld.2.2.2.2.2.2.2.2.1, hu1.keep hHeld.2.2.2.2.2.2.2.2.2.1, hu1.keep hHeld.2.2.2.2.2.2.2.2.2.2⟩
          clear hK K
          try simp only [Act.put, List.getElem_toArray, List.getElem_cons_zero, List.getElem_cons_succ, List.setIfInBounds_toArray, List.set_cons_zero, List.set_cons_succ]
          refine wpAnyH_take (i := 7) (v := ?_) rfl (by kernel_rfl) (by kernel_rfl) (by kernel_rfl) (fun _ _ _ h => h) (Or.inl ⟨by rfl, ?_⟩) (by assumption) ?_
          rotate_left
          · (intro w hSw; (try dsimp only at hSw); go_simp)
            first | done | with_reducible rfl
          simp only [Act.put, List.getElem_toArray, List.getElem_cons_zero, List.getElem_cons_succ, List.setIfInBounds_toArray, List.set_cons_zero, List.set_cons_succ]
          refine wpAnyH_take (i := 8) (v := ?_) rfl (by kernel_rfl) (by kernel_rfl) (by kernel_rfl) (fun _ _ _ h => h) (Or.inl ⟨by rfl, ?_⟩) (by assumption) ?_
          rotate_left
          · (intro w hSw; (try dsimp only at hSw); go_simp)
            first | done | with_reducible rfl
          simp only [Act.put, List.getElem_toArray, List.getElem_cons_zero, List.getElem_cons_succ, List.setIfInBounds_toArray, List.set_cons_zero, List.set_cons_succ]
          refine wpAnyH_take (i := 9) rfl (by kernel_rfl) (by kernel_rfl) (by kernel_rfl) (fun _ _ _ h => h) (Or.inr ⟨by rfl, rfl⟩) (by assumption) ?_
          simp only [Act.put, List.getElem_toArray, List.getElem_cons_zero, List.getElem_cons_succ, List.setIfInBounds_toArray, List.set_cons_zero, List.set_cons_succ]
          refine wpAnyH_take (i := 10) rfl (by kernel_rfl) (by kernel_rfl) (by kernel_rfl) (fun _ _ _ h => h) (Or.inr ⟨by rfl, rfl⟩) (by assumption) ?_
          simp only [Act.put, List.getElem_toArray, List.getElem_cons_zero, List.getElem_cons_succ, List.setIfInBounds_toArray, List.set_cons_zero, List.set_cons_succ]
          refine wpAnyH_take (i := 11) rfl (by kernel_rfl) (by kernel_rfl) (by kernel_rfl) (fun _ _ _ h => h) (Or.inr ⟨by rfl, rfl⟩) (by assumption) ?_
          simp only [Act.put, List.getElem_toArray, List.getElem_cons_zero, List.getElem_cons_succ, List.setIfInBounds_toArray, List.set_cons_zero, List.set_cons_succ]
          refine wpAnyH_take (i := 12) rfl (by kernel_rfl) (by kernel_rfl) (by kernel_rfl) (fun _ _ _ h => h) (Or.inr ⟨by rfl, rfl⟩) (by assumption) ?_
          simp only [Act.put, List.getElem_toArray, List.getElem_cons_zero, List.getElem_cons_succ, List.setIfInBounds_toArray, List.set_cons_zero, List.set_cons_succ]
          refine wpAnyH_take (i := 13) rfl (by kernel_rfl) (by kernel_rfl) (by kernel_rfl) (fun _ _ _ h => h) (Or.inr ⟨by rfl, rfl⟩) (by assumption) ?_
          simp only [Act.put, List.getElem_toArray, List.getElem_cons_zero, List.getElem_cons_succ, List.setIfInBounds_toArray, List.set_cons_zero, List.set_cons_succ]
          refine wpAnyH_take (i := 14) rfl (by kernel_rfl) (by kernel_rfl) (by kernel_rfl) (fun _ _ _ h => h) (Or.inr ⟨by rfl, rfl⟩) (by assumption) ?_
          simp only [Act.put, List.getElem_toArray, List.getElem_cons_zero, List.getElem_cons_succ, List.setIfInBounds_toArray, List.set_cons_zero, List.set_cons_succ]
          refine wpAnyH_take (i := 15) rfl (by kernel_rfl) (by kernel_rfl) (by kernel_rfl) (fun _ _ _ h => h) (Or.inr ⟨by rfl, rfl⟩) (by assumption) ?_
          simp only [Act.put, List.getElem_toArray, List.getElem_cons_zero, List.getElem_cons_succ, List.setIfInBounds_toArray, List.set_cons_zero, List.set_cons_succ]
          refine wpAnyH_take (i := 16) rfl (by kernel_rfl) (by kernel_rfl) (by kernel_rfl) (fun _ _ _ h => h) (Or.inr ⟨by rfl, rfl⟩) (by assumption) ?_
          simp only [Act.put, List.getElem_toArray, List.getElem_cons_zero, List.getElem_cons_succ, List.setIfInBounds_toArray, List.set_cons_zero, List.set_cons_succ]
          refine wpAnyH_take (i := 17) rfl (by kernel_rfl) (by kernel_rfl) (by kernel_rfl) (fun _ _ _ h => h) (Or.inr ⟨by rfl, rfl⟩) (by assumption) ?_
          simp only [Act.put, List.getElem_toArray, List.getElem_cons_zero, List.getElem_cons_succ, List.setIfInBounds_toArray, List.set_cons_zero, List.set_cons_succ]
          refine wpAnyH_take (i := 18) (v := ?_) rfl (by kernel_rfl) (by kernel_rfl) (by kernel_rfl) (fun _ _ _ h => h) (Or.inl ⟨by rfl, ?_⟩) (by assumption) ?_
          rotate_left
          · (intro w hSw; (try dsimp only at hSw); go_simp)
            first | done | with_reducible rfl
          simp only [Act.put, List.getElem_toArray, List.getElem_cons_zero, List.getElem_cons_succ, List.setIfInBounds_toArray, List.set_cons_zero, List.set_cons_succ]
          refine wpAnyH_done (by kernel_rfl) ?_ _
          have HE := Lib.hid (show S.all RF = false by
            rw [Bool.eq_false_iff]
            intro h9
            have h8 := List.all_eq_true.1 h9 _ HIN.out.1
            rw [HFX.out] at h8
            simp at h8)
          have HU9 := Lib.hid (HUB.out.trans hv1)
          clear hHeld z0 z1 z2 z3 z4 z5 z6 z7 z8 t0 t1 HUB W1 W2 W3 hv1 hu1
          go_wp2_with fail
          go_ret
          exact ⟨by rw [HE.out]; rfl, U.out.trans HU9.out⟩
      | true =>
          refine wp_region_held_drew (S := fun w' => w'.cell? ⟨BR, 0, none⟩ = some (ei A.st) ∧ w'.cell? ⟨BR, 1, none⟩ = some (ei A.ini) ∧ w'.cell? ⟨BR, 2, none⟩ = some a1 ∧ w'.cell? ⟨BR, 3, none⟩ = some a2 ∧ w'.cell? ⟨BR, 4, none⟩ = some (ei B.st) ∧ w'.cell? ⟨BR, 5, none⟩ = some (ei B.ini) ∧ w'.cell? ⟨BR, 6, none⟩ = some b1 ∧ w'.cell? ⟨BR, 7, none⟩ = some b2 ∧ w'.cell? ⟨BR, 8, none⟩ = some hv ∧ w'.cell? ⟨BE, 0, none⟩ = some (ei x) ∧ w'.cell? ⟨BE, 1, none⟩ = some (ei y)) (by kernel_rfl) ?_ (fun hHeld => ?_)
          · exact ⟨z0, z1, z2, z3, z4, z5, z6, z7, z8, t0, t1⟩
          refine wpAnyH_take (i := 0) (v := ?_) rfl (by kernel_rfl) (by kernel_rfl) (by kernel_rfl) (fun _ _ _ h => h) (Or.inl ⟨by rfl, ?_⟩) (by assumption) ?_
          rotate_left
          · (intro w hSw; (try dsimp only at hSw); go_simp)
            first | done | with_reducible rfl
          simp only [Act.put, List.getElem_toArray, List.getElem_cons_zero, List.setIfInBounds_toArray, List.set_cons_zero, List.set_cons_succ]
          refine wpAnyH_take (i := 1) (v := ?_) rfl (by kernel_rfl) (by kernel_rfl) (by kernel_rfl) (fun _ _ _ h => h) (Or.inl ⟨by rfl, ?_⟩) (by assumption) ?_
          rotate_left
          · (intro w hSw; (try dsimp only at hSw); go_simp)
            first | done | with_reducible rfl
          simp only [Act.put, List.getElem_toArray, List.getElem_cons_zero, List.getElem_cons_succ, List.setIfInBounds_toArray, List.set_cons_zero, List.set_cons_succ]
          refine wpAnyH_take (i := 2) (v := ?_) rfl (by kernel_rfl) (by kernel_rfl) (by kernel_rfl) (fun _ _ _ h => h) (Or.inl ⟨by rfl, ?_⟩) (by assumption) ?_
          rotate_left
          · (intro w hSw; (try dsimp only at hSw); go_simp)
            first | done | with_reducible rfl
          simp only [Act.put, List.getElem_toArray, List.getElem_cons_zero, List.getElem_cons_succ, List.setIfInBounds_toArray, List.set_cons_zero, List.set_cons_succ]
          refine wpAnyH_take (i := 3) (v := ?_) rfl (by kernel_rfl) (by kernel_rfl) (by kernel_rfl) (fun _ _ _ h => h) (Or.inl ⟨by rfl, ?_⟩) (by assumption) ?_
          rotate_left
          · (intro w hSw; (try dsimp only at hSw); go_simp)
            first | done | with_reducible rfl
          simp only [Act.put, List.getElem_toArray, List.getElem_cons_zero, List.getElem_cons_succ, List.setIfInBounds_toArray, List.set_cons_zero, List.set_cons_succ]
          refine wpAnyH_take (i := 4) (v := ?_) rfl (by kernel_rfl) (by kernel_rfl) (by kernel_rfl) (fun _ _ _ h => h) (Or.inl ⟨by rfl, ?_⟩) (by assumption) ?_
          rotate_left
          · (intro w hSw; (try dsimp only at hSw); go_simp)
            first | done | with_reducible rfl
          simp only [Act.put, List.getElem_toArray, List.getElem_cons_zero, List.getElem_cons_succ, List.setIfInBounds_toArray, List.set_cons_zero, List.set_cons_succ]
          refine wpAnyH_take (i := 5) (v := ?_) rfl (by kernel_rfl) (by kernel_rfl) (by kernel_rfl) (fun _ _ _ h => h) (Or.inl ⟨by rfl, ?_⟩) (by assumption) ?_
          rotate_left
          · (intro w hSw; (try dsimp only at hSw); go_simp)
            first | done | with_reducible rfl
          simp only [Act.put, List.getElem_toArray, List.getElem_cons_zero, List.getElem_cons_succ, List.setIfInBounds_toArray, List.set_cons_zero, List.set_cons_succ]
          refine wpAnyH_ready (rs := [6]) (by kernel_rfl) (by simp) ?_
          refine AllReadyH.cons rfl (fun K hK => ?_) AllReadyH.nil
          go_simp
          refine (W1.out _ ((Upd.refl [] wB).drew)).mono ?_
          rintro e w6 ⟨rfl, hu1⟩
          have hv1 : Upd [] wB w6 := (Upd.refl [] wB).drew.trans hu1
          refine hK.out _ _ ?_ (fun hHeld => ?_)
          · exact ⟨hu1.keep hHeld.1, hu1.keep hHeld.2.1, hu1.keep hHeld.2.2.1, hu1.keep hHeld.2.2.2.1, hu1.keep hHeld.2.2.2.2.1, hu1.keep hHeld.2.2.2.2.2.1, hu1.keep hHeld.2.2.2.2.2.2.1, hu1.keep hHeld.2.2.2.2.2.2.2.1, hu1.keep hHeld.2.2.2.2.2.2.2.2.1, hu1.keep hHeld.2.2.2.2.2.2.2.2.2.1, hu1.keep hHeld.2.2.2.2.2.2.2.2.2.2⟩
          clear hK K
          try simp only [Act.put, List.getElem_toArray, List.getElem_cons_zero, List.getElem_cons_succ, List.setIfInBounds_toArray, List.set_cons_zero, List.set_cons_succ]
          refine wpAnyH_take (i := 7) (v := ?_) rfl (by kernel_rfl) (by kernel_rfl) (by kernel_rfl) (fun _ _ _ h => h) (Or.inl ⟨by rfl, ?_⟩) (by assumption) ?_
          rotate_left
          · (intro w hSw; (try dsimp only at hSw); go_simp)
            first | done | with_reducible rfl
          simp only [Act.put, List.getElem_toArray, List.getElem_cons_zero, List.getElem_cons_succ, List.setIfInBounds_toArray, List.set_cons_zero, List.set_cons_succ]
          refine wpAnyH_take (i := 8) (v := ?_) rfl (by kernel_rfl) (by kernel_rfl) (by kernel_rfl) (fun _ _ _ h => h) (Or.inl ⟨by rfl, ?_⟩) (by assumption) ?_
          rotate_left
          · (intro w hSw; (try dsimp only at hSw); go_simp)
            first | done | with_reducible rfl
          simp only [Act.put, List.getElem_toArray, List.getElem_cons_zero, List.getElem_cons_succ, List.setIfInBounds_toArray, List.set_cons_zero, List.set_cons_succ]
          refine wpAnyH_take (i := 9) (v := ?_) rfl (by kernel_rfl) (by kernel_rfl) (by kernel_rfl) (fun _ _ _ h => h) (Or.inl ⟨by rfl, ?_⟩) (by assumption) ?_
          rotate_left
          · (intro w hSw; (try dsimp only at hSw); go_simp)
            first | done | with_reducible rfl
          simp only [Act.put, List.getElem_toArray, List.getElem_cons_zero, List.getElem_cons_succ, List.setIfInBounds_toArray, List.set_cons_zero, List.set_cons_succ]
          refine wpAnyH_take (i := 11) (v := ?_) rfl (by kernel_rfl) (by kernel_rfl) (by kernel_rfl) (fun _ _ _ h => h) (Or.inl ⟨by rfl, ?_⟩) (by assumption) ?_
          rotate_left
          · (intro w hSw; (try dsimp only at hSw); go_simp)
            first | done | with_reducible rfl
          simp only [Act.put, List.getElem_toArray, List.getElem_cons_zero, List.getElem_cons_succ, List.setIfInBounds_toArray, List.set_cons_zero, List.set_cons_succ]
          refine wpAnyH_take (i := 12) (v := ?_) rfl (by kernel_rfl) (by kernel_rfl) (by kernel_rfl) (fun _ _ _ h => h) (Or.inl ⟨by rfl, ?_⟩) (by assumption) ?_
          rotate_left
          · (intro w hSw; (try dsimp only at hSw); go_simp)
            first | done | with_reducible rfl
          simp only [Act.put, List.getElem_toArray, List.getElem_cons_zero, List.getElem_cons_succ, List.setIfInBounds_toArray, List.set_cons_zero, List.set_cons_succ]
          refine wpAnyH_take (i := 13) (v := ?_) rfl (by kernel_rfl) (by kernel_rfl) (by kernel_rfl) (fun _ _ _ h => h) (Or.inl ⟨by rfl, ?_⟩) (by assumption) ?_
          rotate_left
          · (intro w hSw; (try dsimp only at hSw); go_simp)
            first | done | with_reducible rfl
          simp only [Act.put, List.getElem_toArray, List.getElem_cons_zero, List.getElem_cons_succ, List.setIfInBounds_toArray, List.set_cons_zero, List.set_cons_succ]
          refine wpAnyH_take (i := 14) (v := ?_) rfl (by kernel_rfl) (by kernel_rfl) (by kernel_rfl) (fun _ _ _ h => h) (Or.inl ⟨by rfl, ?_⟩) (by assumption) ?_
          rotate_left
          · (intro w hSw; (try dsimp only at hSw); go_simp)
            first | done | with_reducible rfl
          simp only [Act.put, List.getElem_toArray, List.getElem_cons_zero, List.getElem_cons_succ, List.setIfInBounds_toArray, List.set_cons_zero, List.set_cons_succ]
          refine wpAnyH_take (i := 15) (v := ?_) rfl (by kernel_rfl) (by kernel_rfl) (by kernel_rfl) (fun _ _ _ h => h) (Or.inl ⟨by rfl, ?_⟩) (by assumption) ?_
          rotate_left
          · (intro w hSw; (try dsimp only at hSw); go_simp)
            first | done | with_reducible rfl
          simp only [Act.put, List.getElem_toArray, List.getElem_cons_zero, List.getElem_cons_succ, List.setIfInBounds_toArray, List.set_cons_zero, List.set_cons_succ]
          refine wpAnyH_ready (rs := [10]) (by kernel_rfl) (by simp) ?_
          refine AllReadyH.cons rfl (fun K hK => ?_) AllReadyH.nil
          go_simp
          refine (W2.out w6 hv1).mono ?_
          rintro e w10 ⟨⟨hvt, rfl, hht⟩, hu2⟩
          have hv2 : Upd [] wB w10 := hv1.trans hu2
          refine hK.out _ _ ?_ (fun hHeld => ?_)
          · exact ⟨hu2.keep hHeld.1, hu2.keep hHeld.2.1, hu2.keep hHeld.2.2.1, hu2.keep hHeld.2.2.2.1, hu2.keep hHeld.2.2.2.2.1, hu2.keep hHeld.2.2.2.2.2.1, hu2.keep hHeld.2.2.2.2.2.2.1, hu2.keep hHeld.2.2.2.2.2.2.2.1, hu2.keep hHeld.2.2.2.2.2.2.2.2.1, hu2.keep hHeld.2.2.2.2.2.2.2.2.2.1, hu2.keep hHeld.2.2.2.2.2.2.2.2.2.2⟩
          clear hK K
          try simp only [Act.put, List.getElem_toArray, List.getElem_cons_zero, List.getElem_cons_succ, List.setIfInBounds_toArray, List.set_cons_zero, List.set_cons_succ]
          refine wpAnyH_ready (rs := [16]) (by kernel_rfl) (by simp) ?_
          refine AllReadyH.cons rfl (fun K hK => ?_) AllReadyH.nil
          go_simp
          refine (W3.out w10 hv2 hvt hht).mono ?_
          rintro e w16 ⟨rfl, hu3⟩
          have hv3 : Upd [] wB w16 := hv2.trans hu3
          refine hK.out _ _ ?_ (fun hHeld => ?_)
          · exact ⟨hu3.keep hHeld.1, hu3.keep hHeld.2.1, hu3.keep hHeld.2.2.1, hu3.keep hHeld.2.2.2.1, hu3.keep hHeld.2.2.2.2.1, hu3.keep hHeld.2.2.2.2.2.1, hu3.keep hHeld.2.2.2.2.2.2.1, hu3.keep hHeld.2.2.2.2.2.2.2.1, hu3.keep hHeld.2.2.2.2.2.2.2.2.1, hu3.keep hHeld.2.2.2.2.2.2.2.2.2.1, hu3.keep hHeld.2.2.2.2.2.2.2.2.2.2⟩
          clear hK K
          try simp only [Act.put, List.getElem_toArray, List.getElem_cons_zero, List.getElem_cons_succ, List.setIfInBounds_toArray, List.set_cons_zero, List.set_cons_succ]
          refine wpAnyH_take (i := 17) (v := ?_) rfl (by kernel_rfl) (by kernel_rfl) (by kernel_rfl) (fun _ _ _ h => h) (Or.inl ⟨by rfl, ?_⟩) (by assumption) ?_
          rotate_left
          · (intro w hSw; (try dsimp only at hSw); go_simp)
            first | done | with_reducible rfl
          simp only [Act.put, List.getElem_toArray, List.getElem_cons_zero, List.getElem_cons_succ, List.setIfInBounds_toArray, List.set_cons_zero, List.set_cons_succ]
          refine wpAnyH_take (i := 18) (v := ?_) rfl (by kernel_rfl) (by kernel_rfl) (by kernel_rfl) (fun _ _ _ h => h) (Or.inl ⟨by rfl, ?_⟩) (by assumption) ?_
          rotate_left
          · (intro w hSw; (try dsimp only at hSw); go_simp)
            first | done | with_reducible rfl
          simp only [Act.put, List.getElem_toArray, List.getElem_cons_zero, List.getElem_cons_succ, List.setIfInBounds_toArray, List.set_cons_zero, List.set_cons_succ]
          refine wpAnyH_done (by kernel_rfl) ?_ _
          have HU9 := Lib.hid (HUB.out.trans hv3)
          have HR9 := Lib.hid (ranges_upd HRB.out hv3 (by simp) (by simp))
          clear hHeld z0 z1 z2 z3 z4 z5 z6 z7 z8 t0 t1 HUB W1 W2 W3 hv1 hu1 hv2 hu2 hv3 hu3 hht
          cases m2 with
          | false =>
            have HE := Lib.hid (show S.all RF = false by
              rw [Bool.eq_false_iff]
              intro h9
              have h8 := List.all_eq_true.1 h9 _ HIN.out.1
              rw [HFX.out] at h8
              simp at h8)
            go_wp2_with fail
            go_ret
            exact ⟨by rw [HE.out]; rfl, U.out.trans HU9.out⟩
          | true =>
            go_wp2_with fail
            go_roundw
            case rel =>
              exact ⟨_, cnt1, HR9, HU9, Lib.hid (fun x9 y9 hxy hl => by
                by_cases hl9 : left (klP x9 y9) = false
                · exact HI.out x9 y9 hxy hl9
                · have hl8 : left (klP x9 y9) = true := by simpa using hl9
                  have h7 : (klP x9 y9).sameKey (klP x y) = true := by rw [hl8] at hl; simpa using hl
                  have hb := HS.out _ hxy
                  have hb2 := HAS.out
                  obtain ⟨rfl, rfl⟩ := klP_inj (in64_of (by omega)) (in64_of (by omega)) HIN.out.2.1 HIN.out.2.2 (WideAt.sameKey_eq h7)
                  rw [HFX.out]; rfl)⟩
            case measure => rw [HR9.out.left_eq]; exact HLT.out

end Go.Proofs.YtcnaapiljmgfoaaGreatDoor

/-
  slices.IndexFunc and ContainsFunc over rows of numbers, at whatever function value.
-/
namespace Go.Proofs.YtcnaapiljmgfoaaGreatDoor
open Go.RowKit

def IdxM (P : List Int → Bool) (xs : List (List Int)) (w : World) (e : Ending) (w' : World) : Prop := (∃ q : Int, e = .returned (.int .i64 q) ∧ -1 ≤ q ∧ q ≤ 9223372036854775807 ∧ decide (0 ≤ q) = xs.any P) ∧ Upd [] w w'

set_option maxRecDepth 20000 in
set_option maxHeartbeats 1000000 in
theorem indexFuncM (P : List Int → Bool) (fn : FuncId) (caps : Array Value) (v : Value) (xs : List (List Int)) (w : World) (fp : List Nat) (hR : R_N2 fp w [v] xs)
    (hent : ∀ args w, Sem.run Tryz.prog (callFunc fn args) w = .ok (.enter fn args) w)
    (hby : ∀ wr u f x, x ∈ xs → Upd [] w wr → R1 f wr [u] x → Calls Tryz.prog fn (#[u] ++ caps) wr fun e w' => e = .returned (.bool (P x)) ∧ Upd [] wr w') :
    Calls Tryz.prog 89 #[v, .func (.func fn) #[] caps] w (IdxM P xs w) := by
  obtain ⟨a1, c1, rfl, hl1, hm1, hc1⟩ := slP_open hR
  unfold maxLen at hm1
  have HBY := Lib.hid hby
  clear hR hby
  go_enter Tryz.func89, Tryz.ntmps89
  go_wp2_with fail
  go_loopw [8] (fun i wr => ∃ k : Nat, k ≤ xs.length ∧ i = .int .i64 k ∧ Upd [] w wr ∧ (xs.drop k).any P = xs.any P) (fun i _ => xs.length - (intOf i).toNat)
  case atStart => exact ⟨0, Nat.zero_le _, rfl, Upd.refl _ _, rfl⟩
  case round =>
    obtain ⟨k, hk, rfl, hU, hF⟩ := hrel
    by_cases hlt : k < xs.length
    · obtain ⟨b1, o1, u, f, rfl, -, -, p1, -, hr⟩ := hc1 k hlt
      have p1' := hU.keep p1
      rw [List.drop_eq_getElem_cons hlt, List.any_cons] at hF
      have HF := Lib.hid hF
      have HU := Lib.hid hU
      have S1 := Lib.hid (HBY.out wr u f xs[k] (List.getElem_mem hlt) hU (R1k.upd hr hU (by simp)))
      generalize xs[k] = x at *
      generalize P x = bb at *
      clear hF hc1 p1 hU hr
      go_wp2_with fail
      refine S1.out.mono ?_
      rintro e w1 ⟨rfl, hu1⟩
      have HU1 := Lib.hid (HU.out.trans hu1)
      clear S1 hu1
      cases bb
      · go_wp2_with fail
        go_roundw
        case rel => exact ⟨k + 1, by omega, by go_num, HU1.out, by rw [← HF.out]; rfl⟩
        case measure => simp [intOf]; omega
      · go_wp2_with fail
        go_ret
        exact ⟨⟨k, rfl, by omega, by omega, by rw [← HF.out]; simp⟩, HU1.out⟩
    · rw [List.drop_of_length_le (by omega)] at hF
      have HF := Lib.hid hF
      clear hF hc1
      go_wp2_with fail
      go_ret
      exact ⟨⟨-1, rfl, by omega, by omega, by rw [← HF.out]; rfl⟩, hU⟩

set_option maxRecDepth 20000 in
theorem containsFuncM (P : List Int → Bool) (fn : FuncId) (caps : Array Value) (v : Value) (xs : List (List Int)) (w : World) (fp : List Nat) (hR : R_N2 fp w [v] xs)
    (hent : ∀ args w, Sem.run Tryz.prog (callFunc fn args) w = .ok (.enter fn args) w)
    (hby : ∀ wr u f x, x ∈ xs → Upd [] w wr → R1 f wr [u] x → Calls Tryz.prog fn (#[u] ++ caps) wr fun e w' => e = .returned (.bool (P x)) ∧ Upd [] wr w') :
    Calls Tryz.prog 60 #[v, .func (.func fn) #[] caps] w fun e w' => e = .returned (.bool (xs.any P)) ∧ Upd [] w w' := by
  have S2 := Lib.hid (indexFuncM P fn caps v xs w fp hR hent hby)
  clear hR hby
  go_enter Tryz.func60, Tryz.ntmps60
  go_wp2_with fail
  refine S2.out.mono ?_
  rintro e w1 ⟨⟨q, rfl, h1, h2, h3⟩, hu1⟩
  have H3 := Lib.hid (And.intro h3 hu1)
  clear h3 hu1
  go_wp2_with fail
  go_ret
  exact ⟨by rw [← H3.out.1]; rfl, H3.out.2⟩

end Go.Proofs.YtcnaapiljmgfoaaGreatDoor

/-
  slices.IndexFunc and ContainsFunc over numbers, at whatever function value.
-/
namespace Go.Proofs.YtcnaapiljmgfoaaGreatDoor
open Go.RowKit

def IdxN (P : Int → Bool) (xs : List Int) (w : World) (e : Ending) (w' : World) : Prop := (∃ q : Int, e = .returned (.int .i64 q) ∧ -1 ≤ q ∧ q ≤ 9223372036854775807 ∧ decide (0 ≤ q) = xs.any P) ∧ Upd [] w w'

set_option maxRecDepth 20000 in
set_option maxHeartbeats 1000000 in
theorem indexFuncN (P : Int → Bool) (fn : FuncId) (caps : Array Value) (v : Value) (xs : List Int) (w : World) (fp : List Nat) (hR : R1 fp w [v] xs)
    (hent : ∀ args w, Sem.run Tryz.prog (callFunc fn args) w = .ok (.enter fn args) w)
    (hby : ∀ wr x, x ∈ xs → Upd [] w wr → Calls Tryz.prog fn (#[.int .i64 x] ++ caps) wr fun e w' => e = .returned (.bool (P x)) ∧ Upd [] wr w') :
    Calls Tryz.prog 93 #[v, .func (.func fn) #[] caps] w (IdxN P xs w) := by
  obtain ⟨a1, c1, rfl, hl1, hm1, hc1⟩ := slF1_open hR
  unfold maxLen at hm1
  have HBY := Lib.hid hby
  clear hR hby
  go_enter Tryz.func93, Tryz.ntmps93
  go_wp2_with fail
  go_loopw [8] (fun i wr => ∃ k : Nat, k ≤ xs.length ∧ i = .int .i64 k ∧ Upd [] w wr ∧ (xs.drop k).any P = xs.any P) (fun i _ => xs.length - (intOf i).toNat)
  case atStart => exact ⟨0, Nat.zero_le _, rfl, Upd.refl _ _, rfl⟩
  case round =>
    obtain ⟨k, hk, rfl, hU, hF⟩ := hrel
    by_cases hlt : k < xs.length
    · obtain ⟨b1, o1, rfl, -, -, p1⟩ := hc1 k hlt
      have p1' := hU.keep p1
      rw [List.drop_eq_getElem_cons hlt, List.any_cons] at hF
      have HF := Lib.hid hF
      have HU := Lib.hid hU
      have S1 := Lib.hid (HBY.out wr xs[k] (List.getElem_mem hlt) hU)
      generalize xs[k] = x at *
      generalize P x = bb at *
      clear hF hc1 p1 hU
      go_wp2_with fail
      refine S1.out.mono ?_
      rintro e w1 ⟨rfl, hu1⟩
      have HU1 := Lib.hid (HU.out.trans hu1)
      clear S1 hu1
      cases bb
      · go_wp2_with fail
        go_roundw
        case rel => exact ⟨k + 1, by omega, by go_num, HU1.out, by rw [← HF.out]; rfl⟩
        case measure => simp [intOf]; omega
      · go_wp2_with fail
        go_ret
        exact ⟨⟨k, rfl, by omega, by omega, by rw [← HF.out]; simp⟩, HU1.out⟩
    · rw [List.drop_of_length_le (by omega)] at hF
      have HF := Lib.hid hF
      clear hF hc1
      go_wp2_with fail
      go_ret
      exact ⟨⟨-1, rfl, by omega, by omega, by rw [← HF.out]; rfl⟩, hU⟩

set_option maxRecDepth 20000 in
theorem containsFuncN (P : Int → Bool) (fn : FuncId) (caps : Array Value) (v : Value) (xs : List Int) (w : World) (fp : List Nat) (hR : R1 fp w [v] xs)
    (hent : ∀ args w, Sem.run Tryz.prog (callFunc fn args) w = .ok (.enter fn args) w)
    (hby : ∀ wr x, x ∈ xs → Upd [] w wr → Calls Tryz.prog fn (#[.int .i64 x] ++ caps) wr fun e w' => e = .returned (.bool (P x)) ∧ Upd [] wr w') :
    Calls Tryz.prog 64 #[v, .func (.func fn) #[] caps] w fun e w' => e = .returned (.bool (xs.any P)) ∧ Upd [] w w' := by
  have S2 := Lib.hid (indexFuncN P fn caps v xs w fp hR hent hby)
  clear hby hent hR
  go_enter Tryz.func64, Tryz.ntmps64
  go_wp2_with fail
  refine S2.out.mono ?_
  rintro e w1 ⟨⟨q, rfl, h1, h2, h3⟩, hu⟩
  have H3 := Lib.hid (And.intro h3 hu)
  clear h3 hu
  go_wp2_with fail
  go_ret
  exact ⟨by rw [← H3.out.1]; rfl, H3.out.2⟩

end Go.Proofs.YtcnaapiljmgfoaaGreatDoor

/-
  Relations between systems, the program's strongly, related and certificate.
-/
namespace Go.Proofs.YtcnaapiljmgfoaaGreatDoor
open Go.RowKit Go.Maps

theorem flat_ei (xs : List Int) : xs.flatMap (fun n => [ei n]) = xs.map ei := by
  induction xs with
  | nil => rfl
  | cons x xs ih => rw [List.flatMap_cons, ih]; rfl
/-- a new block of numbers, read as a slice. -/
theorem r1_new (w : World) (xs : List Int) (B : Nat) (hB : w.heap.size = B) (hm : xs.length ≤ maxLen) : R1 [B] (w.alloc (.cells (xs.map ei).toArray 2)) [.slice (some ⟨B, 0, none⟩) xs.length xs.length] xs := by
  refine ⟨_, rfl, some ⟨B, 0, none⟩, xs.length, rfl, Nat.le_refl _, hm, ?_, ?_⟩
  · rw [flat_ei]; simp
  · refine Or.inr ⟨B, 0, rfl, rfl, by simp; omega, fun j u hj => ?_⟩
    rw [flat_ei] at hj
    rw [show (⟨B, 0 + j, none⟩ : Addr) = ⟨B, j, none⟩ by simp]
    exact cell_new w _ _ _ hB j u (by simpa using hj)
theorem enter_related1 (args : Array Value) (w : World) : Sem.run Tryz.prog (callFunc 91 args) w = .ok (.enter 91 args) w := by go_simp
theorem enter_cert1 (args : Array Value) (w : World) : Sem.run Tryz.prog (callFunc 61 args) w = .ok (.enter 61 args) w := by go_simp
theorem enter_strongly (args : Array Value) (w : World) : Sem.run Tryz.prog (callFunc 35 args) w = .ok (.enter 35 args) w := by go_simp
theorem enter_strongly1 (args : Array Value) (w : World) : Sem.run Tryz.prog (callFunc 66 args) w = .ok (.enter 66 args) w := by go_simp

set_option maxRecDepth 20000 in
theorem related1I (P b n : Nat) (S : List (Int × Int)) (D : DataW Unit) (x y : Int) (w : World) (hc : w.cell? ⟨P, 0, none⟩ = some (.map (some b))) (hm : w.ownsMap Tryz.prog 108 ElB b n D) (hp : PMap S D) (hx : In64 x) (hy : In64 y) :
    Calls Tryz.prog 91 #[.int .i64 x, .int .i64 y, .pointer (some ⟨P, 0, none⟩)] w fun e w' => e = .returned (.bool (decide ((x, y) ∈ S))) ∧ Upd [] w w' := by
  have hl := run_pairs hm hp hx hy
  generalize decide ((x, y) ∈ S) = bb at *
  clear hm hp hx hy
  go_enter Tryz.func91, Tryz.ntmps91
  go_wp2_with fail
  go_ret
  exact ⟨rfl, Upd.refl _ _⟩

theorem strongly1I (T V : Nat) (A B : Sys) (a1 a2 b1 b2 hv : Value) (H : Int → Int → Bool) (v u : Int) (w : World) (hT : RelAt T w A B a1 a2 b1 b2 hv) (hV : w.cell? ⟨V, 0, none⟩ = some (ei v)) (hh : HasC hv A.st B.st H w) (h1 : 0 ≤ v) (h2 : v < A.st) (h3 : 0 ≤ u) (h4 : u < B.st) :
    Calls Tryz.prog 66 #[.int .i64 u, .pointer (some ⟨T, 0, none⟩), .pointer (some ⟨V, 0, none⟩)] w fun e w' => e = .returned (.bool (H v u)) ∧ Upd [] w w' := by
  obtain ⟨g, caps, rfl, hent, hc⟩ := hh
  have S1 := Lib.hid (hc w v u (Upd.refl _ _) h1 h2 h3 h4)
  have z8 := hT.facts.2.2
  generalize H v u = b at *
  clear hc hT h1 h2 h3 h4
  go_enter Tryz.func66, Tryz.ntmps66
  go_wp2_with fail
  refine S1.out.mono ?_
  rintro e w1 ⟨rfl, hu⟩
  have U := Lib.hid hu
  clear S1 hu
  go_wp2_with fail
  go_ret
  exact ⟨rfl, U.out⟩

/-- an edge answered by an edge. -/
def strF (_A B : Sys) (H : Int → Int → Bool) (_x y : Int) (s : List UInt8) (v : Int) : Bool := (folF B [y] s).any fun u => H v u
theorem folF_bd {T : Sys} (h : sysOk T = true) {ys : List Int} {s : List UInt8} : ∀ u ∈ folF T ys s, 0 ≤ u ∧ u < T.st := by
  intro u hu
  unfold folF at hu
  obtain ⟨e, he, rfl⟩ := List.mem_map.1 hu
  exact (sys_eds h e (List.mem_filter.1 he).1).2

set_option maxRecDepth 20000 in
set_option maxHeartbeats 4000000 in
theorem stronglyI : WayC 35 strF := by
  refine ⟨enter_strongly, ?_⟩
  intro A B a1 a2 b1 b2 hv H x y v s w f1 f2 f3 f4 h hh hx0 hx1 hy0 hy1 hv0 hv1
  obtain ⟨wA, hwA⟩ : ∃ wA, wA = (w.alloc (.cells #[ei A.st, ei A.ini, a1, a2, ei B.st, ei B.ini, b1, b2, hv] 86)).alloc (.cells #[ei v] 2) := ⟨_, rfl⟩
  have U := Lib.hid (show Upd [] w wA by rw [hwA]; exact ((Upd.refl _ _).alloc _).alloc _)
  have hR : RelAt w.heap.size wA A B a1 a2 b1 b2 hv := by
    have h0 : RelAt w.heap.size (w.alloc (.cells #[ei A.st, ei A.ini, a1, a2, ei B.st, ei B.ini, b1, b2, hv] 86)) A B a1 a2 b1 b2 hv := RelAt.new w A B a1 a2 b1 b2 hv
    rw [hwA]; exact h0.upd ((Upd.refl [] _).alloc _) (by simp)
  have hV : wA.cell? ⟨w.heap.size + 1, 0, none⟩ = some (ei v) := by rw [hwA]; exact cell_new _ _ _ _ (by simp) 0 _ rfl
  obtain ⟨wB, hwB⟩ : ∃ wB, wB = wA.alloc (.cells #[ei y] 2) := ⟨_, rfl⟩
  have UB := Lib.hid (show Upd [] wA wB by rw [hwB]; exact (Upd.refl _ _).alloc _)
  have hY : R1 [wA.heap.size] wB [.slice (some ⟨wA.heap.size, 0, none⟩) 1 1] [y] := by
    rw [hwB]; exact r1_new wA [y] _ rfl (by unfold maxLen; simp)
  have hszA : wA.heap.size = w.heap.size + 2 := by rw [hwA]; simp
  obtain ⟨BR, hBR⟩ : ∃ BR, BR = w.heap.size := ⟨_, rfl⟩
  rw [← hBR] at hR hV hszA
  rw [hszA] at hY
  have HR := Lib.hid hR
  have HV := Lib.hid hV
  obtain ⟨-, ⟨z4, z5, z6, z7⟩, -⟩ := hR.facts
  have S1 := Lib.hid (followI B b1 b2 (.slice (some ⟨BR + 2, 0, none⟩) 1 1) y s wB f3 f4 [BR + 2] (RSk.upd h.lb (U.out.trans UB.out) (by simp)) (R_E1k.upd h.eb (U.out.trans UB.out) (by simp)) hY h.okb)
  have S2 := Lib.hid (fun (vv : Value) (f : List Nat) W (hu : Upd [] wB W) (hr : R1 f W [vv] (folF B [y] s)) => containsFuncN (fun u => H v u) 66 #[.pointer (some ⟨BR, 0, none⟩), .pointer (some ⟨BR + 1, 0, none⟩)] vv (folF B [y] s) W f hr enter_strongly1
    (fun wr u hu1 hu2 => strongly1I BR (BR + 1) A B a1 a2 b1 b2 hv H v u wr (HR.out.upd ((UB.out.trans hu).trans hu2) (by simp)) (((UB.out.trans hu).trans hu2).keep HV.out) (hh.upd (U.out.trans ((UB.out.trans hu).trans hu2))) hv0 hv1 (folF_bd h.okb u hu1).1 (folF_bd h.okb u hu1).2))
  have HZ := Lib.hid (show strF A B H x y s v = (folF B [y] s).any fun u => H v u from rfl)
  clear hR hV hY h hh hx0 hx1 hy0 hy1 hv0 hv1
  generalize strF A B H x y s v = Z at *
  generalize folF B [y] s = FO at *
  go_enter Tryz.func35, Tryz.ntmps35
  go_upto_region 1 with (fail)
  rw [← hwA, ← hBR]
  clear hwA hBR
  go_wp2_with fail
  rw [← hwB]
  clear hwB hszA
  refine S1.out.mono ?_
  rintro e w1 ⟨⟨vv, ff, rfl, hr⟩, hu1⟩
  have T2 := Lib.hid (S2.out vv ff w1 hu1 hr)
  have U1 := Lib.hid hu1
  clear S1 S2 hu1 hr
  go_wp2_with fail
  refine T2.out.mono ?_
  rintro e w2 ⟨rfl, hu2⟩
  have U2 := Lib.hid hu2
  clear T2 hu2
  rw [← HZ.out]
  go_wp2_with fail
  go_ret
  exact ⟨rfl, U.out.trans (UB.out.trans (U1.out.trans U2.out))⟩

/-- pairs are a relation of a kind. -/
def relatedF (F : Sys → Sys → (Int → Int → Bool) → Int → Int → List UInt8 → Int → Bool) (A B : Sys) (R : List (List Int)) : Bool := pairsF R A.st B.st && (pairsOf R).all (relF F A B fun x y => decide ((x, y) ∈ pairsOf R))
theorem pairsF_bd {R : List (List Int)} {a b : Int} (h : pairsF R a b = true) : ∀ p ∈ pairsOf R, (0 ≤ p.1 ∧ p.1 < a) ∧ 0 ≤ p.2 ∧ p.2 < b := by
  intro p hp
  unfold pairsOf at hp
  obtain ⟨q, hq, rfl⟩ := List.mem_map.1 hp
  obtain ⟨i, hi, rfl⟩ := List.getElem_of_mem hq
  have h2 := allF_get h i (by omega) (by omega)
  unfold pairP at h2
  have gk : R.getD i [] = R[i] := by rw [List.getD_eq_getElem?_getD, List.getElem?_eq_getElem hi]; rfl
  rw [gk] at h2
  simp only [Bool.and_eq_true] at h2
  have r1 := inB_true h2.1.1.2
  have r2 := inB_true h2.1.2
  omega

set_option maxRecDepth 20000 in
set_option maxHeartbeats 4000000 in
theorem relatedI (fn : FuncId) (F : Sys → Sys → (Int → Int → Bool) → Int → Int → List UInt8 → Int → Bool) (hway : WayC fn F) (A B : Sys) (a1 a2 b1 b2 v : Value) (R : List (List Int)) (w : World) (f1 f2 f3 f4 fr : List Nat)
    (h : Two w A B a1 a2 b1 b2 f1 f2 f3 f4) (hR : R_N2 fr w [v] R) (hR9 : R.length ≤ 2000000) :
    Calls Tryz.prog 63 #[.agg #[ei A.st, ei A.ini, a1, a2], .agg #[ei B.st, ei B.ini, b1, b2], v, .func (.func fn) #[] #[]] w fun e w' => e = .returned (.bool (relatedF F A B R)) ∧ Upd [] w w' := by
  obtain ⟨av, cap, rfl, -, -, -⟩ := slP_open hR
  have hAs := (sys_parts h.oka).1
  have hBs := (sys_parts h.okb).1
  obtain ⟨wA, hwA⟩ : ∃ wA, wA = (w.alloc (.cells #[ei A.st, ei A.ini, a1, a2] 32)).alloc (.cells #[ei B.st, ei B.ini, b1, b2] 32) := ⟨_, rfl⟩
  have U := Lib.hid (show Upd [] w wA by rw [hwA]; exact ((Upd.refl _ _).alloc _).alloc _)
  have s1 : SysAt w.heap.size (w.alloc (.cells #[ei A.st, ei A.ini, a1, a2] 32)) A.st A.ini a1 a2 := heap_alloc_new w _
  have s2 : SysAt (w.heap.size + 1) wA B.st B.ini b1 b2 := by
    have : SysAt (w.alloc (.cells #[ei A.st, ei A.ini, a1, a2] 32)).heap.size wA B.st B.ini b1 b2 := by rw [hwA]; exact heap_alloc_new _ _
    simpa using this
  have s3 : SysAt w.heap.size wA A.st A.ini a1 a2 := by rw [hwA]; exact s1.upd ((Upd.refl [] _).alloc _) (by simp)
  obtain ⟨BA, hBA⟩ : ∃ BA, BA = w.heap.size := ⟨_, rfl⟩
  rw [← hBA] at s2 s3
  have HA := Lib.hid s3
  have HB := Lib.hid s2
  have HT := Lib.hid h
  have S1 := Lib.hid (pairsOkI A.st A.ini B.st B.ini a1 a2 b1 b2 (.slice av R.length cap) R wA fr (R_N2k.upd hR U.out (by simp)) hAs.1 hAs.2 hBs.1 hBs.2 hR9)
  have S2 := Lib.hid (fun (P b n : Nat) (D : DataW Unit) W (hu : Upd [] wA W) (hc : W.cell? ⟨P, 0, none⟩ = some (.map (some b))) (hm : W.ownsMap Tryz.prog 108 ElB b n D) (hp : PMap (pairsOf R) D) (hb : pairsF R A.st B.st = true) =>
    holdsI fn F hway A B a1 a2 b1 b2 (.func (.func 91) #[] #[.pointer (some ⟨P, 0, none⟩)]) (fun x y => decide ((x, y) ∈ pairsOf R)) b n (pairsOf R) D W f1 f2 f3 f4 (h.upd (U.out.trans hu))
      ⟨91, #[.pointer (some ⟨P, 0, none⟩)], rfl, enter_related1, fun W2 x y hu2 hx0 hx1 hy0 hy1 => related1I P b n (pairsOf R) D x y W2 (hu2.keep hc) (ownsMap_upd hm hu2 (by simp)) hp (in64_of (by omega)) (in64_of (by omega))⟩ hm hp (pairsF_bd hb))
  have HZ := Lib.hid (show relatedF F A B R = (pairsF R A.st B.st && (pairsOf R).all (relF F A B fun x y => decide ((x, y) ∈ pairsOf R))) from rfl)
  obtain ⟨z0, z1, z2, z3, -⟩ := s3.facts
  obtain ⟨y0, y1, y2, y3, -⟩ := s2.facts
  have hent := hway.1
  clear s1 s2 s3 h hR hR9 hAs hBs hway
  generalize relatedF F A B R = Z at *
  go_enter Tryz.func63, Tryz.ntmps63
  go_upto_region 1 with (fail)
  rw [← hwA, ← hBA]
  clear hwA hBA
  go_wp2_with fail
  refine S1.out.mono ?_
  rintro e w1 ⟨hP, hu1⟩
  have U1 := Lib.hid hu1
  rcases hP with ⟨hb, rfl⟩ | ⟨hb, b, n, D, rfl, hbl, hm, hp⟩
  · have HE := Lib.hid (show Z = false by rw [HZ.out, hb]; rfl)
    clear S1 S2 HZ hb hu1 z0 z1 z2 z3 y0 y1 y2 y3
    go_wp2_with fail
    go_ret
    exact ⟨by rw [HE.out]; rfl, U.out.trans (U1.out.alloc _)⟩
  · have HE := Lib.hid (show Z = (pairsOf R).all (relF F A B fun x y => decide ((x, y) ∈ pairsOf R)) by rw [HZ.out, hb]; rfl)
    obtain ⟨w2, hw2⟩ : ∃ w2, w2 = w1.alloc (.cells #[.map (some b)] 105) := ⟨_, rfl⟩
    have U2 := Lib.hid (show Upd [] wA w2 by rw [hw2]; exact U1.out.alloc _)
    have hc : w2.cell? ⟨w1.heap.size, 0, none⟩ = some (.map (some b)) := by rw [hw2]; exact cell_new w1 _ _ _ rfl 0 _ rfl
    have hm2 : w2.ownsMap Tryz.prog 108 ElB b n D := by rw [hw2]; exact hm.alloc _
    have T2 := Lib.hid (S2.out w1.heap.size b n D w2 U2.out hc hm2 hp hb)
    obtain ⟨z0, z1, z2, z3, -⟩ := (HA.out.upd U2.out (by simp)).facts
    obtain ⟨y0, y1, y2, y3, -⟩ := (HB.out.upd U2.out (by simp)).facts
    obtain ⟨BP, hBP⟩ : ∃ BP, BP = w1.heap.size := ⟨_, rfl⟩
    rw [← hBP] at hc T2
    clear S1 S2 HZ hb hu1 hm hm2 hp hbl
    generalize (pairsOf R).all (relF F A B fun x y => decide ((x, y) ∈ pairsOf R)) = Y at *
    go_upto_region 4 with (fail)
    rw [← hw2, ← hBP]
    clear hw2 hBP
    go_wp2_with fail
    refine T2.out.mono ?_
    rintro e w3 ⟨rfl, hu3⟩
    have U3 := Lib.hid hu3
    clear T2 hu3
    go_wp2_with fail
    go_ret
    exact ⟨by rw [HE.out]; rfl, U.out.trans (U2.out.trans U3.out)⟩

set_option maxRecDepth 20000 in
set_option maxHeartbeats 2000000 in
theorem cert1I (BA BB : Nat) (sa ia sb ib : Int) (a1 a2 b1 b2 u : Value) (p : List Int) (w : World) (f : List Nat) (hA : SysAt BA w sa ia a1 a2) (hB : SysAt BB w sb ib b1 b2) (hr : R1 f w [u] p) :
    Calls Tryz.prog 61 #[u, .pointer (some ⟨BA, 0, none⟩), .pointer (some ⟨BB, 0, none⟩)] w fun e w' => e = .returned (.bool (p == [ia, ib])) ∧ Upd [] w w' := by
  obtain ⟨la, ca, rfl, -, -, -⟩ := slF1_open hr
  obtain ⟨wB, hwB⟩ : ∃ wB, wB = w.alloc (.cells #[ei ia, ei ib] 2) := ⟨_, rfl⟩
  have U := Lib.hid (show Upd [] w wB by rw [hwB]; exact (Upd.refl _ _).alloc _)
  have hY : R1 [w.heap.size] wB [.slice (some ⟨w.heap.size, 0, none⟩) 2 2] [ia, ib] := by
    rw [hwB]; exact r1_new w [ia, ib] _ rfl (by unfold maxLen; simp)
  have S1 := Lib.hid (equalLI _ _ p [ia, ib] wB f _ (R1k.upd hr U.out (by simp)) hY)
  have zA := hA.facts.2.1
  have zB := hB.facts.2.1
  generalize (p == [ia, ib]) = bb at *
  clear hY hr hA hB
  go_enter Tryz.func61, Tryz.ntmps61
  go_wp2_with fail
  rw [← hwB]
  clear hwB
  refine S1.out.mono ?_
  rintro e w1 ⟨rfl, n, rfl⟩
  clear S1
  go_wp2_with fail
  go_ret
  exact ⟨rfl, U.out.drewN n⟩

/-- pairs are a relation of a kind between two valid systems, with that of both initial states. -/
def certF (F : Sys → Sys → (Int → Int → Bool) → Int → Int → List UInt8 → Int → Bool) (A B : Sys) (R : List (List Int)) : Bool := sysOk A && sysOk B && R.any (fun p => p == [A.ini, B.ini]) && relatedF F A B R

set_option maxRecDepth 20000 in
set_option maxHeartbeats 4000000 in
theorem certI (fn : FuncId) (F : Sys → Sys → (Int → Int → Bool) → Int → Int → List UInt8 → Int → Bool) (hway : WayC fn F) (A B : Sys) (a1 a2 b1 b2 v : Value) (R : List (List Int)) (w : World) (f1 f2 f3 f4 fr : List Nat)
    (hA1 : RS f1 w [a1] A.labs) (hA2 : R_E1 f2 w [a2] A.eds) (hB1 : RS f3 w [b1] B.labs) (hB2 : R_E1 f4 w [b2] B.eds) (hR : R_N2 fr w [v] R) (hR9 : R.length ≤ 2000000)
    (hpA : ∀ p ∈ A.labs, p.length ≤ 2000000) (hpB : ∀ p ∈ B.labs, p.length ≤ 2000000) (he : Env w) :
    Calls Tryz.prog 34 #[.agg #[ei A.st, ei A.ini, a1, a2], .agg #[ei B.st, ei B.ini, b1, b2], v, .func (.func fn) #[] #[]] w fun e w' => e = .returned (.bool (certF F A B R)) ∧ Upd [] w w' := by
  obtain ⟨av, cap, rfl, -, -, -⟩ := slP_open hR
  obtain ⟨wA, hwA⟩ : ∃ wA, wA = (w.alloc (.cells #[ei A.st, ei A.ini, a1, a2] 32)).alloc (.cells #[ei B.st, ei B.ini, b1, b2] 32) := ⟨_, rfl⟩
  have U := Lib.hid (show Upd [] w wA by rw [hwA]; exact ((Upd.refl _ _).alloc _).alloc _)
  have s1 : SysAt w.heap.size (w.alloc (.cells #[ei A.st, ei A.ini, a1, a2] 32)) A.st A.ini a1 a2 := heap_alloc_new w _
  have s2 : SysAt (w.heap.size + 1) wA B.st B.ini b1 b2 := by
    have : SysAt (w.alloc (.cells #[ei A.st, ei A.ini, a1, a2] 32)).heap.size wA B.st B.ini b1 b2 := by rw [hwA]; exact heap_alloc_new _ _
    simpa using this
  have s3 : SysAt w.heap.size wA A.st A.ini a1 a2 := by rw [hwA]; exact s1.upd ((Upd.refl [] _).alloc _) (by simp)
  obtain ⟨BA, hBA⟩ : ∃ BA, BA = w.heap.size := ⟨_, rfl⟩
  rw [← hBA] at s2 s3
  have HA := Lib.hid s3
  have HB := Lib.hid s2
  have hent := hway.1
  have C1 := Lib.hid (fun W (hu : Upd [] wA W) => validI A a1 a2 W f1 f2 (RSk.upd hA1 (U.out.trans hu) (by simp)) (R_E1k.upd hA2 (U.out.trans hu) (by simp)) hpA (he.upd (U.out.trans hu)))
  have C2 := Lib.hid (fun W (hu : Upd [] wA W) => validI B b1 b2 W f3 f4 (RSk.upd hB1 (U.out.trans hu) (by simp)) (R_E1k.upd hB2 (U.out.trans hu) (by simp)) hpB (he.upd (U.out.trans hu)))
  have C3 := Lib.hid (fun W (hu : Upd [] wA W) => containsFuncM (fun p => p == [A.ini, B.ini]) 61 #[.pointer (some ⟨BA, 0, none⟩), .pointer (some ⟨BA + 1, 0, none⟩)] (.slice av R.length cap) R W fr (R_N2k.upd hR (U.out.trans hu) (by simp)) enter_cert1
    (fun wr u f x hx hu2 hr => cert1I BA (BA + 1) A.st A.ini B.st B.ini a1 a2 b1 b2 u x wr f (s3.upd (hu.trans hu2) (by simp)) (s2.upd (hu.trans hu2) (by simp)) hr))
  have C4 := Lib.hid (fun W (hu : Upd [] wA W) (okA : sysOk A = true) (okB : sysOk B = true) => relatedI fn F hway A B a1 a2 b1 b2 (.slice av R.length cap) R W f1 f2 f3 f4 fr ((show Two w A B a1 a2 b1 b2 f1 f2 f3 f4 from ⟨hA1, hA2, hB1, hB2, okA, okB⟩).upd (U.out.trans hu)) (R_N2k.upd hR (U.out.trans hu) (by simp)) hR9)
  have HZ := Lib.hid (show certF F A B R = (sysOk A && sysOk B && R.any (fun p => p == [A.ini, B.ini]) && relatedF F A B R) from rfl)
  obtain ⟨z0, z1, z2, z3, -⟩ := s3.facts
  obtain ⟨y0, y1, y2, y3, -⟩ := s2.facts
  have T1 := Lib.hid (C1.out wA (Upd.refl _ _))
  clear s1 s2 s3 hA1 hA2 hB1 hB2 hR hR9 hpA hpB he hway C1
  generalize certF F A B R = Z at *
  generalize relatedF F A B R = Y at *
  generalize R.any (fun p => p == [A.ini, B.ini]) = X at *
  go_enter Tryz.func34, Tryz.ntmps34
  go_upto_region 1 with (fail)
  rw [← hwA, ← hBA]
  clear hwA hBA
  cases okA : sysOk A with
  | false =>
    have HE := Lib.hid (show Z = false by rw [HZ.out, okA]; rfl)
    rw [okA] at T1
    clear HZ okA C2 C3 C4
    go_wp2_with fail
    refine T1.out.mono ?_
    rintro e w1 ⟨rfl, hu1⟩
    have U1 := Lib.hid hu1
    clear T1 hu1
    go_wp2_with fail
    go_ret
    exact ⟨by rw [HE.out]; rfl, U.out.trans U1.out⟩
  | true =>
    rw [okA] at T1
    go_wp2_with fail
    refine T1.out.mono ?_
    rintro e w1 ⟨rfl, hu1⟩
    have U1 := Lib.hid hu1
    have T2 := Lib.hid (C2.out w1 hu1)
    obtain ⟨y0, y1, y2, y3, -⟩ := (HB.out.upd hu1 (by simp)).facts
    clear T1 hu1 C2
    cases okB : sysOk B with
    | false =>
      have HE := Lib.hid (show Z = false by rw [HZ.out, okA, okB]; rfl)
      rw [okB] at T2
      clear HZ okA okB C3 C4
      go_wp2_with fail
      refine T2.out.mono ?_
      rintro e w2 ⟨rfl, hu2⟩
      have U2 := Lib.hid (U1.out.trans hu2)
      clear T2 hu2
      go_wp2_with fail
      go_ret
      exact ⟨by rw [HE.out]; rfl, U.out.trans U2.out⟩
    | true =>
      have HZ2 := Lib.hid (show Z = (X && Y) by rw [HZ.out, okA, okB]; rfl)
      rw [okB] at T2
      have C5 := Lib.hid (fun W hu => C4.out W hu okA okB)
      clear HZ okA okB C4
      go_wp2_with fail
      refine T2.out.mono ?_
      rintro e w2 ⟨rfl, hu2⟩
      have U2 := Lib.hid (U1.out.trans hu2)
      have T3 := Lib.hid (C3.out w2 U2.out)
      clear T2 hu2 C3
      go_wp2_with fail
      refine T3.out.mono ?_
      rintro e w3 ⟨rfl, hu3⟩
      have U3 := Lib.hid (U2.out.trans hu3)
      have T4 := Lib.hid (C5.out w3 U3.out)
      obtain ⟨z0, z1, z2, z3, -⟩ := (HA.out.upd U3.out (by simp)).facts
      obtain ⟨y0, y1, y2, y3, -⟩ := (HB.out.upd U3.out (by simp)).facts
      clear T3 hu3 C5
      cases X with
      | false =>
        have HE := Lib.hid (show Z = false by rw [HZ2.out]; rfl)
        clear HZ2 T4
        go_wp2_with fail
        go_ret
        exact ⟨by rw [HE.out]; rfl, U.out.trans U3.out⟩
      | true =>
        have HE := Lib.hid (show Z = Y by rw [HZ2.out]; rfl)
        clear HZ2
        go_wp2_with fail
        refine T4.out.mono ?_
        rintro e w4 ⟨rfl, hu4⟩
        have U4 := Lib.hid (U3.out.trans hu4)
        clear T4 hu4
        go_wp2_with fail
        go_ret
        exact ⟨by rw [HE.out]; rfl, U.out.trans U4.out⟩

theorem bisI (A B : Sys) (a1 a2 b1 b2 v : Value) (R : List (List Int)) (w : World) (f1 f2 f3 f4 fr : List Nat)
    (hA1 : RS f1 w [a1] A.labs) (hA2 : R_E1 f2 w [a2] A.eds) (hB1 : RS f3 w [b1] B.labs) (hB2 : R_E1 f4 w [b2] B.eds) (hR : R_N2 fr w [v] R) (hR9 : R.length ≤ 2000000)
    (hpA : ∀ p ∈ A.labs, p.length ≤ 2000000) (hpB : ∀ p ∈ B.labs, p.length ≤ 2000000) (he : Env w) :
    Calls Tryz.prog 12 #[.agg #[ei A.st, ei A.ini, a1, a2], .agg #[ei B.st, ei B.ini, b1, b2], v] w fun e w' => e = .returned (.bool (certF strF A B R)) ∧ Upd [] w w' := by
  have U0 := Lib.hid (show Upd [] w ((w.alloc (.cells #[ei A.st, ei A.ini, a1, a2] 32)).alloc (.cells #[ei B.st, ei B.ini, b1, b2] 32)) from ((Upd.refl _ _).alloc _).alloc _)
  have S1 := Lib.hid (certI 35 strF stronglyI A B a1 a2 b1 b2 v R _ f1 f2 f3 f4 fr (RSk.upd hA1 U0.out (by simp)) (R_E1k.upd hA2 U0.out (by simp)) (RSk.upd hB1 U0.out (by simp)) (R_E1k.upd hB2 U0.out (by simp)) (R_N2k.upd hR U0.out (by simp)) hR9 hpA hpB (he.upd U0.out))
  generalize certF strF A B R = Z at *
  clear hA1 hA2 hB1 hB2 hR hR9 hpA hpB he
  go_enter Tryz.func12, Tryz.ntmps12
  go_wp2_with fail
  refine S1.out.mono ?_
  rintro e w1 ⟨rfl, hu⟩
  have U1 := Lib.hid hu
  clear S1 hu
  go_wp2_with fail
  go_ret
  exact ⟨rfl, U0.out.trans U1.out⟩

end Go.Proofs.YtcnaapiljmgfoaaGreatDoor

/-
  Relations between systems, the program's weakly, weakWay and branchingWay.
-/
namespace Go.Proofs.YtcnaapiljmgfoaaGreatDoor
open Go.RowKit

/-- a weak step with a label leads from k to j. -/
def WeakR (T : Sys) (k : Int) (s : List UInt8) (j : Int) : Prop := (s = tauL ∧ ReachT T k j) ∨ (s ≠ tauL ∧ ∃ x l, ReachT T k x ∧ l ∈ folF T [x] s ∧ ReachT T l j)
theorem ReachT.bd {T : Sys} (h : sysOk T = true) {k j : Int} (hr : ReachT T k j) (hk : 0 ≤ k ∧ k < T.st) : 0 ≤ j ∧ j < T.st := by
  induction hr with
  | refl => exact hk
  | step _ h2 _ => exact folF_bd2 h _ h2
theorem folF_some (T : Sys) (ys : List Int) (s : List UInt8) (j : Int) : j ∈ folF T ys s ↔ ∃ x ∈ ys, j ∈ folF T [x] s := by
  unfold folF folP
  simp only [List.mem_map, List.mem_filter, Bool.and_eq_true, List.contains_cons, List.contains_nil, Bool.or_false, beq_iff_eq]
  constructor
  · rintro ⟨e, ⟨h1, h2, h3⟩, rfl⟩
    exact ⟨e.fr, by simpa using h3, e, ⟨h1, h2, rfl⟩, rfl⟩
  · rintro ⟨x, hx, e, ⟨h1, h2, rfl⟩, rfl⟩
    exact ⟨e, ⟨h1, h2, by simpa using hx⟩, rfl⟩

set_option maxRecDepth 20000 in
set_option maxHeartbeats 4000000 in
theorem visibleI (T : Sys) (v1 v2 v3 : Value) (ys : List Int) (s : List UInt8) (w : World) (f1 f2 f3 : List Nat) (h1 : RS f1 w [v1] T.labs) (h2 : R_E1 f2 w [v2] T.eds) (h3 : R1 f3 w [v3] ys) (hok : sysOk T = true) :
    Calls Tryz.prog 108 #[.agg #[ei T.st, ei T.ini, v1, v2], v3, es s] w fun e w' => (∃ v' f' zs, e = .returned v' ∧ R1 f' w' [v'] zs ∧ NoSpot v' ∧ zs.Nodup ∧ ∀ k, k ∈ zs ↔ ∃ x ∈ ys, ∃ l ∈ folF T [x] s, ReachT T l k) ∧ Upd [] w w' := by
  obtain ⟨la, ca, rfl, -, -, -⟩ := slF1_open h1
  obtain ⟨a, cap, rfl, -, -, -⟩ := slF3_open h2
  obtain ⟨xa, xc, rfl, -, -, -⟩ := slF1_open h3
  obtain ⟨wA, hwA⟩ : ∃ wA, wA = w.alloc (.cells #[ei T.st, ei T.ini, .slice la T.labs.length ca, .slice a T.eds.length cap] 32) := ⟨_, rfl⟩
  have U := Lib.hid (show Upd [] w wA by rw [hwA]; exact (Upd.refl _ _).alloc _)
  have hS : SysAt w.heap.size wA T.st T.ini (.slice la T.labs.length ca) (.slice a T.eds.length cap) := by rw [hwA]; exact heap_alloc_new w _
  obtain ⟨BT, hBT⟩ : ∃ BT, BT = w.heap.size := ⟨_, rfl⟩
  rw [← hBT] at hS
  obtain ⟨z0, z1, z2, z3, -⟩ := hS.facts
  have F1 := Lib.hid (followG T (.slice la T.labs.length ca) (.slice a T.eds.length cap) (.slice xa ys.length xc) ys s wA.drew f1 f2 f3 (RSk.upd h1 (U.out.drew) (by simp)) (R_E1k.upd h2 (U.out.drew) (by simp)) (R1k.upd h3 (U.out.drew) (by simp)) hok)
  have F2 := Lib.hid (fun v f zs W (hu : Upd [] wA W) (hr : R1 f W [v] zs) (hn : NoSpot v) (hd : zs.Nodup) (hb : ∀ x ∈ zs, 0 ≤ x ∧ x < T.st) => internalI T (.slice la T.labs.length ca) (.slice a T.eds.length cap) v zs W f1 f2 f (RSk.upd h1 (U.out.trans hu) (by simp)) (R_E1k.upd h2 (U.out.trans hu) (by simp)) hr hn hok hd hb)
  have HP := Lib.hid (show (setF (folF T ys s)).Nodup from (setF_pair _).imp (fun {a b} h => by omega))
  have HB := Lib.hid (fun x (hx : x ∈ setF (folF T ys s)) => folF_bd2 hok x ((setF_mem _ x).1 hx))
  have HM := Lib.hid (fun x => setF_mem (folF T ys s) x)
  clear h1 h2 h3 hok hS
  generalize setF (folF T ys s) = FO at *
  go_enter Tryz.func108, Tryz.ntmps108
  go_upto_region 1 with (fail)
  rw [← hwA, ← hBT]
  clear hwA hBT
  go_region_held3 (fun w' => w'.cell? ⟨BT, 0, none⟩ = some (ei T.st) ∧ w'.cell? ⟨BT, 1, none⟩ = some (ei T.ini) ∧ w'.cell? ⟨BT, 2, none⟩ = some (.slice la T.labs.length ca) ∧ w'.cell? ⟨BT, 3, none⟩ = some (.slice a T.eds.length cap)) (go_keep)
    (first
      | ((go_at_call 65); (with_reducible refine F1.out.mono ?_); rintro e w4 ⟨⟨v4, g4, rfl, r4, ns4, -⟩, hu4⟩; have x0 := hu4.keep z0; have x1 := hu4.keep z1; have x2 := hu4.keep z2; have x3 := hu4.keep z3)
      | ((go_at_call 70); (with_reducible refine (F2.out _ _ _ _ ((Upd.refl [] wA).drew.trans hu4) r4 ns4 HP.out HB.out).mono ?_); rintro e w5 ⟨⟨v5, g5, zs, rfl, r5, ns5, nd5, hm5⟩, hu5⟩; have y0 := hu5.keep x0; have y1 := hu5.keep x1; have y2 := hu5.keep x2; have y3 := hu5.keep x3))
  have HU := Lib.hid ((U.out.drew.trans hu4).trans hu5)
  have HR := Lib.hid (And.intro r5 (And.intro ns5 (And.intro nd5 hm5)))
  clear x0 x1 x2 x3 y0 y1 y2 y3 hu4 hu5 r5 ns5 nd5 hm5 r4 ns4 z0 z1 z2 z3 F1 F2
  go_wp2_with fail
  go_ret
  refine ⟨⟨v5, g5, zs, rfl, HR.out.1, HR.out.2.1, HR.out.2.2.1, fun k => ?_⟩, HU.out⟩
  rw [HR.out.2.2.2 k]
  constructor
  · rintro ⟨l, hl, hr⟩
    obtain ⟨x, hx, hf⟩ := (folF_some T ys s l).1 ((HM.out l).1 hl)
    exact ⟨x, hx, l, hf, hr⟩
  · rintro ⟨x, hx, l, hf, hr⟩
    exact ⟨l, (HM.out l).2 ((folF_some T ys s l).2 ⟨x, hx, hf⟩), hr⟩

theorem WeakR.bd {T : Sys} (h : sysOk T = true) {k j : Int} {s : List UInt8} (hr : WeakR T k s j) (hk : 0 ≤ k ∧ k < T.st) : 0 ≤ j ∧ j < T.st := by
  rcases hr with ⟨-, hr⟩ | ⟨-, x, l, -, h2, h3⟩
  · exact hr.bd h hk
  · exact h3.bd h (folF_bd2 h _ h2)

set_option maxRecDepth 20000 in
set_option maxHeartbeats 4000000 in
theorem weaklyI (T : Sys) (v1 v2 : Value) (k : Int) (s : List UInt8) (w : World) (f1 f2 : List Nat) (h1 : RS f1 w [v1] T.labs) (h2 : R_E1 f2 w [v2] T.eds) (hok : sysOk T = true) (hk : 0 ≤ k ∧ k < T.st) :
    Calls Tryz.prog 81 #[.agg #[ei T.st, ei T.ini, v1, v2], .int .i64 k, es s] w fun e w' => (∃ v' f' zs, e = .returned v' ∧ R1 f' w' [v'] zs ∧ ∀ j, j ∈ zs ↔ WeakR T k s j) ∧ Upd [] w w' := by
  obtain ⟨la, ca, rfl, -, -, -⟩ := slF1_open h1
  obtain ⟨a, cap, rfl, -, -, -⟩ := slF3_open h2
  obtain ⟨wA, hwA⟩ : ∃ wA, wA = w.alloc (.cells #[ei T.st, ei T.ini, .slice la T.labs.length ca, .slice a T.eds.length cap] 32) := ⟨_, rfl⟩
  have U := Lib.hid (show Upd [] w wA by rw [hwA]; exact (Upd.refl _ _).alloc _)
  have hS : SysAt w.heap.size wA T.st T.ini (.slice la T.labs.length ca) (.slice a T.eds.length cap) := by rw [hwA]; exact heap_alloc_new w _
  obtain ⟨wB, hwB⟩ : ∃ wB, wB = wA.alloc (.cells #[ei k] 2) := ⟨_, rfl⟩
  have UB := Lib.hid (show Upd [] wA wB by rw [hwB]; exact (Upd.refl _ _).alloc _)
  have hY : R1 [wA.heap.size] wB [.slice (some ⟨wA.heap.size, 0, none⟩) 1 1] [k] := by rw [hwB]; exact r1_one wA k _ rfl
  have hszA : wA.heap.size = w.heap.size + 1 := by rw [hwA]; simp
  obtain ⟨BT, hBT⟩ : ∃ BT, BT = w.heap.size := ⟨_, rfl⟩
  rw [← hBT] at hS hszA
  rw [hszA] at hY
  have HS := Lib.hid hS
  obtain ⟨z0, z1, z2, z3, -⟩ := hS.facts
  have F1 := Lib.hid (internalI T (.slice la T.labs.length ca) (.slice a T.eds.length cap) (.slice (some ⟨BT + 1, 0, none⟩) 1 1) [k] wB f1 f2 [BT + 1] (RSk.upd h1 (U.out.trans UB.out) (by simp)) (R_E1k.upd h2 (U.out.trans UB.out) (by simp)) hY (NoSpot.mk _ _ _ _) hok (by simp) (fun x hx => by simp at hx; subst hx; exact hk))
  have F2 := Lib.hid (fun v f zs W (hu : Upd [] wA W) (hr : R1 f W [v] zs) => visibleI T (.slice la T.labs.length ca) (.slice a T.eds.length cap) v zs s W f1 f2 f (RSk.upd h1 (U.out.trans hu) (by simp)) (R_E1k.upd h2 (U.out.trans hu) (by simp)) hr hok)
  clear h1 h2 hok hS hY hk
  go_enter Tryz.func81, Tryz.ntmps81
  go_upto_region 1 with (fail)
  rw [← hwA, ← hBT]
  clear hwA hBT
  go_wp2_with fail
  rw [← hwB]
  clear hwB hszA
  refine F1.out.mono ?_
  rintro e w1 ⟨⟨v1', g1, zs, rfl, r1, ns1, nd1, hm1⟩, hu1⟩
  obtain ⟨xa, xc, rfl, -, -, -⟩ := slF1_open r1
  have U1 := Lib.hid (UB.out.trans hu1)
  have R1' := Lib.hid r1
  have HM := Lib.hid (fun j => show j ∈ zs ↔ ReachT T k j by rw [hm1 j]; simp)
  obtain ⟨z0, z1, z2, z3, -⟩ := (HS.out.upd U1.out (by simp)).facts
  clear F1 hu1 r1 nd1 hm1 ns1
  by_cases hs : s = tauL
  · have hse : (s == tauL) = true := by simp [hs]
    have HW := Lib.hid (fun j => show j ∈ zs ↔ WeakR T k s j by
      rw [HM.out j]
      unfold WeakR
      simp [hs])
    subst hs
    clear F2 HM
    go_wp2_with fail
    go_ret
    exact ⟨⟨_, g1, zs, rfl, R1'.out, HW.out⟩, U.out.trans U1.out⟩
  · have hse : (s == tauL) = false := by simp [hs]
    have hse2 : (s == [116, 97, 117]) = false := hse
    have T2 := Lib.hid (F2.out _ g1 zs w1 U1.out R1'.out)
    have HS2 := Lib.hid hs
    clear F2 hs
    go_wp2_with fail
    refine T2.out.mono ?_
    rintro e w2 ⟨⟨v2', g2, zs2, rfl, r2, -, -, hm2⟩, hu2⟩
    have R2 := Lib.hid (And.intro r2 hm2)
    have U2 := Lib.hid (U1.out.trans hu2)
    clear T2 hu2 r2 hm2
    go_wp2_with fail
    go_ret
    refine ⟨⟨_, g2, zs2, rfl, R2.out.1, fun j => ?_⟩, U.out.trans U2.out⟩
    rw [R2.out.2 j]
    unfold WeakR
    constructor
    · rintro ⟨x, hx, l, hl, hr⟩
      exact Or.inr ⟨HS2.out, x, l, (HM.out x).1 hx, hl, hr⟩
    · rintro (⟨h, -⟩ | ⟨-, x, l, hx, hl, hr⟩)
      · exact absurd h HS2.out
      · exact ⟨x, (HM.out x).2 hx, l, hl, hr⟩

end Go.Proofs.YtcnaapiljmgfoaaGreatDoor

/-
  Relations between systems, the program's weakWay and branchingWay. (The loop is printed twice by tools/genbisw.py.)
-/
namespace Go.Proofs.YtcnaapiljmgfoaaGreatDoor
open Go.RowKit

theorem enter_weak (args : Array Value) (w : World) : Sem.run Tryz.prog (callFunc 52 args) w = .ok (.enter 52 args) w := by go_simp
theorem enter_weak1 (args : Array Value) (w : World) : Sem.run Tryz.prog (callFunc 82 args) w = .ok (.enter 82 args) w := by go_simp
theorem enter_branch (args : Array Value) (w : World) : Sem.run Tryz.prog (callFunc 40 args) w = .ok (.enter 40 args) w := by go_simp

theorem weak1I (T V : Nat) (A B : Sys) (a1 a2 b1 b2 hv : Value) (H : Int → Int → Bool) (v u : Int) (w : World) (hT : RelAt T w A B a1 a2 b1 b2 hv) (hV : w.cell? ⟨V, 0, none⟩ = some (ei v)) (hh : HasC hv A.st B.st H w) (h1 : 0 ≤ v) (h2 : v < A.st) (h3 : 0 ≤ u) (h4 : u < B.st) :
    Calls Tryz.prog 82 #[.int .i64 u, .pointer (some ⟨T, 0, none⟩), .pointer (some ⟨V, 0, none⟩)] w fun e w' => e = .returned (.bool (H v u)) ∧ Upd [] w w' := by
  obtain ⟨g, caps, rfl, hent, hc⟩ := hh
  have S1 := Lib.hid (hc w v u (Upd.refl _ _) h1 h2 h3 h4)
  have z8 := hT.facts.2.2
  generalize H v u = b at *
  clear hc hT h1 h2 h3 h4
  go_enter Tryz.func82, Tryz.ntmps82
  go_wp2_with fail
  refine S1.out.mono ?_
  rintro e w1 ⟨rfl, hu⟩
  have U := Lib.hid hu
  clear S1 hu
  go_wp2_with fail
  go_ret
  exact ⟨rfl, U.out⟩

open Classical in
/-- an edge answered by a weak step. -/
noncomputable def weakF (_A B : Sys) (H : Int → Int → Bool) (_x y : Int) (s : List UInt8) (v : Int) : Bool := decide (∃ u, WeakR B y s u ∧ H v u = true)
theorem weakF_any (A B : Sys) (H : Int → Int → Bool) (x y : Int) (s : List UInt8) (v : Int) (zs : List Int) (h : ∀ j, j ∈ zs ↔ WeakR B y s j) : zs.any (fun u => H v u) = weakF A B H x y s v := by
  classical
  unfold weakF
  rw [Bool.eq_iff_iff, List.any_eq_true, decide_eq_true_iff]
  constructor
  · rintro ⟨u, hu, hq⟩; exact ⟨u, (h u).1 hu, hq⟩
  · rintro ⟨u, hu, hq⟩; exact ⟨u, (h u).2 hu, hq⟩

set_option maxRecDepth 20000 in
set_option maxHeartbeats 4000000 in
theorem weakWayI : WayC 52 weakF := by
  refine ⟨enter_weak, ?_⟩
  intro A B a1 a2 b1 b2 hv H x y v s w f1 f2 f3 f4 h hh hx0 hx1 hy0 hy1 hv0 hv1
  obtain ⟨wA, hwA⟩ : ∃ wA, wA = (w.alloc (.cells #[ei A.st, ei A.ini, a1, a2, ei B.st, ei B.ini, b1, b2, hv] 86)).alloc (.cells #[ei v] 2) := ⟨_, rfl⟩
  have U := Lib.hid (show Upd [] w wA by rw [hwA]; exact ((Upd.refl _ _).alloc _).alloc _)
  have hR : RelAt w.heap.size wA A B a1 a2 b1 b2 hv := by
    have h0 : RelAt w.heap.size (w.alloc (.cells #[ei A.st, ei A.ini, a1, a2, ei B.st, ei B.ini, b1, b2, hv] 86)) A B a1 a2 b1 b2 hv := RelAt.new w A B a1 a2 b1 b2 hv
    rw [hwA]; exact h0.upd ((Upd.refl [] _).alloc _) (by simp)
  have hV : wA.cell? ⟨w.heap.size + 1, 0, none⟩ = some (ei v) := by rw [hwA]; exact cell_new _ _ _ _ (by simp) 0 _ rfl
  obtain ⟨BR, hBR⟩ : ∃ BR, BR = w.heap.size := ⟨_, rfl⟩
  rw [← hBR] at hR hV
  have HR := Lib.hid hR
  have HV := Lib.hid hV
  obtain ⟨-, ⟨z4, z5, z6, z7⟩, -⟩ := hR.facts
  have S1 := Lib.hid (weaklyI B b1 b2 y s wA f3 f4 (RSk.upd h.lb U.out (by simp)) (R_E1k.upd h.eb U.out (by simp)) h.okb ⟨hy0, hy1⟩)
  have S2 := Lib.hid (fun (vv : Value) (f : List Nat) (zs : List Int) W (hu : Upd [] wA W) (hr : R1 f W [vv] zs) (hm : ∀ j, j ∈ zs ↔ WeakR B y s j) => containsFuncN (fun u => H v u) 82 #[.pointer (some ⟨BR, 0, none⟩), .pointer (some ⟨BR + 1, 0, none⟩)] vv zs W f hr enter_weak1
    (fun wr u hu1 hu2 => weak1I BR (BR + 1) A B a1 a2 b1 b2 hv H v u wr (HR.out.upd (hu.trans hu2) (by simp)) ((hu.trans hu2).keep HV.out) (hh.upd (U.out.trans (hu.trans hu2))) hv0 hv1 (WeakR.bd h.okb ((hm u).1 hu1) ⟨hy0, hy1⟩).1 (WeakR.bd h.okb ((hm u).1 hu1) ⟨hy0, hy1⟩).2))
  have HZ := Lib.hid (fun zs (hm : ∀ j, j ∈ zs ↔ WeakR B y s j) => weakF_any A B H x y s v zs hm)
  clear hR hV h hh hx0 hx1 hy0 hy1 hv0 hv1
  generalize weakF A B H x y s v = Z at *
  go_enter Tryz.func52, Tryz.ntmps52
  go_upto_region 1 with (fail)
  rw [← hwA, ← hBR]
  clear hwA hBR
  go_wp2_with fail
  refine S1.out.mono ?_
  rintro e w1 ⟨⟨vv, ff, zs, rfl, hr, hm⟩, hu1⟩
  have T2 := Lib.hid (S2.out vv ff zs w1 hu1 hr hm)
  have U1 := Lib.hid hu1
  have HE := Lib.hid (HZ.out zs hm)
  clear S1 S2 hu1 hr hm
  go_wp2_with fail
  refine T2.out.mono ?_
  rintro e w2 ⟨rfl, hu2⟩
  have U2 := Lib.hid hu2
  clear T2 hu2
  rw [HE.out]
  go_wp2_with fail
  go_ret
  exact ⟨rfl, U.out.trans (U1.out.trans U2.out)⟩

open Classical in
/-- an edge answered by none, or by internal edges and an edge. -/
noncomputable def branchF (A B : Sys) (H : Int → Int → Bool) (x y : Int) (s : List UInt8) (v : Int) : Bool := decide ((s = tauL ∧ H v y = true) ∨ ∃ u, ReachT B y u ∧ H x u = true ∧ strF A B H x u s v = true)
theorem branchF_iff (A B : Sys) (H : Int → Int → Bool) (x y : Int) (s : List UInt8) (v : Int) : branchF A B H x y s v = true ↔ ((s = tauL ∧ H v y = true) ∨ ∃ u, ReachT B y u ∧ H x u = true ∧ strF A B H x u s v = true) := by
  classical
  unfold branchF
  rw [decide_eq_true_iff]

set_option maxRecDepth 20000 in
set_option maxHeartbeats 8000000 in
theorem branchWayI : WayC 40 branchF := by
  refine ⟨enter_branch, ?_⟩
  intro A B a1 a2 b1 b2 hv H x y v s w f1 f2 f3 f4 h hh hx0 hx1 hy0 hy1 hv0 hv1
  obtain ⟨g, caps, hgv, hent, hc⟩ := id hh
  obtain ⟨q1, d1, hq1, -, -, -⟩ := slF1_open h.lb
  obtain ⟨q2, d2, hq2, -, -, -⟩ := slF3_open h.eb
  obtain ⟨wA, hwA⟩ : ∃ wA, wA = w.alloc (.cells #[ei A.st, ei A.ini, a1, a2, ei B.st, ei B.ini, b1, b2, hv] 86) := ⟨_, rfl⟩
  have U := Lib.hid (show Upd [] w wA by rw [hwA]; exact (Upd.refl _ _).alloc _)
  have hR : RelAt w.heap.size wA A B a1 a2 b1 b2 hv := by rw [hwA]; exact RelAt.new w A B a1 a2 b1 b2 hv
  obtain ⟨BR, hBR⟩ : ∃ BR, BR = w.heap.size := ⟨_, rfl⟩
  rw [← hBR] at hR
  have HR := Lib.hid hR
  have C1 := Lib.hid (fun (p q : Int) W (hu : Upd [] wA W) (h1 : 0 ≤ p) (h2 : p < A.st) (h3 : 0 ≤ q) (h4 : q < B.st) => hc W p q (U.out.trans hu) h1 h2 h3 h4)
  have C2 := Lib.hid (fun (u : Int) W (hu : Upd [] wA W) (h3 : 0 ≤ u) (h4 : u < B.st) => stronglyI.2 A B a1 a2 b1 b2 hv H x u v s W f1 f2 f3 f4 (h.upd (U.out.trans hu)) (hh.upd (U.out.trans hu)) hx0 hx1 h3 h4 hv0 hv1)
  have C3 := Lib.hid (fun W Bk (hu : Upd [] wA W) (hr : R1 [Bk] W [.slice (some ⟨Bk, 0, none⟩) 1 1] [y]) => internalI B b1 b2 (.slice (some ⟨Bk, 0, none⟩) 1 1) [y] W f3 f4 [Bk] (RSk.upd h.lb (U.out.trans hu) (by simp)) (R_E1k.upd h.eb (U.out.trans hu) (by simp)) hr (NoSpot.mk _ _ _ _) h.okb (by simp) (fun z hz => by simp at hz; subst hz; exact ⟨hy0, hy1⟩))
  have T1 := Lib.hid (C1.out v y wA (Upd.refl _ _) hv0 hv1 hy0 hy1)
  have HXB := Lib.hid (And.intro hx0 hx1)
  have HRB := Lib.hid (fun u (hr : ReachT B y u) => hr.bd h.okb ⟨hy0, hy1⟩)
  have HZ := Lib.hid (show branchF A B H x y s v = true ↔ ((s = tauL ∧ H v y = true) ∨ ∃ u, ReachT B y u ∧ H x u = true ∧ strF A B H x u s v = true) from branchF_iff A B H x y s v)
  obtain ⟨-, ⟨z4, z5, z6, z7⟩, z8⟩ := hR.facts
  subst hq1
  subst hq2
  subst hgv
  clear hc hR h hh hx0 hx1 hy0 hy1 hv0 hv1
  generalize branchF A B H x y s v = Z at *
  generalize strF A B H x = SF at *
  go_enter Tryz.func40, Tryz.ntmps40
  go_upto_region 1 with (fail)
  rw [← hwA, ← hBR]
  clear hwA hBR
  by_cases hs : s = tauL
  · have hse : (s == tauL) = true := by simp [hs]
    have hse2 : (s == [116, 97, 117]) = true := hse
    cases hb : H v y with
    | true =>
      have HE := Lib.hid (show Z = true from HZ.out.2 (Or.inl ⟨hs, hb⟩))
      rw [hb] at T1
      clear HZ C1 C2 C3 hb hs
      go_wp2_with fail
      refine T1.out.mono ?_
      rintro e w1 ⟨rfl, hu1⟩
      have U1 := Lib.hid hu1
      clear T1 hu1
      go_wp2_with fail
      go_ret
      exact ⟨by rw [HE.out]; rfl, U.out.trans U1.out⟩
    | false =>
      have HZ2 := Lib.hid (show Z = true ↔ ∃ u, ReachT B y u ∧ H x u = true ∧ SF u s v = true by rw [HZ.out]; simp [hb])
      rw [hb] at T1
      clear HZ hb hs
      go_wp2_with fail
      refine T1.out.mono ?_
      rintro e w1 ⟨rfl, hu1⟩
      have U1 := Lib.hid hu1
      obtain ⟨-, ⟨z4, z5, z6, z7⟩, z8⟩ := (HR.out.upd hu1 (by simp)).facts
      clear T1 hu1
      obtain ⟨wB, hwB⟩ : ∃ wB, wB = w1.alloc (.cells #[ei y] 2) := ⟨_, rfl⟩
      have UB := Lib.hid (show Upd [] w1 wB by rw [hwB]; exact (Upd.refl _ _).alloc _)
      have T3 := Lib.hid (C3.out wB w1.heap.size (U1.out.trans UB.out) (by rw [hwB]; exact r1_one w1 y _ rfl))
      go_wp2_with fail
      rw [← hwB]
      clear hwB
      refine T3.out.mono ?_
      rintro e w2 ⟨⟨vv, ff, zs, rfl, r2, -, -, hm2⟩, hu2⟩
      obtain ⟨za, zc, rfl, l2, m2, c2⟩ := slF1_open r2
      unfold maxLen at m2
      have HC2 := Lib.hid c2
      have HM := Lib.hid (fun j => show j ∈ zs ↔ ReachT B y j by rw [hm2 j]; simp)
      have U2 := Lib.hid (U1.out.trans (UB.out.trans hu2))
      clear T3 hu2 r2 hm2 c2 C3 UB
      go_wp2_with fail
      go_loopw [28] (fun iv wr => ∃ j : Nat, j ≤ zs.length ∧ iv = .int .i64 j ∧ Hid (∀ q ∈ zs.take j, ¬ (H x q = true ∧ SF q s v = true)) ∧ Hid (Upd [] w2 wr)) (fun iv _ => zs.length - (intOf iv).toNat)
      case atStart => exact ⟨0, Nat.zero_le _, rfl, Lib.hid (fun q hq => by simp at hq), Lib.hid (Upd.refl _ _)⟩
      case round =>
        obtain ⟨wo, rfl⟩ : ∃ wo : World, wo = wr := ⟨_, rfl⟩
        obtain ⟨j, hj, rfl, HI, HU⟩ := hrel
        by_cases hjl : j < zs.length
        · obtain ⟨b4, o4, rfl, -, -, p4⟩ := HC2.out j hjl
          have p4 := HU.out.keep p4
          have hji : (j : Int) < (zs.length : Int) := by omega
          have HRE := Lib.hid ((HM.out zs[j]).1 (List.getElem_mem hjl))
          have hstep : zs.take (j + 1) = zs.take j ++ [zs[j]] := List.take_succ_eq_append_getElem hjl
          have HSTP := Lib.hid hstep
          generalize zs[j] = u at *
          obtain ⟨hb0, hb1⟩ := HRB.out u HRE.out
          obtain ⟨⟨x0, x1, x2, x3⟩, ⟨y4, y5, y6, y7⟩, y8⟩ := (HR.out.upd (U2.out.trans HU.out) (by simp)).facts
          have T4 := Lib.hid (C1.out x u wo (U2.out.trans HU.out) HXB.out.1 HXB.out.2 hb0 hb1)
          have T5 := Lib.hid (fun W (hu : Upd [] wo W) => C2.out u W (U2.out.trans (HU.out.trans hu)) hb0 hb1)
          have HK := Lib.hid (fun W (hu : Upd [] wo W) => (HR.out.upd (U2.out.trans (HU.out.trans hu)) (by simp)).facts)
          clear hstep hb0 hb1
          cases hb : H x u with
          | false =>
            have HI9 := Lib.hid (show ∀ q ∈ zs.take (j + 1), ¬ (H x q = true ∧ SF q s v = true) from fun q hq => by
              rw [HSTP.out] at hq
              rcases List.mem_append.1 hq with h | h
              · exact HI.out q h
              · simp at h; subst h; rw [hb]; simp)
            rw [hb] at T4
            clear HI hb T5
            go_wp2_with fail
            refine T4.out.mono ?_
            rintro e w5 ⟨rfl, hu5⟩
            have U5 := Lib.hid (HU.out.trans hu5)
            clear T4 hu5 HU
            go_wp2_with fail
            go_roundw
            case rel => exact ⟨j + 1, by omega, by go_num, HI9, U5⟩
            case measure => simp [intOf]; omega
          | true =>
            rw [hb] at T4
            go_wp2_with fail
            refine T4.out.mono ?_
            rintro e w5 ⟨rfl, hu5⟩
            have U5 := Lib.hid (HU.out.trans hu5)
            obtain ⟨⟨x0, x1, x2, x3⟩, ⟨y4, y5, y6, y7⟩, y8⟩ := HK.out w5 hu5
            have T6 := Lib.hid (T5.out w5 hu5)
            clear T4 T5 hu5 HU HK
            go_wp2_with fail
            refine T6.out.mono ?_
            rintro e w6 ⟨rfl, hu6⟩
            have U6 := Lib.hid (U5.out.trans hu6)
            clear T6 hu6
            cases hb2 : SF u s v with
            | true =>
              have HE := Lib.hid (show Z = true from HZ2.out.2 ⟨u, HRE.out, hb, hb2⟩)
              clear HI hb hb2
              go_wp2_with fail
              go_ret
              exact ⟨by rw [HE.out]; rfl, U.out.trans (U2.out.trans U6.out)⟩
            | false =>
              have HI9 := Lib.hid (show ∀ q ∈ zs.take (j + 1), ¬ (H x q = true ∧ SF q s v = true) from fun q hq => by
                rw [HSTP.out] at hq
                rcases List.mem_append.1 hq with h | h
                · exact HI.out q h
                · simp at h; subst h; rw [hb2]; simp)
              clear HI hb hb2
              go_wp2_with fail
              go_roundw
              case rel => exact ⟨j + 1, by omega, by go_num, HI9, U6⟩
              case measure => simp [intOf]; omega
        · obtain rfl : j = zs.length := by omega
          have HE := Lib.hid (show Z = false by
            rw [Bool.eq_false_iff]
            intro hz
            obtain ⟨u, hu, h1, h2⟩ := HZ2.out.1 hz
            exact HI.out u (by rw [List.take_length]; exact (HM.out u).2 hu) ⟨h1, h2⟩)
          clear HI
          go_wp2_with fail
          go_ret
          exact ⟨by rw [HE.out]; rfl, U.out.trans (U2.out.trans HU.out)⟩
  · have hse : (s == tauL) = false := by simp [hs]
    have hse2 : (s == [116, 97, 117]) = false := hse
    have HZ2 := Lib.hid (show Z = true ↔ ∃ u, ReachT B y u ∧ H x u = true ∧ SF u s v = true by rw [HZ.out]; simp [hs])
    have U1 := Lib.hid (Upd.refl [] wA)
    generalize hw1 : wA = w1 at HR z4 z5 z6 z7 z8 U1 C1 C2 C3 U T1 ⊢
    clear HZ T1 hs hw1
    obtain ⟨wB, hwB⟩ : ∃ wB, wB = w1.alloc (.cells #[ei y] 2) := ⟨_, rfl⟩
    have UB := Lib.hid (show Upd [] w1 wB by rw [hwB]; exact (Upd.refl _ _).alloc _)
    have T3 := Lib.hid (C3.out wB w1.heap.size (U1.out.trans UB.out) (by rw [hwB]; exact r1_one w1 y _ rfl))
    go_wp2_with fail
    rw [← hwB]
    clear hwB
    refine T3.out.mono ?_
    rintro e w2 ⟨⟨vv, ff, zs, rfl, r2, -, -, hm2⟩, hu2⟩
    obtain ⟨za, zc, rfl, l2, m2, c2⟩ := slF1_open r2
    unfold maxLen at m2
    have HC2 := Lib.hid c2
    have HM := Lib.hid (fun j => show j ∈ zs ↔ ReachT B y j by rw [hm2 j]; simp)
    have U2 := Lib.hid (U1.out.trans (UB.out.trans hu2))
    clear T3 hu2 r2 hm2 c2 C3 UB
    go_wp2_with fail
    go_loopw [28] (fun iv wr => ∃ j : Nat, j ≤ zs.length ∧ iv = .int .i64 j ∧ Hid (∀ q ∈ zs.take j, ¬ (H x q = true ∧ SF q s v = true)) ∧ Hid (Upd [] w2 wr)) (fun iv _ => zs.length - (intOf iv).toNat)
    case atStart => exact ⟨0, Nat.zero_le _, rfl, Lib.hid (fun q hq => by simp at hq), Lib.hid (Upd.refl _ _)⟩
    case round =>
      obtain ⟨wo, rfl⟩ : ∃ wo : World, wo = wr := ⟨_, rfl⟩
      obtain ⟨j, hj, rfl, HI, HU⟩ := hrel
      by_cases hjl : j < zs.length
      · obtain ⟨b4, o4, rfl, -, -, p4⟩ := HC2.out j hjl
        have p4 := HU.out.keep p4
        have hji : (j : Int) < (zs.length : Int) := by omega
        have HRE := Lib.hid ((HM.out zs[j]).1 (List.getElem_mem hjl))
        have hstep : zs.take (j + 1) = zs.take j ++ [zs[j]] := List.take_succ_eq_append_getElem hjl
        have HSTP := Lib.hid hstep
        generalize zs[j] = u at *
        obtain ⟨hb0, hb1⟩ := HRB.out u HRE.out
        obtain ⟨⟨x0, x1, x2, x3⟩, ⟨y4, y5, y6, y7⟩, y8⟩ := (HR.out.upd (U2.out.trans HU.out) (by simp)).facts
        have T4 := Lib.hid (C1.out x u wo (U2.out.trans HU.out) HXB.out.1 HXB.out.2 hb0 hb1)
        have T5 := Lib.hid (fun W (hu : Upd [] wo W) => C2.out u W (U2.out.trans (HU.out.trans hu)) hb0 hb1)
        have HK := Lib.hid (fun W (hu : Upd [] wo W) => (HR.out.upd (U2.out.trans (HU.out.trans hu)) (by simp)).facts)
        clear hstep hb0 hb1
        cases hb : H x u with
        | false =>
          have HI9 := Lib.hid (show ∀ q ∈ zs.take (j + 1), ¬ (H x q = true ∧ SF q s v = true) from fun q hq => by
            rw [HSTP.out] at hq
            rcases List.mem_append.1 hq with h | h
            · exact HI.out q h
            · simp at h; subst h; rw [hb]; simp)
          rw [hb] at T4
          clear HI hb T5
          go_wp2_with fail
          refine T4.out.mono ?_
          rintro e w5 ⟨rfl, hu5⟩
          have U5 := Lib.hid (HU.out.trans hu5)
          clear T4 hu5 HU
          go_wp2_with fail
          go_roundw
          case rel => exact ⟨j + 1, by omega, by go_num, HI9, U5⟩
          case measure => simp [intOf]; omega
        | true =>
          rw [hb] at T4
          go_wp2_with fail
          refine T4.out.mono ?_
          rintro e w5 ⟨rfl, hu5⟩
          have U5 := Lib.hid (HU.out.trans hu5)
          obtain ⟨⟨x0, x1, x2, x3⟩, ⟨y4, y5, y6, y7⟩, y8⟩ := HK.out w5 hu5
          have T6 := Lib.hid (T5.out w5 hu5)
          clear T4 T5 hu5 HU HK
          go_wp2_with fail
          refine T6.out.mono ?_
          rintro e w6 ⟨rfl, hu6⟩
          have U6 := Lib.hid (U5.out.trans hu6)
          clear T6 hu6
          cases hb2 : SF u s v with
          | true =>
            have HE := Lib.hid (show Z = true from HZ2.out.2 ⟨u, HRE.out, hb, hb2⟩)
            clear HI hb hb2
            go_wp2_with fail
            go_ret
            exact ⟨by rw [HE.out]; rfl, U.out.trans (U2.out.trans U6.out)⟩
          | false =>
            have HI9 := Lib.hid (show ∀ q ∈ zs.take (j + 1), ¬ (H x q = true ∧ SF q s v = true) from fun q hq => by
              rw [HSTP.out] at hq
              rcases List.mem_append.1 hq with h | h
              · exact HI.out q h
              · simp at h; subst h; rw [hb2]; simp)
            clear HI hb hb2
            go_wp2_with fail
            go_roundw
            case rel => exact ⟨j + 1, by omega, by go_num, HI9, U6⟩
            case measure => simp [intOf]; omega
      · obtain rfl : j = zs.length := by omega
        have HE := Lib.hid (show Z = false by
          rw [Bool.eq_false_iff]
          intro hz
          obtain ⟨u, hu, h1, h2⟩ := HZ2.out.1 hz
          exact HI.out u (by rw [List.take_length]; exact (HM.out u).2 hu) ⟨h1, h2⟩)
        clear HI
        go_wp2_with fail
        go_ret
        exact ⟨by rw [HE.out]; rfl, U.out.trans (U2.out.trans HU.out)⟩

end Go.Proofs.YtcnaapiljmgfoaaGreatDoor

/-
  Relations between systems: pairs as a list and as a set; an edge answered by an edge.
-/
namespace Go.Proofs.YtcnaapiljmgfoaaGreatDoor
open Go.RowKit

theorem pair_eq {p : List Int} (h : p.length = 2) (a b : Int) : (p == [a, b]) = ((p.getD 0 0 == a) && (p.getD 1 0 == b)) := by
  match p, h with
  | [u, v], _ => simp [Bool.beq_eq_decide_eq]
theorem hasP_any {R : List (List Int)} (h : ∀ p ∈ R, p.length = 2) (a b : Int) : R.any (fun p => p == [a, b]) = hasP R a b := by
  unfold hasP
  rw [Bool.eq_iff_iff, List.any_eq_true, List.any_eq_true]
  constructor <;> rintro ⟨p, hp, hq⟩ <;> refine ⟨p, hp, ?_⟩
  · rw [pair_eq (h p hp)] at hq; exact hq
  · rw [pair_eq (h p hp)]; exact hq
theorem hasP_of (R : List (List Int)) (a b : Int) : decide ((a, b) ∈ pairsOf R) = hasP R a b := by
  unfold hasP pairsOf
  rw [Bool.eq_iff_iff, decide_eq_true_iff, List.any_eq_true, List.mem_map]
  constructor
  · rintro ⟨p, hp, he⟩
    refine ⟨p, hp, ?_⟩
    cases he
    simp
  · rintro ⟨p, hp, he⟩
    refine ⟨p, hp, ?_⟩
    simp only [Bool.and_eq_true, beq_iff_eq] at he
    rw [he.1, he.2]
theorem all_eq_of {α : Type} {l : List α} {f g : α → Bool} (h : ∀ x ∈ l, f x = g x) : l.all f = l.all g := by
  induction l with
  | nil => rfl
  | cons x xs ih => rw [List.all_cons, List.all_cons, h x (by simp), ih (fun y hy => h y (by simp [hy]))]
theorem any_eq_of {α : Type} {l : List α} {f g : α → Bool} (h : ∀ x ∈ l, f x = g x) : l.any f = l.any g := by
  induction l with
  | nil => rfl
  | cons x xs ih => rw [List.any_cons, List.any_cons, h x (by simp), ih (fun y hy => h y (by simp [hy]))]
theorem strF_met (A B : Sys) (H : Int → Int → Bool) (x y : Int) (s : List UInt8) (v : Int) : strF A B H x y s v = (outF B.eds y).any fun g => (s == B.labs.getD g.lb.toNat []) && H v g.to := by
  unfold strF folF outF
  rw [List.any_map, List.any_filter, List.any_filter]
  refine any_eq_of fun g _ => ?_
  unfold folP
  simp only [Function.comp, List.contains_cons, List.contains_nil, Bool.or_false]
  rw [show (B.labs.getD g.lb.toNat [] == s) = (s == B.labs.getD g.lb.toNat []) by rw [Bool.eq_iff_iff, beq_iff_eq, beq_iff_eq]; exact eq_comm]
  cases (s == B.labs.getD g.lb.toNat []) <;> cases (g.fr == y) <;> simp

end Go.Proofs.YtcnaapiljmgfoaaGreatDoor

/-
  Labels in order: what the reference's call returns.
-/
namespace Go.Proofs.YtcnaapiljmgfoaaGreatDoor
open Go.RowKit

theorem isLab_tau : isLab tauL = true := by
  unfold isLab; rw [readF_labT (name := tauL) (vs := []) (by simp [labT])]; rfl

set_option maxRecDepth 20000 in
set_option maxHeartbeats 4000000 in
theorem namesS (labs : List (List UInt8)) (v : Value) (w : World) (fp : List Nat) (hR : RS fp w [v] labs) (hp : ∀ p ∈ labs, p.length ≤ 2000000) :
    Calls Tryz.prog 54 #[v] w fun e w' => e = .returned (.bool (labsOk labs)) ∧ Upd [] w w' := by
  have HLO := Lib.hid (show labsOk labs = (decide (1 ≤ labs.length) && decide (labs.length ≤ 12) && allF (labP labs) 0 labs.length) from rfl)
  have HR1 := Lib.hid hR
  have HP := Lib.hid hp
  obtain ⟨a1, c1, rfl, hl1, hm1, hc⟩ := slF1_open hR
  unfold maxLen at hm1
  clear hR hp
  by_cases h0 : labs.length = 0
  · have HF := Lib.hid (show labsOk labs = false by rw [HLO.out, h0]; rfl)
    clear HLO HR1 hc HP
    rw [h0]
    go_enter Tryz.func54, Tryz.ntmps54
    go_wp2_with fail
    go_ret
    exact ⟨by rw [HF.out]; rfl, Upd.refl _ _⟩
  · have h0b : ((labs.length : Int) == 0) = false := beq_eq_false_iff_ne.2 (by omega)
    have h0c : ¬ (labs.length : Int) = 0 := by omega
    by_cases h12 : 12 < labs.length
    · have HF := Lib.hid (show labsOk labs = false by rw [HLO.out, decide_eq_false (show ¬ labs.length ≤ 12 by omega)]; simp)
      have h12i : (12 : Int) < (labs.length : Int) := by omega
      clear HLO HR1 hc HP
      go_enter Tryz.func54, Tryz.ntmps54
      go_wp2_with fail
      go_ret
      exact ⟨by rw [HF.out]; rfl, Upd.refl _ _⟩
    · have HLO2 := Lib.hid (show labsOk labs = allF (labP labs) 0 labs.length by rw [HLO.out, decide_eq_true (show labs.length ≤ 12 by omega), decide_eq_true (show 1 ≤ labs.length by omega)]; simp)
      have h12i : ¬ (12 : Int) < (labs.length : Int) := by omega
      have hpos : 0 < labs.length := by omega
      have hposi : (0 : Int) < (labs.length : Int) := by omega
      obtain ⟨b1, o1, rfl, -, -, p0⟩ := hc 0 hpos
      rw [Nat.add_zero] at p0
      have HA0 := Lib.hid (allF_step (labP labs) 0 labs.length hpos)
      have HLP0 := Lib.hid (labP_at labs 0 hpos)
      generalize labs[0] = s0 at *
      clear HLO hc h0
      by_cases ht0 : s0 = tauL
      · have HA := Lib.hid (show allF (labP labs) 1 (labs.length - 1) = allF (labP labs) 0 labs.length by
          have := HA0.out
          rw [HLP0.out, ht0, isLab_tau] at this
          rw [Nat.sub_zero] at this
          rw [this]; simp)
        have g1 : (s0 == [116, 97, 117]) = true := by simpa [tauL] using ht0
        have g1n : (s0 != [116, 97, 117]) = false := by simp [bne, g1]
        clear HA0 HLP0 ht0
        go_enter Tryz.func54, Tryz.ntmps54
        go_wp2_with fail
        go_loopw [3] (fun iv wr => ∃ k : Nat, 1 ≤ k ∧ k ≤ labs.length ∧ iv = .int .i64 k ∧ Hid (allF (labP labs) k (labs.length - k) = allF (labP labs) 0 labs.length) ∧ Upd [] w wr) (fun iv _ => labs.length - (intOf iv).toNat)
        case atStart => exact ⟨1, Nat.le_refl _, hpos, rfl, HA, Upd.refl _ _⟩
        case round =>
          clear HA
          obtain ⟨k, hk1, hk, rfl, HA, hU⟩ := hrel
          by_cases hlt : k < labs.length
          · obtain ⟨a', c', hv, -, -, hc⟩ := slF1_open (RSk.upd HR1.out hU (by simp))
            cases hv
            obtain ⟨b2, o2, hv2, -, -, x0⟩ := hc k hlt
            cases hv2
            obtain ⟨b2, o2, hv2, -, -, q0⟩ := hc (k - 1) (by omega)
            cases hv2
            have HA2 := Lib.hid (HA.out.symm.trans (allF_step (labP labs) k labs.length hlt))
            have HLP := Lib.hid (labP_at labs k hlt)
            have hpv : labs.getD (k - 1) [] = labs[k - 1] := by rw [List.getD_eq_getElem?_getD, List.getElem?_eq_getElem (by omega)]; rfl
            rw [← hpv] at q0
            have SL := Lib.hid (fun W => labelS labs[k] W (HP.out labs[k] (List.getElem_mem hlt)))
            generalize labs.getD (k - 1) [] = pv at *
            generalize labs[k] = s at *
            have HU := Lib.hid hU
            have k0 : decide (k = 0) = false := decide_eq_false (by omega)
            rw [k0] at HLP
            clear hc HA hU hpv k0 p0
            cases hls : isLab s with
            | false =>
              have HRR := Lib.hid (show labsOk labs = false by rw [HLO2.out, HA2.out, HLP.out, hls]; rfl)
              rw [hls] at SL
              clear HLO2 HA2 HLP hls
              go_wp2_with fail
              refine wp_region_held_drew (S := fun w' => w'.cell? ⟨b1, o1 + k, none⟩ = some (es s) ∧ w'.cell? ⟨b1, o1 + (k - 1), none⟩ = some (es pv)) (by kernel_rfl) ?_ (fun hHeld => ?_)
              · exact ⟨x0, q0⟩
              refine wpAnyH_take (i := 0) (v := ?_) rfl (by kernel_rfl) (by kernel_rfl) (by kernel_rfl) (fun _ _ _ h => h) (Or.inl ⟨by rfl, ?_⟩) (by assumption) ?_
              rotate_left
              · (intro w hSw; (try dsimp only at hSw); go_simp)
                first | done | with_reducible rfl
              simp only [Act.put, List.getElem_toArray, List.getElem_cons_zero, List.setIfInBounds_toArray, List.set_cons_zero, List.set_cons_succ]
              refine wpAnyH_take (i := 1) (v := ?_) rfl (by kernel_rfl) (by kernel_rfl) (by kernel_rfl) (fun _ _ _ h => h) (Or.inl ⟨by rfl, ?_⟩) (by assumption) ?_
              rotate_left
              · (intro w hSw; (try dsimp only at hSw); go_simp)
                first | done | with_reducible rfl
              simp only [Act.put, List.getElem_toArray, List.getElem_cons_zero, List.getElem_cons_succ, List.setIfInBounds_toArray, List.set_cons_zero, List.set_cons_succ]
              refine wpAnyH_take (i := 2) (v := ?_) rfl (by kernel_rfl) (by kernel_rfl) (by kernel_rfl) (fun _ _ _ h => h) (Or.inl ⟨by rfl, ?_⟩) (by assumption) ?_
              rotate_left
              · (intro w hSw; (try dsimp only at hSw); go_simp)
                first | done | with_reducible rfl
              simp only [Act.put, List.getElem_toArray, List.getElem_cons_zero, List.getElem_cons_succ, List.setIfInBounds_toArray, List.set_cons_zero, List.set_cons_succ]
              refine wpAnyH_take (i := 3) (v := ?_) rfl (by kernel_rfl) (by kernel_rfl) (by kernel_rfl) (fun _ _ _ h => h) (Or.inl ⟨by rfl, ?_⟩) (by assumption) ?_
              rotate_left
              · (intro w hSw; (try dsimp only at hSw); go_simp)
                first | done | with_reducible rfl
              simp only [Act.put, List.getElem_toArray, List.getElem_cons_zero, List.getElem_cons_succ, List.setIfInBounds_toArray, List.set_cons_zero, List.set_cons_succ]
              refine wpAnyH_ready (rs := [4]) (by kernel_rfl) (by simp) ?_
              refine AllReadyH.cons rfl (fun K hK => ?_) AllReadyH.nil
              go_simp
              refine (SL.out _).mono ?_
              rintro e w4 ⟨rfl, hu1⟩
              refine hK.out _ _ ?_ (fun hHeld => ?_)
              · exact ⟨hu1.keep hHeld.1, hu1.keep hHeld.2⟩
              clear hK K
              try simp only [Act.put, List.getElem_toArray, List.getElem_cons_zero, List.getElem_cons_succ, List.setIfInBounds_toArray, List.set_cons_zero, List.set_cons_succ]
              refine wpAnyH_take (i := 5) (v := ?_) rfl (by kernel_rfl) (by kernel_rfl) (by kernel_rfl) (fun _ _ _ h => h) (Or.inl ⟨by rfl, ?_⟩) (by assumption) ?_
              rotate_left
              · (intro w hSw; (try dsimp only at hSw); go_simp)
                first | done | with_reducible rfl
              simp only [Act.put, List.getElem_toArray, List.getElem_cons_zero, List.getElem_cons_succ, List.setIfInBounds_toArray, List.set_cons_zero, List.set_cons_succ]
              refine wpAnyH_take (i := 6) (v := ?_) rfl (by kernel_rfl) (by kernel_rfl) (by kernel_rfl) (fun _ _ _ h => h) (Or.inl ⟨by rfl, ?_⟩) (by assumption) ?_
              rotate_left
              · (intro w hSw; (try dsimp only at hSw); go_simp)
                first | done | with_reducible rfl
              simp only [Act.put, List.getElem_toArray, List.getElem_cons_zero, List.getElem_cons_succ, List.setIfInBounds_toArray, List.set_cons_zero, List.set_cons_succ]
              refine wpAnyH_take (i := 7) rfl (by kernel_rfl) (by kernel_rfl) (by kernel_rfl) (fun _ _ _ h => h) (Or.inr ⟨by rfl, rfl⟩) (by assumption) ?_
              simp only [Act.put, List.getElem_toArray, List.getElem_cons_zero, List.getElem_cons_succ, List.setIfInBounds_toArray, List.set_cons_zero, List.set_cons_succ]
              refine wpAnyH_take (i := 8) rfl (by kernel_rfl) (by kernel_rfl) (by kernel_rfl) (fun _ _ _ h => h) (Or.inr ⟨by rfl, rfl⟩) (by assumption) ?_
              simp only [Act.put, List.getElem_toArray, List.getElem_cons_zero, List.getElem_cons_succ, List.setIfInBounds_toArray, List.set_cons_zero, List.set_cons_succ]
              refine wpAnyH_take (i := 9) rfl (by kernel_rfl) (by kernel_rfl) (by kernel_rfl) (fun _ _ _ h => h) (Or.inr ⟨by rfl, rfl⟩) (by assumption) ?_
              simp only [Act.put, List.getElem_toArray, List.getElem_cons_zero, List.getElem_cons_succ, List.setIfInBounds_toArray, List.set_cons_zero, List.set_cons_succ]
              refine wpAnyH_take (i := 10) rfl (by kernel_rfl) (by kernel_rfl) (by kernel_rfl) (fun _ _ _ h => h) (Or.inr ⟨by rfl, rfl⟩) (by assumption) ?_
              simp only [Act.put, List.getElem_toArray, List.getElem_cons_zero, List.getElem_cons_succ, List.setIfInBounds_toArray, List.set_cons_zero, List.set_cons_succ]
              refine wpAnyH_take (i := 11) rfl (by kernel_rfl) (by kernel_rfl) (by kernel_rfl) (fun _ _ _ h => h) (Or.inr ⟨by rfl, rfl⟩) (by assumption) ?_
              simp only [Act.put, List.getElem_toArray, List.getElem_cons_zero, List.getElem_cons_succ, List.setIfInBounds_toArray, List.set_cons_zero, List.set_cons_succ]
              refine wpAnyH_take (i := 12) (v := ?_) rfl (by kernel_rfl) (by kernel_rfl) (by kernel_rfl) (fun _ _ _ h => h) (Or.inl ⟨by rfl, ?_⟩) (by assumption) ?_
              rotate_left
              · (intro w hSw; (try dsimp only at hSw); go_simp)
                first | done | with_reducible rfl
              simp only [Act.put, List.getElem_toArray, List.getElem_cons_zero, List.getElem_cons_succ, List.setIfInBounds_toArray, List.set_cons_zero, List.set_cons_succ]
              refine wpAnyH_take (i := 13) (v := ?_) rfl (by kernel_rfl) (by kernel_rfl) (by kernel_rfl) (fun _ _ _ h => h) (Or.inl ⟨by rfl, ?_⟩) (by assumption) ?_
              rotate_left
              · (intro w hSw; (try dsimp only at hSw); go_simp)
                first | done | with_reducible rfl
              simp only [Act.put, List.getElem_toArray, List.getElem_cons_zero, List.getElem_cons_succ, List.setIfInBounds_toArray, List.set_cons_zero, List.set_cons_succ]
              refine wpAnyH_take (i := 14) rfl (by kernel_rfl) (by kernel_rfl) (by kernel_rfl) (fun _ _ _ h => h) (Or.inr ⟨by rfl, rfl⟩) (by assumption) ?_
              simp only [Act.put, List.getElem_toArray, List.getElem_cons_zero, List.getElem_cons_succ, List.setIfInBounds_toArray, List.set_cons_zero, List.set_cons_succ]
              refine wpAnyH_take (i := 15) rfl (by kernel_rfl) (by kernel_rfl) (by kernel_rfl) (fun _ _ _ h => h) (Or.inr ⟨by rfl, rfl⟩) (by assumption) ?_
              simp only [Act.put, List.getElem_toArray, List.getElem_cons_zero, List.getElem_cons_succ, List.setIfInBounds_toArray, List.set_cons_zero, List.set_cons_succ]
              refine wpAnyH_take (i := 16) rfl (by kernel_rfl) (by kernel_rfl) (by kernel_rfl) (fun _ _ _ h => h) (Or.inr ⟨by rfl, rfl⟩) (by assumption) ?_
              simp only [Act.put, List.getElem_toArray, List.getElem_cons_zero, List.getElem_cons_succ, List.setIfInBounds_toArray, List.set_cons_zero, List.set_cons_succ]
              refine wpAnyH_take (i := 17) rfl (by kernel_rfl) (by kernel_rfl) (by kernel_rfl) (fun _ _ _ h => h) (Or.inr ⟨by rfl, rfl⟩) (by assumption) ?_
              simp only [Act.put, List.getElem_toArray, List.getElem_cons_zero, List.getElem_cons_succ, List.setIfInBounds_toArray, List.set_cons_zero, List.set_cons_succ]
              refine wpAnyH_take (i := 18) rfl (by kernel_rfl) (by kernel_rfl) (by kernel_rfl) (fun _ _ _ h => h) (Or.inr ⟨by rfl, rfl⟩) (by assumption) ?_
              simp only [Act.put, List.getElem_toArray, List.getElem_cons_zero, List.getElem_cons_succ, List.setIfInBounds_toArray, List.set_cons_zero, List.set_cons_succ]
              refine wpAnyH_take (i := 19) rfl (by kernel_rfl) (by kernel_rfl) (by kernel_rfl) (fun _ _ _ h => h) (Or.inr ⟨by rfl, rfl⟩) (by assumption) ?_
              simp only [Act.put, List.getElem_toArray, List.getElem_cons_zero, List.getElem_cons_succ, List.setIfInBounds_toArray, List.set_cons_zero, List.set_cons_succ]
              refine wpAnyH_take (i := 20) rfl (by kernel_rfl) (by kernel_rfl) (by kernel_rfl) (fun _ _ _ h => h) (Or.inr ⟨by rfl, rfl⟩) (by assumption) ?_
              simp only [Act.put, List.getElem_toArray, List.getElem_cons_zero, List.getElem_cons_succ, List.setIfInBounds_toArray, List.set_cons_zero, List.set_cons_succ]
              refine wpAnyH_take (i := 21) rfl (by kernel_rfl) (by kernel_rfl) (by kernel_rfl) (fun _ _ _ h => h) (Or.inr ⟨by rfl, rfl⟩) (by assumption) ?_
              simp only [Act.put, List.getElem_toArray, List.getElem_cons_zero, List.getElem_cons_succ, List.setIfInBounds_toArray, List.set_cons_zero, List.set_cons_succ]
              refine wpAnyH_take (i := 22) rfl (by kernel_rfl) (by kernel_rfl) (by kernel_rfl) (fun _ _ _ h => h) (Or.inr ⟨by rfl, rfl⟩) (by assumption) ?_
              simp only [Act.put, List.getElem_toArray, List.getElem_cons_zero, List.getElem_cons_succ, List.setIfInBounds_toArray, List.set_cons_zero, List.set_cons_succ]
              refine wpAnyH_take (i := 23) rfl (by kernel_rfl) (by kernel_rfl) (by kernel_rfl) (fun _ _ _ h => h) (Or.inr ⟨by rfl, rfl⟩) (by assumption) ?_
              simp only [Act.put, List.getElem_toArray, List.getElem_cons_zero, List.getElem_cons_succ, List.setIfInBounds_toArray, List.set_cons_zero, List.set_cons_succ]
              refine wpAnyH_take (i := 24) rfl (by kernel_rfl) (by kernel_rfl) (by kernel_rfl) (fun _ _ _ h => h) (Or.inr ⟨by rfl, rfl⟩) (by assumption) ?_
              simp only [Act.put, List.getElem_toArray, List.getElem_cons_zero, List.getElem_cons_succ, List.setIfInBounds_toArray, List.set_cons_zero, List.set_cons_succ]
              refine wpAnyH_take (i := 25) rfl (by kernel_rfl) (by kernel_rfl) (by kernel_rfl) (fun _ _ _ h => h) (Or.inr ⟨by rfl, rfl⟩) (by assumption) ?_
              simp only [Act.put, List.getElem_toArray, List.getElem_cons_zero, List.getElem_cons_succ, List.setIfInBounds_toArray, List.set_cons_zero, List.set_cons_succ]
              refine wpAnyH_take (i := 26) rfl (by kernel_rfl) (by kernel_rfl) (by kernel_rfl) (fun _ _ _ h => h) (Or.inr ⟨by rfl, rfl⟩) (by assumption) ?_
              simp only [Act.put, List.getElem_toArray, List.getElem_cons_zero, List.getElem_cons_succ, List.setIfInBounds_toArray, List.set_cons_zero, List.set_cons_succ]
              refine wpAnyH_take (i := 27) rfl (by kernel_rfl) (by kernel_rfl) (by kernel_rfl) (fun _ _ _ h => h) (Or.inr ⟨by rfl, rfl⟩) (by assumption) ?_
              simp only [Act.put, List.getElem_toArray, List.getElem_cons_zero, List.getElem_cons_succ, List.setIfInBounds_toArray, List.set_cons_zero, List.set_cons_succ]
              refine wpAnyH_take (i := 28) (v := ?_) rfl (by kernel_rfl) (by kernel_rfl) (by kernel_rfl) (fun _ _ _ h => h) (Or.inl ⟨by rfl, ?_⟩) (by assumption) ?_
              rotate_left
              · (intro w hSw; (try dsimp only at hSw); go_simp)
                first | done | with_reducible rfl
              simp only [Act.put, List.getElem_toArray, List.getElem_cons_zero, List.getElem_cons_succ, List.setIfInBounds_toArray, List.set_cons_zero, List.set_cons_succ]
              refine wpAnyH_done (by kernel_rfl) ?_ _
              have HU9 := Lib.hid (HU.out.drew.trans hu1)
              clear HU hHeld x0 q0
              go_wp2_with fail
              go_ret
              exact ⟨by rw [HRR.out]; rfl, HU9.out⟩
            | true =>
              rw [hls] at SL HLP
              by_cases ht : s = tauL
              · have HRR := Lib.hid (show labsOk labs = false by rw [HLO2.out, HA2.out, HLP.out, ht]; simp)
                have g2 : (s == [116, 97, 117]) = true := by simpa [tauL] using ht
                clear HLO2 HA2 HLP hls ht
                go_wp2_with fail
                refine wp_region_held_drew (S := fun w' => w'.cell? ⟨b1, o1 + k, none⟩ = some (es s) ∧ w'.cell? ⟨b1, o1 + (k - 1), none⟩ = some (es pv)) (by kernel_rfl) ?_ (fun hHeld => ?_)
                · exact ⟨x0, q0⟩
                refine wpAnyH_take (i := 0) (v := ?_) rfl (by kernel_rfl) (by kernel_rfl) (by kernel_rfl) (fun _ _ _ h => h) (Or.inl ⟨by rfl, ?_⟩) (by assumption) ?_
                rotate_left
                · (intro w hSw; (try dsimp only at hSw); go_simp)
                  first | done | with_reducible rfl
                simp only [Act.put, List.getElem_toArray, List.getElem_cons_zero, List.setIfInBounds_toArray, List.set_cons_zero, List.set_cons_succ]
                refine wpAnyH_take (i := 1) (v := ?_) rfl (by kernel_rfl) (by kernel_rfl) (by kernel_rfl) (fun _ _ _ h => h) (Or.inl ⟨by rfl, ?_⟩) (by assumption) ?_
                rotate_left
                · (intro w hSw; (try dsimp only at hSw); go_simp)
                  first | done | with_reducible rfl
                simp only [Act.put, List.getElem_toArray, List.getElem_cons_zero, List.getElem_cons_succ, List.setIfInBounds_toArray, List.set_cons_zero, List.set_cons_succ]
                refine wpAnyH_take (i := 2) (v := ?_) rfl (by kernel_rfl) (by kernel_rfl) (by kernel_rfl) (fun _ _ _ h => h) (Or.inl ⟨by rfl, ?_⟩) (by assumption) ?_
                rotate_left
                · (intro w hSw; (try dsimp only at hSw); go_simp)
                  first | done | with_reducible rfl
                simp only [Act.put, List.getElem_toArray, List.getElem_cons_zero, List.getElem_cons_succ, List.setIfInBounds_toArray, List.set_cons_zero, List.set_cons_succ]
                refine wpAnyH_take (i := 3) (v := ?_) rfl (by kernel_rfl) (by kernel_rfl) (by kernel_rfl) (fun _ _ _ h => h) (Or.inl ⟨by rfl, ?_⟩) (by assumption) ?_
                rotate_left
                · (intro w hSw; (try dsimp only at hSw); go_simp)
                  first | done | with_reducible rfl
                simp only [Act.put, List.getElem_toArray, List.getElem_cons_zero, List.getElem_cons_succ, List.setIfInBounds_toArray, List.set_cons_zero, List.set_cons_succ]
                refine wpAnyH_ready (rs := [4]) (by kernel_rfl) (by simp) ?_
                refine AllReadyH.cons rfl (fun K hK => ?_) AllReadyH.nil
                go_simp
                refine (SL.out _).mono ?_
                rintro e w4 ⟨rfl, hu1⟩
                refine hK.out _ _ ?_ (fun hHeld => ?_)
                · exact ⟨hu1.keep hHeld.1, hu1.keep hHeld.2⟩
                clear hK K
                try simp only [Act.put, List.getElem_toArray, List.getElem_cons_zero, List.getElem_cons_succ, List.setIfInBounds_toArray, List.set_cons_zero, List.set_cons_succ]
                refine wpAnyH_take (i := 5) (v := ?_) rfl (by kernel_rfl) (by kernel_rfl) (by kernel_rfl) (fun _ _ _ h => h) (Or.inl ⟨by rfl, ?_⟩) (by assumption) ?_
                rotate_left
                · (intro w hSw; (try dsimp only at hSw); go_simp)
                  first | done | with_reducible rfl
                simp only [Act.put, List.getElem_toArray, List.getElem_cons_zero, List.getElem_cons_succ, List.setIfInBounds_toArray, List.set_cons_zero, List.set_cons_succ]
                refine wpAnyH_take (i := 6) (v := ?_) rfl (by kernel_rfl) (by kernel_rfl) (by kernel_rfl) (fun _ _ _ h => h) (Or.inl ⟨by rfl, ?_⟩) (by assumption) ?_
                rotate_left
                · (intro w hSw; (try dsimp only at hSw); go_simp)
                  first | done | with_reducible rfl
                simp only [Act.put, List.getElem_toArray, List.getElem_cons_zero, List.getElem_cons_succ, List.setIfInBounds_toArray, List.set_cons_zero, List.set_cons_succ]
                refine wpAnyH_take (i := 7) (v := ?_) rfl (by kernel_rfl) (by kernel_rfl) (by kernel_rfl) (fun _ _ _ h => h) (Or.inl ⟨by rfl, ?_⟩) (by assumption) ?_
                rotate_left
                · (intro w hSw; (try dsimp only at hSw); go_simp)
                  first | done | with_reducible rfl
                simp only [Act.put, List.getElem_toArray, List.getElem_cons_zero, List.getElem_cons_succ, List.setIfInBounds_toArray, List.set_cons_zero, List.set_cons_succ]
                refine wpAnyH_take (i := 8) (v := ?_) rfl (by kernel_rfl) (by kernel_rfl) (by kernel_rfl) (fun _ _ _ h => h) (Or.inl ⟨by rfl, ?_⟩) (by assumption) ?_
                rotate_left
                · (intro w hSw; (try dsimp only at hSw); go_simp)
                  first | done | with_reducible rfl
                simp only [Act.put, List.getElem_toArray, List.getElem_cons_zero, List.getElem_cons_succ, List.setIfInBounds_toArray, List.set_cons_zero, List.set_cons_succ]
                refine wpAnyH_take (i := 9) (v := ?_) rfl (by kernel_rfl) (by kernel_rfl) (by kernel_rfl) (fun _ _ _ h => h) (Or.inl ⟨by rfl, ?_⟩) (by assumption) ?_
                rotate_left
                · (intro w hSw; (try dsimp only at hSw); go_simp)
                  first | done | with_reducible rfl
                simp only [Act.put, List.getElem_toArray, List.getElem_cons_zero, List.getElem_cons_succ, List.setIfInBounds_toArray, List.set_cons_zero, List.set_cons_succ]
                refine wpAnyH_take (i := 10) (v := ?_) rfl (by kernel_rfl) (by kernel_rfl) (by kernel_rfl) (fun _ _ _ h => h) (Or.inl ⟨by rfl, ?_⟩) (by assumption) ?_
                rotate_left
                · (intro w hSw; (try dsimp only at hSw); go_simp)
                  first | done | with_reducible rfl
                simp only [Act.put, List.getElem_toArray, List.getElem_cons_zero, List.getElem_cons_succ, List.setIfInBounds_toArray, List.set_cons_zero, List.set_cons_succ]
                refine wpAnyH_take (i := 11) (v := ?_) rfl (by kernel_rfl) (by kernel_rfl) (by kernel_rfl) (fun _ _ _ h => h) (Or.inl ⟨by rfl, ?_⟩) (by assumption) ?_
                rotate_left
                · (intro w hSw; (try dsimp only at hSw); go_simp)
                  first | done | with_reducible rfl
                simp only [Act.put, List.getElem_toArray, List.getElem_cons_zero, List.getElem_cons_succ, List.setIfInBounds_toArray, List.set_cons_zero, List.set_cons_succ]
                refine wpAnyH_take (i := 12) (v := ?_) rfl (by kernel_rfl) (by kernel_rfl) (by kernel_rfl) (fun _ _ _ h => h) (Or.inl ⟨by rfl, ?_⟩) (by assumption) ?_
                rotate_left
                · (intro w hSw; (try dsimp only at hSw); go_simp)
                  first | done | with_reducible rfl
                simp only [Act.put, List.getElem_toArray, List.getElem_cons_zero, List.getElem_cons_succ, List.setIfInBounds_toArray, List.set_cons_zero, List.set_cons_succ]
                refine wpAnyH_take (i := 13) (v := ?_) rfl (by kernel_rfl) (by kernel_rfl) (by kernel_rfl) (fun _ _ _ h => h) (Or.inl ⟨by rfl, ?_⟩) (by assumption) ?_
                rotate_left
                · (intro w hSw; (try dsimp only at hSw); go_simp)
                  first | done | with_reducible rfl
                simp only [Act.put, List.getElem_toArray, List.getElem_cons_zero, List.getElem_cons_succ, List.setIfInBounds_toArray, List.set_cons_zero, List.set_cons_succ]
                refine wpAnyH_take (i := 14) rfl (by kernel_rfl) (by kernel_rfl) (by kernel_rfl) (fun _ _ _ h => h) (Or.inr ⟨by rfl, rfl⟩) (by assumption) ?_
                simp only [Act.put, List.getElem_toArray, List.getElem_cons_zero, List.getElem_cons_succ, List.setIfInBounds_toArray, List.set_cons_zero, List.set_cons_succ]
                refine wpAnyH_take (i := 15) rfl (by kernel_rfl) (by kernel_rfl) (by kernel_rfl) (fun _ _ _ h => h) (Or.inr ⟨by rfl, rfl⟩) (by assumption) ?_
                simp only [Act.put, List.getElem_toArray, List.getElem_cons_zero, List.getElem_cons_succ, List.setIfInBounds_toArray, List.set_cons_zero, List.set_cons_succ]
                refine wpAnyH_take (i := 16) rfl (by kernel_rfl) (by kernel_rfl) (by kernel_rfl) (fun _ _ _ h => h) (Or.inr ⟨by rfl, rfl⟩) (by assumption) ?_
                simp only [Act.put, List.getElem_toArray, List.getElem_cons_zero, List.getElem_cons_succ, List.setIfInBounds_toArray, List.set_cons_zero, List.set_cons_succ]
                refine wpAnyH_take (i := 17) rfl (by kernel_rfl) (by kernel_rfl) (by kernel_rfl) (fun _ _ _ h => h) (Or.inr ⟨by rfl, rfl⟩) (by assumption) ?_
                simp only [Act.put, List.getElem_toArray, List.getElem_cons_zero, List.getElem_cons_succ, List.setIfInBounds_toArray, List.set_cons_zero, List.set_cons_succ]
                refine wpAnyH_take (i := 18) rfl (by kernel_rfl) (by kernel_rfl) (by kernel_rfl) (fun _ _ _ h => h) (Or.inr ⟨by rfl, rfl⟩) (by assumption) ?_
                simp only [Act.put, List.getElem_toArray, List.getElem_cons_zero, List.getElem_cons_succ, List.setIfInBounds_toArray, List.set_cons_zero, List.set_cons_succ]
                refine wpAnyH_take (i := 19) rfl (by kernel_rfl) (by kernel_rfl) (by kernel_rfl) (fun _ _ _ h => h) (Or.inr ⟨by rfl, rfl⟩) (by assumption) ?_
                simp only [Act.put, List.getElem_toArray, List.getElem_cons_zero, List.getElem_cons_succ, List.setIfInBounds_toArray, List.set_cons_zero, List.set_cons_succ]
                refine wpAnyH_take (i := 20) rfl (by kernel_rfl) (by kernel_rfl) (by kernel_rfl) (fun _ _ _ h => h) (Or.inr ⟨by rfl, rfl⟩) (by assumption) ?_
                simp only [Act.put, List.getElem_toArray, List.getElem_cons_zero, List.getElem_cons_succ, List.setIfInBounds_toArray, List.set_cons_zero, List.set_cons_succ]
                refine wpAnyH_take (i := 21) rfl (by kernel_rfl) (by kernel_rfl) (by kernel_rfl) (fun _ _ _ h => h) (Or.inr ⟨by rfl, rfl⟩) (by assumption) ?_
                simp only [Act.put, List.getElem_toArray, List.getElem_cons_zero, List.getElem_cons_succ, List.setIfInBounds_toArray, List.set_cons_zero, List.set_cons_succ]
                refine wpAnyH_take (i := 22) rfl (by kernel_rfl) (by kernel_rfl) (by kernel_rfl) (fun _ _ _ h => h) (Or.inr ⟨by rfl, rfl⟩) (by assumption) ?_
                simp only [Act.put, List.getElem_toArray, List.getElem_cons_zero, List.getElem_cons_succ, List.setIfInBounds_toArray, List.set_cons_zero, List.set_cons_succ]
                refine wpAnyH_take (i := 23) rfl (by kernel_rfl) (by kernel_rfl) (by kernel_rfl) (fun _ _ _ h => h) (Or.inr ⟨by rfl, rfl⟩) (by assumption) ?_
                simp only [Act.put, List.getElem_toArray, List.getElem_cons_zero, List.getElem_cons_succ, List.setIfInBounds_toArray, List.set_cons_zero, List.set_cons_succ]
                refine wpAnyH_take (i := 24) rfl (by kernel_rfl) (by kernel_rfl) (by kernel_rfl) (fun _ _ _ h => h) (Or.inr ⟨by rfl, rfl⟩) (by assumption) ?_
                simp only [Act.put, List.getElem_toArray, List.getElem_cons_zero, List.getElem_cons_succ, List.setIfInBounds_toArray, List.set_cons_zero, List.set_cons_succ]
                refine wpAnyH_take (i := 25) rfl (by kernel_rfl) (by kernel_rfl) (by kernel_rfl) (fun _ _ _ h => h) (Or.inr ⟨by rfl, rfl⟩) (by assumption) ?_
                simp only [Act.put, List.getElem_toArray, List.getElem_cons_zero, List.getElem_cons_succ, List.setIfInBounds_toArray, List.set_cons_zero, List.set_cons_succ]
                refine wpAnyH_take (i := 26) rfl (by kernel_rfl) (by kernel_rfl) (by kernel_rfl) (fun _ _ _ h => h) (Or.inr ⟨by rfl, rfl⟩) (by assumption) ?_
                simp only [Act.put, List.getElem_toArray, List.getElem_cons_zero, List.getElem_cons_succ, List.setIfInBounds_toArray, List.set_cons_zero, List.set_cons_succ]
                refine wpAnyH_take (i := 27) rfl (by kernel_rfl) (by kernel_rfl) (by kernel_rfl) (fun _ _ _ h => h) (Or.inr ⟨by rfl, rfl⟩) (by assumption) ?_
                simp only [Act.put, List.getElem_toArray, List.getElem_cons_zero, List.getElem_cons_succ, List.setIfInBounds_toArray, List.set_cons_zero, List.set_cons_succ]
                refine wpAnyH_take (i := 28) (v := ?_) rfl (by kernel_rfl) (by kernel_rfl) (by kernel_rfl) (fun _ _ _ h => h) (Or.inl ⟨by rfl, ?_⟩) (by assumption) ?_
                rotate_left
                · (intro w hSw; (try dsimp only at hSw); go_simp)
                  first | done | with_reducible rfl
                simp only [Act.put, List.getElem_toArray, List.getElem_cons_zero, List.getElem_cons_succ, List.setIfInBounds_toArray, List.set_cons_zero, List.set_cons_succ]
                refine wpAnyH_done (by kernel_rfl) ?_ _
                have HU9 := Lib.hid (HU.out.drew.trans hu1)
                clear HU hHeld x0 q0
                go_wp2_with fail
                go_ret
                exact ⟨by rw [HRR.out]; rfl, HU9.out⟩
              · have g2 : (s == [116, 97, 117]) = false := by simpa [tauL] using ht
                have hst0 : (s == tauL) = false := by simpa using ht
                rw [hst0] at HLP
                clear hls ht hst0
                by_cases h1k : 1 < k
                · have kI : decide ((1 : Int) < (k : Int)) = true := decide_eq_true (by omega)
                  have kN : decide (1 < k) = true := decide_eq_true h1k
                  have kP : (1 : Int) < (k : Int) := by omega
                  have i0 : IntKind.i64.wrap ((k : Int) - 1) = (k : Int) - 1 := IntWalk.i64_in _ (by omega)
                  have i1 : ((k : Int) - 1).toNat = k - 1 := by omega
                  have i3 : (0 : Int) ≤ (k : Int) - 1 := by omega
                  have i4 : (k : Int) - 1 < (labs.length : Int) := by omega
                  have i5 : (1 : Int) ≤ (k : Int) := by omega
                  rw [kN] at HLP
                  have hcmp : (Op.bytesLess s pv || s == pv) = !bl pv s := bl_total s pv
                  have hcmp2 : (Op.bytesLess s pv || pv == s) = !bl pv s := by rw [← hcmp]; congr 1; rw [Bool.eq_iff_iff]; simp; exact eq_comm
                  cases hbl : bl pv s with
                  | false =>
                    rw [hbl] at HLP hcmp hcmp2
                    have hbl3 : Op.bytesLess pv s = false := hbl
                    have HRR := Lib.hid (show labsOk labs = false by rw [HLO2.out, HA2.out, HLP.out]; rfl)
                    clear HLO2 HA2 HLP hbl
                    go_wp2_with fail
                    refine wp_region_held_drew (S := fun w' => w'.cell? ⟨b1, o1 + k, none⟩ = some (es s) ∧ w'.cell? ⟨b1, o1 + (k - 1), none⟩ = some (es pv)) (by kernel_rfl) ?_ (fun hHeld => ?_)
                    · exact ⟨x0, q0⟩
                    refine wpAnyH_take (i := 0) (v := ?_) rfl (by kernel_rfl) (by kernel_rfl) (by kernel_rfl) (fun _ _ _ h => h) (Or.inl ⟨by rfl, ?_⟩) (by assumption) ?_
                    rotate_left
                    · (intro w hSw; (try dsimp only at hSw); go_simp)
                      first | done | with_reducible rfl
                    simp only [Act.put, List.getElem_toArray, List.getElem_cons_zero, List.setIfInBounds_toArray, List.set_cons_zero, List.set_cons_succ]
                    refine wpAnyH_take (i := 1) (v := ?_) rfl (by kernel_rfl) (by kernel_rfl) (by kernel_rfl) (fun _ _ _ h => h) (Or.inl ⟨by rfl, ?_⟩) (by assumption) ?_
                    rotate_left
                    · (intro w hSw; (try dsimp only at hSw); go_simp)
                      first | done | with_reducible rfl
                    simp only [Act.put, List.getElem_toArray, List.getElem_cons_zero, List.getElem_cons_succ, List.setIfInBounds_toArray, List.set_cons_zero, List.set_cons_succ]
                    refine wpAnyH_take (i := 2) (v := ?_) rfl (by kernel_rfl) (by kernel_rfl) (by kernel_rfl) (fun _ _ _ h => h) (Or.inl ⟨by rfl, ?_⟩) (by assumption) ?_
                    rotate_left
                    · (intro w hSw; (try dsimp only at hSw); go_simp)
                      first | done | with_reducible rfl
                    simp only [Act.put, List.getElem_toArray, List.getElem_cons_zero, List.getElem_cons_succ, List.setIfInBounds_toArray, List.set_cons_zero, List.set_cons_succ]
                    refine wpAnyH_take (i := 3) (v := ?_) rfl (by kernel_rfl) (by kernel_rfl) (by kernel_rfl) (fun _ _ _ h => h) (Or.inl ⟨by rfl, ?_⟩) (by assumption) ?_
                    rotate_left
                    · (intro w hSw; (try dsimp only at hSw); go_simp)
                      first | done | with_reducible rfl
                    simp only [Act.put, List.getElem_toArray, List.getElem_cons_zero, List.getElem_cons_succ, List.setIfInBounds_toArray, List.set_cons_zero, List.set_cons_succ]
                    refine wpAnyH_ready (rs := [4]) (by kernel_rfl) (by simp) ?_
                    refine AllReadyH.cons rfl (fun K hK => ?_) AllReadyH.nil
                    go_simp
                    refine (SL.out _).mono ?_
                    rintro e w4 ⟨rfl, hu1⟩
                    refine hK.out _ _ ?_ (fun hHeld => ?_)
                    · exact ⟨hu1.keep hHeld.1, hu1.keep hHeld.2⟩
                    clear hK K
                    try simp only [Act.put, List.getElem_toArray, List.getElem_cons_zero, List.getElem_cons_succ, List.setIfInBounds_toArray, List.set_cons_zero, List.set_cons_succ]
                    refine wpAnyH_take (i := 5) (v := ?_) rfl (by kernel_rfl) (by kernel_rfl) (by kernel_rfl) (fun _ _ _ h => h) (Or.inl ⟨by rfl, ?_⟩) (by assumption) ?_
                    rotate_left
                    · (intro w hSw; (try dsimp only at hSw); go_simp)
                      first | done | with_reducible rfl
                    simp only [Act.put, List.getElem_toArray, List.getElem_cons_zero, List.getElem_cons_succ, List.setIfInBounds_toArray, List.set_cons_zero, List.set_cons_succ]
                    refine wpAnyH_take (i := 6) (v := ?_) rfl (by kernel_rfl) (by kernel_rfl) (by kernel_rfl) (fun _ _ _ h => h) (Or.inl ⟨by rfl, ?_⟩) (by assumption) ?_
                    rotate_left
                    · (intro w hSw; (try dsimp only at hSw); go_simp)
                      first | done | with_reducible rfl
                    simp only [Act.put, List.getElem_toArray, List.getElem_cons_zero, List.getElem_cons_succ, List.setIfInBounds_toArray, List.set_cons_zero, List.set_cons_succ]
                    refine wpAnyH_take (i := 7) (v := ?_) rfl (by kernel_rfl) (by kernel_rfl) (by kernel_rfl) (fun _ _ _ h => h) (Or.inl ⟨by rfl, ?_⟩) (by assumption) ?_
                    rotate_left
                    · (intro w hSw; (try dsimp only at hSw); go_simp)
                      first | done | with_reducible rfl
                    simp only [Act.put, List.getElem_toArray, List.getElem_cons_zero, List.getElem_cons_succ, List.setIfInBounds_toArray, List.set_cons_zero, List.set_cons_succ]
                    refine wpAnyH_take (i := 8) (v := ?_) rfl (by kernel_rfl) (by kernel_rfl) (by kernel_rfl) (fun _ _ _ h => h) (Or.inl ⟨by rfl, ?_⟩) (by assumption) ?_
                    rotate_left
                    · (intro w hSw; (try dsimp only at hSw); go_simp)
                      first | done | with_reducible rfl
                    simp only [Act.put, List.getElem_toArray, List.getElem_cons_zero, List.getElem_cons_succ, List.setIfInBounds_toArray, List.set_cons_zero, List.set_cons_succ]
                    refine wpAnyH_take (i := 9) (v := ?_) rfl (by kernel_rfl) (by kernel_rfl) (by kernel_rfl) (fun _ _ _ h => h) (Or.inl ⟨by rfl, ?_⟩) (by assumption) ?_
                    rotate_left
                    · (intro w hSw; (try dsimp only at hSw); go_simp)
                      first | done | with_reducible rfl
                    simp only [Act.put, List.getElem_toArray, List.getElem_cons_zero, List.getElem_cons_succ, List.setIfInBounds_toArray, List.set_cons_zero, List.set_cons_succ]
                    refine wpAnyH_take (i := 10) (v := ?_) rfl (by kernel_rfl) (by kernel_rfl) (by kernel_rfl) (fun _ _ _ h => h) (Or.inl ⟨by rfl, ?_⟩) (by assumption) ?_
                    rotate_left
                    · (intro w hSw; (try dsimp only at hSw); go_simp)
                      first | done | with_reducible rfl
                    simp only [Act.put, List.getElem_toArray, List.getElem_cons_zero, List.getElem_cons_succ, List.setIfInBounds_toArray, List.set_cons_zero, List.set_cons_succ]
                    refine wpAnyH_take (i := 11) (v := ?_) rfl (by kernel_rfl) (by kernel_rfl) (by kernel_rfl) (fun _ _ _ h => h) (Or.inl ⟨by rfl, ?_⟩) (by assumption) ?_
                    rotate_left
                    · (intro w hSw; (try dsimp only at hSw); go_simp)
                      first | done | with_reducible rfl
                    simp only [Act.put, List.getElem_toArray, List.getElem_cons_zero, List.getElem_cons_succ, List.setIfInBounds_toArray, List.set_cons_zero, List.set_cons_succ]
                    refine wpAnyH_take (i := 12) (v := ?_) rfl (by kernel_rfl) (by kernel_rfl) (by kernel_rfl) (fun _ _ _ h => h) (Or.inl ⟨by rfl, ?_⟩) (by assumption) ?_
                    rotate_left
                    · (intro w hSw; (try dsimp only at hSw); go_simp)
                      first | done | with_reducible rfl
                    simp only [Act.put, List.getElem_toArray, List.getElem_cons_zero, List.getElem_cons_succ, List.setIfInBounds_toArray, List.set_cons_zero, List.set_cons_succ]
                    refine wpAnyH_take (i := 13) (v := ?_) rfl (by kernel_rfl) (by kernel_rfl) (by kernel_rfl) (fun _ _ _ h => h) (Or.inl ⟨by rfl, ?_⟩) (by assumption) ?_
                    rotate_left
                    · (intro w hSw; (try dsimp only at hSw); go_simp)
                      first | done | with_reducible rfl
                    simp only [Act.put, List.getElem_toArray, List.getElem_cons_zero, List.getElem_cons_succ, List.setIfInBounds_toArray, List.set_cons_zero, List.set_cons_succ]
                    refine wpAnyH_take (i := 14) (v := ?_) rfl (by kernel_rfl) (by kernel_rfl) (by kernel_rfl) (fun _ _ _ h => h) (Or.inl ⟨by rfl, ?_⟩) (by assumption) ?_
                    rotate_left
                    · (intro w hSw; (try dsimp only at hSw); go_simp)
                      first | done | with_reducible rfl
                    simp only [Act.put, List.getElem_toArray, List.getElem_cons_zero, List.getElem_cons_succ, List.setIfInBounds_toArray, List.set_cons_zero, List.set_cons_succ]
                    refine wpAnyH_take (i := 15) (v := ?_) rfl (by kernel_rfl) (by kernel_rfl) (by kernel_rfl) (fun _ _ _ h => h) (Or.inl ⟨by rfl, ?_⟩) (by assumption) ?_
                    rotate_left
                    · (intro w hSw; (try dsimp only at hSw); go_simp)
                      first | done | with_reducible rfl
                    simp only [Act.put, List.getElem_toArray, List.getElem_cons_zero, List.getElem_cons_succ, List.setIfInBounds_toArray, List.set_cons_zero, List.set_cons_succ]
                    try simp only [kN]
                    try simp only [kI]
                    refine wpAnyH_take (i := 16) (v := ?_) rfl (by kernel_rfl) (by kernel_rfl) (by kernel_rfl) (fun _ _ _ h => h) (Or.inl ⟨by rfl, ?_⟩) (by assumption) ?_
                    rotate_left
                    · (intro w hSw; (try dsimp only at hSw); go_simp)
                      first | done | with_reducible rfl
                    simp only [Act.put, List.getElem_toArray, List.getElem_cons_zero, List.getElem_cons_succ, List.setIfInBounds_toArray, List.set_cons_zero, List.set_cons_succ]
                    refine wpAnyH_take (i := 17) (v := ?_) rfl (by kernel_rfl) (by kernel_rfl) (by kernel_rfl) (fun _ _ _ h => h) (Or.inl ⟨by rfl, ?_⟩) (by assumption) ?_
                    rotate_left
                    · (intro w hSw; (try dsimp only at hSw); go_simp)
                      first | done | with_reducible rfl
                    simp only [Act.put, List.getElem_toArray, List.getElem_cons_zero, List.getElem_cons_succ, List.setIfInBounds_toArray, List.set_cons_zero, List.set_cons_succ]
                    refine wpAnyH_take (i := 18) (v := ?_) rfl (by kernel_rfl) (by kernel_rfl) (by kernel_rfl) (fun _ _ _ h => h) (Or.inl ⟨by rfl, ?_⟩) (by assumption) ?_
                    rotate_left
                    · (intro w hSw; (try dsimp only at hSw); go_simp)
                      first | done | with_reducible rfl
                    simp only [Act.put, List.getElem_toArray, List.getElem_cons_zero, List.getElem_cons_succ, List.setIfInBounds_toArray, List.set_cons_zero, List.set_cons_succ]
                    refine wpAnyH_take (i := 19) (v := ?_) rfl (by kernel_rfl) (by kernel_rfl) (by kernel_rfl) (fun _ _ _ h => h) (Or.inl ⟨by rfl, ?_⟩) (by assumption) ?_
                    rotate_left
                    · (intro w hSw; (try dsimp only at hSw); go_simp)
                      first | done | with_reducible rfl
                    simp only [Act.put, List.getElem_toArray, List.getElem_cons_zero, List.getElem_cons_succ, List.setIfInBounds_toArray, List.set_cons_zero, List.set_cons_succ]
                    try simp only [i0]
                    refine wpAnyH_take (i := 20) (v := ?_) rfl (by kernel_rfl) (by kernel_rfl) (by kernel_rfl) (fun _ _ _ h => h) (Or.inl ⟨by rfl, ?_⟩) (by assumption) ?_
                    rotate_left
                    · (intro w hSw; (try dsimp only at hSw); go_simp)
                      first | done | with_reducible rfl
                    simp only [Act.put, List.getElem_toArray, List.getElem_cons_zero, List.getElem_cons_succ, List.setIfInBounds_toArray, List.set_cons_zero, List.set_cons_succ]
                    try simp only [i1]
                    refine wpAnyH_take (i := 21) (v := ?_) rfl (by kernel_rfl) (by kernel_rfl) (by kernel_rfl) (fun _ _ _ h => h) (Or.inl ⟨by rfl, ?_⟩) (by assumption) ?_
                    rotate_left
                    · (intro w hSw; (try dsimp only at hSw); go_simp)
                      first | done | with_reducible rfl
                    simp only [Act.put, List.getElem_toArray, List.getElem_cons_zero, List.getElem_cons_succ, List.setIfInBounds_toArray, List.set_cons_zero, List.set_cons_succ]
                    refine wpAnyH_take (i := 22) (v := ?_) rfl (by kernel_rfl) (by kernel_rfl) (by kernel_rfl) (fun _ _ _ h => h) (Or.inl ⟨by rfl, ?_⟩) (by assumption) ?_
                    rotate_left
                    · (intro w hSw; (try dsimp only at hSw); go_simp)
                      first | done | with_reducible rfl
                    simp only [Act.put, List.getElem_toArray, List.getElem_cons_zero, List.getElem_cons_succ, List.setIfInBounds_toArray, List.set_cons_zero, List.set_cons_succ]
                    refine wpAnyH_take (i := 23) (v := ?_) rfl (by kernel_rfl) (by kernel_rfl) (by kernel_rfl) (fun _ _ _ h => h) (Or.inl ⟨by rfl, ?_⟩) (by assumption) ?_
                    rotate_left
                    · (intro w hSw; (try dsimp only at hSw); go_simp)
                      first | done | with_reducible rfl
                    simp only [Act.put, List.getElem_toArray, List.getElem_cons_zero, List.getElem_cons_succ, List.setIfInBounds_toArray, List.set_cons_zero, List.set_cons_succ]
                    refine wpAnyH_take (i := 24) (v := ?_) rfl (by kernel_rfl) (by kernel_rfl) (by kernel_rfl) (fun _ _ _ h => h) (Or.inl ⟨by rfl, ?_⟩) (by assumption) ?_
                    rotate_left
                    · (intro w hSw; (try dsimp only at hSw); go_simp)
                      first | done | with_reducible rfl
                    simp only [Act.put, List.getElem_toArray, List.getElem_cons_zero, List.getElem_cons_succ, List.setIfInBounds_toArray, List.set_cons_zero, List.set_cons_succ]
                    refine wpAnyH_take (i := 25) (v := ?_) rfl (by kernel_rfl) (by kernel_rfl) (by kernel_rfl) (fun _ _ _ h => h) (Or.inl ⟨by rfl, ?_⟩) (by assumption) ?_
                    rotate_left
                    · (intro w hSw; (try dsimp only at hSw); go_simp)
                      first | done | with_reducible rfl
                    simp only [Act.put, List.getElem_toArray, List.getElem_cons_zero, List.getElem_cons_succ, List.setIfInBounds_toArray, List.set_cons_zero, List.set_cons_succ]
                    refine wpAnyH_take (i := 26) (v := ?_) rfl (by kernel_rfl) (by kernel_rfl) (by kernel_rfl) (fun _ _ _ h => h) (Or.inl ⟨by rfl, ?_⟩) (by assumption) ?_
                    rotate_left
                    · (intro w hSw; (try dsimp only at hSw); go_simp)
                      first | done | with_reducible rfl
                    simp only [Act.put, List.getElem_toArray, List.getElem_cons_zero, List.getElem_cons_succ, List.setIfInBounds_toArray, List.set_cons_zero, List.set_cons_succ]
                    refine wpAnyH_take (i := 27) (v := ?_) rfl (by kernel_rfl) (by kernel_rfl) (by kernel_rfl) (fun _ _ _ h => h) (Or.inl ⟨by rfl, ?_⟩) (by assumption) ?_
                    rotate_left
                    · (intro w hSw; (try dsimp only at hSw); go_simp)
                      first | done | with_reducible rfl
                    simp only [Act.put, List.getElem_toArray, List.getElem_cons_zero, List.getElem_cons_succ, List.setIfInBounds_toArray, List.set_cons_zero, List.set_cons_succ]
                    refine wpAnyH_take (i := 28) (v := ?_) rfl (by kernel_rfl) (by kernel_rfl) (by kernel_rfl) (fun _ _ _ h => h) (Or.inl ⟨by rfl, ?_⟩) (by assumption) ?_
                    rotate_left
                    · (intro w hSw; (try dsimp only at hSw); go_simp)
                      first | done | with_reducible rfl
                    simp only [Act.put, List.getElem_toArray, List.getElem_cons_zero, List.getElem_cons_succ, List.setIfInBounds_toArray, List.set_cons_zero, List.set_cons_succ]
                    refine wpAnyH_done (by kernel_rfl) ?_ _
                    have HU9 := Lib.hid (HU.out.drew.trans hu1)
                    clear HU hHeld x0 q0
                    go_wp2_with fail
                    go_ret
                    exact ⟨by rw [HRR.out]; rfl, HU9.out⟩
                  | true =>
                    rw [hbl] at HLP hcmp hcmp2
                    have hbl3 : Op.bytesLess pv s = true := hbl
                    have HA3 := Lib.hid (show allF (labP labs) (k + 1) (labs.length - (k + 1)) = allF (labP labs) 0 labs.length by rw [HA2.out, HLP.out]; simp)
                    clear HA2 HLP hbl
                    go_wp2_with fail
                    refine wp_region_held_drew (S := fun w' => w'.cell? ⟨b1, o1 + k, none⟩ = some (es s) ∧ w'.cell? ⟨b1, o1 + (k - 1), none⟩ = some (es pv)) (by kernel_rfl) ?_ (fun hHeld => ?_)
                    · exact ⟨x0, q0⟩
                    refine wpAnyH_take (i := 0) (v := ?_) rfl (by kernel_rfl) (by kernel_rfl) (by kernel_rfl) (fun _ _ _ h => h) (Or.inl ⟨by rfl, ?_⟩) (by assumption) ?_
                    rotate_left
                    · (intro w hSw; (try dsimp only at hSw); go_simp)
                      first | done | with_reducible rfl
                    simp only [Act.put, List.getElem_toArray, List.getElem_cons_zero, List.setIfInBounds_toArray, List.set_cons_zero, List.set_cons_succ]
                    refine wpAnyH_take (i := 1) (v := ?_) rfl (by kernel_rfl) (by kernel_rfl) (by kernel_rfl) (fun _ _ _ h => h) (Or.inl ⟨by rfl, ?_⟩) (by assumption) ?_
                    rotate_left
                    · (intro w hSw; (try dsimp only at hSw); go_simp)
                      first | done | with_reducible rfl
                    simp only [Act.put, List.getElem_toArray, List.getElem_cons_zero, List.getElem_cons_succ, List.setIfInBounds_toArray, List.set_cons_zero, List.set_cons_succ]
                    refine wpAnyH_take (i := 2) (v := ?_) rfl (by kernel_rfl) (by kernel_rfl) (by kernel_rfl) (fun _ _ _ h => h) (Or.inl ⟨by rfl, ?_⟩) (by assumption) ?_
                    rotate_left
                    · (intro w hSw; (try dsimp only at hSw); go_simp)
                      first | done | with_reducible rfl
                    simp only [Act.put, List.getElem_toArray, List.getElem_cons_zero, List.getElem_cons_succ, List.setIfInBounds_toArray, List.set_cons_zero, List.set_cons_succ]
                    refine wpAnyH_take (i := 3) (v := ?_) rfl (by kernel_rfl) (by kernel_rfl) (by kernel_rfl) (fun _ _ _ h => h) (Or.inl ⟨by rfl, ?_⟩) (by assumption) ?_
                    rotate_left
                    · (intro w hSw; (try dsimp only at hSw); go_simp)
                      first | done | with_reducible rfl
                    simp only [Act.put, List.getElem_toArray, List.getElem_cons_zero, List.getElem_cons_succ, List.setIfInBounds_toArray, List.set_cons_zero, List.set_cons_succ]
                    refine wpAnyH_ready (rs := [4]) (by kernel_rfl) (by simp) ?_
                    refine AllReadyH.cons rfl (fun K hK => ?_) AllReadyH.nil
                    go_simp
                    refine (SL.out _).mono ?_
                    rintro e w4 ⟨rfl, hu1⟩
                    refine hK.out _ _ ?_ (fun hHeld => ?_)
                    · exact ⟨hu1.keep hHeld.1, hu1.keep hHeld.2⟩
                    clear hK K
                    try simp only [Act.put, List.getElem_toArray, List.getElem_cons_zero, List.getElem_cons_succ, List.setIfInBounds_toArray, List.set_cons_zero, List.set_cons_succ]
                    refine wpAnyH_take (i := 5) (v := ?_) rfl (by kernel_rfl) (by kernel_rfl) (by kernel_rfl) (fun _ _ _ h => h) (Or.inl ⟨by rfl, ?_⟩) (by assumption) ?_
                    rotate_left
                    · (intro w hSw; (try dsimp only at hSw); go_simp)
                      first | done | with_reducible rfl
                    simp only [Act.put, List.getElem_toArray, List.getElem_cons_zero, List.getElem_cons_succ, List.setIfInBounds_toArray, List.set_cons_zero, List.set_cons_succ]
                    refine wpAnyH_take (i := 6) (v := ?_) rfl (by kernel_rfl) (by kernel_rfl) (by kernel_rfl) (fun _ _ _ h => h) (Or.inl ⟨by rfl, ?_⟩) (by assumption) ?_
                    rotate_left
                    · (intro w hSw; (try dsimp only at hSw); go_simp)
                      first | done | with_reducible rfl
                    simp only [Act.put, List.getElem_toArray, List.getElem_cons_zero, List.getElem_cons_succ, List.setIfInBounds_toArray, List.set_cons_zero, List.set_cons_succ]
                    refine wpAnyH_take (i := 7) (v := ?_) rfl (by kernel_rfl) (by kernel_rfl) (by kernel_rfl) (fun _ _ _ h => h) (Or.inl ⟨by rfl, ?_⟩) (by assumption) ?_
                    rotate_left
                    · (intro w hSw; (try dsimp only at hSw); go_simp)
                      first | done | with_reducible rfl
                    simp only [Act.put, List.getElem_toArray, List.getElem_cons_zero, List.getElem_cons_succ, List.setIfInBounds_toArray, List.set_cons_zero, List.set_cons_succ]
                    refine wpAnyH_take (i := 8) (v := ?_) rfl (by kernel_rfl) (by kernel_rfl) (by kernel_rfl) (fun _ _ _ h => h) (Or.inl ⟨by rfl, ?_⟩) (by assumption) ?_
                    rotate_left
                    · (intro w hSw; (try dsimp only at hSw); go_simp)
                      first | done | with_reducible rfl
                    simp only [Act.put, List.getElem_toArray, List.getElem_cons_zero, List.getElem_cons_succ, List.setIfInBounds_toArray, List.set_cons_zero, List.set_cons_succ]
                    refine wpAnyH_take (i := 9) (v := ?_) rfl (by kernel_rfl) (by kernel_rfl) (by kernel_rfl) (fun _ _ _ h => h) (Or.inl ⟨by rfl, ?_⟩) (by assumption) ?_
                    rotate_left
                    · (intro w hSw; (try dsimp only at hSw); go_simp)
                      first | done | with_reducible rfl
                    simp only [Act.put, List.getElem_toArray, List.getElem_cons_zero, List.getElem_cons_succ, List.setIfInBounds_toArray, List.set_cons_zero, List.set_cons_succ]
                    refine wpAnyH_take (i := 10) (v := ?_) rfl (by kernel_rfl) (by kernel_rfl) (by kernel_rfl) (fun _ _ _ h => h) (Or.inl ⟨by rfl, ?_⟩) (by assumption) ?_
                    rotate_left
                    · (intro w hSw; (try dsimp only at hSw); go_simp)
                      first | done | with_reducible rfl
                    simp only [Act.put, List.getElem_toArray, List.getElem_cons_zero, List.getElem_cons_succ, List.setIfInBounds_toArray, List.set_cons_zero, List.set_cons_succ]
                    refine wpAnyH_take (i := 11) (v := ?_) rfl (by kernel_rfl) (by kernel_rfl) (by kernel_rfl) (fun _ _ _ h => h) (Or.inl ⟨by rfl, ?_⟩) (by assumption) ?_
                    rotate_left
                    · (intro w hSw; (try dsimp only at hSw); go_simp)
                      first | done | with_reducible rfl
                    simp only [Act.put, List.getElem_toArray, List.getElem_cons_zero, List.getElem_cons_succ, List.setIfInBounds_toArray, List.set_cons_zero, List.set_cons_succ]
                    refine wpAnyH_take (i := 12) (v := ?_) rfl (by kernel_rfl) (by kernel_rfl) (by kernel_rfl) (fun _ _ _ h => h) (Or.inl ⟨by rfl, ?_⟩) (by assumption) ?_
                    rotate_left
                    · (intro w hSw; (try dsimp only at hSw); go_simp)
                      first | done | with_reducible rfl
                    simp only [Act.put, List.getElem_toArray, List.getElem_cons_zero, List.getElem_cons_succ, List.setIfInBounds_toArray, List.set_cons_zero, List.set_cons_succ]
                    refine wpAnyH_take (i := 13) (v := ?_) rfl (by kernel_rfl) (by kernel_rfl) (by kernel_rfl) (fun _ _ _ h => h) (Or.inl ⟨by rfl, ?_⟩) (by assumption) ?_
                    rotate_left
                    · (intro w hSw; (try dsimp only at hSw); go_simp)
                      first | done | with_reducible rfl
                    simp only [Act.put, List.getElem_toArray, List.getElem_cons_zero, List.getElem_cons_succ, List.setIfInBounds_toArray, List.set_cons_zero, List.set_cons_succ]
                    refine wpAnyH_take (i := 14) (v := ?_) rfl (by kernel_rfl) (by kernel_rfl) (by kernel_rfl) (fun _ _ _ h => h) (Or.inl ⟨by rfl, ?_⟩) (by assumption) ?_
                    rotate_left
                    · (intro w hSw; (try dsimp only at hSw); go_simp)
                      first | done | with_reducible rfl
                    simp only [Act.put, List.getElem_toArray, List.getElem_cons_zero, List.getElem_cons_succ, List.setIfInBounds_toArray, List.set_cons_zero, List.set_cons_succ]
                    refine wpAnyH_take (i := 15) (v := ?_) rfl (by kernel_rfl) (by kernel_rfl) (by kernel_rfl) (fun _ _ _ h => h) (Or.inl ⟨by rfl, ?_⟩) (by assumption) ?_
                    rotate_left
                    · (intro w hSw; (try dsimp only at hSw); go_simp)
                      first | done | with_reducible rfl
                    simp only [Act.put, List.getElem_toArray, List.getElem_cons_zero, List.getElem_cons_succ, List.setIfInBounds_toArray, List.set_cons_zero, List.set_cons_succ]
                    try simp only [kN]
                    try simp only [kI]
                    refine wpAnyH_take (i := 16) (v := ?_) rfl (by kernel_rfl) (by kernel_rfl) (by kernel_rfl) (fun _ _ _ h => h) (Or.inl ⟨by rfl, ?_⟩) (by assumption) ?_
                    rotate_left
                    · (intro w hSw; (try dsimp only at hSw); go_simp)
                      first | done | with_reducible rfl
                    simp only [Act.put, List.getElem_toArray, List.getElem_cons_zero, List.getElem_cons_succ, List.setIfInBounds_toArray, List.set_cons_zero, List.set_cons_succ]
                    refine wpAnyH_take (i := 17) (v := ?_) rfl (by kernel_rfl) (by kernel_rfl) (by kernel_rfl) (fun _ _ _ h => h) (Or.inl ⟨by rfl, ?_⟩) (by assumption) ?_
                    rotate_left
                    · (intro w hSw; (try dsimp only at hSw); go_simp)
                      first | done | with_reducible rfl
                    simp only [Act.put, List.getElem_toArray, List.getElem_cons_zero, List.getElem_cons_succ, List.setIfInBounds_toArray, List.set_cons_zero, List.set_cons_succ]
                    refine wpAnyH_take (i := 18) (v := ?_) rfl (by kernel_rfl) (by kernel_rfl) (by kernel_rfl) (fun _ _ _ h => h) (Or.inl ⟨by rfl, ?_⟩) (by assumption) ?_
                    rotate_left
                    · (intro w hSw; (try dsimp only at hSw); go_simp)
                      first | done | with_reducible rfl
                    simp only [Act.put, List.getElem_toArray, List.getElem_cons_zero, List.getElem_cons_succ, List.setIfInBounds_toArray, List.set_cons_zero, List.set_cons_succ]
                    refine wpAnyH_take (i := 19) (v := ?_) rfl (by kernel_rfl) (by kernel_rfl) (by kernel_rfl) (fun _ _ _ h => h) (Or.inl ⟨by rfl, ?_⟩) (by assumption) ?_
                    rotate_left
                    · (intro w hSw; (try dsimp only at hSw); go_simp)
                      first | done | with_reducible rfl
                    simp only [Act.put, List.getElem_toArray, List.getElem_cons_zero, List.getElem_cons_succ, List.setIfInBounds_toArray, List.set_cons_zero, List.set_cons_succ]
                    try simp only [i0]
                    refine wpAnyH_take (i := 20) (v := ?_) rfl (by kernel_rfl) (by kernel_rfl) (by kernel_rfl) (fun _ _ _ h => h) (Or.inl ⟨by rfl, ?_⟩) (by assumption) ?_
                    rotate_left
                    · (intro w hSw; (try dsimp only at hSw); go_simp)
                      first | done | with_reducible rfl
                    simp only [Act.put, List.getElem_toArray, List.getElem_cons_zero, List.getElem_cons_succ, List.setIfInBounds_toArray, List.set_cons_zero, List.set_cons_succ]
                    try simp only [i1]
                    refine wpAnyH_take (i := 21) (v := ?_) rfl (by kernel_rfl) (by kernel_rfl) (by kernel_rfl) (fun _ _ _ h => h) (Or.inl ⟨by rfl, ?_⟩) (by assumption) ?_
                    rotate_left
                    · (intro w hSw; (try dsimp only at hSw); go_simp)
                      first | done | with_reducible rfl
                    simp only [Act.put, List.getElem_toArray, List.getElem_cons_zero, List.getElem_cons_succ, List.setIfInBounds_toArray, List.set_cons_zero, List.set_cons_succ]
                    refine wpAnyH_take (i := 22) (v := ?_) rfl (by kernel_rfl) (by kernel_rfl) (by kernel_rfl) (fun _ _ _ h => h) (Or.inl ⟨by rfl, ?_⟩) (by assumption) ?_
                    rotate_left
                    · (intro w hSw; (try dsimp only at hSw); go_simp)
                      first | done | with_reducible rfl
                    simp only [Act.put, List.getElem_toArray, List.getElem_cons_zero, List.getElem_cons_succ, List.setIfInBounds_toArray, List.set_cons_zero, List.set_cons_succ]
                    refine wpAnyH_take (i := 23) (v := ?_) rfl (by kernel_rfl) (by kernel_rfl) (by kernel_rfl) (fun _ _ _ h => h) (Or.inl ⟨by rfl, ?_⟩) (by assumption) ?_
                    rotate_left
                    · (intro w hSw; (try dsimp only at hSw); go_simp)
                      first | done | with_reducible rfl
                    simp only [Act.put, List.getElem_toArray, List.getElem_cons_zero, List.getElem_cons_succ, List.setIfInBounds_toArray, List.set_cons_zero, List.set_cons_succ]
                    refine wpAnyH_take (i := 24) (v := ?_) rfl (by kernel_rfl) (by kernel_rfl) (by kernel_rfl) (fun _ _ _ h => h) (Or.inl ⟨by rfl, ?_⟩) (by assumption) ?_
                    rotate_left
                    · (intro w hSw; (try dsimp only at hSw); go_simp)
                      first | done | with_reducible rfl
                    simp only [Act.put, List.getElem_toArray, List.getElem_cons_zero, List.getElem_cons_succ, List.setIfInBounds_toArray, List.set_cons_zero, List.set_cons_succ]
                    refine wpAnyH_take (i := 25) (v := ?_) rfl (by kernel_rfl) (by kernel_rfl) (by kernel_rfl) (fun _ _ _ h => h) (Or.inl ⟨by rfl, ?_⟩) (by assumption) ?_
                    rotate_left
                    · (intro w hSw; (try dsimp only at hSw); go_simp)
                      first | done | with_reducible rfl
                    simp only [Act.put, List.getElem_toArray, List.getElem_cons_zero, List.getElem_cons_succ, List.setIfInBounds_toArray, List.set_cons_zero, List.set_cons_succ]
                    refine wpAnyH_take (i := 26) (v := ?_) rfl (by kernel_rfl) (by kernel_rfl) (by kernel_rfl) (fun _ _ _ h => h) (Or.inl ⟨by rfl, ?_⟩) (by assumption) ?_
                    rotate_left
                    · (intro w hSw; (try dsimp only at hSw); go_simp)
                      first | done | with_reducible rfl
                    simp only [Act.put, List.getElem_toArray, List.getElem_cons_zero, List.getElem_cons_succ, List.setIfInBounds_toArray, List.set_cons_zero, List.set_cons_succ]
                    refine wpAnyH_take (i := 27) (v := ?_) rfl (by kernel_rfl) (by kernel_rfl) (by kernel_rfl) (fun _ _ _ h => h) (Or.inl ⟨by rfl, ?_⟩) (by assumption) ?_
                    rotate_left
                    · (intro w hSw; (try dsimp only at hSw); go_simp)
                      first | done | with_reducible rfl
                    simp only [Act.put, List.getElem_toArray, List.getElem_cons_zero, List.getElem_cons_succ, List.setIfInBounds_toArray, List.set_cons_zero, List.set_cons_succ]
                    refine wpAnyH_take (i := 28) (v := ?_) rfl (by kernel_rfl) (by kernel_rfl) (by kernel_rfl) (fun _ _ _ h => h) (Or.inl ⟨by rfl, ?_⟩) (by assumption) ?_
                    rotate_left
                    · (intro w hSw; (try dsimp only at hSw); go_simp)
                      first | done | with_reducible rfl
                    simp only [Act.put, List.getElem_toArray, List.getElem_cons_zero, List.getElem_cons_succ, List.setIfInBounds_toArray, List.set_cons_zero, List.set_cons_succ]
                    refine wpAnyH_done (by kernel_rfl) ?_ _
                    have HU9 := Lib.hid (HU.out.drew.trans hu1)
                    clear HU hHeld x0 q0
                    go_wp2_with fail
                    go_roundw
                    case rel => exact ⟨k + 1, by omega, by omega, by go_num, HA3, HU9.out⟩
                    case measure => simp [intOf]; omega
                · have kI : decide ((1 : Int) < (k : Int)) = false := decide_eq_false (by omega)
                  have kN : decide (1 < k) = false := decide_eq_false h1k
                  have kP : ¬ (1 : Int) < (k : Int) := by omega
                  rw [kN] at HLP
                  have HA3 := Lib.hid (show allF (labP labs) (k + 1) (labs.length - (k + 1)) = allF (labP labs) 0 labs.length by rw [HA2.out, HLP.out]; simp)
                  clear HA2 HLP
                  go_wp2_with fail
                  refine wp_region_held_drew (S := fun w' => w'.cell? ⟨b1, o1 + k, none⟩ = some (es s) ∧ w'.cell? ⟨b1, o1 + (k - 1), none⟩ = some (es pv)) (by kernel_rfl) ?_ (fun hHeld => ?_)
                  · exact ⟨x0, q0⟩
                  refine wpAnyH_take (i := 0) (v := ?_) rfl (by kernel_rfl) (by kernel_rfl) (by kernel_rfl) (fun _ _ _ h => h) (Or.inl ⟨by rfl, ?_⟩) (by assumption) ?_
                  rotate_left
                  · (intro w hSw; (try dsimp only at hSw); go_simp)
                    first | done | with_reducible rfl
                  simp only [Act.put, List.getElem_toArray, List.getElem_cons_zero, List.setIfInBounds_toArray, List.set_cons_zero, List.set_cons_succ]
                  refine wpAnyH_take (i := 1) (v := ?_) rfl (by kernel_rfl) (by kernel_rfl) (by kernel_rfl) (fun _ _ _ h => h) (Or.inl ⟨by rfl, ?_⟩) (by assumption) ?_
                  rotate_left
                  · (intro w hSw; (try dsimp only at hSw); go_simp)
                    first | done | with_reducible rfl
                  simp only [Act.put, List.getElem_toArray, List.getElem_cons_zero, List.getElem_cons_succ, List.setIfInBounds_toArray, List.set_cons_zero, List.set_cons_succ]
                  refine wpAnyH_take (i := 2) (v := ?_) rfl (by kernel_rfl) (by kernel_rfl) (by kernel_rfl) (fun _ _ _ h => h) (Or.inl ⟨by rfl, ?_⟩) (by assumption) ?_
                  rotate_left
                  · (intro w hSw; (try dsimp only at hSw); go_simp)
                    first | done | with_reducible rfl
                  simp only [Act.put, List.getElem_toArray, List.getElem_cons_zero, List.getElem_cons_succ, List.setIfInBounds_toArray, List.set_cons_zero, List.set_cons_succ]
                  refine wpAnyH_take (i := 3) (v := ?_) rfl (by kernel_rfl) (by kernel_rfl) (by kernel_rfl) (fun _ _ _ h => h) (Or.inl ⟨by rfl, ?_⟩) (by assumption) ?_
                  rotate_left
                  · (intro w hSw; (try dsimp only at hSw); go_simp)
                    first | done | with_reducible rfl
                  simp only [Act.put, List.getElem_toArray, List.getElem_cons_zero, List.getElem_cons_succ, List.setIfInBounds_toArray, List.set_cons_zero, List.set_cons_succ]
                  refine wpAnyH_ready (rs := [4]) (by kernel_rfl) (by simp) ?_
                  refine AllReadyH.cons rfl (fun K hK => ?_) AllReadyH.nil
                  go_simp
                  refine (SL.out _).mono ?_
                  rintro e w4 ⟨rfl, hu1⟩
                  refine hK.out _ _ ?_ (fun hHeld => ?_)
                  · exact ⟨hu1.keep hHeld.1, hu1.keep hHeld.2⟩
                  clear hK K
                  try simp only [Act.put, List.getElem_toArray, List.getElem_cons_zero, List.getElem_cons_succ, List.setIfInBounds_toArray, List.set_cons_zero, List.set_cons_succ]
                  refine wpAnyH_take (i := 5) (v := ?_) rfl (by kernel_rfl) (by kernel_rfl) (by kernel_rfl) (fun _ _ _ h => h) (Or.inl ⟨by rfl, ?_⟩) (by assumption) ?_
                  rotate_left
                  · (intro w hSw; (try dsimp only at hSw); go_simp)
                    first | done | with_reducible rfl
                  simp only [Act.put, List.getElem_toArray, List.getElem_cons_zero, List.getElem_cons_succ, List.setIfInBounds_toArray, List.set_cons_zero, List.set_cons_succ]
                  refine wpAnyH_take (i := 6) (v := ?_) rfl (by kernel_rfl) (by kernel_rfl) (by kernel_rfl) (fun _ _ _ h => h) (Or.inl ⟨by rfl, ?_⟩) (by assumption) ?_
                  rotate_left
                  · (intro w hSw; (try dsimp only at hSw); go_simp)
                    first | done | with_reducible rfl
                  simp only [Act.put, List.getElem_toArray, List.getElem_cons_zero, List.getElem_cons_succ, List.setIfInBounds_toArray, List.set_cons_zero, List.set_cons_succ]
                  refine wpAnyH_take (i := 7) (v := ?_) rfl (by kernel_rfl) (by kernel_rfl) (by kernel_rfl) (fun _ _ _ h => h) (Or.inl ⟨by rfl, ?_⟩) (by assumption) ?_
                  rotate_left
                  · (intro w hSw; (try dsimp only at hSw); go_simp)
                    first | done | with_reducible rfl
                  simp only [Act.put, List.getElem_toArray, List.getElem_cons_zero, List.getElem_cons_succ, List.setIfInBounds_toArray, List.set_cons_zero, List.set_cons_succ]
                  refine wpAnyH_take (i := 8) (v := ?_) rfl (by kernel_rfl) (by kernel_rfl) (by kernel_rfl) (fun _ _ _ h => h) (Or.inl ⟨by rfl, ?_⟩) (by assumption) ?_
                  rotate_left
                  · (intro w hSw; (try dsimp only at hSw); go_simp)
                    first | done | with_reducible rfl
                  simp only [Act.put, List.getElem_toArray, List.getElem_cons_zero, List.getElem_cons_succ, List.setIfInBounds_toArray, List.set_cons_zero, List.set_cons_succ]
                  refine wpAnyH_take (i := 9) (v := ?_) rfl (by kernel_rfl) (by kernel_rfl) (by kernel_rfl) (fun _ _ _ h => h) (Or.inl ⟨by rfl, ?_⟩) (by assumption) ?_
                  rotate_left
                  · (intro w hSw; (try dsimp only at hSw); go_simp)
                    first | done | with_reducible rfl
                  simp only [Act.put, List.getElem_toArray, List.getElem_cons_zero, List.getElem_cons_succ, List.setIfInBounds_toArray, List.set_cons_zero, List.set_cons_succ]
                  refine wpAnyH_take (i := 10) (v := ?_) rfl (by kernel_rfl) (by kernel_rfl) (by kernel_rfl) (fun _ _ _ h => h) (Or.inl ⟨by rfl, ?_⟩) (by assumption) ?_
                  rotate_left
                  · (intro w hSw; (try dsimp only at hSw); go_simp)
                    first | done | with_reducible rfl
                  simp only [Act.put, List.getElem_toArray, List.getElem_cons_zero, List.getElem_cons_succ, List.setIfInBounds_toArray, List.set_cons_zero, List.set_cons_succ]
                  refine wpAnyH_take (i := 11) (v := ?_) rfl (by kernel_rfl) (by kernel_rfl) (by kernel_rfl) (fun _ _ _ h => h) (Or.inl ⟨by rfl, ?_⟩) (by assumption) ?_
                  rotate_left
                  · (intro w hSw; (try dsimp only at hSw); go_simp)
                    first | done | with_reducible rfl
                  simp only [Act.put, List.getElem_toArray, List.getElem_cons_zero, List.getElem_cons_succ, List.setIfInBounds_toArray, List.set_cons_zero, List.set_cons_succ]
                  refine wpAnyH_take (i := 12) (v := ?_) rfl (by kernel_rfl) (by kernel_rfl) (by kernel_rfl) (fun _ _ _ h => h) (Or.inl ⟨by rfl, ?_⟩) (by assumption) ?_
                  rotate_left
                  · (intro w hSw; (try dsimp only at hSw); go_simp)
                    first | done | with_reducible rfl
                  simp only [Act.put, List.getElem_toArray, List.getElem_cons_zero, List.getElem_cons_succ, List.setIfInBounds_toArray, List.set_cons_zero, List.set_cons_succ]
                  refine wpAnyH_take (i := 13) (v := ?_) rfl (by kernel_rfl) (by kernel_rfl) (by kernel_rfl) (fun _ _ _ h => h) (Or.inl ⟨by rfl, ?_⟩) (by assumption) ?_
                  rotate_left
                  · (intro w hSw; (try dsimp only at hSw); go_simp)
                    first | done | with_reducible rfl
                  simp only [Act.put, List.getElem_toArray, List.getElem_cons_zero, List.getElem_cons_succ, List.setIfInBounds_toArray, List.set_cons_zero, List.set_cons_succ]
                  refine wpAnyH_take (i := 14) (v := ?_) rfl (by kernel_rfl) (by kernel_rfl) (by kernel_rfl) (fun _ _ _ h => h) (Or.inl ⟨by rfl, ?_⟩) (by assumption) ?_
                  rotate_left
                  · (intro w hSw; (try dsimp only at hSw); go_simp)
                    first | done | with_reducible rfl
                  simp only [Act.put, List.getElem_toArray, List.getElem_cons_zero, List.getElem_cons_succ, List.setIfInBounds_toArray, List.set_cons_zero, List.set_cons_succ]
                  refine wpAnyH_take (i := 15) (v := ?_) rfl (by kernel_rfl) (by kernel_rfl) (by kernel_rfl) (fun _ _ _ h => h) (Or.inl ⟨by rfl, ?_⟩) (by assumption) ?_
                  rotate_left
                  · (intro w hSw; (try dsimp only at hSw); go_simp)
                    first | done | with_reducible rfl
                  simp only [Act.put, List.getElem_toArray, List.getElem_cons_zero, List.getElem_cons_succ, List.setIfInBounds_toArray, List.set_cons_zero, List.set_cons_succ]
                  try simp only [kN]
                  try simp only [kI]
                  refine wpAnyH_take (i := 16) (v := ?_) rfl (by kernel_rfl) (by kernel_rfl) (by kernel_rfl) (fun _ _ _ h => h) (Or.inl ⟨by rfl, ?_⟩) (by assumption) ?_
                  rotate_left
                  · (intro w hSw; (try dsimp only at hSw); go_simp)
                    first | done | with_reducible rfl
                  simp only [Act.put, List.getElem_toArray, List.getElem_cons_zero, List.getElem_cons_succ, List.setIfInBounds_toArray, List.set_cons_zero, List.set_cons_succ]
                  refine wpAnyH_take (i := 17) rfl (by kernel_rfl) (by kernel_rfl) (by kernel_rfl) (fun _ _ _ h => h) (Or.inr ⟨by rfl, rfl⟩) (by assumption) ?_
                  simp only [Act.put, List.getElem_toArray, List.getElem_cons_zero, List.getElem_cons_succ, List.setIfInBounds_toArray, List.set_cons_zero, List.set_cons_succ]
                  refine wpAnyH_take (i := 18) rfl (by kernel_rfl) (by kernel_rfl) (by kernel_rfl) (fun _ _ _ h => h) (Or.inr ⟨by rfl, rfl⟩) (by assumption) ?_
                  simp only [Act.put, List.getElem_toArray, List.getElem_cons_zero, List.getElem_cons_succ, List.setIfInBounds_toArray, List.set_cons_zero, List.set_cons_succ]
                  refine wpAnyH_take (i := 19) rfl (by kernel_rfl) (by kernel_rfl) (by kernel_rfl) (fun _ _ _ h => h) (Or.inr ⟨by rfl, rfl⟩) (by assumption) ?_
                  simp only [Act.put, List.getElem_toArray, List.getElem_cons_zero, List.getElem_cons_succ, List.setIfInBounds_toArray, List.set_cons_zero, List.set_cons_succ]
                  refine wpAnyH_take (i := 20) rfl (by kernel_rfl) (by kernel_rfl) (by kernel_rfl) (fun _ _ _ h => h) (Or.inr ⟨by rfl, rfl⟩) (by assumption) ?_
                  simp only [Act.put, List.getElem_toArray, List.getElem_cons_zero, List.getElem_cons_succ, List.setIfInBounds_toArray, List.set_cons_zero, List.set_cons_succ]
                  refine wpAnyH_take (i := 21) rfl (by kernel_rfl) (by kernel_rfl) (by kernel_rfl) (fun _ _ _ h => h) (Or.inr ⟨by rfl, rfl⟩) (by assumption) ?_
                  simp only [Act.put, List.getElem_toArray, List.getElem_cons_zero, List.getElem_cons_succ, List.setIfInBounds_toArray, List.set_cons_zero, List.set_cons_succ]
                  refine wpAnyH_take (i := 22) rfl (by kernel_rfl) (by kernel_rfl) (by kernel_rfl) (fun _ _ _ h => h) (Or.inr ⟨by rfl, rfl⟩) (by assumption) ?_
                  simp only [Act.put, List.getElem_toArray, List.getElem_cons_zero, List.getElem_cons_succ, List.setIfInBounds_toArray, List.set_cons_zero, List.set_cons_succ]
                  refine wpAnyH_take (i := 23) rfl (by kernel_rfl) (by kernel_rfl) (by kernel_rfl) (fun _ _ _ h => h) (Or.inr ⟨by rfl, rfl⟩) (by assumption) ?_
                  simp only [Act.put, List.getElem_toArray, List.getElem_cons_zero, List.getElem_cons_succ, List.setIfInBounds_toArray, List.set_cons_zero, List.set_cons_succ]
                  refine wpAnyH_take (i := 24) rfl (by kernel_rfl) (by kernel_rfl) (by kernel_rfl) (fun _ _ _ h => h) (Or.inr ⟨by rfl, rfl⟩) (by assumption) ?_
                  simp only [Act.put, List.getElem_toArray, List.getElem_cons_zero, List.getElem_cons_succ, List.setIfInBounds_toArray, List.set_cons_zero, List.set_cons_succ]
                  refine wpAnyH_take (i := 25) rfl (by kernel_rfl) (by kernel_rfl) (by kernel_rfl) (fun _ _ _ h => h) (Or.inr ⟨by rfl, rfl⟩) (by assumption) ?_
                  simp only [Act.put, List.getElem_toArray, List.getElem_cons_zero, List.getElem_cons_succ, List.setIfInBounds_toArray, List.set_cons_zero, List.set_cons_succ]
                  refine wpAnyH_take (i := 26) rfl (by kernel_rfl) (by kernel_rfl) (by kernel_rfl) (fun _ _ _ h => h) (Or.inr ⟨by rfl, rfl⟩) (by assumption) ?_
                  simp only [Act.put, List.getElem_toArray, List.getElem_cons_zero, List.getElem_cons_succ, List.setIfInBounds_toArray, List.set_cons_zero, List.set_cons_succ]
                  refine wpAnyH_take (i := 27) (v := ?_) rfl (by kernel_rfl) (by kernel_rfl) (by kernel_rfl) (fun _ _ _ h => h) (Or.inl ⟨by rfl, ?_⟩) (by assumption) ?_
                  rotate_left
                  · (intro w hSw; (try dsimp only at hSw); go_simp)
                    first | done | with_reducible rfl
                  simp only [Act.put, List.getElem_toArray, List.getElem_cons_zero, List.getElem_cons_succ, List.setIfInBounds_toArray, List.set_cons_zero, List.set_cons_succ]
                  refine wpAnyH_take (i := 28) (v := ?_) rfl (by kernel_rfl) (by kernel_rfl) (by kernel_rfl) (fun _ _ _ h => h) (Or.inl ⟨by rfl, ?_⟩) (by assumption) ?_
                  rotate_left
                  · (intro w hSw; (try dsimp only at hSw); go_simp)
                    first | done | with_reducible rfl
                  simp only [Act.put, List.getElem_toArray, List.getElem_cons_zero, List.getElem_cons_succ, List.setIfInBounds_toArray, List.set_cons_zero, List.set_cons_succ]
                  refine wpAnyH_done (by kernel_rfl) ?_ _
                  have HU9 := Lib.hid (HU.out.drew.trans hu1)
                  clear HU hHeld x0 q0
                  go_wp2_with fail
                  go_roundw
                  case rel => exact ⟨k + 1, by omega, by omega, by go_num, HA3, HU9.out⟩
                  case measure => simp [intOf]; omega
          · obtain rfl : k = labs.length := by omega
            have HRR := Lib.hid (show labsOk labs = true by rw [HLO2.out, ← HA.out]; exact allF_end _ _)
            have HU := Lib.hid hU
            clear hlt hk HA hU HLO2 p0 HR1
            go_wp2_with fail
            go_ret
            exact ⟨by rw [HRR.out]; rfl, HU.out⟩
      · have HRR := Lib.hid (show labsOk labs = false by
          have := HA0.out
          rw [HLP0.out, show (s0 == tauL) = false by simpa using ht0] at this
          rw [Nat.sub_zero] at this
          rw [HLO2.out, this]; simp)
        have g1 : (s0 == [116, 97, 117]) = false := by simpa [tauL] using ht0
        have g1n : (s0 != [116, 97, 117]) = true := by simp [bne, g1]
        clear HA0 HLP0 ht0 HLO2 HR1 HP
        go_enter Tryz.func54, Tryz.ntmps54
        go_wp2_with fail
        go_ret
        exact ⟨by rw [HRR.out]; rfl, Upd.refl _ _⟩

end Go.Proofs.YtcnaapiljmgfoaaGreatDoor
