/-
  Texts joined in one file: BisE, FunM, FunN, BisG, BisL, LawBis, OpenC, OpenL, LabZ.
-/
import Derived.Test.YtcnaapiljmgfoaaGreatDoorZB1
import Derived.Test.YtcnaapiljmgfoaaGreatDoorZB2
import Derived.Test.YtcnaapiljmgfoaaGreatDoorZB4
import Derived.Test.YtcnaapiljmgfoaaGreatDoorZB5
import Derived.Lib.SmallJoins
import Derived.Deep.Strs
import Derived.Lib.LaidTab
import Derived.Stop.LaidErr
import Derived.HandedShaped
import Derived.Handed
import Derived.Shelf.Vars
/-
  Relations between systems, the program's holds: all pairs of a set are gone through, in whatever order. (The drawn region's ways are printed by tools/genbise.py.)
-/
namespace Go.Proofs.YtcnaapiljmgfoaaGreatDoor
open Go.RowKit Go.Maps

/-- all edges of a pair are answered, in both directions. -/
def relF (F : Sys → Sys → (Int → Int → Bool) → Int → Int → List UInt8 → Int → Bool) (A B : Sys) (H : Int → Int → Bool) (p : Int × Int) : Bool := ansF A p.1 (F A B H p.1 p.2) && ansF B p.2 (F B A (fun u v => H v u) p.2 p.1)

theorem ranges_upd {w w' : World} {f : List Nat} {b r n cnt : Nat} {D : DataW Unit} {left : Lit → Bool} (h : w.ranges Tryz.prog 108 ElB b r n D left cnt) (hu : Upd f w w') (hb : b ∉ f) (hr : r ∉ f) : w'.ranges Tryz.prog 108 ElB b r n D left cnt := by
  have h1 := h.owns.lt
  have h2 := h.lt
  obtain ⟨es, clock, since, seen, c0, e1, F, e2, e3, e4, e5⟩ := h
  exact ⟨es, clock, since, seen, c0, (hu.block b h1 hb).trans e1, F, e2, e3, (hu.block r h2 hr).trans e4, e5⟩

set_option maxRecDepth 20000 in
set_option maxHeartbeats 16000000 in
theorem holdsI (fn : FuncId) (F : Sys → Sys → (Int → Int → Bool) → Int → Int → List UInt8 → Int → Bool) (hway : WayC fn F) (A B : Sys) (a1 a2 b1 b2 hv : Value) (H : Int → Int → Bool) (b n : Nat) (S : List (Int × Int)) (D : DataW Unit) (w : World) (f1 f2 f3 f4 : List Nat)
    (h : Two w A B a1 a2 b1 b2 f1 f2 f3 f4) (hh : HasC hv A.st B.st H w) (hm : w.ownsMap Tryz.prog 108 ElB b n D) (hp : PMap S D) (hS : ∀ p ∈ S, (0 ≤ p.1 ∧ p.1 < A.st) ∧ 0 ≤ p.2 ∧ p.2 < B.st) :
    Calls Tryz.prog 92 #[relV A B a1 a2 b1 b2 hv, .map (some b), .func (.func fn) #[] #[]] w fun e w' => e = .returned (.bool (S.all (relF F A B H))) ∧ Upd [] w w' := by
  have hent := hway.1
  have HAS := Lib.hid (And.intro (sys_parts h.oka).1 (sys_parts h.okb).1)
  obtain ⟨wA, hwA⟩ : ∃ wA, wA = w.alloc (.cells #[ei A.st, ei A.ini, a1, a2, ei B.st, ei B.ini, b1, b2, hv] 86) := ⟨_, rfl⟩
  have U := Lib.hid (show Upd [] w wA by rw [hwA]; exact (Upd.refl _ _).alloc _)
  have hR : RelAt w.heap.size wA A B a1 a2 b1 b2 hv := by rw [hwA]; exact RelAt.new w A B a1 a2 b1 b2 hv
  have hown : wA.ownsMap Tryz.prog 108 ElB b n D := by rw [hwA]; exact hm.alloc _
  obtain ⟨BR, hBR⟩ : ∃ BR, BR = w.heap.size := ⟨_, rfl⟩
  rw [← hBR] at hR
  have HR := Lib.hid hR
  have HP := Lib.hid hp
  have HS := Lib.hid hS
  have W10 := Lib.hid (fun (x y : Int) (hx : (0 ≤ x ∧ x < A.st) ∧ 0 ≤ y ∧ y < B.st) W (hu : Upd [] wA W) => answeredI fn F hway A B a1 a2 b1 b2 hv H x y W f1 f2 f3 f4 (h.upd (U.out.trans hu)) (hh.upd (U.out.trans hu)) hx.1.1 hx.1.2 hx.2.1 hx.2.2)
  have W20 := Lib.hid (fun W (hu : Upd [] wA W) => turnedI A B a1 a2 b1 b2 hv H W f1 f2 f3 f4 (h.upd (U.out.trans hu)) (hh.upd (U.out.trans hu)))
  have W30 := Lib.hid (fun (x y : Int) (hx : (0 ≤ x ∧ x < A.st) ∧ 0 ≤ y ∧ y < B.st) W (hu : Upd [] wA W) hvt (hht : HasC hvt B.st A.st (fun u v => H v u) W) => answeredI fn F hway B A b1 b2 a1 a2 hvt (fun u v => H v u) y x W f3 f4 f1 f2 (h.upd (U.out.trans hu)).turn hht hx.2.1 hx.2.2 hx.1.1 hx.1.2)
  have HF := Lib.hid (fun x y => show relF F A B H (x, y) = (ansF A x (F A B H x y) && ansF B y (F B A (fun u v => H v u) y x)) from rfl)
  clear hR h hh hway hm hp hS
  generalize relF F A B H = RF at *
  go_enter Tryz.func92, Tryz.ntmps92
  go_upto_region 1 with (fail)
  rw [← hwA, ← hBR]
  clear hwA hBR
  go_wp2_with (first
    | (at_range; refine wpList_range_own _ rfl _ 105 rfl 108 4 keyP Tryz.underlying105 _ b n D rfl hown ?_; intro w0 hrg0 hg0 hs0)
    | fail)
  go_frame
  have HU0 := Lib.hid ((Upd.refl [] wA).grown hg0 (fun j hj => by cases hj))
  have HRG0 := Lib.hid hrg0
  clear hg0 hs0 hrg0 hown
  obtain ⟨BI, hBI⟩ : ∃ BI, BI = wA.heap.size := ⟨_, rfl⟩
  rw [← hBI] at HRG0 ⊢
  have HBI := Lib.hid hBI
  clear hBI
  go_loopw [6] (fun _ wr => ∃ (left : Lit → Bool) (cnt : Nat), Hid (wr.ranges Tryz.prog 108 ElB b BI n D left cnt) ∧ Hid (Upd [] wA wr) ∧ Hid (∀ x y : Int, (x, y) ∈ S → left (klP x y) = false → RF (x, y) = true))
    (fun _ wr => wr.rangeLeft b BI)
  case atStart => exact ⟨_, _, HRG0, HU0, Lib.hid (fun x y hxy hl => by
    have hb := HS.out _ hxy
    have hb2 := HAS.out
    have h0 : Maps.has D (klP x y) = true := by
      rw [HP.out.2.1 x y (in64_of (by omega)) (in64_of (by omega))]
      simpa using hxy
    rw [h0] at hl
    exact absurd hl (by simp))⟩
  case round =>
    clear HRG0 HU0
    obtain ⟨wo, rfl⟩ : ∃ wo : World, wo = wr := ⟨_, rfl⟩
    obtain ⟨left, cnt, HRG, HU, HI⟩ := hrel
    go_wp2_with (first
      | (at_next; refine wpList_next_pairs rfl _ rfl b BI n S D left cnt HP.out rfl HRG.out ?_ ?_)
      | fail)
    · intro hl0
      have HE := Lib.hid (show S.all RF = true by
        rw [List.all_eq_true]
        rintro ⟨x, y⟩ hxy
        exact HI.out x y hxy (hl0 _))
      clear hl0 HI
      go_wp2_with fail
      go_ret
      exact ⟨by rw [HE.out]; rfl, U.out.trans HU.out⟩
    · intro x y w1 cnt1 hin hxi hyi hrg1 hlt hg1 hs1 hen
      have hbd := HS.out _ hin
      have HU1 := Lib.hid (HU.out.fresh ((Upd.refl [BI] wo).grown hg1 (fun j hj => Or.inr (by simp at hj ⊢; exact hj.symm))) (fun j hj => Or.inl (by simp at hj; have := HBI.out; omega)))
      have HLT := Lib.hid (show cnt1 < wo.rangeLeft b BI by rw [HRG.out.left_eq]; exact hlt)
      have HRG1 := Lib.hid hrg1
      have HIN := Lib.hid (And.intro hin (And.intro hxi hyi))
      clear hin hrg1 hlt hg1 hs1 hxi hyi HRG HU
      simp only at hbd hen ⊢
      obtain ⟨wB, hwB⟩ : ∃ wB, wB = w1.alloc (.cells #[ei x, ei y] 108) := ⟨_, rfl⟩
      have UB : Upd [] w1 wB := by rw [hwB]; exact (Upd.refl _ _).alloc _
      have HUB := Lib.hid (HU1.out.trans UB)
      have HRB := Lib.hid (ranges_upd HRG1.out UB (by simp) (by simp))
      have t0 : wB.cell? ⟨w1.heap.size, 0, none⟩ = some (ei x) := by rw [hwB]; exact cell_new w1 _ _ _ rfl 0 _ rfl
      have t1 : wB.cell? ⟨w1.heap.size, 1, none⟩ = some (ei y) := by rw [hwB]; exact cell_new w1 _ _ _ rfl 1 _ rfl
      obtain ⟨⟨z0, z1, z2, z3⟩, ⟨z4, z5, z6, z7⟩, z8⟩ := (HR.out.upd HUB.out (by simp)).facts
      have W1 := Lib.hid (fun W (hu : Upd [] wB W) => W10.out x y hbd W (HUB.out.trans hu))
      have W2 := Lib.hid (fun W (hu : Upd [] wB W) => W20.out W (HUB.out.trans hu))
      have W3 := Lib.hid (fun W (hu : Upd [] wB W) hvt hht => W30.out x y hbd W (HUB.out.trans hu) hvt hht)
      have HFX := Lib.hid (HF.out x y)
      generalize ansF A x (F A B H x y) = m1 at *
      generalize ansF B y (F B A (fun u v => H v u) y x) = m2 at *
      obtain ⟨BE, hBE⟩ : ∃ BE, BE = w1.heap.size := ⟨_, rfl⟩
      rw [← hBE] at t0 t1
      go_upto_region 4 with (fail)
      rw [← hwB, ← hBE]
      clear hwB hBE UB W10 W20 W30 HF hen HRG1 HU1 hbd
      cases m1 with
      | false =>
          refine wp_region_held_drew (S := fun w' => w'.cell? ⟨BR, 0, none⟩ = some (ei A.st) ∧ w'.cell? ⟨BR, 1, none⟩ = some (ei A.ini) ∧ w'.cell? ⟨BR, 2, none⟩ = some a1 ∧ w'.cell? ⟨BR, 3, none⟩ = some a2 ∧ w'.cell? ⟨BR, 4, none⟩ = some (ei B.st) ∧ w'.cell? ⟨BR, 5, none⟩ = some (ei B.ini) ∧ w'.cell? ⟨BR, 6, none⟩ = some b1 ∧ w'.cell? ⟨BR, 7, none⟩ = some b2 ∧ w'.cell? ⟨BR, 8, none⟩ = some hv ∧ w'.cell? ⟨BE, 0, none⟩ = some (ei x) ∧ w'.cell? ⟨BE, 1, none⟩ = some (ei y)) (by kernel_rfl) ?_ (fun hHeld => ?_)
          · exact ⟨z0, z1, z2, z3, z4, z5, z6, z7, z8, t0, t1⟩
          refine wpAnyH_take (i := 0) (v := ?_) rfl (by kernel_rfl) (by kernel_rfl) (by kernel_rfl) (fun _ _ _ h => h) (Or.inl ⟨by rfl, ?_⟩) (by assumption) ?_
          rotate_left
          · (intro w hSw; (try dsimp only at hSw); go_simp)
            first | done | with_reducible rfl
          simp only [Act.put, List.getElem_toArray, List.getElem_cons_zero, List.getElem_cons_succ, List.setIfInBounds_toArray, List.set_cons_zero, List.set_cons_succ]
          refine wpAnyH_take (i := 1) (v := ?_) rfl (by kernel_rfl) (by kernel_rfl) (by kernel_rfl) (fun _ _ _ h => h) (Or.inl ⟨by rfl, ?_⟩) (by assumption) ?_
          rotate_left
          · (intro w hSw; (try dsimp only at hSw); go_simp)
            first | done | with_reducible rfl
          simp only [Act.put, List.getElem_toArray, List.getElem_cons_zero, List.getElem_cons_succ, List.setIfInBounds_toArray, List.set_cons_zero, List.set_cons_succ]
          refine wpAnyH_take (i := 2) (v := ?_) rfl (by kernel_rfl) (by kernel_rfl) (by kernel_rfl) (fun _ _ _ h => h) (Or.inl ⟨by rfl, ?_⟩) (by assumption) ?_
          rotate_left
          · (intro w hSw; (try dsimp only at hSw); go_simp)
            first | done | with_reducible rfl
          simp only [Act.put, List.getElem_toArray, List.getElem_cons_zero, List.getElem_cons_succ, List.setIfInBounds_toArray, List.set_cons_zero, List.set_cons_succ]
          refine wpAnyH_take (i := 3) (v := ?_) rfl (by kernel_rfl) (by kernel_rfl) (by kernel_rfl) (fun _ _ _ h => h) (Or.inl ⟨by rfl, ?_⟩) (by assumption) ?_
          rotate_left
          · (intro w hSw; (try dsimp only at hSw); go_simp)
            first | done | with_reducible rfl
          simp only [Act.put, List.getElem_toArray, List.getElem_cons_zero, List.getElem_cons_succ, List.setIfInBounds_toArray, List.set_cons_zero, List.set_cons_succ]
          refine wpAnyH_take (i := 4) (v := ?_) rfl (by kernel_rfl) (by kernel_rfl) (by kernel_rfl) (fun _ _ _ h => h) (Or.inl ⟨by rfl, ?_⟩) (by assumption) ?_
          rotate_left
          · (intro w hSw; (try dsimp only at hSw); go_simp)
            first | done | with_reducible rfl
          simp only [Act.put, List.getElem_toArray, List.getElem_cons_zero, List.getElem_cons_succ, List.setIfInBounds_toArray, List.set_cons_zero, List.set_cons_succ]
          refine wpAnyH_take (i := 5) (v := ?_) rfl (by kernel_rfl) (by kernel_rfl) (by kernel_rfl) (fun _ _ _ h => h) (Or.inl ⟨by rfl, ?_⟩) (by assumption) ?_
          rotate_left
          · (intro w hSw; (try dsimp only at hSw); go_simp)
            first | done | with_reducible rfl
          simp only [Act.put, List.getElem_toArray, List.getElem_cons_zero, List.getElem_cons_succ, List.setIfInBounds_toArray, List.set_cons_zero, List.set_cons_succ]
          refine wpAnyH_ready (rs := [6]) (by kernel_rfl) (by simp) ?_
          refine AllReadyH.cons rfl (fun K hK => ?_) AllReadyH.nil
          go_simp
          refine (W1.out _ ((Upd.refl [] wB).drew)).mono ?_
          rintro e w6 ⟨rfl, hu1⟩
          have hv1 : Upd [] wB w6 := (Upd.refl [] wB).drew.trans hu1
          refine hK.out _ _ ?_ (fun hHeld => ?_)
          · exact ⟨hu1.keep hHeld.1, hu1.keep hHeld.2.1, hu1.keep hHeld.2.2.1, hu1.keep hHeld.2.2.2.1, hu1.keep hHeld.2.2.2.2.1, hu1.keep hHeld.2.2.2.2.2.1, hu1.keep hHeld.2.2.2.2.2.2.1, hu1.keep hHeld.2.2.2.2.2.2.2.1, hu1.keep hHeld.2.2.2.2.2.2.2.2.1, hu1.keep hHeld.2.2.2.2.2.2.2.2.2.1, hu1.keep hHeld.2.2.2.2.2.2.2.2.2.2⟩
          clear hK K
          try simp only [Act.put, List.getElem_toArray, List.getElem_cons_zero, List.getElem_cons_succ, List.setIfInBounds_toArray, List.set_cons_zero, List.set_cons_succ]
          refine wpAnyH_take (i := 7) (v := ?_) rfl (by kernel_rfl) (by kernel_rfl) (by kernel_rfl) (fun _ _ _ h => h) (Or.inl ⟨by rfl, ?_⟩) (by assumption) ?_
          rotate_left
          · (intro w hSw; (try dsimp only at hSw); go_simp)
            first | done | with_reducible rfl
          simp only [Act.put, List.getElem_toArray, List.getElem_cons_zero, List.getElem_cons_succ, List.setIfInBounds_toArray, List.set_cons_zero, List.set_cons_succ]
          refine wpAnyH_take (i := 8) (v := ?_) rfl (by kernel_rfl) (by kernel_rfl) (by kernel_rfl) (fun _ _ _ h => h) (Or.inl ⟨by rfl, ?_⟩) (by assumption) ?_
          rotate_left
          · (intro w hSw; (try dsimp only at hSw); go_simp)
            first | done | with_reducible rfl
          simp only [Act.put, List.getElem_toArray, List.getElem_cons_zero, List.getElem_cons_succ, List.setIfInBounds_toArray, List.set_cons_zero, List.set_cons_succ]
          refine wpAnyH_take (i := 9) rfl (by kernel_rfl) (by kernel_rfl) (by kernel_rfl) (fun _ _ _ h => h) (Or.inr ⟨by rfl, rfl⟩) (by assumption) ?_
          simp only [Act.put, List.getElem_toArray, List.getElem_cons_zero, List.getElem_cons_succ, List.setIfInBounds_toArray, List.set_cons_zero, List.set_cons_succ]
          refine wpAnyH_take (i := 10) rfl (by kernel_rfl) (by kernel_rfl) (by kernel_rfl) (fun _ _ _ h => h) (Or.inr ⟨by rfl, rfl⟩) (by assumption) ?_
          simp only [Act.put, List.getElem_toArray, List.getElem_cons_zero, List.getElem_cons_succ, List.setIfInBounds_toArray, List.set_cons_zero, List.set_cons_succ]
          refine wpAnyH_take (i := 11) rfl (by kernel_rfl) (by kernel_rfl) (by kernel_rfl) (fun _ _ _ h => h) (Or.inr ⟨by rfl, rfl⟩) (by assumption) ?_
          simp only [Act.put, List.getElem_toArray, List.getElem_cons_zero, List.getElem_cons_succ, List.setIfInBounds_toArray, List.set_cons_zero, List.set_cons_succ]
          refine wpAnyH_take (i := 12) rfl (by kernel_rfl) (by kernel_rfl) (by kernel_rfl) (fun _ _ _ h => h) (Or.inr ⟨by rfl, rfl⟩) (by assumption) ?_
          simp only [Act.put, List.getElem_toArray, List.getElem_cons_zero, List.getElem_cons_succ, List.setIfInBounds_toArray, List.set_cons_zero, List.set_cons_succ]
          refine wpAnyH_take (i := 13) rfl (by kernel_rfl) (by kernel_rfl) (by kernel_rfl) (fun _ _ _ h => h) (Or.inr ⟨by rfl, rfl⟩) (by assumption) ?_
          simp only [Act.put, List.getElem_toArray, List.getElem_cons_zero, List.getElem_cons_succ, List.setIfInBounds_toArray, List.set_cons_zero, List.set_cons_succ]
          refine wpAnyH_take (i := 14) rfl (by kernel_rfl) (by kernel_rfl) (by kernel_rfl) (fun _ _ _ h => h) (Or.inr ⟨by rfl, rfl⟩) (by assumption) ?_
          simp only [Act.put, List.getElem_toArray, List.getElem_cons_zero, List.getElem_cons_succ, List.setIfInBounds_toArray, List.set_cons_zero, List.set_cons_succ]
          refine wpAnyH_take (i := 15) rfl (by kernel_rfl) (by kernel_rfl) (by kernel_rfl) (fun _ _ _ h => h) (Or.inr ⟨by rfl, rfl⟩) (by assumption) ?_
          simp only [Act.put, List.getElem_toArray, List.getElem_cons_zero, List.getElem_cons_succ, List.setIfInBounds_toArray, List.set_cons_zero, List.set_cons_succ]
          refine wpAnyH_take (i := 16) rfl (by kernel_rfl) (by kernel_rfl) (by kernel_rfl) (fun _ _ _ h => h) (Or.inr ⟨by rfl, rfl⟩) (by assumption) ?_
          simp only [Act.put, List.getElem_toArray, List.getElem_cons_zero, List.getElem_cons_succ, List.setIfInBounds_toArray, List.set_cons_zero, List.set_cons_succ]
          refine wpAnyH_take (i := 17) rfl (by kernel_rfl) (by kernel_rfl) (by kernel_rfl) (fun _ _ _ h => h) (Or.inr ⟨by rfl, rfl⟩) (by assumption) ?_
          simp only [Act.put, List.getElem_toArray, List.getElem_cons_zero, List.getElem_cons_succ, List.setIfInBounds_toArray, List.set_cons_zero, List.set_cons_succ]
          refine wpAnyH_take (i := 18) (v := ?_) rfl (by kernel_rfl) (by kernel_rfl) (by kernel_rfl) (fun _ _ _ h => h) (Or.inl ⟨by rfl, ?_⟩) (by assumption) ?_
          rotate_left
          · (intro w hSw; (try dsimp only at hSw); go_simp)
            first | done | with_reducible rfl
          simp only [Act.put, List.getElem_toArray, List.getElem_cons_zero, List.getElem_cons_succ, List.setIfInBounds_toArray, List.set_cons_zero, List.set_cons_succ]
          refine wpAnyH_done (by kernel_rfl) ?_ _
          have HE := Lib.hid (show S.all RF = false by
            rw [Bool.eq_false_iff]
            intro h9
            have h8 := List.all_eq_true.1 h9 _ HIN.out.1
            rw [HFX.out] at h8
            simp at h8)
          have HU9 := Lib.hid (HUB.out.trans hv1)
          clear hHeld z0 z1 z2 z3 z4 z5 z6 z7 z8 t0 t1 HUB W1 W2 W3 hv1 hu1
          go_wp2_with fail
          go_ret
          exact ⟨by rw [HE.out]; rfl, U.out.trans HU9.out⟩
      | true =>
          refine wp_region_held_drew (S := fun w' => w'.cell? ⟨BR, 0, none⟩ = some (ei A.st) ∧ w'.cell? ⟨BR, 1, none⟩ = some (ei A.ini) ∧ w'.cell? ⟨BR, 2, none⟩ = some a1 ∧ w'.cell? ⟨BR, 3, none⟩ = some a2 ∧ w'.cell? ⟨BR, 4, none⟩ = some (ei B.st) ∧ w'.cell? ⟨BR, 5, none⟩ = some (ei B.ini) ∧ w'.cell? ⟨BR, 6, none⟩ = some b1 ∧ w'.cell? ⟨BR, 7, none⟩ = some b2 ∧ w'.cell? ⟨BR, 8, none⟩ = some hv ∧ w'.cell? ⟨BE, 0, none⟩ = some (ei x) ∧ w'.cell? ⟨BE, 1, none⟩ = some (ei y)) (by kernel_rfl) ?_ (fun hHeld => ?_)
          · exact ⟨z0, z1, z2, z3, z4, z5, z6, z7, z8, t0, t1⟩
          refine wpAnyH_take (i := 0) (v := ?_) rfl (by kernel_rfl) (by kernel_rfl) (by kernel_rfl) (fun _ _ _ h => h) (Or.inl ⟨by rfl, ?_⟩) (by assumption) ?_
          rotate_left
          · (intro w hSw; (try dsimp only at hSw); go_simp)
            first | done | with_reducible rfl
          simp only [Act.put, List.getElem_toArray, List.getElem_cons_zero, List.getElem_cons_succ, List.setIfInBounds_toArray, List.set_cons_zero, List.set_cons_succ]
          refine wpAnyH_take (i := 1) (v := ?_) rfl (by kernel_rfl) (by kernel_rfl) (by kernel_rfl) (fun _ _ _ h => h) (Or.inl ⟨by rfl, ?_⟩) (by assumption) ?_
          rotate_left
          · (intro w hSw; (try dsimp only at hSw); go_simp)
            first | done | with_reducible rfl
          simp only [Act.put, List.getElem_toArray, List.getElem_cons_zero, List.getElem_cons_succ, List.setIfInBounds_toArray, List.set_cons_zero, List.set_cons_succ]
          refine wpAnyH_take (i := 2) (v := ?_) rfl (by kernel_rfl) (by kernel_rfl) (by kernel_rfl) (fun _ _ _ h => h) (Or.inl ⟨by rfl, ?_⟩) (by assumption) ?_
          rotate_left
          · (intro w hSw; (try dsimp only at hSw); go_simp)
            first | done | with_reducible rfl
          simp only [Act.put, List.getElem_toArray, List.getElem_cons_zero, List.getElem_cons_succ, List.setIfInBounds_toArray, List.set_cons_zero, List.set_cons_succ]
          refine wpAnyH_take (i := 3) (v := ?_) rfl (by kernel_rfl) (by kernel_rfl) (by kernel_rfl) (fun _ _ _ h => h) (Or.inl ⟨by rfl, ?_⟩) (by assumption) ?_
          rotate_left
          · (intro w hSw; (try dsimp only at hSw); go_simp)
            first | done | with_reducible rfl
          simp only [Act.put, List.getElem_toArray, List.getElem_cons_zero, List.getElem_cons_succ, List.setIfInBounds_toArray, List.set_cons_zero, List.set_cons_succ]
          refine wpAnyH_take (i := 4) (v := ?_) rfl (by kernel_rfl) (by kernel_rfl) (by kernel_rfl) (fun _ _ _ h => h) (Or.inl ⟨by rfl, ?_⟩) (by assumption) ?_
          rotate_left
          · (intro w hSw; (try dsimp only at hSw); go_simp)
            first | done | with_reducible rfl
          simp only [Act.put, List.getElem_toArray, List.getElem_cons_zero, List.getElem_cons_succ, List.setIfInBounds_toArray, List.set_cons_zero, List.set_cons_succ]
          refine wpAnyH_take (i := 5) (v := ?_) rfl (by kernel_rfl) (by kernel_rfl) (by kernel_rfl) (fun _ _ _ h => h) (Or.inl ⟨by rfl, ?_⟩) (by assumption) ?_
          rotate_left
          · (intro w hSw; (try dsimp only at hSw); go_simp)
            first | done | with_reducible rfl
          simp only [Act.put, List.getElem_toArray, List.getElem_cons_zero, List.getElem_cons_succ, List.setIfInBounds_toArray, List.set_cons_zero, List.set_cons_succ]
          refine wpAnyH_ready (rs := [6]) (by kernel_rfl) (by simp) ?_
          refine AllReadyH.cons rfl (fun K hK => ?_) AllReadyH.nil
          go_simp
          refine (W1.out _ ((Upd.refl [] wB).drew)).mono ?_
          rintro e w6 ⟨rfl, hu1⟩
          have hv1 : Upd [] wB w6 := (Upd.refl [] wB).drew.trans hu1
          refine hK.out _ _ ?_ (fun hHeld => ?_)
          · exact ⟨hu1.keep hHeld.1, hu1.keep hHeld.2.1, hu1.keep hHeld.2.2.1, hu1.keep hHeld.2.2.2.1, hu1.keep hHeld.2.2.2.2.1, hu1.keep hHeld.2.2.2.2.2.1, hu1.keep hHeld.2.2.2.2.2.2.1, hu1.keep hHeld.2.2.2.2.2.2.2.1, hu1.keep hHeld.2.2.2.2.2.2.2.2.1, hu1.keep hHeld.2.2.2.2.2.2.2.2.2.1, hu1.keep hHeld.2.2.2.2.2.2.2.2.2.2⟩
          clear hK K
          try simp only [Act.put, List.getElem_toArray, List.getElem_cons_zero, List.getElem_cons_succ, List.setIfInBounds_toArray, List.set_cons_zero, List.set_cons_succ]
          refine wpAnyH_take (i := 7) (v := ?_) rfl (by kernel_rfl) (by kernel_rfl) (by kernel_rfl) (fun _ _ _ h => h) (Or.inl ⟨by rfl, ?_⟩) (by assumption) ?_
          rotate_left
          · (intro w hSw; (try dsimp only at hSw); go_simp)
            first | done | with_reducible rfl
          simp only [Act.put, List.getElem_toArray, List.getElem_cons_zero, List.getElem_cons_succ, List.setIfInBounds_toArray, List.set_cons_zero, List.set_cons_succ]
          refine wpAnyH_take (i := 8) (v := ?_) rfl (by kernel_rfl) (by kernel_rfl) (by kernel_rfl) (fun _ _ _ h => h) (Or.inl ⟨by rfl, ?_⟩) (by assumption) ?_
          rotate_left
          · (intro w hSw; (try dsimp only at hSw); go_simp)
            first | done | with_reducible rfl
          simp only [Act.put, List.getElem_toArray, List.getElem_cons_zero, List.getElem_cons_succ, List.setIfInBounds_toArray, List.set_cons_zero, List.set_cons_succ]
          refine wpAnyH_take (i := 9) (v := ?_) rfl (by kernel_rfl) (by kernel_rfl) (by kernel_rfl) (fun _ _ _ h => h) (Or.inl ⟨by rfl, ?_⟩) (by assumption) ?_
          rotate_left
          · (intro w hSw; (try dsimp only at hSw); go_simp)
            first | done | with_reducible rfl
          simp only [Act.put, List.getElem_toArray, List.getElem_cons_zero, List.getElem_cons_succ, List.setIfInBounds_toArray, List.set_cons_zero, List.set_cons_succ]
          refine wpAnyH_take (i := 11) (v := ?_) rfl (by kernel_rfl) (by kernel_rfl) (by kernel_rfl) (fun _ _ _ h => h) (Or.inl ⟨by rfl, ?_⟩) (by assumption) ?_
          rotate_left
          · (intro w hSw; (try dsimp only at hSw); go_simp)
            first | done | with_reducible rfl
          simp only [Act.put, List.getElem_toArray, List.getElem_cons_zero, List.getElem_cons_succ, List.setIfInBounds_toArray, List.set_cons_zero, List.set_cons_succ]
          refine wpAnyH_take (i := 12) (v := ?_) rfl (by kernel_rfl) (by kernel_rfl) (by kernel_rfl) (fun _ _ _ h => h) (Or.inl ⟨by rfl, ?_⟩) (by assumption) ?_
          rotate_left
          · (intro w hSw; (try dsimp only at hSw); go_simp)
            first | done | with_reducible rfl
          simp only [Act.put, List.getElem_toArray, List.getElem_cons_zero, List.getElem_cons_succ, List.setIfInBounds_toArray, List.set_cons_zero, List.set_cons_succ]
          refine wpAnyH_take (i := 13) (v := ?_) rfl (by kernel_rfl) (by kernel_rfl) (by kernel_rfl) (fun _ _ _ h => h) (Or.inl ⟨by rfl, ?_⟩) (by assumption) ?_
          rotate_left
          · (intro w hSw; (try dsimp only at hSw); go_simp)
            first | done | with_reducible rfl
          simp only [Act.put, List.getElem_toArray, List.getElem_cons_zero, List.getElem_cons_succ, List.setIfInBounds_toArray, List.set_cons_zero, List.set_cons_succ]
          refine wpAnyH_take (i := 14) (v := ?_) rfl (by kernel_rfl) (by kernel_rfl) (by kernel_rfl) (fun _ _ _ h => h) (Or.inl ⟨by rfl, ?_⟩) (by assumption) ?_
          rotate_left
          · (intro w hSw; (try dsimp only at hSw); go_simp)
            first | done | with_reducible rfl
          simp only [Act.put, List.getElem_toArray, List.getElem_cons_zero, List.getElem_cons_succ, List.setIfInBounds_toArray, List.set_cons_zero, List.set_cons_succ]
          refine wpAnyH_take (i := 15) (v := ?_) rfl (by kernel_rfl) (by kernel_rfl) (by kernel_rfl) (fun _ _ _ h => h) (Or.inl ⟨by rfl, ?_⟩) (by assumption) ?_
          rotate_left
          · (intro w hSw; (try dsimp only at hSw); go_simp)
            first | done | with_reducible rfl
          simp only [Act.put, List.getElem_toArray, List.getElem_cons_zero, List.getElem_cons_succ, List.setIfInBounds_toArray, List.set_cons_zero, List.set_cons_succ]
          refine wpAnyH_ready (rs := [10]) (by kernel_rfl) (by simp) ?_
          refine AllReadyH.cons rfl (fun K hK => ?_) AllReadyH.nil
          go_simp
          refine (W2.out w6 hv1).mono ?_
          rintro e w10 ⟨⟨hvt, rfl, hht⟩, hu2⟩
          have hv2 : Upd [] wB w10 := hv1.trans hu2
          refine hK.out _ _ ?_ (fun hHeld => ?_)
          · exact ⟨hu2.keep hHeld.1, hu2.keep hHeld.2.1, hu2.keep hHeld.2.2.1, hu2.keep hHeld.2.2.2.1, hu2.keep hHeld.2.2.2.2.1, hu2.keep hHeld.2.2.2.2.2.1, hu2.keep hHeld.2.2.2.2.2.2.1, hu2.keep hHeld.2.2.2.2.2.2.2.1, hu2.keep hHeld.2.2.2.2.2.2.2.2.1, hu2.keep hHeld.2.2.2.2.2.2.2.2.2.1, hu2.keep hHeld.2.2.2.2.2.2.2.2.2.2⟩
          clear hK K
          try simp only [Act.put, List.getElem_toArray, List.getElem_cons_zero, List.getElem_cons_succ, List.setIfInBounds_toArray, List.set_cons_zero, List.set_cons_succ]
          refine wpAnyH_ready (rs := [16]) (by kernel_rfl) (by simp) ?_
          refine AllReadyH.cons rfl (fun K hK => ?_) AllReadyH.nil
          go_simp
          refine (W3.out w10 hv2 hvt hht).mono ?_
          rintro e w16 ⟨rfl, hu3⟩
          have hv3 : Upd [] wB w16 := hv2.trans hu3
          refine hK.out _ _ ?_ (fun hHeld => ?_)
          · exact ⟨hu3.keep hHeld.1, hu3.keep hHeld.2.1, hu3.keep hHeld.2.2.1, hu3.keep hHeld.2.2.2.1, hu3.keep hHeld.2.2.2.2.1, hu3.keep hHeld.2.2.2.2.2.1, hu3.keep hHeld.2.2.2.2.2.2.1, hu3.keep hHeld.2.2.2.2.2.2.2.1, hu3.keep hHeld.2.2.2.2.2.2.2.2.1, hu3.keep hHeld.2.2.2.2.2.2.2.2.2.1, hu3.keep hHeld.2.2.2.2.2.2.2.2.2.2⟩
          clear hK K
          try simp only [Act.put, List.getElem_toArray, List.getElem_cons_zero, List.getElem_cons_succ, List.setIfInBounds_toArray, List.set_cons_zero, List.set_cons_succ]
          refine wpAnyH_take (i := 17) (v := ?_) rfl (by kernel_rfl) (by kernel_rfl) (by kernel_rfl) (fun _ _ _ h => h) (Or.inl ⟨by rfl, ?_⟩) (by assumption) ?_
          rotate_left
          · (intro w hSw; (try dsimp only at hSw); go_simp)
            first | done | with_reducible rfl
          simp only [Act.put, List.getElem_toArray, List.getElem_cons_zero, List.getElem_cons_succ, List.setIfInBounds_toArray, List.set_cons_zero, List.set_cons_succ]
          refine wpAnyH_take (i := 18) (v := ?_) rfl (by kernel_rfl) (by kernel_rfl) (by kernel_rfl) (fun _ _ _ h => h) (Or.inl ⟨by rfl, ?_⟩) (by assumption) ?_
          rotate_left
          · (intro w hSw; (try dsimp only at hSw); go_simp)
            first | done | with_reducible rfl
          simp only [Act.put, List.getElem_toArray, List.getElem_cons_zero, List.getElem_cons_succ, List.setIfInBounds_toArray, List.set_cons_zero, List.set_cons_succ]
          refine wpAnyH_done (by kernel_rfl) ?_ _
          have HU9 := Lib.hid (HUB.out.trans hv3)
          have HR9 := Lib.hid (ranges_upd HRB.out hv3 (by simp) (by simp))
          clear hHeld z0 z1 z2 z3 z4 z5 z6 z7 z8 t0 t1 HUB W1 W2 W3 hv1 hu1 hv2 hu2 hv3 hu3 hht
          cases m2 with
          | false =>
            have HE := Lib.hid (show S.all RF = false by
              rw [Bool.eq_false_iff]
              intro h9
              have h8 := List.all_eq_true.1 h9 _ HIN.out.1
              rw [HFX.out] at h8
              simp at h8)
            go_wp2_with fail
            go_ret
            exact ⟨by rw [HE.out]; rfl, U.out.trans HU9.out⟩
          | true =>
            go_wp2_with fail
            go_roundw
            case rel =>
              exact ⟨_, cnt1, HR9, HU9, Lib.hid (fun x9 y9 hxy hl => by
                by_cases hl9 : left (klP x9 y9) = false
                · exact HI.out x9 y9 hxy hl9
                · have hl8 : left (klP x9 y9) = true := by simpa using hl9
                  have h7 : (klP x9 y9).sameKey (klP x y) = true := by rw [hl8] at hl; simpa using hl
                  have hb := HS.out _ hxy
                  have hb2 := HAS.out
                  obtain ⟨rfl, rfl⟩ := klP_inj (in64_of (by omega)) (in64_of (by omega)) HIN.out.2.1 HIN.out.2.2 (WideAt.sameKey_eq h7)
                  rw [HFX.out]; rfl)⟩
            case measure => rw [HR9.out.left_eq]; exact HLT.out

end Go.Proofs.YtcnaapiljmgfoaaGreatDoor

/-
  slices.IndexFunc and ContainsFunc over rows of numbers, at whatever function value.
-/
namespace Go.Proofs.YtcnaapiljmgfoaaGreatDoor
open Go.RowKit

def IdxM (P : List Int → Bool) (xs : List (List Int)) (w : World) (e : Ending) (w' : World) : Prop := (∃ q : Int, e = .returned (.int .i64 q) ∧ -1 ≤ q ∧ q ≤ 9223372036854775807 ∧ decide (0 ≤ q) = xs.any P) ∧ Upd [] w w'

set_option maxRecDepth 20000 in
set_option maxHeartbeats 1000000 in
theorem indexFuncM (P : List Int → Bool) (fn : FuncId) (caps : Array Value) (v : Value) (xs : List (List Int)) (w : World) (fp : List Nat) (hR : R_N2 fp w [v] xs)
    (hent : ∀ args w, Sem.run Tryz.prog (callFunc fn args) w = .ok (.enter fn args) w)
    (hby : ∀ wr u f x, x ∈ xs → Upd [] w wr → R1 f wr [u] x → Calls Tryz.prog fn (#[u] ++ caps) wr fun e w' => e = .returned (.bool (P x)) ∧ Upd [] wr w') :
    Calls Tryz.prog 89 #[v, .func (.func fn) #[] caps] w (IdxM P xs w) := by
  obtain ⟨a1, c1, rfl, hl1, hm1, hc1⟩ := slP_open hR
  unfold maxLen at hm1
  have HBY := Lib.hid hby
  clear hR hby
  go_enter Tryz.func89, Tryz.ntmps89
  go_wp2_with fail
  go_loopw [8] (fun i wr => ∃ k : Nat, k ≤ xs.length ∧ i = .int .i64 k ∧ Upd [] w wr ∧ (xs.drop k).any P = xs.any P) (fun i _ => xs.length - (intOf i).toNat)
  case atStart => exact ⟨0, Nat.zero_le _, rfl, Upd.refl _ _, rfl⟩
  case round =>
    obtain ⟨k, hk, rfl, hU, hF⟩ := hrel
    by_cases hlt : k < xs.length
    · obtain ⟨b1, o1, u, f, rfl, -, -, p1, -, hr⟩ := hc1 k hlt
      have p1' := hU.keep p1
      rw [List.drop_eq_getElem_cons hlt, List.any_cons] at hF
      have HF := Lib.hid hF
      have HU := Lib.hid hU
      have S1 := Lib.hid (HBY.out wr u f xs[k] (List.getElem_mem hlt) hU (R1k.upd hr hU (by simp)))
      generalize xs[k] = x at *
      generalize P x = bb at *
      clear hF hc1 p1 hU hr
      go_wp2_with fail
      refine S1.out.mono ?_
      rintro e w1 ⟨rfl, hu1⟩
      have HU1 := Lib.hid (HU.out.trans hu1)
      clear S1 hu1
      cases bb
      · go_wp2_with fail
        go_roundw
        case rel => exact ⟨k + 1, by omega, by go_num, HU1.out, by rw [← HF.out]; rfl⟩
        case measure => simp [intOf]; omega
      · go_wp2_with fail
        go_ret
        exact ⟨⟨k, rfl, by omega, by omega, by rw [← HF.out]; simp⟩, HU1.out⟩
    · rw [List.drop_of_length_le (by omega)] at hF
      have HF := Lib.hid hF
      clear hF hc1
      go_wp2_with fail
      go_ret
      exact ⟨⟨-1, rfl, by omega, by omega, by rw [← HF.out]; rfl⟩, hU⟩

set_option maxRecDepth 20000 in
theorem containsFuncM (P : List Int → Bool) (fn : FuncId) (caps : Array Value) (v : Value) (xs : List (List Int)) (w : World) (fp : List Nat) (hR : R_N2 fp w [v] xs)
    (hent : ∀ args w, Sem.run Tryz.prog (callFunc fn args) w = .ok (.enter fn args) w)
    (hby : ∀ wr u f x, x ∈ xs → Upd [] w wr → R1 f wr [u] x → Calls Tryz.prog fn (#[u] ++ caps) wr fun e w' => e = .returned (.bool (P x)) ∧ Upd [] wr w') :
    Calls Tryz.prog 60 #[v, .func (.func fn) #[] caps] w fun e w' => e = .returned (.bool (xs.any P)) ∧ Upd [] w w' := by
  have S2 := Lib.hid (indexFuncM P fn caps v xs w fp hR hent hby)
  clear hR hby
  go_enter Tryz.func60, Tryz.ntmps60
  go_wp2_with fail
  refine S2.out.mono ?_
  rintro e w1 ⟨⟨q, rfl, h1, h2, h3⟩, hu1⟩
  have H3 := Lib.hid (And.intro h3 hu1)
  clear h3 hu1
  go_wp2_with fail
  go_ret
  exact ⟨by rw [← H3.out.1]; rfl, H3.out.2⟩

end Go.Proofs.YtcnaapiljmgfoaaGreatDoor

/-
  slices.IndexFunc and ContainsFunc over numbers, at whatever function value.
-/
namespace Go.Proofs.YtcnaapiljmgfoaaGreatDoor
open Go.RowKit

def IdxN (P : Int → Bool) (xs : List Int) (w : World) (e : Ending) (w' : World) : Prop := (∃ q : Int, e = .returned (.int .i64 q) ∧ -1 ≤ q ∧ q ≤ 9223372036854775807 ∧ decide (0 ≤ q) = xs.any P) ∧ Upd [] w w'

set_option maxRecDepth 20000 in
set_option maxHeartbeats 1000000 in
theorem indexFuncN (P : Int → Bool) (fn : FuncId) (caps : Array Value) (v : Value) (xs : List Int) (w : World) (fp : List Nat) (hR : R1 fp w [v] xs)
    (hent : ∀ args w, Sem.run Tryz.prog (callFunc fn args) w = .ok (.enter fn args) w)
    (hby : ∀ wr x, x ∈ xs → Upd [] w wr → Calls Tryz.prog fn (#[.int .i64 x] ++ caps) wr fun e w' => e = .returned (.bool (P x)) ∧ Upd [] wr w') :
    Calls Tryz.prog 93 #[v, .func (.func fn) #[] caps] w (IdxN P xs w) := by
  obtain ⟨a1, c1, rfl, hl1, hm1, hc1⟩ := slF1_open hR
  unfold maxLen at hm1
  have HBY := Lib.hid hby
  clear hR hby
  go_enter Tryz.func93, Tryz.ntmps93
  go_wp2_with fail
  go_loopw [8] (fun i wr => ∃ k : Nat, k ≤ xs.length ∧ i = .int .i64 k ∧ Upd [] w wr ∧ (xs.drop k).any P = xs.any P) (fun i _ => xs.length - (intOf i).toNat)
  case atStart => exact ⟨0, Nat.zero_le _, rfl, Upd.refl _ _, rfl⟩
  case round =>
    obtain ⟨k, hk, rfl, hU, hF⟩ := hrel
    by_cases hlt : k < xs.length
    · obtain ⟨b1, o1, rfl, -, -, p1⟩ := hc1 k hlt
      have p1' := hU.keep p1
      rw [List.drop_eq_getElem_cons hlt, List.any_cons] at hF
      have HF := Lib.hid hF
      have HU := Lib.hid hU
      have S1 := Lib.hid (HBY.out wr xs[k] (List.getElem_mem hlt) hU)
      generalize xs[k] = x at *
      generalize P x = bb at *
      clear hF hc1 p1 hU
      go_wp2_with fail
      refine S1.out.mono ?_
      rintro e w1 ⟨rfl, hu1⟩
      have HU1 := Lib.hid (HU.out.trans hu1)
      clear S1 hu1
      cases bb
      · go_wp2_with fail
        go_roundw
        case rel => exact ⟨k + 1, by omega, by go_num, HU1.out, by rw [← HF.out]; rfl⟩
        case measure => simp [intOf]; omega
      · go_wp2_with fail
        go_ret
        exact ⟨⟨k, rfl, by omega, by omega, by rw [← HF.out]; simp⟩, HU1.out⟩
    · rw [List.drop_of_length_le (by omega)] at hF
      have HF := Lib.hid hF
      clear hF hc1
      go_wp2_with fail
      go_ret
      exact ⟨⟨-1, rfl, by omega, by omega, by rw [← HF.out]; rfl⟩, hU⟩

set_option maxRecDepth 20000 in
theorem containsFuncN (P : Int → Bool) (fn : FuncId) (caps : Array Value) (v : Value) (xs : List Int) (w : World) (fp : List Nat) (hR : R1 fp w [v] xs)
    (hent : ∀ args w, Sem.run Tryz.prog (callFunc fn args) w = .ok (.enter fn args) w)
    (hby : ∀ wr x, x ∈ xs → Upd [] w wr → Calls Tryz.prog fn (#[.int .i64 x] ++ caps) wr fun e w' => e = .returned (.bool (P x)) ∧ Upd [] wr w') :
    Calls Tryz.prog 64 #[v, .func (.func fn) #[] caps] w fun e w' => e = .returned (.bool (xs.any P)) ∧ Upd [] w w' := by
  have S2 := Lib.hid (indexFuncN P fn caps v xs w fp hR hent hby)
  clear hby hent hR
  go_enter Tryz.func64, Tryz.ntmps64
  go_wp2_with fail
  refine S2.out.mono ?_
  rintro e w1 ⟨⟨q, rfl, h1, h2, h3⟩, hu⟩
  have H3 := Lib.hid (And.intro h3 hu)
  clear h3 hu
  go_wp2_with fail
  go_ret
  exact ⟨by rw [← H3.out.1]; rfl, H3.out.2⟩

end Go.Proofs.YtcnaapiljmgfoaaGreatDoor

/-
  Relations between systems, the program's strongly, related and certificate.
-/
namespace Go.Proofs.YtcnaapiljmgfoaaGreatDoor
open Go.RowKit Go.Maps

theorem flat_ei (xs : List Int) : xs.flatMap (fun n => [ei n]) = xs.map ei := by
  induction xs with
  | nil => rfl
  | cons x xs ih => rw [List.flatMap_cons, ih]; rfl
/-- a new block of numbers, read as a slice. -/
theorem r1_new (w : World) (xs : List Int) (B : Nat) (hB : w.heap.size = B) (hm : xs.length ≤ maxLen) : R1 [B] (w.alloc (.cells (xs.map ei).toArray 2)) [.slice (some ⟨B, 0, none⟩) xs.length xs.length] xs := by
  refine ⟨_, rfl, some ⟨B, 0, none⟩, xs.length, rfl, Nat.le_refl _, hm, ?_, ?_⟩
  · rw [flat_ei]; simp
  · refine Or.inr ⟨B, 0, rfl, rfl, by simp; omega, fun j u hj => ?_⟩
    rw [flat_ei] at hj
    rw [show (⟨B, 0 + j, none⟩ : Addr) = ⟨B, j, none⟩ by simp]
    exact cell_new w _ _ _ hB j u (by simpa using hj)
theorem enter_related1 (args : Array Value) (w : World) : Sem.run Tryz.prog (callFunc 91 args) w = .ok (.enter 91 args) w := by go_simp
theorem enter_cert1 (args : Array Value) (w : World) : Sem.run Tryz.prog (callFunc 61 args) w = .ok (.enter 61 args) w := by go_simp
theorem enter_strongly (args : Array Value) (w : World) : Sem.run Tryz.prog (callFunc 35 args) w = .ok (.enter 35 args) w := by go_simp
theorem enter_strongly1 (args : Array Value) (w : World) : Sem.run Tryz.prog (callFunc 66 args) w = .ok (.enter 66 args) w := by go_simp

set_option maxRecDepth 20000 in
theorem related1I (P b n : Nat) (S : List (Int × Int)) (D : DataW Unit) (x y : Int) (w : World) (hc : w.cell? ⟨P, 0, none⟩ = some (.map (some b))) (hm : w.ownsMap Tryz.prog 108 ElB b n D) (hp : PMap S D) (hx : In64 x) (hy : In64 y) :
    Calls Tryz.prog 91 #[.int .i64 x, .int .i64 y, .pointer (some ⟨P, 0, none⟩)] w fun e w' => e = .returned (.bool (decide ((x, y) ∈ S))) ∧ Upd [] w w' := by
  have hl := run_pairs hm hp hx hy
  generalize decide ((x, y) ∈ S) = bb at *
  clear hm hp hx hy
  go_enter Tryz.func91, Tryz.ntmps91
  go_wp2_with fail
  go_ret
  exact ⟨rfl, Upd.refl _ _⟩

theorem strongly1I (T V : Nat) (A B : Sys) (a1 a2 b1 b2 hv : Value) (H : Int → Int → Bool) (v u : Int) (w : World) (hT : RelAt T w A B a1 a2 b1 b2 hv) (hV : w.cell? ⟨V, 0, none⟩ = some (ei v)) (hh : HasC hv A.st B.st H w) (h1 : 0 ≤ v) (h2 : v < A.st) (h3 : 0 ≤ u) (h4 : u < B.st) :
    Calls Tryz.prog 66 #[.int .i64 u, .pointer (some ⟨T, 0, none⟩), .pointer (some ⟨V, 0, none⟩)] w fun e w' => e = .returned (.bool (H v u)) ∧ Upd [] w w' := by
  obtain ⟨g, caps, rfl, hent, hc⟩ := hh
  have S1 := Lib.hid (hc w v u (Upd.refl _ _) h1 h2 h3 h4)
  have z8 := hT.facts.2.2
  generalize H v u = b at *
  clear hc hT h1 h2 h3 h4
  go_enter Tryz.func66, Tryz.ntmps66
  go_wp2_with fail
  refine S1.out.mono ?_
  rintro e w1 ⟨rfl, hu⟩
  have U := Lib.hid hu
  clear S1 hu
  go_wp2_with fail
  go_ret
  exact ⟨rfl, U.out⟩

/-- an edge answered by an edge. -/
def strF (_A B : Sys) (H : Int → Int → Bool) (_x y : Int) (s : List UInt8) (v : Int) : Bool := (folF B [y] s).any fun u => H v u
theorem folF_bd {T : Sys} (h : sysOk T = true) {ys : List Int} {s : List UInt8} : ∀ u ∈ folF T ys s, 0 ≤ u ∧ u < T.st := by
  intro u hu
  unfold folF at hu
  obtain ⟨e, he, rfl⟩ := List.mem_map.1 hu
  exact (sys_eds h e (List.mem_filter.1 he).1).2

set_option maxRecDepth 20000 in
set_option maxHeartbeats 4000000 in
theorem stronglyI : WayC 35 strF := by
  refine ⟨enter_strongly, ?_⟩
  intro A B a1 a2 b1 b2 hv H x y v s w f1 f2 f3 f4 h hh hx0 hx1 hy0 hy1 hv0 hv1
  obtain ⟨wA, hwA⟩ : ∃ wA, wA = (w.alloc (.cells #[ei A.st, ei A.ini, a1, a2, ei B.st, ei B.ini, b1, b2, hv] 86)).alloc (.cells #[ei v] 2) := ⟨_, rfl⟩
  have U := Lib.hid (show Upd [] w wA by rw [hwA]; exact ((Upd.refl _ _).alloc _).alloc _)
  have hR : RelAt w.heap.size wA A B a1 a2 b1 b2 hv := by
    have h0 : RelAt w.heap.size (w.alloc (.cells #[ei A.st, ei A.ini, a1, a2, ei B.st, ei B.ini, b1, b2, hv] 86)) A B a1 a2 b1 b2 hv := RelAt.new w A B a1 a2 b1 b2 hv
    rw [hwA]; exact h0.upd ((Upd.refl [] _).alloc _) (by simp)
  have hV : wA.cell? ⟨w.heap.size + 1, 0, none⟩ = some (ei v) := by rw [hwA]; exact cell_new _ _ _ _ (by simp) 0 _ rfl
  obtain ⟨wB, hwB⟩ : ∃ wB, wB = wA.alloc (.cells #[ei y] 2) := ⟨_, rfl⟩
  have UB := Lib.hid (show Upd [] wA wB by rw [hwB]; exact (Upd.refl _ _).alloc _)
  have hY : R1 [wA.heap.size] wB [.slice (some ⟨wA.heap.size, 0, none⟩) 1 1] [y] := by
    rw [hwB]; exact r1_new wA [y] _ rfl (by unfold maxLen; simp)
  have hszA : wA.heap.size = w.heap.size + 2 := by rw [hwA]; simp
  obtain ⟨BR, hBR⟩ : ∃ BR, BR = w.heap.size := ⟨_, rfl⟩
  rw [← hBR] at hR hV hszA
  rw [hszA] at hY
  have HR := Lib.hid hR
  have HV := Lib.hid hV
  obtain ⟨-, ⟨z4, z5, z6, z7⟩, -⟩ := hR.facts
  have S1 := Lib.hid (followI B b1 b2 (.slice (some ⟨BR + 2, 0, none⟩) 1 1) y s wB f3 f4 [BR + 2] (RSk.upd h.lb (U.out.trans UB.out) (by simp)) (R_E1k.upd h.eb (U.out.trans UB.out) (by simp)) hY h.okb)
  have S2 := Lib.hid (fun (vv : Value) (f : List Nat) W (hu : Upd [] wB W) (hr : R1 f W [vv] (folF B [y] s)) => containsFuncN (fun u => H v u) 66 #[.pointer (some ⟨BR, 0, none⟩), .pointer (some ⟨BR + 1, 0, none⟩)] vv (folF B [y] s) W f hr enter_strongly1
    (fun wr u hu1 hu2 => strongly1I BR (BR + 1) A B a1 a2 b1 b2 hv H v u wr (HR.out.upd ((UB.out.trans hu).trans hu2) (by simp)) (((UB.out.trans hu).trans hu2).keep HV.out) (hh.upd (U.out.trans ((UB.out.trans hu).trans hu2))) hv0 hv1 (folF_bd h.okb u hu1).1 (folF_bd h.okb u hu1).2))
  have HZ := Lib.hid (show strF A B H x y s v = (folF B [y] s).any fun u => H v u from rfl)
  clear hR hV hY h hh hx0 hx1 hy0 hy1 hv0 hv1
  generalize strF A B H x y s v = Z at *
  generalize folF B [y] s = FO at *
  go_enter Tryz.func35, Tryz.ntmps35
  go_upto_region 1 with (fail)
  rw [← hwA, ← hBR]
  clear hwA hBR
  go_wp2_with fail
  rw [← hwB]
  clear hwB hszA
  refine S1.out.mono ?_
  rintro e w1 ⟨⟨vv, ff, rfl, hr⟩, hu1⟩
  have T2 := Lib.hid (S2.out vv ff w1 hu1 hr)
  have U1 := Lib.hid hu1
  clear S1 S2 hu1 hr
  go_wp2_with fail
  refine T2.out.mono ?_
  rintro e w2 ⟨rfl, hu2⟩
  have U2 := Lib.hid hu2
  clear T2 hu2
  rw [← HZ.out]
  go_wp2_with fail
  go_ret
  exact ⟨rfl, U.out.trans (UB.out.trans (U1.out.trans U2.out))⟩

/-- pairs are a relation of a kind. -/
def relatedF (F : Sys → Sys → (Int → Int → Bool) → Int → Int → List UInt8 → Int → Bool) (A B : Sys) (R : List (List Int)) : Bool := pairsF R A.st B.st && (pairsOf R).all (relF F A B fun x y => decide ((x, y) ∈ pairsOf R))
theorem pairsF_bd {R : List (List Int)} {a b : Int} (h : pairsF R a b = true) : ∀ p ∈ pairsOf R, (0 ≤ p.1 ∧ p.1 < a) ∧ 0 ≤ p.2 ∧ p.2 < b := by
  intro p hp
  unfold pairsOf at hp
  obtain ⟨q, hq, rfl⟩ := List.mem_map.1 hp
  obtain ⟨i, hi, rfl⟩ := List.getElem_of_mem hq
  have h2 := allF_get h i (by omega) (by omega)
  unfold pairP at h2
  have gk : R.getD i [] = R[i] := by rw [List.getD_eq_getElem?_getD, List.getElem?_eq_getElem hi]; rfl
  rw [gk] at h2
  simp only [Bool.and_eq_true] at h2
  have r1 := inB_true h2.1.1.2
  have r2 := inB_true h2.1.2
  omega

set_option maxRecDepth 20000 in
set_option maxHeartbeats 4000000 in
theorem relatedI (fn : FuncId) (F : Sys → Sys → (Int → Int → Bool) → Int → Int → List UInt8 → Int → Bool) (hway : WayC fn F) (A B : Sys) (a1 a2 b1 b2 v : Value) (R : List (List Int)) (w : World) (f1 f2 f3 f4 fr : List Nat)
    (h : Two w A B a1 a2 b1 b2 f1 f2 f3 f4) (hR : R_N2 fr w [v] R) (hR9 : R.length ≤ 2000000) :
    Calls Tryz.prog 63 #[.agg #[ei A.st, ei A.ini, a1, a2], .agg #[ei B.st, ei B.ini, b1, b2], v, .func (.func fn) #[] #[]] w fun e w' => e = .returned (.bool (relatedF F A B R)) ∧ Upd [] w w' := by
  obtain ⟨av, cap, rfl, -, -, -⟩ := slP_open hR
  have hAs := (sys_parts h.oka).1
  have hBs := (sys_parts h.okb).1
  obtain ⟨wA, hwA⟩ : ∃ wA, wA = (w.alloc (.cells #[ei A.st, ei A.ini, a1, a2] 32)).alloc (.cells #[ei B.st, ei B.ini, b1, b2] 32) := ⟨_, rfl⟩
  have U := Lib.hid (show Upd [] w wA by rw [hwA]; exact ((Upd.refl _ _).alloc _).alloc _)
  have s1 : SysAt w.heap.size (w.alloc (.cells #[ei A.st, ei A.ini, a1, a2] 32)) A.st A.ini a1 a2 := heap_alloc_new w _
  have s2 : SysAt (w.heap.size + 1) wA B.st B.ini b1 b2 := by
    have : SysAt (w.alloc (.cells #[ei A.st, ei A.ini, a1, a2] 32)).heap.size wA B.st B.ini b1 b2 := by rw [hwA]; exact heap_alloc_new _ _
    simpa using this
  have s3 : SysAt w.heap.size wA A.st A.ini a1 a2 := by rw [hwA]; exact s1.upd ((Upd.refl [] _).alloc _) (by simp)
  obtain ⟨BA, hBA⟩ : ∃ BA, BA = w.heap.size := ⟨_, rfl⟩
  rw [← hBA] at s2 s3
  have HA := Lib.hid s3
  have HB := Lib.hid s2
  have HT := Lib.hid h
  have S1 := Lib.hid (pairsOkI A.st A.ini B.st B.ini a1 a2 b1 b2 (.slice av R.length cap) R wA fr (R_N2k.upd hR U.out (by simp)) hAs.1 hAs.2 hBs.1 hBs.2 hR9)
  have S2 := Lib.hid (fun (P b n : Nat) (D : DataW Unit) W (hu : Upd [] wA W) (hc : W.cell? ⟨P, 0, none⟩ = some (.map (some b))) (hm : W.ownsMap Tryz.prog 108 ElB b n D) (hp : PMap (pairsOf R) D) (hb : pairsF R A.st B.st = true) =>
    holdsI fn F hway A B a1 a2 b1 b2 (.func (.func 91) #[] #[.pointer (some ⟨P, 0, none⟩)]) (fun x y => decide ((x, y) ∈ pairsOf R)) b n (pairsOf R) D W f1 f2 f3 f4 (h.upd (U.out.trans hu))
      ⟨91, #[.pointer (some ⟨P, 0, none⟩)], rfl, enter_related1, fun W2 x y hu2 hx0 hx1 hy0 hy1 => related1I P b n (pairsOf R) D x y W2 (hu2.keep hc) (ownsMap_upd hm hu2 (by simp)) hp (in64_of (by omega)) (in64_of (by omega))⟩ hm hp (pairsF_bd hb))
  have HZ := Lib.hid (show relatedF F A B R = (pairsF R A.st B.st && (pairsOf R).all (relF F A B fun x y => decide ((x, y) ∈ pairsOf R))) from rfl)
  obtain ⟨z0, z1, z2, z3, -⟩ := s3.facts
  obtain ⟨y0, y1, y2, y3, -⟩ := s2.facts
  have hent := hway.1
  clear s1 s2 s3 h hR hR9 hAs hBs hway
  generalize relatedF F A B R = Z at *
  go_enter Tryz.func63, Tryz.ntmps63
  go_upto_region 1 with (fail)
  rw [← hwA, ← hBA]
  clear hwA hBA
  go_wp2_with fail
  refine S1.out.mono ?_
  rintro e w1 ⟨hP, hu1⟩
  have U1 := Lib.hid hu1
  rcases hP with ⟨hb, rfl⟩ | ⟨hb, b, n, D, rfl, hbl, hm, hp⟩
  · have HE := Lib.hid (show Z = false by rw [HZ.out, hb]; rfl)
    clear S1 S2 HZ hb hu1 z0 z1 z2 z3 y0 y1 y2 y3
    go_wp2_with fail
    go_ret
    exact ⟨by rw [HE.out]; rfl, U.out.trans (U1.out.alloc _)⟩
  · have HE := Lib.hid (show Z = (pairsOf R).all (relF F A B fun x y => decide ((x, y) ∈ pairsOf R)) by rw [HZ.out, hb]; rfl)
    obtain ⟨w2, hw2⟩ : ∃ w2, w2 = w1.alloc (.cells #[.map (some b)] 105) := ⟨_, rfl⟩
    have U2 := Lib.hid (show Upd [] wA w2 by rw [hw2]; exact U1.out.alloc _)
    have hc : w2.cell? ⟨w1.heap.size, 0, none⟩ = some (.map (some b)) := by rw [hw2]; exact cell_new w1 _ _ _ rfl 0 _ rfl
    have hm2 : w2.ownsMap Tryz.prog 108 ElB b n D := by rw [hw2]; exact hm.alloc _
    have T2 := Lib.hid (S2.out w1.heap.size b n D w2 U2.out hc hm2 hp hb)
    obtain ⟨z0, z1, z2, z3, -⟩ := (HA.out.upd U2.out (by simp)).facts
    obtain ⟨y0, y1, y2, y3, -⟩ := (HB.out.upd U2.out (by simp)).facts
    obtain ⟨BP, hBP⟩ : ∃ BP, BP = w1.heap.size := ⟨_, rfl⟩
    rw [← hBP] at hc T2
    clear S1 S2 HZ hb hu1 hm hm2 hp hbl
    generalize (pairsOf R).all (relF F A B fun x y => decide ((x, y) ∈ pairsOf R)) = Y at *
    go_upto_region 4 with (fail)
    rw [← hw2, ← hBP]
    clear hw2 hBP
    go_wp2_with fail
    refine T2.out.mono ?_
    rintro e w3 ⟨rfl, hu3⟩
    have U3 := Lib.hid hu3
    clear T2 hu3
    go_wp2_with fail
    go_ret
    exact ⟨by rw [HE.out]; rfl, U.out.trans (U2.out.trans U3.out)⟩

set_option maxRecDepth 20000 in
set_option maxHeartbeats 2000000 in
theorem cert1I (BA BB : Nat) (sa ia sb ib : Int) (a1 a2 b1 b2 u : Value) (p : List Int) (w : World) (f : List Nat) (hA : SysAt BA w sa ia a1 a2) (hB : SysAt BB w sb ib b1 b2) (hr : R1 f w [u] p) :
    Calls Tryz.prog 61 #[u, .pointer (some ⟨BA, 0, none⟩), .pointer (some ⟨BB, 0, none⟩)] w fun e w' => e = .returned (.bool (p == [ia, ib])) ∧ Upd [] w w' := by
  obtain ⟨la, ca, rfl, -, -, -⟩ := slF1_open hr
  obtain ⟨wB, hwB⟩ : ∃ wB, wB = w.alloc (.cells #[ei ia, ei ib] 2) := ⟨_, rfl⟩
  have U := Lib.hid (show Upd [] w wB by rw [hwB]; exact (Upd.refl _ _).alloc _)
  have hY : R1 [w.heap.size] wB [.slice (some ⟨w.heap.size, 0, none⟩) 2 2] [ia, ib] := by
    rw [hwB]; exact r1_new w [ia, ib] _ rfl (by unfold maxLen; simp)
  have S1 := Lib.hid (equalLI _ _ p [ia, ib] wB f _ (R1k.upd hr U.out (by simp)) hY)
  have zA := hA.facts.2.1
  have zB := hB.facts.2.1
  generalize (p == [ia, ib]) = bb at *
  clear hY hr hA hB
  go_enter Tryz.func61, Tryz.ntmps61
  go_wp2_with fail
  rw [← hwB]
  clear hwB
  refine S1.out.mono ?_
  rintro e w1 ⟨rfl, n, rfl⟩
  clear S1
  go_wp2_with fail
  go_ret
  exact ⟨rfl, U.out.drewN n⟩

/-- pairs are a relation of a kind between two valid systems, with that of both initial states. -/
def certF (F : Sys → Sys → (Int → Int → Bool) → Int → Int → List UInt8 → Int → Bool) (A B : Sys) (R : List (List Int)) : Bool := sysOk A && sysOk B && R.any (fun p => p == [A.ini, B.ini]) && relatedF F A B R

set_option maxRecDepth 20000 in
set_option maxHeartbeats 4000000 in
theorem certI (fn : FuncId) (F : Sys → Sys → (Int → Int → Bool) → Int → Int → List UInt8 → Int → Bool) (hway : WayC fn F) (A B : Sys) (a1 a2 b1 b2 v : Value) (R : List (List Int)) (w : World) (f1 f2 f3 f4 fr : List Nat)
    (hA1 : RS f1 w [a1] A.labs) (hA2 : R_E1 f2 w [a2] A.eds) (hB1 : RS f3 w [b1] B.labs) (hB2 : R_E1 f4 w [b2] B.eds) (hR : R_N2 fr w [v] R) (hR9 : R.length ≤ 2000000)
    (hpA : ∀ p ∈ A.labs, p.length ≤ 2000000) (hpB : ∀ p ∈ B.labs, p.length ≤ 2000000) (he : Env w) :
    Calls Tryz.prog 34 #[.agg #[ei A.st, ei A.ini, a1, a2], .agg #[ei B.st, ei B.ini, b1, b2], v, .func (.func fn) #[] #[]] w fun e w' => e = .returned (.bool (certF F A B R)) ∧ Upd [] w w' := by
  obtain ⟨av, cap, rfl, -, -, -⟩ := slP_open hR
  obtain ⟨wA, hwA⟩ : ∃ wA, wA = (w.alloc (.cells #[ei A.st, ei A.ini, a1, a2] 32)).alloc (.cells #[ei B.st, ei B.ini, b1, b2] 32) := ⟨_, rfl⟩
  have U := Lib.hid (show Upd [] w wA by rw [hwA]; exact ((Upd.refl _ _).alloc _).alloc _)
  have s1 : SysAt w.heap.size (w.alloc (.cells #[ei A.st, ei A.ini, a1, a2] 32)) A.st A.ini a1 a2 := heap_alloc_new w _
  have s2 : SysAt (w.heap.size + 1) wA B.st B.ini b1 b2 := by
    have : SysAt (w.alloc (.cells #[ei A.st, ei A.ini, a1, a2] 32)).heap.size wA B.st B.ini b1 b2 := by rw [hwA]; exact heap_alloc_new _ _
    simpa using this
  have s3 : SysAt w.heap.size wA A.st A.ini a1 a2 := by rw [hwA]; exact s1.upd ((Upd.refl [] _).alloc _) (by simp)
  obtain ⟨BA, hBA⟩ : ∃ BA, BA = w.heap.size := ⟨_, rfl⟩
  rw [← hBA] at s2 s3
  have HA := Lib.hid s3
  have HB := Lib.hid s2
  have hent := hway.1
  have C1 := Lib.hid (fun W (hu : Upd [] wA W) => validI A a1 a2 W f1 f2 (RSk.upd hA1 (U.out.trans hu) (by simp)) (R_E1k.upd hA2 (U.out.trans hu) (by simp)) hpA (he.upd (U.out.trans hu)))
  have C2 := Lib.hid (fun W (hu : Upd [] wA W) => validI B b1 b2 W f3 f4 (RSk.upd hB1 (U.out.trans hu) (by simp)) (R_E1k.upd hB2 (U.out.trans hu) (by simp)) hpB (he.upd (U.out.trans hu)))
  have C3 := Lib.hid (fun W (hu : Upd [] wA W) => containsFuncM (fun p => p == [A.ini, B.ini]) 61 #[.pointer (some ⟨BA, 0, none⟩), .pointer (some ⟨BA + 1, 0, none⟩)] (.slice av R.length cap) R W fr (R_N2k.upd hR (U.out.trans hu) (by simp)) enter_cert1
    (fun wr u f x hx hu2 hr => cert1I BA (BA + 1) A.st A.ini B.st B.ini a1 a2 b1 b2 u x wr f (s3.upd (hu.trans hu2) (by simp)) (s2.upd (hu.trans hu2) (by simp)) hr))
  have C4 := Lib.hid (fun W (hu : Upd [] wA W) (okA : sysOk A = true) (okB : sysOk B = true) => relatedI fn F hway A B a1 a2 b1 b2 (.slice av R.length cap) R W f1 f2 f3 f4 fr ((show Two w A B a1 a2 b1 b2 f1 f2 f3 f4 from ⟨hA1, hA2, hB1, hB2, okA, okB⟩).upd (U.out.trans hu)) (R_N2k.upd hR (U.out.trans hu) (by simp)) hR9)
  have HZ := Lib.hid (show certF F A B R = (sysOk A && sysOk B && R.any (fun p => p == [A.ini, B.ini]) && relatedF F A B R) from rfl)
  obtain ⟨z0, z1, z2, z3, -⟩ := s3.facts
  obtain ⟨y0, y1, y2, y3, -⟩ := s2.facts
  have T1 := Lib.hid (C1.out wA (Upd.refl _ _))
  clear s1 s2 s3 hA1 hA2 hB1 hB2 hR hR9 hpA hpB he hway C1
  generalize certF F A B R = Z at *
  generalize relatedF F A B R = Y at *
  generalize R.any (fun p => p == [A.ini, B.ini]) = X at *
  go_enter Tryz.func34, Tryz.ntmps34
  go_upto_region 1 with (fail)
  rw [← hwA, ← hBA]
  clear hwA hBA
  cases okA : sysOk A with
  | false =>
    have HE := Lib.hid (show Z = false by rw [HZ.out, okA]; rfl)
    rw [okA] at T1
    clear HZ okA C2 C3 C4
    go_wp2_with fail
    refine T1.out.mono ?_
    rintro e w1 ⟨rfl, hu1⟩
    have U1 := Lib.hid hu1
    clear T1 hu1
    go_wp2_with fail
    go_ret
    exact ⟨by rw [HE.out]; rfl, U.out.trans U1.out⟩
  | true =>
    rw [okA] at T1
    go_wp2_with fail
    refine T1.out.mono ?_
    rintro e w1 ⟨rfl, hu1⟩
    have U1 := Lib.hid hu1
    have T2 := Lib.hid (C2.out w1 hu1)
    obtain ⟨y0, y1, y2, y3, -⟩ := (HB.out.upd hu1 (by simp)).facts
    clear T1 hu1 C2
    cases okB : sysOk B with
    | false =>
      have HE := Lib.hid (show Z = false by rw [HZ.out, okA, okB]; rfl)
      rw [okB] at T2
      clear HZ okA okB C3 C4
      go_wp2_with fail
      refine T2.out.mono ?_
      rintro e w2 ⟨rfl, hu2⟩
      have U2 := Lib.hid (U1.out.trans hu2)
      clear T2 hu2
      go_wp2_with fail
      go_ret
      exact ⟨by rw [HE.out]; rfl, U.out.trans U2.out⟩
    | true =>
      have HZ2 := Lib.hid (show Z = (X && Y) by rw [HZ.out, okA, okB]; rfl)
      rw [okB] at T2
      have C5 := Lib.hid (fun W hu => C4.out W hu okA okB)
      clear HZ okA okB C4
      go_wp2_with fail
      refine T2.out.mono ?_
      rintro e w2 ⟨rfl, hu2⟩
      have U2 := Lib.hid (U1.out.trans hu2)
      have T3 := Lib.hid (C3.out w2 U2.out)
      clear T2 hu2 C3
      go_wp2_with fail
      refine T3.out.mono ?_
      rintro e w3 ⟨rfl, hu3⟩
      have U3 := Lib.hid (U2.out.trans hu3)
      have T4 := Lib.hid (C5.out w3 U3.out)
      obtain ⟨z0, z1, z2, z3, -⟩ := (HA.out.upd U3.out (by simp)).facts
      obtain ⟨y0, y1, y2, y3, -⟩ := (HB.out.upd U3.out (by simp)).facts
      clear T3 hu3 C5
      cases X with
      | false =>
        have HE := Lib.hid (show Z = false by rw [HZ2.out]; rfl)
        clear HZ2 T4
        go_wp2_with fail
        go_ret
        exact ⟨by rw [HE.out]; rfl, U.out.trans U3.out⟩
      | true =>
        have HE := Lib.hid (show Z = Y by rw [HZ2.out]; rfl)
        clear HZ2
        go_wp2_with fail
        refine T4.out.mono ?_
        rintro e w4 ⟨rfl, hu4⟩
        have U4 := Lib.hid (U3.out.trans hu4)
        clear T4 hu4
        go_wp2_with fail
        go_ret
        exact ⟨by rw [HE.out]; rfl, U.out.trans U4.out⟩

theorem bisI (A B : Sys) (a1 a2 b1 b2 v : Value) (R : List (List Int)) (w : World) (f1 f2 f3 f4 fr : List Nat)
    (hA1 : RS f1 w [a1] A.labs) (hA2 : R_E1 f2 w [a2] A.eds) (hB1 : RS f3 w [b1] B.labs) (hB2 : R_E1 f4 w [b2] B.eds) (hR : R_N2 fr w [v] R) (hR9 : R.length ≤ 2000000)
    (hpA : ∀ p ∈ A.labs, p.length ≤ 2000000) (hpB : ∀ p ∈ B.labs, p.length ≤ 2000000) (he : Env w) :
    Calls Tryz.prog 12 #[.agg #[ei A.st, ei A.ini, a1, a2], .agg #[ei B.st, ei B.ini, b1, b2], v] w fun e w' => e = .returned (.bool (certF strF A B R)) ∧ Upd [] w w' := by
  have U0 := Lib.hid (show Upd [] w ((w.alloc (.cells #[ei A.st, ei A.ini, a1, a2] 32)).alloc (.cells #[ei B.st, ei B.ini, b1, b2] 32)) from ((Upd.refl _ _).alloc _).alloc _)
  have S1 := Lib.hid (certI 35 strF stronglyI A B a1 a2 b1 b2 v R _ f1 f2 f3 f4 fr (RSk.upd hA1 U0.out (by simp)) (R_E1k.upd hA2 U0.out (by simp)) (RSk.upd hB1 U0.out (by simp)) (R_E1k.upd hB2 U0.out (by simp)) (R_N2k.upd hR U0.out (by simp)) hR9 hpA hpB (he.upd U0.out))
  generalize certF strF A B R = Z at *
  clear hA1 hA2 hB1 hB2 hR hR9 hpA hpB he
  go_enter Tryz.func12, Tryz.ntmps12
  go_wp2_with fail
  refine S1.out.mono ?_
  rintro e w1 ⟨rfl, hu⟩
  have U1 := Lib.hid hu
  clear S1 hu
  go_wp2_with fail
  go_ret
  exact ⟨rfl, U0.out.trans U1.out⟩

end Go.Proofs.YtcnaapiljmgfoaaGreatDoor

/-
  IsBisimulationOf: what the program's call and the reference's call return is the same.
-/
namespace Go.Proofs.YtcnaapiljmgfoaaGreatDoor
open Go.RowKit

theorem pair_eq {p : List Int} (h : p.length = 2) (a b : Int) : (p == [a, b]) = ((p.getD 0 0 == a) && (p.getD 1 0 == b)) := by
  match p, h with
  | [u, v], _ => simp [Bool.beq_eq_decide_eq]
theorem hasP_any {R : List (List Int)} (h : ∀ p ∈ R, p.length = 2) (a b : Int) : R.any (fun p => p == [a, b]) = hasP R a b := by
  unfold hasP
  rw [Bool.eq_iff_iff, List.any_eq_true, List.any_eq_true]
  constructor <;> rintro ⟨p, hp, hq⟩ <;> refine ⟨p, hp, ?_⟩
  · rw [pair_eq (h p hp)] at hq; exact hq
  · rw [pair_eq (h p hp)]; exact hq
theorem hasP_of (R : List (List Int)) (a b : Int) : decide ((a, b) ∈ pairsOf R) = hasP R a b := by
  unfold hasP pairsOf
  rw [Bool.eq_iff_iff, decide_eq_true_iff, List.any_eq_true, List.mem_map]
  constructor
  · rintro ⟨p, hp, he⟩
    refine ⟨p, hp, ?_⟩
    cases he
    simp
  · rintro ⟨p, hp, he⟩
    refine ⟨p, hp, ?_⟩
    simp only [Bool.and_eq_true, beq_iff_eq] at he
    rw [he.1, he.2]
theorem all_eq_of {α : Type} {l : List α} {f g : α → Bool} (h : ∀ x ∈ l, f x = g x) : l.all f = l.all g := by
  induction l with
  | nil => rfl
  | cons x xs ih => rw [List.all_cons, List.all_cons, h x (by simp), ih (fun y hy => h y (by simp [hy]))]
theorem any_eq_of {α : Type} {l : List α} {f g : α → Bool} (h : ∀ x ∈ l, f x = g x) : l.any f = l.any g := by
  induction l with
  | nil => rfl
  | cons x xs ih => rw [List.any_cons, List.any_cons, h x (by simp), ih (fun y hy => h y (by simp [hy]))]
theorem strF_met (A B : Sys) (H : Int → Int → Bool) (x y : Int) (s : List UInt8) (v : Int) : strF A B H x y s v = (outF B.eds y).any fun g => (s == B.labs.getD g.lb.toNat []) && H v g.to := by
  unfold strF folF outF
  rw [List.any_map, List.any_filter, List.any_filter]
  refine any_eq_of fun g _ => ?_
  unfold folP
  simp only [Function.comp, List.contains_cons, List.contains_nil, Bool.or_false]
  rw [show (B.labs.getD g.lb.toNat [] == s) = (s == B.labs.getD g.lb.toNat []) by rw [Bool.eq_iff_iff, beq_iff_eq, beq_iff_eq]; exact eq_comm]
  cases (s == B.labs.getD g.lb.toNat []) <;> cases (g.fr == y) <;> simp
theorem moves_eq (A B : Sys) (x y : Int) (R : List (List Int)) : ansF A x (strF A B (fun u v => hasP R u v) x y) = movesF A B x y R false ∧ ansF B y (strF B A (fun u v => hasP R v u) y x) = movesF B A y x R true := by
  constructor
  · unfold ansF movesF
    refine all_eq_of fun e _ => ?_
    rw [strF_met]; rfl
  · unfold ansF movesF
    refine all_eq_of fun e _ => ?_
    rw [strF_met]; rfl
theorem cert_bis (A B : Sys) (R : List (List Int)) : certF strF A B R = bisF A B R := by
  unfold certF bisF relatedF
  cases hp : pairsF R A.st B.st with
  | false => simp
  | true =>
    rw [hasP_any (pairsF_two hp)]
    have e1 : (fun x y => decide ((x, y) ∈ pairsOf R)) = fun x y => hasP R x y := by funext x y; exact hasP_of R x y
    have e2 : (pairsOf R).all (relF strF A B fun x y => decide ((x, y) ∈ pairsOf R)) = holdsF A B R := by
      rw [e1]
      unfold pairsOf holdsF
      rw [List.all_map]
      refine all_eq_of fun p _ => ?_
      obtain ⟨m1, m2⟩ := moves_eq A B (p.getD 0 0) (p.getD 1 0) R
      rw [← m1, ← m2]; rfl
    rw [e2]
    cases sysOk A <;> cases sysOk B <;> cases hasP R A.ini B.ini <;> simp

theorem bisI2 (A B : Sys) (a1 a2 b1 b2 v : Value) (R : List (List Int)) (w : World) (f1 f2 f3 f4 fr : List Nat)
    (hA1 : RS f1 w [a1] A.labs) (hA2 : R_E1 f2 w [a2] A.eds) (hB1 : RS f3 w [b1] B.labs) (hB2 : R_E1 f4 w [b2] B.eds) (hR : R_N2 fr w [v] R) (hR9 : R.length ≤ 2000000)
    (hpA : ∀ p ∈ A.labs, p.length ≤ 2000000) (hpB : ∀ p ∈ B.labs, p.length ≤ 2000000) (he : Env w) :
    Calls Tryz.prog 12 #[.agg #[ei A.st, ei A.ini, a1, a2], .agg #[ei B.st, ei B.ini, b1, b2], v] w fun e w' => e = .returned (.bool (bisF A B R)) ∧ Upd [] w w' := by
  rw [← cert_bis]
  exact bisI A B a1 a2 b1 b2 v R w f1 f2 f3 f4 fr hA1 hA2 hB1 hB2 hR hR9 hpA hpB he

end Go.Proofs.YtcnaapiljmgfoaaGreatDoor

/-
  The law FnExactIsBisimulationOf: the call returns true for every input, and writes nothing that was there.
-/
namespace Go.Proofs.YtcnaapiljmgfoaaGreatDoor
open Go.RowKit Go.ChangeShapes

set_option maxRecDepth 20000 in
set_option maxHeartbeats 8000000 in
theorem lawBis (v1 v2 v3 : Value) (A B : Sys) (R : List (List Int)) (w : World) (fa fb fr : List Nat) (hA : R_L1 fa w [v1] A) (hB : R_L1 fb w [v2] B) (hR : R_N2 fr w [v3] R) (hSA : strsOk A.labs) (hSB : strsOk B.labs) (hE : Env w) :
    Calls Tryz.prog 3 #[v1, v2, v3] w fun e w' => e = .returned (.bool true) ∧ Upd [] w w' := by
  obtain ⟨a1, a2, f1, f2, hv, r1, r2, rfl⟩ := hA
  cases hv
  obtain ⟨b1, b2, f3, f4, hv, r3, r4, rfl⟩ := hB
  cases hv
  obtain ⟨av, cap, rfl, -, -, -⟩ := slP_open hR
  have HRA := Lib.hid (fun W (hu : Upd [] w W) => show R_L1 (f1 ++ f2) W [.agg #[ei A.st, ei A.ini, a1, a2]] A from ⟨a1, a2, f1, f2, rfl, RSk.upd r1 hu (by simp), R_E1k.upd r2 hu (by simp), rfl⟩)
  have HRB := Lib.hid (fun W (hu : Upd [] w W) => show R_L1 (f3 ++ f4) W [.agg #[ei B.st, ei B.ini, b1, b2]] B from ⟨b1, b2, f3, f4, rfl, RSk.upd r3 hu (by simp), R_E1k.upd r4 hu (by simp), rfl⟩)
  have HRR := Lib.hid (fun W (hu : Upd [] w W) => R_N2k.upd hR hu (by simp))
  have HE := Lib.hid hE
  obtain ⟨wA, hwA⟩ : ∃ wA, wA = (w.alloc (.cells #[ei A.st, ei A.ini, a1, a2] 25)).alloc (.cells #[ei B.st, ei B.ini, b1, b2] 25) := ⟨_, rfl⟩
  have uA : Upd [] w wA := by rw [hwA]; exact ((Upd.refl _ _).alloc _).alloc _
  have HC := Lib.hid (fun W (hu : Upd [] wA W) => show (W.cell? ⟨w.heap.size, 0, none⟩ = some (ei A.st) ∧ W.cell? ⟨w.heap.size, 1, none⟩ = some (ei A.ini) ∧ W.cell? ⟨w.heap.size, 2, none⟩ = some a1 ∧ W.cell? ⟨w.heap.size, 3, none⟩ = some a2) ∧
      (W.cell? ⟨w.heap.size + 1, 0, none⟩ = some (ei B.st) ∧ W.cell? ⟨w.heap.size + 1, 1, none⟩ = some (ei B.ini) ∧ W.cell? ⟨w.heap.size + 1, 2, none⟩ = some b1 ∧ W.cell? ⟨w.heap.size + 1, 3, none⟩ = some b2) from by
    rw [hwA] at hu
    have u2 := ((Upd.refl [] (w.alloc (.cells #[ei A.st, ei A.ini, a1, a2] 25))).alloc (.cells #[ei B.st, ei B.ini, b1, b2] 25)).trans hu
    have hs : (w.alloc (.cells #[ei A.st, ei A.ini, a1, a2] 25)).heap.size = w.heap.size + 1 := by simp
    exact ⟨⟨u2.keep (cell_new w _ _ _ rfl 0 _ rfl), u2.keep (cell_new w _ _ _ rfl 1 _ rfl), u2.keep (cell_new w _ _ _ rfl 2 _ rfl), u2.keep (cell_new w _ _ _ rfl 3 _ rfl)⟩,
      ⟨hu.keep (cell_new _ _ _ _ hs 0 _ rfl), hu.keep (cell_new _ _ _ _ hs 1 _ rfl), hu.keep (cell_new _ _ _ _ hs 2 _ rfl), hu.keep (cell_new _ _ _ _ hs 3 _ rfl)⟩⟩)
  have S1 := Lib.hid (sz_L1 _ A 1048576 wA _ (by omega) (by omega) (HRA.out wA uA) hSA)
  have HSB := Lib.hid hSB
  have UA := Lib.hid uA
  clear r1 r2 r3 r4 hR hSA hSB hE uA
  obtain ⟨AA, hAA⟩ : ∃ AA, AA = w.heap.size := ⟨_, rfl⟩
  rw [← hAA] at HC
  go_enter Tryz.func3, Tryz.ntmps3
  go_wp2_with fail
  rw [← hwA, ← hAA]
  clear hwA hAA
  refine S1.out.mono ?_
  rintro e w1 ⟨⟨r, rfl, hr⟩, hu1⟩
  have HU1 := Lib.hid hu1
  rcases hr with rfl | ⟨hr0, hr1⟩
  · have HU := Lib.hid (UA.out.trans hu1)
    clear S1 hu1
    go_wp2_with fail
    go_ret
    exact ⟨rfl, HU.out⟩
  · have hn1 := szF_L1_nonneg A
    have S2 := Lib.hid (sz_L1 _ B r w1 _ (by omega) (by omega) (HRB.out w1 (UA.out.trans hu1)) HSB.out)
    obtain ⟨⟨x0, x1, x2, x3⟩, ⟨y0, y1, y2, y3⟩⟩ := HC.out w1 hu1
    clear S1 hu1
    go_wp2_with fail
    refine S2.out.mono ?_
    rintro e w2 ⟨⟨r', rfl, hr'⟩, hu2⟩
    have HU2 := Lib.hid (HU1.out.trans hu2)
    clear x0 x1 x2 x3 y0 y1 y2 y3 HU1
    rcases hr' with rfl | ⟨hr2, hr3⟩
    · have HU := Lib.hid (UA.out.trans HU2.out)
      clear S2 hu2
      go_wp2_with fail
      go_ret
      exact ⟨rfl, HU.out⟩
    · have hn2 := szF_L1_nonneg B
      have S3 := Lib.hid (sz_N2 _ R r' w2 _ (by omega) (by omega) (HRR.out w2 (UA.out.trans HU2.out)))
      clear S2 hu2
      go_wp2_with fail
      refine S3.out.mono ?_
      rintro e w3 ⟨⟨r'', rfl, hr''⟩, rfl⟩
      rcases hr'' with rfl | ⟨hr4, hr5⟩
      · clear S3
        go_wp2_with fail
        go_ret
        exact ⟨rfl, UA.out.trans HU2.out⟩
      · have hn3 := szF_N2_nonneg R
        have hszA : szF_L1 A ≤ 1048576 := by omega
        have hszB : szF_L1 B ≤ 1048576 := by omega
        have hszR : szF_N2 R ≤ 1048576 := by omega
        have hbA : ∀ p ∈ A.labs, p.length ≤ 2000000 := by
          intro p hp
          have h1 := totS_mem A.labs p hp
          have h2 := szF_E1_nonneg A.eds
          unfold szF_L1 szF_S1 at hszA
          omega
        have hbB : ∀ p ∈ B.labs, p.length ≤ 2000000 := by
          intro p hp
          have h1 := totS_mem B.labs p hp
          have h2 := szF_E1_nonneg B.eds
          unfold szF_L1 szF_S1 at hszB
          omega
        have hR9 : R.length ≤ 2000000 := by
          have h1 := tot_nonneg R
          unfold szF_N2 at hszR
          omega
        have TA := Lib.hid (fun W (hu : Upd [] wA W) => to_Lts _ A W _ hszA (HRA.out W (UA.out.trans hu)))
        have TB := Lib.hid (fun W (hu : Upd [] wA W) => to_Lts _ B W _ hszB (HRB.out W (UA.out.trans hu)))
        have TR := Lib.hid (fun W (hu : Upd [] wA W) => to_N2 _ R W _ hszR (HRR.out W (UA.out.trans hu)))
        have CS := Lib.hid (fun (p1 p2 q1 q2 v : Value) W (g1 g2 g3 g4 gr : List Nat) h1 h2 h3 h4 h5 => bisS A B p1 p2 q1 q2 v R W g1 g2 g3 g4 gr h1 h2 h3 h4 h5 hbA hbB)
        have CI := Lib.hid (fun (p1 p2 q1 q2 v : Value) W (g1 g2 g3 g4 gr : List Nat) h1 h2 h3 h4 h5 (hu : Upd [] wA W) => bisI2 A B p1 p2 q1 q2 v R W g1 g2 g3 g4 gr h1 h2 h3 h4 h5 hR9 hbA hbB (HE.out.upd (UA.out.trans hu)))
        obtain ⟨⟨x0, x1, x2, x3⟩, ⟨y0, y1, y2, y3⟩⟩ := HC.out w2 HU2.out
        clear S3 hr5 hr2 hr3 hr0 hr1 hn1 hn2 hn3 hszA hszB hszR hbA hbB hR9 HSB
        generalize bisF A B R = Z at *
        have hzz : (Z != Z) = false := by simp
        go_wp2_with fail
        go_region_held3 (fun w' => w'.cell? ⟨AA, 0, none⟩ = some (ei A.st) ∧ w'.cell? ⟨AA, 1, none⟩ = some (ei A.ini) ∧ w'.cell? ⟨AA, 2, none⟩ = some a1 ∧ w'.cell? ⟨AA, 3, none⟩ = some a2 ∧ w'.cell? ⟨AA + 1, 0, none⟩ = some (ei B.st) ∧ w'.cell? ⟨AA + 1, 1, none⟩ = some (ei B.ini) ∧ w'.cell? ⟨AA + 1, 2, none⟩ = some b1 ∧ w'.cell? ⟨AA + 1, 3, none⟩ = some b2) (go_keep)
          (first
            | ((go_at_call 10); (with_reducible refine (TA.out _ (HU2.out.drew)).mono ?_); rintro e w4 ⟨⟨v4, rfl, gp4, ⟨p1, p2, g1, g2, hv4, s1, s2, rfl⟩, og4, gg4⟩, hu4⟩; cases hv4; have x0' := hu4.keep x0; have x1' := hu4.keep x1; have x2' := hu4.keep x2; have x3' := hu4.keep x3; have y0' := hu4.keep y0; have y1' := hu4.keep y1; have y2' := hu4.keep y2; have y3' := hu4.keep y3; clear og4 gg4)
            | ((go_at_call 10); (with_reducible refine (TB.out _ ((HU2.out.drew).trans hu4)).mono ?_); rintro e w5 ⟨⟨v5, rfl, gp5, ⟨q1, q2, g3, g4, hv5, s3, s4, rfl⟩, og5, gg5⟩, hu5⟩; cases hv5; have x0'' := hu5.keep x0'; have x1'' := hu5.keep x1'; have x2'' := hu5.keep x2'; have x3'' := hu5.keep x3'; have y0'' := hu5.keep y0'; have y1'' := hu5.keep y1'; have y2'' := hu5.keep y2'; have y3'' := hu5.keep y3'; clear og5 gg5)
            | ((go_at_call 11); (with_reducible refine (TR.out _ (((HU2.out.drew).trans hu4).trans hu5)).mono ?_); rintro e w6 ⟨⟨v6, rfl, gp6, s5, og6, gg6⟩, hu6⟩; have m0 := hu6.keep x0''; have m1 := hu6.keep x1''; have m2 := hu6.keep x2''; have m3 := hu6.keep x3''; have n0 := hu6.keep y0''; have n1 := hu6.keep y1''; have n2 := hu6.keep y2''; have n3 := hu6.keep y3''; clear og6 gg6)
            | ((go_at_call 9); (with_reducible refine (CS.out _ _ _ _ _ _ g1 g2 g3 g4 gp6 (RSk.upd s1 (hu5.trans hu6) (by simp)) (R_E1k.upd s2 (hu5.trans hu6) (by simp)) (RSk.upd s3 hu6 (by simp)) (R_E1k.upd s4 hu6 (by simp)) s5).mono ?_); rintro e w7 ⟨rfl, hu7⟩; have m0' := hu7.keep m0; have m1' := hu7.keep m1; have m2' := hu7.keep m2; have m3' := hu7.keep m3; have n0' := hu7.keep n0; have n1' := hu7.keep n1; have n2' := hu7.keep n2; have n3' := hu7.keep n3))
        have HU7 := Lib.hid ((((HU2.out.drew).trans hu4).trans hu5).trans (hu6.trans hu7))
        clear CS hu4 hu5 hu6 hu7 s1 s2 s3 s4 s5
        obtain ⟨⟨x0, x1, x2, x3⟩, ⟨y0, y1, y2, y3⟩⟩ := HC.out w7 HU7.out
        clear hr4
        generalize w7 = wz at *
        have T1 := Lib.hid (TA.out wz HU7.out)
        go_wp2_with fail
        refine T1.out.mono ?_
        rintro e w8 ⟨⟨v8, rfl, gp8, ⟨p1, p2, k1, k2, hv8, s1, s2, rfl⟩, og8, gg8⟩, hu8⟩
        cases hv8
        obtain ⟨p1a, p1c, rfl, -, -, -⟩ := slF1_open s1
        obtain ⟨p2a, p2c, rfl, -, -, -⟩ := slF3_open s2
        obtain ⟨wB, hwB⟩ : ∃ wB, wB = w8.alloc (.cells #[ei A.st, ei A.ini, (.slice p1a A.labs.length p1c), (.slice p2a A.eds.length p2c)] 32) := ⟨_, rfl⟩
        have uB : Upd [] w8 wB := by rw [hwB]; exact (Upd.refl _ _).alloc _
        have HUB := Lib.hid ((HU7.out.trans hu8).trans uB)
        have HCB := Lib.hid (fun W (hu : Upd [] wB W) => show W.cell? ⟨w8.heap.size, 0, none⟩ = some (ei A.st) ∧ W.cell? ⟨w8.heap.size, 1, none⟩ = some (ei A.ini) ∧ W.cell? ⟨w8.heap.size, 2, none⟩ = some (.slice p1a A.labs.length p1c) ∧ W.cell? ⟨w8.heap.size, 3, none⟩ = some (.slice p2a A.eds.length p2c) from by
          rw [hwB] at hu
          exact ⟨hu.keep (cell_new w8 _ _ _ rfl 0 _ rfl), hu.keep (cell_new w8 _ _ _ rfl 1 _ rfl), hu.keep (cell_new w8 _ _ _ rfl 2 _ rfl), hu.keep (cell_new w8 _ _ _ rfl 3 _ rfl)⟩)
        have HS1 := Lib.hid (fun W (hu : Upd [] wB W) => RSk.upd s1 (uB.trans hu) (by simp))
        have HS2 := Lib.hid (fun W (hu : Upd [] wB W) => R_E1k.upd s2 (uB.trans hu) (by simp))
        obtain ⟨⟨x0, x1, x2, x3⟩, ⟨y0, y1, y2, y3⟩⟩ := HC.out wB HUB.out
        have T2 := Lib.hid (TB.out wB HUB.out)
        obtain ⟨BX, hBX⟩ : ∃ BX, BX = w8.heap.size := ⟨_, rfl⟩
        rw [← hBX] at HCB
        clear T1 hu8 uB s1 s2 og8 gg8
        go_upto_region 13 with (fail)
        rw [← hwB, ← hBX]
        clear hwB hBX
        go_wp2_with fail
        refine T2.out.mono ?_
        rintro e w9 ⟨⟨v9, rfl, gp9, ⟨q1, q2, k3, k4, hv9, s3, s4, rfl⟩, og9, gg9⟩, hu9⟩
        cases hv9
        obtain ⟨q1a, q1c, rfl, -, -, -⟩ := slF1_open s3
        obtain ⟨q2a, q2c, rfl, -, -, -⟩ := slF3_open s4
        obtain ⟨wD, hwD⟩ : ∃ wD, wD = w9.alloc (.cells #[ei B.st, ei B.ini, (.slice q1a B.labs.length q1c), (.slice q2a B.eds.length q2c)] 32) := ⟨_, rfl⟩
        have uD : Upd [] w9 wD := by rw [hwD]; exact (Upd.refl _ _).alloc _
        have HBD := Lib.hid (hu9.trans uD)
        have HUD := Lib.hid (HUB.out.trans HBD.out)
        have HCD := Lib.hid (fun W (hu : Upd [] wD W) => show W.cell? ⟨w9.heap.size, 0, none⟩ = some (ei B.st) ∧ W.cell? ⟨w9.heap.size, 1, none⟩ = some (ei B.ini) ∧ W.cell? ⟨w9.heap.size, 2, none⟩ = some (.slice q1a B.labs.length q1c) ∧ W.cell? ⟨w9.heap.size, 3, none⟩ = some (.slice q2a B.eds.length q2c) from by
          rw [hwD] at hu
          exact ⟨hu.keep (cell_new w9 _ _ _ rfl 0 _ rfl), hu.keep (cell_new w9 _ _ _ rfl 1 _ rfl), hu.keep (cell_new w9 _ _ _ rfl 2 _ rfl), hu.keep (cell_new w9 _ _ _ rfl 3 _ rfl)⟩)
        have HS3 := Lib.hid (fun W (hu : Upd [] wD W) => RSk.upd s3 (uD.trans hu) (by simp))
        have HS4 := Lib.hid (fun W (hu : Upd [] wD W) => R_E1k.upd s4 (uD.trans hu) (by simp))
        have T3 := Lib.hid (TR.out wD HUD.out)
        obtain ⟨BY, hBY⟩ : ∃ BY, BY = w9.heap.size := ⟨_, rfl⟩
        rw [← hBY] at HCD
        clear T2 hu9 uD s3 s4 og9 gg9 x0 x1 x2 x3 y0 y1 y2 y3
        go_upto_region 14 with (fail)
        rw [← hwD, ← hBY]
        clear hwD hBY
        go_wp2_with fail
        refine T3.out.mono ?_
        rintro e w10 ⟨⟨v10, rfl, gp10, s5, og10, gg10⟩, hu10⟩
        have HDU := Lib.hid hu10
        have HU10 := Lib.hid (HUD.out.trans hu10)
        have HS5 := Lib.hid (fun W (hu : Upd [] w10 W) => R_N2k.upd s5 hu (by simp))
        obtain ⟨x0, x1, x2, x3⟩ := HCB.out w10 (HBD.out.trans hu10)
        obtain ⟨y0, y1, y2, y3⟩ := HCD.out w10 hu10
        have T4 := Lib.hid (CI.out _ _ _ _ v10 w10 k1 k2 k3 k4 gp10 (HS1.out w10 (HBD.out.trans hu10)) (HS2.out w10 (HBD.out.trans hu10)) (HS3.out w10 hu10) (HS4.out w10 hu10) s5 HU10.out)
        clear T3 hu10 s5 og10 gg10 CI
        go_wp2_with fail
        refine T4.out.mono ?_
        rintro e w11 ⟨rfl, hu11⟩
        have HDU11 := Lib.hid (HDU.out.trans hu11)
        have HU11 := Lib.hid (HU10.out.trans hu11)
        have HR11 := Lib.hid hu11
        obtain ⟨x0, x1, x2, x3⟩ := HCB.out w11 (HBD.out.trans HDU11.out)
        obtain ⟨⟨y0, y1, y2, y3⟩, -⟩ := HC.out w11 HU11.out
        have EA := Lib.hid (fun W (hu : Upd [] wB W) (a : Value) (f : List Nat) (h : R_L1 f W [a] A) => eq_Lts _ a A W _ f (show R_L1 (k1 ++ k2) W [.agg #[ei A.st, ei A.ini, (.slice p1a A.labs.length p1c), (.slice p2a A.eds.length p2c)]] A from ⟨_, _, k1, k2, rfl, HS1.out W hu, HS2.out W hu, rfl⟩) h)
        have EB := Lib.hid (fun W (hu : Upd [] wD W) (a : Value) (f : List Nat) (h : R_L1 f W [a] B) => eq_Lts _ a B W _ f (show R_L1 (k3 ++ k4) W [.agg #[ei B.st, ei B.ini, (.slice q1a B.labs.length q1c), (.slice q2a B.eds.length q2c)]] B from ⟨_, _, k3, k4, rfl, HS3.out W hu, HS4.out W hu, rfl⟩) h)
        clear T4 hu11 HU10 HDU
        go_wp2_with fail
        go_region_held3 (fun w' => w'.cell? ⟨BX, 0, none⟩ = some (ei A.st) ∧ w'.cell? ⟨BX, 1, none⟩ = some (ei A.ini) ∧ w'.cell? ⟨BX, 2, none⟩ = some (.slice p1a A.labs.length p1c) ∧ w'.cell? ⟨BX, 3, none⟩ = some (.slice p2a A.eds.length p2c) ∧ w'.cell? ⟨AA, 0, none⟩ = some (ei A.st) ∧ w'.cell? ⟨AA, 1, none⟩ = some (ei A.ini) ∧ w'.cell? ⟨AA, 2, none⟩ = some a1 ∧ w'.cell? ⟨AA, 3, none⟩ = some a2) (go_keep)
          (first
            | ((go_at_call 10); (with_reducible refine (TA.out _ (HU11.out.drew)).mono ?_); rintro e w12 ⟨⟨v12, rfl, gp12, hr12, og12, gg12⟩, hu12⟩; have x0' := hu12.keep x0; have x1' := hu12.keep x1; have x2' := hu12.keep x2; have x3' := hu12.keep x3; have y0' := hu12.keep y0; have y1' := hu12.keep y1; have y2' := hu12.keep y2; have y3' := hu12.keep y3)
            | ((go_at_call 13); (with_reducible refine (EA.out _ (((HBD.out.trans HDU11.out).drew).trans hu12) _ _ hr12).mono ?_); rintro e w13 ⟨rfl, hu13⟩; have z0' := hu13.keep x0'; have z1' := hu13.keep x1'; have z2' := hu13.keep x2'; have z3' := hu13.keep x3'; have m0' := hu13.keep y0'; have m1' := hu13.keep y1'; have m2' := hu13.keep y2'; have m3' := hu13.keep y3'))
        have HDU13 := Lib.hid (((HDU11.out.drew).trans hu12).trans hu13)
        have HU13 := Lib.hid (((HU11.out.drew).trans hu12).trans hu13)
        have HR13 := Lib.hid (((HR11.out.drew).trans hu12).trans hu13)
        clear EA hu12 hu13 hr12 og12 gg12 HU11 HDU11 HR11
        obtain ⟨x0, x1, x2, x3⟩ := HCD.out w13 HDU13.out
        obtain ⟨-, ⟨y0, y1, y2, y3⟩⟩ := HC.out w13 HU13.out
        generalize w13 = wy at *
        go_wp2_with fail
        go_region_held3 (fun w' => w'.cell? ⟨BY, 0, none⟩ = some (ei B.st) ∧ w'.cell? ⟨BY, 1, none⟩ = some (ei B.ini) ∧ w'.cell? ⟨BY, 2, none⟩ = some (.slice q1a B.labs.length q1c) ∧ w'.cell? ⟨BY, 3, none⟩ = some (.slice q2a B.eds.length q2c) ∧ w'.cell? ⟨AA + 1, 0, none⟩ = some (ei B.st) ∧ w'.cell? ⟨AA + 1, 1, none⟩ = some (ei B.ini) ∧ w'.cell? ⟨AA + 1, 2, none⟩ = some b1 ∧ w'.cell? ⟨AA + 1, 3, none⟩ = some b2) (go_keep)
          (first
            | ((go_at_call 10); (with_reducible refine (TB.out _ (HU13.out.drew)).mono ?_); rintro e w14 ⟨⟨v14, rfl, gp14, hr14, og14, gg14⟩, hu14⟩; have x0' := hu14.keep x0; have x1' := hu14.keep x1; have x2' := hu14.keep x2; have x3' := hu14.keep x3; have y0' := hu14.keep y0; have y1' := hu14.keep y1; have y2' := hu14.keep y2; have y3' := hu14.keep y3)
            | ((go_at_call 13); (with_reducible refine (EB.out _ ((HDU13.out.drew).trans hu14) _ _ hr14).mono ?_); rintro e w15 ⟨rfl, hu15⟩; have z0' := hu15.keep x0'; have z1' := hu15.keep x1'; have z2' := hu15.keep x2'; have z3' := hu15.keep x3'; have m0' := hu15.keep y0'; have m1' := hu15.keep y1'; have m2' := hu15.keep y2'; have m3' := hu15.keep y3'))
        have HU15 := Lib.hid (((HU13.out.drew).trans hu14).trans hu15)
        have HR15 := Lib.hid (((HR13.out.drew).trans hu14).trans hu15)
        clear EB hu14 hu15 hr14 og14 gg14 HU13 HR13 HDU13
        have T5 := Lib.hid (TR.out w15 HU15.out)
        generalize w15 = wx at *
        go_wp2_with fail
        refine T5.out.mono ?_
        rintro e w16 ⟨⟨v16, rfl, gp16, s6, og16, gg16⟩, hu16⟩
        have T6 := Lib.hid (eq_N2 v10 v16 R R w16 gp10 gp16 (HS5.out w16 (HR15.out.trans hu16)) s6)
        rw [beq_refl_true] at T6
        have HU16 := Lib.hid (HU15.out.trans hu16)
        clear T5 hu16 s6 og16 gg16
        go_wp2_with fail
        refine T6.out.mono ?_
        rintro e w17 ⟨rfl, hu17⟩
        have HU17 := Lib.hid (UA.out.trans (HU16.out.trans hu17))
        clear T6 hu17
        go_wp2_with fail
        go_ret
        exact ⟨rfl, HU17.out⟩

end Go.Proofs.YtcnaapiljmgfoaaGreatDoor

/-
  The form's reading of texts and lists of texts.
-/
namespace Go.Proofs.YtcnaapiljmgfoaaGreatDoor
open Go.RowKit Go.ChangeShapes Go.WideShapes Go.Deep

theorem opens_S1 : Opens Tryz.prog 22 R_S1 (fun xs => ∀ p ∈ xs, p.length ≤ maxLen) :=
  opens_slF1 Tryz.underlying22 (by kernel_rfl) (by
    intro H enc w fuel v x hx
    obtain ⟨s, hv, -, hs⟩ := DataW.trod_string Tryz.underlying9 hx
    simp at hv
    exact ⟨s.data.toList, hv, hs⟩)
theorem strs_of {xs : List (List UInt8)} (h : ∀ p ∈ xs, p.length ≤ maxLen) : strsOk xs := fun p hp => by
  have := h p hp
  simp only [maxLen] at this
  omega
theorem str_len {H : Type} {enc : TypeId × Value → H} {w : World} {t : TypeId} {l : List UInt8} {d : DataW H} {ps : List MemPlace} (ht : Tryz.prog.underlying t = some .string)
    (h : DataW.Trod enc Tryz.prog w 0 (fun _ => true) true t (.string ⟨l.toArray⟩) d ps) : l.length ≤ 9223372036854775807 := by
  obtain ⟨fuel, hf⟩ := h
  obtain ⟨s, hv, -, hs⟩ := DataW.trod_string ht hf
  simp [Value.cells] at hv
  subst hv
  have h2 : (⟨l.toArray⟩ : ByteArray).size = l.length := rfl
  rw [h2] at hs
  simp only [maxLen] at hs
  omega

end Go.Proofs.YtcnaapiljmgfoaaGreatDoor

/-
  The form's reading of systems.
-/
namespace Go.Proofs.YtcnaapiljmgfoaaGreatDoor
open Go.RowKit Go.ChangeShapes Go.WideShapes Go.Deep

theorem cells3 {w : World} {a : Addr} {cs : List Value} (h : w.cells? 0 a 3 = some cs) : ∃ c0 c1 c2, cs = [c0, c1, c2] ∧ w.cell? a = some c0 ∧ w.cell? (a.add 1) = some c1 ∧ w.cell? (a.add 2) = some c2 := by
  rw [World.cells?, if_pos (Nat.zero_le _), show List.range 3 = [0, 1, 2] from rfl] at h
  simp only [List.mapM_cons, List.mapM_nil, Addr.add, if_true] at h
  cases h0 : w.cell? a with
  | none => simp [h0] at h
  | some c0 =>
    cases h1 : w.cell? (a.add 1) with
    | none => simp [Addr.add] at h1; simp [h0, h1] at h
    | some c1 =>
      cases h2 : w.cell? (a.add 2) with
      | none => simp [Addr.add] at h1 h2; simp [h0, h1, h2] at h
      | some c2 =>
        refine ⟨c0, c1, c2, ?_, rfl, rfl, rfl⟩
        simp [Addr.add] at h1 h2
        simpa [h0, h1, h2] using h.symm

/-- slices of structs of three plain fields. -/
theorem opens_slF3 {α : Type} {P : Program} {t e : TypeId} {e1 e2 e3 : α → Value} {φ : α → Prop} (ht : P.underlying t = some (.slice e)) (hc : P.cellsOf e = 3)
    (h : ∀ {H : Type} {enc : TypeId × Value → H} {w : World} {fuel : Nat} {u v z : Value} {x : DataW H × List MemPlace}, DataW.trod enc P w 0 (fun _ => true) true fuel e [u, v, z] = some x → ∃ a, u = e1 a ∧ v = e2 a ∧ z = e3 a ∧ φ a) :
    Opens P t (slF 3 (fun x => [e1 x, e2 x, e3 x])) (fun xs => ∀ x ∈ xs, φ x) := by
  intro H enc w fuel cs x hx
  rcases open_slice ht hx with ⟨rfl, -⟩ | ⟨a, len, cap, m, n, D, Pl, rfl, -, hl, hm, hmm, -, hel⟩
  · exact ⟨[], [], ⟨_, rfl, flat_nil w 3⟩, by simp⟩
  · have hlm : len ≤ m := by subst hmm; simpa using hl
    rw [hc] at hel
    obtain ⟨l, hll, hlq⟩ := list_choice (fun i (y : α) => w.cell? (a.add (i * 3)) = some (e1 y) ∧ w.cell? ((a.add (i * 3)).add 1) = some (e2 y) ∧ w.cell? ((a.add (i * 3)).add 2) = some (e3 y) ∧ φ y) len (fun i hi => by
      obtain ⟨cs', h1, h2⟩ := hel i (by omega)
      obtain ⟨c0, c1, c2, rfl, g0, g1, g2⟩ := cells3 h1
      obtain ⟨y, rfl, rfl, rfl, hy⟩ := h h2
      exact ⟨y, g0, g1, g2, hy⟩)
    by_cases h0 : len = 0
    · subst h0
      obtain rfl : l = [] := List.eq_nil_of_length_eq_zero hll
      exact ⟨[], [], ⟨_, rfl, some a, cap, rfl, hl, hm, by simp, Or.inl ⟨rfl, rfl⟩⟩, by simp⟩
    · have hc0 := (hlq 0 l[0] (by simp)).1
      have hs : a.spot = none := by simpa [Addr.add] using World.cell?_spot hc0
      obtain ⟨b, off, spot⟩ := a
      simp at hs
      subst hs
      refine ⟨l, [b], ⟨_, rfl, some ⟨b, off, none⟩, cap, by rw [hll], by omega, hm, by rw [flatMap_three_length], Or.inr ⟨b, off, rfl, rfl, ?_, fun j u hu => ?_⟩⟩, fun x hx => ?_⟩
      · exact World.block_lt_of_cell? w ⟨b, off, none⟩ (by simpa [Addr.add] using hc0)
      · have hj : j < l.length * 3 := by rw [← flatMap_three_length e1 e2 e3]; exact (List.getElem?_eq_some_iff.1 hu).1
        have hi : j / 3 < l.length := by omega
        obtain ⟨g1, g2, g3⟩ := flatMap_three_get e1 e2 e3 l (j / 3) hi
        obtain ⟨q1, q2, q3, -⟩ := hlq (j / 3) l[j / 3] (by simp)
        have ha : (⟨b, off, none⟩ : Addr).add (j / 3 * 3) = ⟨b, off + j / 3 * 3, none⟩ := by simp only [Addr.add]; split <;> simp_all
        rw [ha] at q1 q2 q3
        have hmod : j % 3 = 0 ∨ j % 3 = 1 ∨ j % 3 = 2 := by omega
        rcases hmod with hmod | hmod | hmod
        · have e : j / 3 * 3 = j := by omega
          rw [e] at g1 q1
          rw [g1] at hu; cases hu; exact q1
        · have e : j / 3 * 3 + 1 = j := by omega
          rw [e] at g2
          rw [g2] at hu; cases hu
          simp [Addr.add] at q2
          rw [show off + j = off + j / 3 * 3 + 1 from by omega]; exact q2
        · have e : j / 3 * 3 + 2 = j := by omega
          rw [e] at g3
          rw [g3] at hu; cases hu
          simp [Addr.add] at q3
          rw [show off + j = off + j / 3 * 3 + 2 from by omega]; exact q3
      · obtain ⟨i, hi, rfl⟩ := List.mem_iff_getElem.1 hx
        exact (hlq i _ (by simp)).2.2.2

theorem opens_E1 : Opens Tryz.prog 23 R_E1 (fun xs => ∀ x ∈ xs, True) :=
  opens_slF3 Tryz.underlying23 (by kernel_rfl) (by
    intro H enc w fuel u v z x hx
    obtain ⟨y0, y1, y2, n, -, -, h0, h1, h2⟩ := trod_struct3 Tryz.underlying80 hx
    obtain ⟨a, e0, -, -⟩ := DataW.trod_int Tryz.underlying2 h0
    obtain ⟨b, e1, -, -⟩ := DataW.trod_int Tryz.underlying2 h1
    obtain ⟨c, e2, -, -⟩ := DataW.trod_int Tryz.underlying2 h2
    have c1 : Tryz.prog.cellsOf 2 = 1 := by kernel_rfl
    simp [c1] at e0 e1 e2
    exact ⟨⟨a, b, c⟩, e0, e1, e2, trivial⟩)

theorem open_L1 {H : Type} {enc : TypeId × Value → H} {w : World} {v : Value} {d : DataW H} {ps : List MemPlace} (hv : ∃ cs, v = .agg cs ∧ cs.size = Tryz.prog.cellsOf 25)
    (hd : DataW.Trod enc Tryz.prog w 0 (fun _ => true) true 25 v d ps) : ∃ x fp, R_L1 fp w [v] x ∧ strsOk x.labs := by
  obtain ⟨cs, rfl, hcs⟩ := hv
  rw [show Tryz.prog.cellsOf 25 = 4 by kernel_rfl] at hcs
  obtain ⟨l, rfl⟩ : ∃ l : List Value, cs = l.toArray := ⟨cs.toList, by simp⟩
  match l, hcs with
  | [a, b, c, e], _ =>
    obtain ⟨fuel, hf⟩ := hd
    obtain ⟨y0, y1, y2, y3, n, -, -, h0, h1, h2, h3⟩ := Go.Joins.trod_struct4 Tryz.underlying25 hf
    obtain ⟨s, e0, -, -⟩ := DataW.trod_int Tryz.underlying2 h0
    obtain ⟨i, e1, -, -⟩ := DataW.trod_int Tryz.underlying2 h1
    have c1 : Tryz.prog.cellsOf 2 = 1 := by kernel_rfl
    have c2 : Tryz.prog.cellsOf 22 = 1 := by kernel_rfl
    have c3 : Tryz.prog.cellsOf 23 = 1 := by kernel_rfl
    simp [c1, c2, c3, Value.cells] at e0 e1 h2 h3
    obtain ⟨labs, f1, r1, g1⟩ := opens_S1 h2
    obtain ⟨eds, f2, r2, -⟩ := opens_E1 h3
    exact ⟨⟨s, i, labs, eds⟩, f1 ++ f2, ⟨c, e, f1, f2, by rw [e0, e1], r1, r2, rfl⟩, strs_of g1⟩

end Go.Proofs.YtcnaapiljmgfoaaGreatDoor

/-
  What the listed variables and the world's shape give the walks of labels.
-/
namespace Go.Proofs.YtcnaapiljmgfoaaGreatDoor
open Go.RowKit Go.ChangeShapes

theorem errStar : "*" ++ "errors.errorString" = "*errors.errorString" := by decide
theorem errRow (u : TypeId) (h : Tryz.prog.typeName? 3 u = some "*errors.errorString") : u = 227 :=
  typeName_ptr_named (nm := "errors.errorString") (by rw [errStar]; kernel_rfl) (by kernel_rfl) (by decide) u (by rw [errStar]; exact h)

theorem env_of {W : World} {r1 r2 r3 : List (String × DataW Unit)} {d : DataW Unit} {x1 x2 : List UInt8} (hd : d = Lib.tabData .u64 Lib.pow10Tab)
    (h1 : laidMet Tryz.prog (("internal/strconv.uint64pow10", d) :: r1) W)
    (h2 : laidMet Tryz.prog (("strconv.ErrRange", .iface "*errors.errorString" (.ptr (.agg [.lit (.string x1)]))) :: r2) W)
    (h3 : laidMet Tryz.prog (("strconv.ErrSyntax", .iface "*errors.errorString" (.ptr (.agg [.lit (.string x2)]))) :: r3) W)
    (hs : W.ShapedOpen Tryz.prog) : Env W := by
  subst hd
  refine ⟨?_, ?_, ?_, ?_⟩
  · exact cell_of_shapedOpen_int (g := 0) (zero := #[.int .i64 0]) (t := 3) hs (of_decide_eq_true (by kernel_rfl)) (by kernel_rfl) rfl (by kernel_rfl) (by kernel_rfl) Tryz.underlying3
  · exact Lib.tabIs_of_head (g := 5) (t := 231) (e := 164) (n := 20) (by kernel_rfl) (by kernel_rfl) Tryz.underlying231 Tryz.underlying164 (by kernel_rfl) (by kernel_rfl) h1
  · obtain ⟨a, s, hv, -⟩ := laid_sentinel (g := 1) (ti := 180) (tp := 227) (te := 229) (ts := 9) h3 (by kernel_rfl) (by kernel_rfl) Tryz.underlying180 errRow Tryz.underlying227 Tryz.underlying229 rfl rfl Tryz.underlying9 (by kernel_rfl) (by kernel_rfl)
    exact ⟨_, _, hv⟩
  · obtain ⟨a, s, hv, -⟩ := laid_sentinel (g := 2) (ti := 180) (tp := 227) (te := 229) (ts := 9) h2 (by kernel_rfl) (by kernel_rfl) Tryz.underlying180 errRow Tryz.underlying227 Tryz.underlying229 rfl rfl Tryz.underlying9 (by kernel_rfl) (by kernel_rfl)
    exact ⟨_, _, hv⟩

/-- the wrap with a condition on the world, the world's shape kept. -/
theorem handed_and_shaped {H : Type} {enc : TypeId × Value → H} {a : Assume} {C : Checked} {os : Os} {f : FuncId} {fn : Func} {s : ChangeSpec} {conds : List PathCond} {apart fresh handsOn twice : Bool} {X : World → Array Value → Prop}
    (hX : ∀ (w w' : World) (args : Array Value), w.heap = w'.heap → X w args → X w' args)
    (own : ownKnob C.prog.godebug = none) (started : os.Started) (noInit : C.prog.inits.idxOf? f = none) (hfn : C.prog.funcs[f]? = some fn)
    (witness : ∃ (w : World) (tape : Tape) (i : Input), w.os = os ∧ (w.forCall tape i).Shaped C.prog ∧ i.vars = [] ∧ Input.okWide C.prog (w.forCall tape i) .any w.heap.size f i ∧
      ((s.pre enc C.prog fn conds apart (w.forCall tape i).memory i.args ∧ X (w.forCall tape i).memory i.args) ∧ sizedMet enc C.prog fn (OpenSpec.ofChange s) apart (w.forCall tape i).memory i.args) ∧ a.holds C.prog (lone (Frame.enter C.prog f i.args CallKind.normal) [] (w.forCall tape i)))
    (contract : ∀ (W : World) (base : Nat) (args : Array Value) (ds gs : List (DataW H)) (before : List MemPlace),
      (∀ (j : Nat) t v, fn.params[j]? = some t → args[j]? = some v → Value.okWide C.prog W .any base t v) →
      DataW.Whole enc C.prog fn.params.toList s.vars apart W args.toList ds gs before →
      conds.all (PathCond.test C.prog ⟨fn.params.toList, ds, s.plain.varTypes C.prog, gs⟩) = true → X W args →
      W.ShapedOpen C.prog →
      Calls C.prog f args W fun e W' => ∃ v, e = .returned v ∧ s.post enc C.prog fn apart fresh handsOn twice W args v W') :
    ReturnsInHanded a C os f .any (fun w args => (s.pre enc C.prog fn conds apart w args ∧ X w args) ∧ sizedMet enc C.prog fn (OpenSpec.ofChange s) apart w args) (s.post enc C.prog fn apart fresh handsOn twice) := by
  refine returnsInHanded_of_calls own started noInit witness ?_
  intro w tape i _ hsh _ hok hpre _
  obtain ⟨_, _, _, fn', hfn', _, _, _, _, hval⟩ := hok
  have e : fn' = fn := Option.some.inj (hfn'.symm.trans hfn)
  subst e
  obtain ⟨⟨⟨ds, gs, before, hw, hc⟩, hx⟩, hz⟩ := hpre
  have hw' := DataW.Whole.of_heap (w' := w.forCall tape i) (by rfl) hw
  refine (contract (w.forCall tape i) w.heap.size i.args ds gs before hval hw' hc (hX _ _ _ (by rfl) hx) hsh).mono fun e W' ⟨v, he, hp⟩ => ?_
  subst he
  exact ChangeSpec.post_blind hp

end Go.Proofs.YtcnaapiljmgfoaaGreatDoor
