/-
  The reference's copies of a summand and of a linear process: what the calls return and make.
-/
import Derived.Test.YtnfghgaadnobbaaLib5
import Derived.Test.YtnfghgaadnobbaaLinIs
namespace Go.Proofs.Ytnfghgaadnobbaa
open Go.RowKit

/-- what bounds a copied summand. -/
def SmFit (s : Sm) : Prop := s.sums.length ≤ 2000000 ∧ s.guard.length ≤ 1000000 ∧ (s.args.length ≤ 1000000 ∧ ∀ e ∈ s.args, e.length ≤ 1000000) ∧ (s.next.length ≤ 1000000 ∧ ∀ e ∈ s.next, e.length ≤ 1000000)

/-- two pieces of memory made one behind the other, beside a block that is written. -/
theorem two_parts {α β : Type} {R0 : Rp α} {R1 : Rp β} (K0 : Kept R0) (K1 : Kept R1) {wA W0 w1 W1 w2 wx : World} {n0 n1 : Value} {x0 : α} {x1 : β} {Z : Nat} (h0 : New R0 W0 w1 n0 x0) (h1 : New R1 W1 w2 n1 x1) (hA : wA.heap.size ≤ W0.heap.size) (hW : W0.heap.size ≤ w1.heap.size) (h01 : w1.heap.size ≤ W1.heap.size) (hu : Upd [] w1 w2) (hx : Upd [Z] w2 wx)
    (hZ : Z < W0.heap.size ∨ (w1.heap.size ≤ Z ∧ Z < W1.heap.size) ∨ w2.heap.size ≤ Z) :
    ∃ g0 g1, R0 g0 wx [n0] x0 ∧ R1 g1 wx [n1] x1 ∧ Own (g0 ++ g1) wx ∧ ∀ b ∈ g0 ++ g1, wA.heap.size ≤ b ∧ b ≠ Z ∧ b < wx.heap.size := by
  obtain ⟨g0, r0, o0, b0⟩ := h0
  obtain ⟨g1, r1, o1, b1⟩ := h1
  have l0 := K0.lt r0
  have l1 := K1.lt r1
  have s1 := hu.size
  have s2 := hx.size
  have d0 : ∀ b ∈ g0, b ∉ [Z] := fun b hb h => by have := b0 b hb; have := l0 b hb; simp at h; omega
  have d1 : ∀ b ∈ g1, b ∉ [Z] := fun b hb h => by have := b1 b hb; have := l1 b hb; simp at h; omega
  refine ⟨g0, g1, K0.upd (K0.upd r0 hu (by simp)) hx d0, K1.upd r1 hx d1, own_join ((o0.upd hu (by simp)).upd hx d0) (o1.upd hx d1) (fun b hb hc => by have := l0 b hb; have := b1 b hc; omega), fun b hb => ?_⟩
  rcases List.mem_append.1 hb with hb | hb
  · have := b0 b hb; have := l0 b hb; have := d0 b hb; simp at this; omega
  · have := b1 b hb; have := l1 b hb; have := d1 b hb; simp at this; omega

abbrev zerosSm : List Value := [.slice none 0 0, .slice none 0 0, .string ⟨#[]⟩, .slice none 0 0, .slice none 0 0]
/-- a copy under way, two fields of which are made. -/
def MidS (wA wx : World) (p : Value) (x : Sm) : Prop := ∃ (Z : Nat) (a0 a1 : Option Addr) (c0 c1 : Nat) (g0 g1 : List Nat), p = .pointer (some ⟨Z, 0, none⟩) ∧ wA.heap.size ≤ Z ∧ RowAt wx Z 56 [.slice a0 x.sums.length c0, .slice a1 x.guard.length c1, es x.name, .slice none 0 0, .slice none 0 0] ∧ Upd [] wA wx ∧
  R_I1 g0 wx [.slice a0 x.sums.length c0] x.sums ∧ R_T1 g1 wx [.slice a1 x.guard.length c1] x.guard ∧ Own (g0 ++ g1) wx ∧ ∀ b ∈ g0 ++ g1, wA.heap.size ≤ b ∧ b ≠ Z ∧ b < wx.heap.size

set_option maxRecDepth 20000 in
set_option maxHeartbeats 4000000 in
theorem ownSmS (b o : Nat) (u : List Value) (x : Sm) (w : World) (f : List Nat) (hcell : ∀ (j : Nat) c, u[j]? = some c → w.cell? ⟨b, o + j, none⟩ = some c) (hR : R_Sm f w u x) (hfit : SmFit x) :
    Calls Try.prog 96 #[.pointer (some ⟨b, o, none⟩)] w fun e w' => (∃ us, e = .returned (.agg us.toArray) ∧ us.length = 5 ∧ us.toArray.all (·.oneCell') = true ∧ NewQ R_Sm w w' us x) ∧ Upd [] w w' := by
  obtain ⟨v0, v1, v3, v4, f0, f1, f3, f4, rfl, h0, h1, h3, h4, rfl⟩ := hR
  have p0 := hcell 0 _ rfl
  have p1 := hcell 1 _ rfl
  have p2 := hcell 2 _ rfl
  have p3 := hcell 3 _ rfl
  have p4 := hcell 4 _ rfl
  simp only [Nat.add_zero] at p0
  obtain ⟨q0, q1, ⟨q3, q3'⟩, ⟨q4, q4'⟩⟩ := hfit
  have S0 := Lib.hid (fun W (hu : Upd [] w W) => ownIS v0 x.sums W f0 q0 (R_I1k.upd h0 hu (by simp)))
  have S1 := Lib.hid (fun W (hu : Upd [] w W) => ownTS v1 x.guard W f1 q1 (R_T1k.upd h1 hu (by simp)))
  have S3 := Lib.hid (fun W (hu : Upd [] w W) => ownAllS v3 x.args W f3 q3 q3' (R_T2k.upd h3 hu (by simp)))
  have S4 := Lib.hid (fun W (hu : Upd [] w W) => ownAllS v4 x.next W f4 q4 q4' (R_T2k.upd h4 hu (by simp)))
  obtain ⟨B, hB⟩ : ∃ B, B = w.heap.size := ⟨_, rfl⟩
  obtain ⟨wA, hwA⟩ : ∃ wA, wA = w.alloc (.cells #[.slice none 0 0, .slice none 0 0, .string ⟨#[]⟩, .slice none 0 0, .slice none 0 0] 56) := ⟨_, rfl⟩
  have uA : Upd [] w wA := by rw [hwA]; exact (Upd.refl _ _).alloc _
  have HA := Lib.hid (show RowAt wA B 56 [.slice none 0 0, .slice none 0 0, .string ⟨#[]⟩, .slice none 0 0, .slice none 0 0] from by rw [hwA, hB]; exact RowAt.new w _ _)
  have UA := Lib.hid uA
  have a0 := uA.keep p0
  have a1 := uA.keep p1
  have a2 := uA.keep p2
  have a3 := uA.keep p3
  have a4 := uA.keep p4
  clear h0 h1 h3 h4 hcell p0 p1 p2 p3 p4 uA
  go_enter Try.func96, Try.ntmps96
  go_upto_region 1 with (fail)
  rw [← hwA, ← hB]
  have HBB := Lib.hid hB
  clear hwA hB
  have za0 : (wA.alloc (.cells #[.slice none 0 0, .slice none 0 0, .string ⟨#[]⟩, .slice none 0 0, .slice none 0 0] 56)).cell? ⟨b, o, none⟩ = some (v0) := ((Upd.refl [] wA).alloc _).keep a0
  have za1 : (wA.alloc (.cells #[.slice none 0 0, .slice none 0 0, .string ⟨#[]⟩, .slice none 0 0, .slice none 0 0] 56)).cell? ⟨b, o + 1, none⟩ = some (v1) := ((Upd.refl [] wA).alloc _).keep a1
  have za2 : (wA.alloc (.cells #[.slice none 0 0, .slice none 0 0, .string ⟨#[]⟩, .slice none 0 0, .slice none 0 0] 56)).cell? ⟨b, o + 2, none⟩ = some (es x.name) := ((Upd.refl [] wA).alloc _).keep a2
  have hblA := World.block_lt_of_cell? _ _ a0
  go_cut [3] (fun p wx => MidS wA wx p x)
  case first =>
    go_region_held3 (fun w' => w'.cell? ⟨b, o, none⟩ = some v0 ∧ w'.cell? ⟨b, o + 1, none⟩ = some v1 ∧ w'.cell? ⟨b, o + 2, none⟩ = some (es x.name)) (first | go_keep | (go_split_ands; refine ⟨?_, ?_, ?_⟩ <;> (rw [World.cell?_setCell_other _ _ _ _ (by intro h; simp only [Addr.mk.injEq] at h; omega), World.cell?_setCell_other _ _ _ _ (by intro h; simp only [Addr.mk.injEq] at h; omega), World.cell?_setCell_other _ _ _ _ (by intro h; simp only [Addr.mk.injEq] at h; omega), World.cell?_setCell_other _ _ _ _ (by intro h; simp only [Addr.mk.injEq] at h; omega), World.cell?_setCell_other _ _ _ _ (by intro h; simp only [Addr.mk.injEq] at h; omega)]; first | assumption | (exact ((Upd.refl [] _).alloc _).keep (by assumption)) | simp [*])))
      (first
        | (go_at_call 36; (with_reducible refine (S0.out (wA.alloc (.cells #[.slice none 0 0, .slice none 0 0, .string ⟨#[]⟩, .slice none 0 0, .slice none 0 0] 56)).drew ((UA.out.alloc _).drew)).mono ?_); rintro e w1 ⟨⟨n0, rfl, hn0⟩, hu1⟩; obtain ⟨x0, y0, rfl⟩ := hn0.form; have hw1 : Upd [] wA w1 := (((Upd.refl [] wA).alloc _).drew).trans hu1; have b0 := hw1.keep a0; have hbl1 := World.block_lt_of_cell? _ _ b0; have b1 := hw1.keep a1; have b2 := hw1.keep a2; have rz : RowAt w1 wA.heap.size 56 zerosSm := (RowAt.new wA _ zerosSm).upd (((Upd.refl [] _).drew).trans hu1) (by simp); have cz0 := rz.cell 0 _ rfl; have fz0 := rz.fz 0; have cz1 := rz.cell 1 _ rfl; have fz1 := rz.fz 1; have cz2 := rz.cell 2 _ rfl; have fz2 := rz.fz 2; have cz3 := rz.cell 3 _ rfl; have fz3 := rz.fz 3; have cz4 := rz.cell 4 _ rfl; have fz4 := rz.fz 4; skip)
        | (go_at_call 36; (with_reducible refine (S0.out wA.drew UA.out.drew).mono ?_); rintro e w1 ⟨⟨n0, rfl, hn0⟩, hu1⟩; obtain ⟨x0, y0, rfl⟩ := hn0.form; have hw1 : Upd [] wA w1 := ((Upd.refl [] wA).drew).trans hu1; have b0 := hw1.keep a0; have hbl1 := World.block_lt_of_cell? _ _ b0; have b1 := hw1.keep a1; have b2 := hw1.keep a2; skip)
        | (go_at_call 76; (with_reducible refine (S1.out (w1.alloc (.cells #[.slice none 0 0, .slice none 0 0, .string ⟨#[]⟩, .slice none 0 0, .slice none 0 0] 56)) ((UA.out.trans hw1).alloc _)).mono ?_); rintro e w2 ⟨⟨n1, rfl, hn1⟩, hu2⟩; obtain ⟨x1, y1, rfl⟩ := hn1.form; have hw2 : Upd [] wA w2 := (hw1.alloc _).trans hu2; have d0 := hw2.keep a0; have hbl2 := World.block_lt_of_cell? _ _ d0; have d1 := hw2.keep a1; have d2 := hw2.keep a2; have rz2 : RowAt w2 w1.heap.size 56 zerosSm := (RowAt.new w1 _ zerosSm).upd hu2 (by simp); have cz0 := rz2.cell 0 _ rfl; have fz0 := rz2.fz 0; have cz1 := rz2.cell 1 _ rfl; have fz1 := rz2.fz 1; have cz2 := rz2.cell 2 _ rfl; have fz2 := rz2.fz 2; have cz3 := rz2.cell 3 _ rfl; have fz3 := rz2.fz 3; have cz4 := rz2.cell 4 _ rfl; have fz4 := rz2.fz 4; skip)
        | (go_at_call 76; (with_reducible refine (S1.out w1 (UA.out.trans hw1)).mono ?_); rintro e w2 ⟨⟨n1, rfl, hn1⟩, hu2⟩; obtain ⟨x1, y1, rfl⟩ := hn1.form; have hw2 : Upd [] wA w2 := hw1.trans hu2; have d0 := hw2.keep a0; have hbl2 := World.block_lt_of_cell? _ _ d0; have d1 := hw2.keep a1; have d2 := hw2.keep a2; have rz3 : RowAt w2 wA.heap.size 56 zerosSm := rz.upd hu2 (by simp); have cz0 := rz3.cell 0 _ rfl; have fz0 := rz3.fz 0; have cz1 := rz3.cell 1 _ rfl; have fz1 := rz3.fz 1; have cz2 := rz3.cell 2 _ rfl; have fz2 := rz3.fz 2; have cz3 := rz3.cell 3 _ rfl; have fz3 := rz3.fz 3; have cz4 := rz3.cell 4 _ rfl; have fz4 := rz3.fz 4; skip)
        | (go_at_call 76; (with_reducible refine (S1.out w1 (UA.out.trans hw1)).mono ?_); rintro e w2 ⟨⟨n1, rfl, hn1⟩, hu2⟩; obtain ⟨x1, y1, rfl⟩ := hn1.form; have hw2 : Upd [] wA w2 := hw1.trans hu2; have d0 := hw2.keep a0; have hbl2 := World.block_lt_of_cell? _ _ d0; have d1 := hw2.keep a1; have d2 := hw2.keep a2; skip))
    all_goals
      go_wp2_with fail
      go_meet
      first
        | (obtain ⟨g0, g1, r0, r1, ow, bd⟩ := two_parts (wA := wA) R_I1k R_T1k hn0 hn1 (Nat.le_refl _) hu1.size (Nat.le_refl _) hu2 ((Upd.refl [w2.heap.size] w2).alloc (.cells #[.slice x0 x.sums.length y0, .slice x1 x.guard.length y1, es x.name, .slice none 0 0, .slice none 0 0] 56)) (Or.inr (Or.inr (Nat.le_refl _))); exact ⟨w2.heap.size, x0, x1, y0, y1, g0, g1, rfl, hw2.size, RowAt.new w2 _ [.slice x0 x.sums.length y0, .slice x1 x.guard.length y1, es x.name, .slice none 0 0, .slice none 0 0], hw2.alloc _, r0, r1, ow, bd⟩)
        | (obtain ⟨g0, g1, r0, r1, ow, bd⟩ := two_parts (wA := wA) R_I1k R_T1k hn0 hn1 (Nat.le_refl _) hu1.size (by simp) (((Upd.refl [] w1).alloc _).trans hu2) ((((((Upd.refl [w1.heap.size] w2).setCell (p := ⟨w1.heap.size, 0, none⟩) (Or.inr (by simp)) (.slice x0 x.sums.length y0)).setCell (p := ⟨w1.heap.size, 1, none⟩) (Or.inr (by simp)) (.slice x1 x.guard.length y1)).setCell (p := ⟨w1.heap.size, 2, none⟩) (Or.inr (by simp)) (es x.name)).setCell (p := ⟨w1.heap.size, 3, none⟩) (Or.inr (by simp)) (.slice none 0 0)).setCell (p := ⟨w1.heap.size, 4, none⟩) (Or.inr (by simp)) (.slice none 0 0)) (Or.inr (Or.inl ⟨Nat.le_refl _, by simp⟩)); exact ⟨w1.heap.size, x0, x1, y0, y1, g0, g1, rfl, by first | exact Nat.le_refl _ | exact hw1.size, (((((rz2.store 0 (.slice x0 x.sums.length y0)).store 1 (.slice x1 x.guard.length y1)).store 2 (es x.name)).store 3 (.slice none 0 0)).store 4 (.slice none 0 0)), hw2.fresh ((((((Upd.refl [w1.heap.size] w2).setCell (p := ⟨w1.heap.size, 0, none⟩) (Or.inr (by simp)) (.slice x0 x.sums.length y0)).setCell (p := ⟨w1.heap.size, 1, none⟩) (Or.inr (by simp)) (.slice x1 x.guard.length y1)).setCell (p := ⟨w1.heap.size, 2, none⟩) (Or.inr (by simp)) (es x.name)).setCell (p := ⟨w1.heap.size, 3, none⟩) (Or.inr (by simp)) (.slice none 0 0)).setCell (p := ⟨w1.heap.size, 4, none⟩) (Or.inr (by simp)) (.slice none 0 0)) (by intro c hc; simp at hc; subst hc; left; first | exact Nat.le_refl _ | exact hw1.size), r0, r1, ow, bd⟩)
        | (obtain ⟨g0, g1, r0, r1, ow, bd⟩ := two_parts (wA := wA) R_I1k R_T1k hn0 hn1 (by simp) hu1.size (Nat.le_refl _) hu2 ((((((Upd.refl [wA.heap.size] w2).setCell (p := ⟨wA.heap.size, 0, none⟩) (Or.inr (by simp)) (.slice x0 x.sums.length y0)).setCell (p := ⟨wA.heap.size, 1, none⟩) (Or.inr (by simp)) (.slice x1 x.guard.length y1)).setCell (p := ⟨wA.heap.size, 2, none⟩) (Or.inr (by simp)) (es x.name)).setCell (p := ⟨wA.heap.size, 3, none⟩) (Or.inr (by simp)) (.slice none 0 0)).setCell (p := ⟨wA.heap.size, 4, none⟩) (Or.inr (by simp)) (.slice none 0 0)) (Or.inl (by simp)); exact ⟨wA.heap.size, x0, x1, y0, y1, g0, g1, rfl, by first | exact Nat.le_refl _ | exact hw1.size, (((((rz3.store 0 (.slice x0 x.sums.length y0)).store 1 (.slice x1 x.guard.length y1)).store 2 (es x.name)).store 3 (.slice none 0 0)).store 4 (.slice none 0 0)), hw2.fresh ((((((Upd.refl [wA.heap.size] w2).setCell (p := ⟨wA.heap.size, 0, none⟩) (Or.inr (by simp)) (.slice x0 x.sums.length y0)).setCell (p := ⟨wA.heap.size, 1, none⟩) (Or.inr (by simp)) (.slice x1 x.guard.length y1)).setCell (p := ⟨wA.heap.size, 2, none⟩) (Or.inr (by simp)) (es x.name)).setCell (p := ⟨wA.heap.size, 3, none⟩) (Or.inr (by simp)) (.slice none 0 0)).setCell (p := ⟨wA.heap.size, 4, none⟩) (Or.inr (by simp)) (.slice none 0 0)) (by intro c hc; simp at hc; subst hc; left; first | exact Nat.le_refl _ | exact hw1.size), r0, r1, ow, bd⟩)
  case rest =>
    obtain ⟨Z, x0, x1, y0, y1, g0, g1, rfl, hZA, hrow, hU, r0, r1, ow, bd⟩ := hcut
    obtain ⟨wq, rfl⟩ : ∃ wq : World, wq = wc := ⟨_, rfl⟩
    have p3 := hU.keep a3
    have p4 := hU.keep a4
    have hBA : B < wA.heap.size := HA.out.lt
    have HQ := Lib.hid (And.intro (And.intro r0 r1) (And.intro ow bd))
    have HU := Lib.hid hU
    have T3 := Lib.hid (S3.out wq (UA.out.trans hU))
    have HR := Lib.hid hrow
    clear za0 za1 za2 a0 a1 a2 a3 a4 r0 r1 ow bd hU hrow S0 S1 S3
    go_wp2_with fail
    refine T3.out.mono ?_
    rintro e w3 ⟨⟨n3, rfl, hn3⟩, hu3⟩
    obtain ⟨x3, y3, rfl⟩ := hn3.formP
    have hr3 := HR.out.upd hu3 (by simp)
    have c3 := hr3.cell 3 _ rfl
    have z3 := hr3.fz 3
    have HN3 := Lib.hid hn3
    have HU3 := Lib.hid hu3
    have H3 := Lib.hid hr3
    have p4 := hu3.keep p4
    obtain ⟨W3, hW3⟩ : ∃ W3, W3 = w3.setCell ⟨Z, 3, none⟩ (.slice x3 x.args.length y3) := ⟨_, rfl⟩
    have hZb : b ≠ Z := by
      have := hblA
      have : b < wA.heap.size := hblA
      omega
    have p4' : W3.cell? ⟨b, o + 4, none⟩ = some v4 := by rw [hW3, World.cell?_setCell_other _ _ _ _ (by intro h; simp only [Addr.mk.injEq] at h; omega)]; exact p4
    clear p3 hn3 hr3 hu3 T3
    go_upto_region 3 with (fail)
    rw [← hW3]
    have hr4 : RowAt W3 Z 56 [.slice x0 x.sums.length y0, .slice x1 x.guard.length y1, es x.name, .slice x3 x.args.length y3, .slice none 0 0] := by rw [hW3]; exact H3.out.store 3 _
    have D3 := Lib.hid (show Upd [Z] w3 W3 from by rw [hW3]; exact (Upd.refl _ _).setCell (Or.inr (by simp)) _)
    have hUW3 : Upd [] wA W3 := (HU.out.trans HU3.out).fresh D3.out (by intro c hc; simp at hc; subst hc; exact Or.inl hZA)
    have T4 := Lib.hid (S4.out W3 (UA.out.trans hUW3))
    have H4 := Lib.hid (And.intro hr4 hUW3)
    clear hW3 p4 c3 z3 S4 hr4 hUW3
    go_wp2_with fail
    refine T4.out.mono ?_
    rintro e w4 ⟨⟨n4, rfl, hn4⟩, hu4⟩
    obtain ⟨x4, y4, rfl⟩ := hn4.formP
    have hr4 := H4.out.1.upd hu4 (by simp)
    have c4 := hr4.cell 4 _ rfl
    have z4 := hr4.fz 4
    have HN4 := Lib.hid hn4
    have HU4 := Lib.hid hu4
    have H5 := Lib.hid hr4
    obtain ⟨W4, hW4⟩ : ∃ W4, W4 = w4.setCell ⟨Z, 4, none⟩ (.slice x4 x.next.length y4) := ⟨_, rfl⟩
    clear p4' hn4 hr4 hu4 T4
    go_upto_region 4 with (fail)
    rw [← hW4]
    have hr5 : RowAt W4 Z 56 [.slice x0 x.sums.length y0, .slice x1 x.guard.length y1, es x.name, .slice x3 x.args.length y3, .slice x4 x.next.length y4] := by rw [hW4]; exact H5.out.store 4 _
    have D4 := Lib.hid (show Upd [Z] w4 W4 from by rw [hW4]; exact (Upd.refl _ _).setCell (Or.inr (by simp)) _)
    have hUW4 : Upd [] wA W4 := (H4.out.2.trans HU4.out).fresh D4.out (by intro c hc; simp at hc; subst hc; exact Or.inl hZA)
    have hres := HA.out.upd hUW4 (by simp)
    unfold RowAt at hr5 hres
    have HX := Lib.hid hUW4
    clear hW4 c4 z4 hUW4
    go_wp2_with (first
      | (refine wpList_load_row rfl 56 _ rfl Z rfl 56 #[.slice x0 x.sums.length y0, .slice x1 x.guard.length y1, es x.name, .slice x3 x.args.length y3, .slice x4 x.next.length y4] (0, 0) _ hr5 Try.underlying56 rfl Sm_size ?_)
      | (refine wpList_store_row rfl 56 _ _ rfl B #[.slice x0 x.sums.length y0, .slice x1 x.guard.length y1, es x.name, .slice x3 x.args.length y3, .slice x4 x.next.length y4] rfl rfl 56 _ hres Sm_size rfl (by simp [Value.oneCell']) ?_)
      | fail)
    have hC := setRow_heap W4 B _ #[.slice x0 x.sums.length y0, .slice x1 x.guard.length y1, es x.name, .slice x3 x.args.length y3, .slice x4 x.next.length y4] _ _ hres
    refine bodyPost_ret (results_cell_row Try.results96 _ _ B 56 _ (0, 0) _ rfl hC Try.underlying56 rfl Sm_size) rfl ?_
    have hszA := UA.out.size
    have hB := HBB.out
    have UE : Upd [] w (W4.setRow B #[.slice x0 x.sums.length y0, .slice x1 x.guard.length y1, es x.name, .slice x3 x.args.length y3, .slice x4 x.next.length y4]) := (UA.out.trans HX.out).row (Or.inl (by omega)) _
    refine ⟨⟨[.slice x0 x.sums.length y0, .slice x1 x.guard.length y1, es x.name, .slice x3 x.args.length y3, .slice x4 x.next.length y4], rfl, rfl, by simp [Value.oneCell'], ?_⟩, UE⟩
    have DB : Upd [B] W4 (W4.setRow B #[.slice x0 x.sums.length y0, .slice x1 x.guard.length y1, es x.name, .slice x3 x.args.length y3, .slice x4 x.next.length y4]) := (Upd.refl _ _).row (Or.inr (by simp)) _
    obtain ⟨⟨r0, r1⟩, ow, bd⟩ := HQ.out
    obtain ⟨g3, P3⟩ := Part.of R_T2k HN3.out
    obtain ⟨g4, P4⟩ := Part.of R_T2k HN4.out
    have s3 := HU3.out.size
    have s3' := D3.out.size
    have s4 := HU4.out.size
    have s4' := D4.out.size
    have s0 := HU.out.size
    have hZq : Z < wq.heap.size := HR.out.lt
    have U4E : Upd [Z, B] w4 (W4.setRow B #[.slice x0 x.sums.length y0, .slice x1 x.guard.length y1, es x.name, .slice x3 x.args.length y3, .slice x4 x.next.length y4]) := (D4.out.mono (by simp)).trans (DB.mono (by simp))
    have U3E : Upd [Z, B] w3 (W4.setRow B #[.slice x0 x.sums.length y0, .slice x1 x.guard.length y1, es x.name, .slice x3 x.args.length y3, .slice x4 x.next.length y4]) := ((D3.out.mono (by simp)).trans (HU4.out.mono (by simp))).trans U4E
    have UQE : Upd [Z, B] wq (W4.setRow B #[.slice x0 x.sums.length y0, .slice x1 x.guard.length y1, es x.name, .slice x3 x.args.length y3, .slice x4 x.next.length y4]) := (HU3.out.mono (by simp)).trans U3E
    have hd : ∀ c ∈ g0 ++ g1, c ∉ [Z, B] := fun c hc h => by
      have := bd c hc
      simp at h; omega
    have P3 := P3.upd R_T2k U3E (by intro c hc; simp at hc; omega)
    have P4 := P4.upd R_T2k U4E (by intro c hc; simp at hc; omega)
    have ow' := ow.upd UQE hd
    obtain ⟨oa, ob, od⟩ := own_split ow'
    refine ⟨g0 ++ (g1 ++ (g3 ++ g4)), ⟨_, _, _, _, g0, g1, g3, g4, rfl, R_I1k.upd r0 UQE (fun c hc => hd c (by simp [hc])), R_T1k.upd r1 UQE (fun c hc => hd c (by simp [hc])), P3.r, P4.r, rfl⟩, ?_, ?_⟩
    · refine own_join oa (own_join ob (own_join P3.o P4.o (fun c h1 h2 => by have := P3.b c h1; have := P4.b c h2; omega)) (fun c h1 h2 => ?_)) (fun c h1 h2 => ?_)
      · have := bd c (by simp [h1])
        rcases List.mem_append.1 h2 with h2 | h2
        · have := P3.b c h2; omega
        · have := P4.b c h2; omega
      · have := bd c (by simp [h1])
        rcases List.mem_append.1 h2 with h2 | h2
        · exact od c h1 h2
        · rcases List.mem_append.1 h2 with h2 | h2
          · have := P3.b c h2; omega
          · have := P4.b c h2; omega
    · intro c hc
      simp only [List.mem_append] at hc
      rcases hc with hc | hc | hc | hc
      · have := bd c (by simp [hc]); omega
      · have := bd c (by simp [hc]); omega
      · have := P3.b c hc; omega
      · have := P4.b c hc; omega

end Go.Proofs.Ytnfghgaadnobbaa
