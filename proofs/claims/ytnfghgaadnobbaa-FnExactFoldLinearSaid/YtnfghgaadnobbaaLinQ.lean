/-
  The reference's copy of a linear process: what the call returns and makes.
-/
import Derived.Test.YtnfghgaadnobbaaLib6
import Derived.Test.YtnfghgaadnobbaaLinO
namespace Go.Proofs.Ytnfghgaadnobbaa
open Go.RowKit

abbrev zerosLn : List Value := [.int .i64 0, .slice none 0 0, .slice none 0 0]
/-- a copy under way: the numbers are made, and no summand yet. -/
def MidL (wA wx : World) (p : Value) (x : Ln) : Prop := ∃ (Z q : Nat) (a0 : Option Addr) (c0 : Nat) (g0 : List Nat), p = .pointer (some ⟨Z, 0, none⟩) ∧ wA.heap.size ≤ Z ∧ RowAt wx Z 29 [ei x.pars, .slice a0 x.start.length c0, .slice (some ⟨q, 0, none⟩) 0 0] ∧ Upd [] wA wx ∧
  wx.ownsRow wA.heap.size 56 5 (.slice (some ⟨q, 0, none⟩) 0 0) 0 [] ∧ q ≠ Z ∧ R_I1 g0 wx [.slice a0 x.start.length c0] x.start ∧ Own g0 wx ∧ ∀ b ∈ g0, wA.heap.size ≤ b ∧ b ≠ Z ∧ b ≠ q ∧ b < wx.heap.size
theorem midL_mk {wA V w1 wx : World} {x : Ln} {Z q : Nat} {a0 : Option Addr} {c0 : Nat} (hn : New R_I1 V w1 (.slice a0 x.start.length c0) x.start) (hV : wA.heap.size ≤ V.heap.size) (hx : Upd [Z] w1 wx) (hZ : wA.heap.size ≤ Z) (hq : wA.heap.size ≤ q) (hqZ : q ≠ Z)
    (h1 : Z < V.heap.size ∨ w1.heap.size ≤ Z) (h2 : q < V.heap.size ∨ w1.heap.size ≤ q) (hrow : RowAt wx Z 29 [ei x.pars, .slice a0 x.start.length c0, .slice (some ⟨q, 0, none⟩) 0 0]) (hrq : RowAt wx q 56 []) (hU : Upd [] wA wx) :
    MidL wA wx (.pointer (some ⟨Z, 0, none⟩)) x := by
  obtain ⟨g0, r0, o0, b0⟩ := hn
  have l0 := R_I1k.lt r0
  have s1 := hx.size
  have d0 : ∀ b ∈ g0, b ∉ [Z] := fun b hb h => by have := b0 b hb; have := l0 b hb; simp at h; omega
  refine ⟨Z, q, a0, c0, g0, rfl, hZ, hrow, hU, ⟨rfl, Or.inr ⟨q, 0, #[], rfl, hq, hrq, Nat.le_refl _, by simp [maxLen], by simp, by simp⟩⟩, hqZ, R_I1k.upd r0 hx d0, o0.upd hx d0, fun b hb => ?_⟩
  have := b0 b hb; have := l0 b hb; have := d0 b hb; simp at this; omega

set_option maxRecDepth 20000 in
set_option maxHeartbeats 4000000 in
theorem ownLnS (P : Nat) (v1 v2 : Value) (x : Ln) (w : World) (f1 f2 : List Nat) (hL : LnAt w P v1 v2 f1 f2 x) (hfit : ∀ s ∈ x.sms, SmFit s) (h0 : x.start.length ≤ 2000000) (h9 : x.sms.length ≤ 1000000) :
    Calls Try.prog 55 #[.pointer (some ⟨P, 0, none⟩)] w fun e w' => (∃ us, e = .returned (.agg us.toArray) ∧ us.length = 3 ∧ us.toArray.all (·.oneCell') = true ∧ NewQ R_Ln w w' us x) ∧ Upd [] w w' := by
  obtain ⟨i0, hi, hz0, hz1, hz2⟩ := info_parts Try.infoSm
  obtain ⟨p0, p1, p2, r1, r2⟩ := hL
  have S0 := Lib.hid (fun W (hu : Upd [] w W) => ownIS v1 x.start W f1 h0 (R_I1k.upd r1 hu (by simp)))
  obtain ⟨a2, cp2, rfl, l2, m2, hc⟩ := slQ_open r2
  unfold maxLen at m2
  have HC := Lib.hid hc
  have HF := Lib.hid hfit
  obtain ⟨B, hB⟩ : ∃ B, B = w.heap.size := ⟨_, rfl⟩
  obtain ⟨wA, hwA⟩ : ∃ wA, wA = w.alloc (.cells #[.int .i64 0, .slice none 0 0, .slice none 0 0] 29) := ⟨_, rfl⟩
  have uA : Upd [] w wA := by rw [hwA]; exact (Upd.refl _ _).alloc _
  have HA := Lib.hid (show RowAt wA B 29 zerosLn from by rw [hwA, hB]; exact RowAt.new w _ _)
  have UA := Lib.hid uA
  have a0 := uA.keep p0
  have a1 := uA.keep p1
  have a2' := uA.keep p2
  have hblA := World.block_lt_of_cell? _ _ a0
  clear r1 r2 hc hfit p0 p1 p2 uA
  go_enter Try.func55, Try.ntmps55
  go_upto_region 1 with (fail)
  rw [← hwA, ← hB]
  have HBB := Lib.hid hB
  clear hwA hB
  go_cut [3] (fun p wx => MidL wA wx p x)
  case first =>
    go_region_held3 (fun w' => w'.cell? ⟨P, 0, none⟩ = some (ei x.pars) ∧ w'.cell? ⟨P, 1, none⟩ = some v1) (first | go_keep | (go_split_ands; refine ⟨?_, ?_⟩ <;> (rw [World.cell?_setCell_other _ _ _ _ (by intro h; simp only [Addr.mk.injEq] at h; omega), World.cell?_setCell_other _ _ _ _ (by intro h; simp only [Addr.mk.injEq] at h; omega), World.cell?_setCell_other _ _ _ _ (by intro h; simp only [Addr.mk.injEq] at h; omega)]; first | assumption | (exact ((Upd.refl [] _).alloc _).keep (by assumption)) | (exact (((Upd.refl [] _).alloc _).alloc _).keep (by assumption)) | simp [*])))
      (first
        | (go_at_call 36; (with_reducible refine (S0.out ((wA.alloc (.cells #[.int .i64 0, .slice none 0 0, .slice none 0 0] 29)).alloc (.cells #[] 56)).drew (((UA.out.alloc _).alloc _).drew)).mono ?_); rintro e w1 ⟨⟨n0, rfl, hn0⟩, hu1⟩; obtain ⟨x0, y0, rfl⟩ := hn0.form; have hw1 : Upd [] wA w1 := ((((Upd.refl [] wA).alloc _).alloc _).drew).trans hu1; have b0 := hw1.keep a0; have hbl1 := World.block_lt_of_cell? _ _ b0; have b1 := hw1.keep a1; have rz : RowAt w1 wA.heap.size 29 zerosLn := (RowAt.new wA _ zerosLn).upd ((((Upd.refl [] _).alloc _).drew).trans hu1) (by simp); have cz0 := rz.cell 0 _ rfl; have fz0 := rz.fz 0; have cz1 := rz.cell 1 _ rfl; have fz1 := rz.fz 1; have cz2 := rz.cell 2 _ rfl; have fz2 := rz.fz 2; have re : RowAt w1 (wA.heap.size + 1) 56 [] := (show RowAt (((wA.alloc (.cells #[.int .i64 0, .slice none 0 0, .slice none 0 0] 29)).alloc (.cells #[] 56))) (wA.heap.size + 1) 56 [] from by have := RowAt.new (wA.alloc (.cells #[.int .i64 0, .slice none 0 0, .slice none 0 0] 29)) 56 []; simpa using this).upd (((Upd.refl [] _).drew).trans hu1) (by simp); skip)
        | (go_at_call 36; (with_reducible refine (S0.out ((wA.alloc (.cells #[] 56)).alloc (.cells #[.int .i64 0, .slice none 0 0, .slice none 0 0] 29)).drew (((UA.out.alloc _).alloc _).drew)).mono ?_); rintro e w1 ⟨⟨n0, rfl, hn0⟩, hu1⟩; obtain ⟨x0, y0, rfl⟩ := hn0.form; have hw1 : Upd [] wA w1 := ((((Upd.refl [] wA).alloc _).alloc _).drew).trans hu1; have b0 := hw1.keep a0; have hbl1 := World.block_lt_of_cell? _ _ b0; have b1 := hw1.keep a1; have rz : RowAt w1 (wA.heap.size + 1) 29 zerosLn := (show RowAt (((wA.alloc (.cells #[] 56)).alloc (.cells #[.int .i64 0, .slice none 0 0, .slice none 0 0] 29))) (wA.heap.size + 1) 29 zerosLn from by have := RowAt.new (wA.alloc (.cells #[] 56)) 29 zerosLn; simpa using this).upd (((Upd.refl [] _).drew).trans hu1) (by simp); have cz0 := rz.cell 0 _ rfl; have fz0 := rz.fz 0; have cz1 := rz.cell 1 _ rfl; have fz1 := rz.fz 1; have cz2 := rz.cell 2 _ rfl; have fz2 := rz.fz 2; have re : RowAt w1 wA.heap.size 56 [] := (RowAt.new wA _ []).upd ((((Upd.refl [] _).alloc _).drew).trans hu1) (by simp); skip)
        | (go_at_call 36; (with_reducible refine (S0.out (wA.alloc (.cells #[.int .i64 0, .slice none 0 0, .slice none 0 0] 29)).drew ((UA.out.alloc _).drew)).mono ?_); rintro e w1 ⟨⟨n0, rfl, hn0⟩, hu1⟩; obtain ⟨x0, y0, rfl⟩ := hn0.form; have hw1 : Upd [] wA w1 := (((Upd.refl [] wA).alloc _).drew).trans hu1; have b0 := hw1.keep a0; have hbl1 := World.block_lt_of_cell? _ _ b0; have b1 := hw1.keep a1; have rz : RowAt w1 wA.heap.size 29 zerosLn := (RowAt.new wA _ zerosLn).upd (((Upd.refl [] _).drew).trans hu1) (by simp); have cz0 := rz.cell 0 _ rfl; have fz0 := rz.fz 0; have cz1 := rz.cell 1 _ rfl; have fz1 := rz.fz 1; have cz2 := rz.cell 2 _ rfl; have fz2 := rz.fz 2; have ry : RowAt (w1.alloc (.cells #[] 56)) wA.heap.size 29 zerosLn := rz.upd ((Upd.refl [] w1).alloc _) (by simp); have yc0 := ry.cell 0 _ rfl; have yf0 := ry.fz 0; have yc1 := ry.cell 1 _ rfl; have yf1 := ry.fz 1; have yc2 := ry.cell 2 _ rfl; have yf2 := ry.fz 2; skip)
        | (go_at_call 36; (with_reducible refine (S0.out (wA.alloc (.cells #[] 56)).drew ((UA.out.alloc _).drew)).mono ?_); rintro e w1 ⟨⟨n0, rfl, hn0⟩, hu1⟩; obtain ⟨x0, y0, rfl⟩ := hn0.form; have hw1 : Upd [] wA w1 := (((Upd.refl [] wA).alloc _).drew).trans hu1; have b0 := hw1.keep a0; have hbl1 := World.block_lt_of_cell? _ _ b0; have b1 := hw1.keep a1; have re : RowAt w1 wA.heap.size 56 [] := (RowAt.new wA _ []).upd (((Upd.refl [] _).drew).trans hu1) (by simp); skip)
        | (go_at_call 36; (with_reducible refine (S0.out wA.drew (UA.out.drew)).mono ?_); rintro e w1 ⟨⟨n0, rfl, hn0⟩, hu1⟩; obtain ⟨x0, y0, rfl⟩ := hn0.form; have hw1 : Upd [] wA w1 := ((Upd.refl [] wA).drew).trans hu1; have b0 := hw1.keep a0; have hbl1 := World.block_lt_of_cell? _ _ b0; have b1 := hw1.keep a1; have ry : RowAt ((w1.alloc (.cells #[.int .i64 0, .slice none 0 0, .slice none 0 0] 29)).alloc (.cells #[] 56)) w1.heap.size 29 zerosLn := (RowAt.new w1 _ zerosLn).upd ((Upd.refl [] _).alloc _) (by simp); have yc0 := ry.cell 0 _ rfl; have yf0 := ry.fz 0; have yc1 := ry.cell 1 _ rfl; have yf1 := ry.fz 1; have yc2 := ry.cell 2 _ rfl; have yf2 := ry.fz 2; have rx : RowAt ((w1.alloc (.cells #[] 56)).alloc (.cells #[.int .i64 0, .slice none 0 0, .slice none 0 0] 29)) (w1.heap.size + 1) 29 zerosLn := (by have := RowAt.new (w1.alloc (.cells #[] 56)) 29 zerosLn; simpa using this); have xc0 := rx.cell 0 _ rfl; have xf0 := rx.fz 0; have xc1 := rx.cell 1 _ rfl; have xf1 := rx.fz 1; have xc2 := rx.cell 2 _ rfl; have xf2 := rx.fz 2; skip))
    · have hszA := hw1.size
      have hszU := hu1.size
      simp at hszU
      go_wp2_with fail
      go_meet
      exact midL_mk (Z := w1.heap.size + 1) (q := w1.heap.size) hn0 (by simp; try omega) (((Upd.refl [w1.heap.size + 1] w1).alloc _).alloc _) (by have := hw1.size; omega) (by have := hw1.size; omega) (by have := hw1.size; omega) (by first | (left; simp; done) | (left; simp; omega) | (right; omega)) (by first | (left; simp; done) | (left; simp; omega) | (right; omega)) (by have := RowAt.new (w1.alloc (.cells #[] 56)) 29 [ei x.pars, .slice x0 x.start.length y0, .slice (some ⟨w1.heap.size, 0, none⟩) 0 0]; simpa using this) ((RowAt.new w1 56 []).upd ((Upd.refl [] _).alloc _) (by simp)) ((hw1.alloc _).alloc _)
    · have hszA := hw1.size
      have hszU := hu1.size
      simp at hszU
      go_wp2_with fail
      go_meet
      exact midL_mk (Z := w1.heap.size) (q := w1.heap.size + 1) hn0 (by simp; try omega) (((Upd.refl [w1.heap.size] w1).alloc _).alloc _) (by have := hw1.size; omega) (by have := hw1.size; omega) (by have := hw1.size; omega) (by first | (left; simp; done) | (left; simp; omega) | (right; omega)) (by first | (left; simp; done) | (left; simp; omega) | (right; omega)) ((RowAt.new w1 29 [ei x.pars, .slice x0 x.start.length y0, .slice (some ⟨w1.heap.size + 1, 0, none⟩) 0 0]).upd ((Upd.refl [] _).alloc _) (by simp)) (by have := RowAt.new (w1.alloc (.cells #[ei x.pars, .slice x0 x.start.length y0, .slice (some ⟨w1.heap.size + 1, 0, none⟩) 0 0] 29)) 56 []; simpa using this) ((hw1.alloc _).alloc _)
    · have hszA := hw1.size
      have hszU := hu1.size
      simp at hszU
      go_wp2_with fail
      go_meet
      exact midL_mk (Z := w1.heap.size) (q := wA.heap.size) hn0 (by simp; try omega) ((Upd.refl [w1.heap.size] w1).alloc _) (by have := hw1.size; omega) (by have := hw1.size; omega) (by have := hw1.size; omega) (by first | (left; simp; done) | (left; simp; omega) | (right; omega)) (by first | (left; simp; done) | (left; simp; omega) | (right; omega)) (RowAt.new w1 29 [ei x.pars, .slice x0 x.start.length y0, .slice (some ⟨wA.heap.size, 0, none⟩) 0 0]) (re.upd ((Upd.refl [] w1).alloc _) (by simp)) (hw1.alloc _)
    · have hszA := hw1.size
      have hszU := hu1.size
      simp at hszU
      go_wp2_with fail
      go_meet
      exact midL_mk (Z := wA.heap.size + 1) (q := wA.heap.size) hn0 (by simp; try omega) ((((Upd.refl [wA.heap.size + 1] w1).setCell (p := ⟨wA.heap.size + 1, 0, none⟩) (Or.inr (by simp)) (ei x.pars)).setCell (p := ⟨wA.heap.size + 1, 1, none⟩) (Or.inr (by simp)) (.slice x0 x.start.length y0)).setCell (p := ⟨wA.heap.size + 1, 2, none⟩) (Or.inr (by simp)) (.slice (some ⟨wA.heap.size, 0, none⟩) 0 0)) (by have := hw1.size; omega) (by have := hw1.size; omega) (by have := hw1.size; omega) (by first | (left; simp; done) | (left; simp; omega) | (right; omega)) (by first | (left; simp; done) | (left; simp; omega) | (right; omega)) (((rz.store 0 (ei x.pars)).store 1 (.slice x0 x.start.length y0)).store 2 (.slice (some ⟨wA.heap.size, 0, none⟩) 0 0)) (((re.other (wA.heap.size + 1) 0 (ei x.pars) (by omega)).other (wA.heap.size + 1) 1 (.slice x0 x.start.length y0) (by omega)).other (wA.heap.size + 1) 2 (.slice (some ⟨wA.heap.size, 0, none⟩) 0 0) (by omega)) (hw1.fresh ((((Upd.refl [wA.heap.size + 1] w1).setCell (p := ⟨wA.heap.size + 1, 0, none⟩) (Or.inr (by simp)) (ei x.pars)).setCell (p := ⟨wA.heap.size + 1, 1, none⟩) (Or.inr (by simp)) (.slice x0 x.start.length y0)).setCell (p := ⟨wA.heap.size + 1, 2, none⟩) (Or.inr (by simp)) (.slice (some ⟨wA.heap.size, 0, none⟩) 0 0)) (by intro c hc; simp at hc; subst hc; left; omega))
    · have hszA := hw1.size
      have hszU := hu1.size
      simp at hszU
      go_wp2_with fail
      go_meet
      exact midL_mk (Z := wA.heap.size) (q := w1.heap.size) hn0 (by simp; try omega) (((((Upd.refl [wA.heap.size] w1).alloc _).setCell (p := ⟨wA.heap.size, 0, none⟩) (Or.inr (by simp)) (ei x.pars)).setCell (p := ⟨wA.heap.size, 1, none⟩) (Or.inr (by simp)) (.slice x0 x.start.length y0)).setCell (p := ⟨wA.heap.size, 2, none⟩) (Or.inr (by simp)) (.slice (some ⟨w1.heap.size, 0, none⟩) 0 0)) (by have := hw1.size; omega) (by have := hw1.size; omega) (by have := hw1.size; omega) (by first | (left; simp; done) | (left; simp; omega) | (right; omega)) (by first | (left; simp; done) | (left; simp; omega) | (right; omega)) (((ry.store 0 (ei x.pars)).store 1 (.slice x0 x.start.length y0)).store 2 (.slice (some ⟨w1.heap.size, 0, none⟩) 0 0)) ((((RowAt.new w1 56 []).other wA.heap.size 0 (ei x.pars) (by omega)).other wA.heap.size 1 (.slice x0 x.start.length y0) (by omega)).other wA.heap.size 2 (.slice (some ⟨w1.heap.size, 0, none⟩) 0 0) (by omega)) (hw1.fresh (((((Upd.refl [wA.heap.size] w1).alloc _).setCell (p := ⟨wA.heap.size, 0, none⟩) (Or.inr (by simp)) (ei x.pars)).setCell (p := ⟨wA.heap.size, 1, none⟩) (Or.inr (by simp)) (.slice x0 x.start.length y0)).setCell (p := ⟨wA.heap.size, 2, none⟩) (Or.inr (by simp)) (.slice (some ⟨w1.heap.size, 0, none⟩) 0 0)) (by intro c hc; simp at hc; subst hc; left; omega))
    · have hszA := hw1.size
      have hszU := hu1.size
      simp at hszU
      go_wp2_with fail
      go_meet
      exact midL_mk (Z := wA.heap.size) (q := wA.heap.size + 1) hn0 (by simp; try omega) ((((Upd.refl [wA.heap.size] w1).setCell (p := ⟨wA.heap.size, 0, none⟩) (Or.inr (by simp)) (ei x.pars)).setCell (p := ⟨wA.heap.size, 1, none⟩) (Or.inr (by simp)) (.slice x0 x.start.length y0)).setCell (p := ⟨wA.heap.size, 2, none⟩) (Or.inr (by simp)) (.slice (some ⟨wA.heap.size + 1, 0, none⟩) 0 0)) (by have := hw1.size; omega) (by have := hw1.size; omega) (by have := hw1.size; omega) (by first | (left; simp; done) | (left; simp; omega) | (right; omega)) (by first | (left; simp; done) | (left; simp; omega) | (right; omega)) (((rz.store 0 (ei x.pars)).store 1 (.slice x0 x.start.length y0)).store 2 (.slice (some ⟨wA.heap.size + 1, 0, none⟩) 0 0)) (((re.other wA.heap.size 0 (ei x.pars) (by omega)).other wA.heap.size 1 (.slice x0 x.start.length y0) (by omega)).other wA.heap.size 2 (.slice (some ⟨wA.heap.size + 1, 0, none⟩) 0 0) (by omega)) (hw1.fresh ((((Upd.refl [wA.heap.size] w1).setCell (p := ⟨wA.heap.size, 0, none⟩) (Or.inr (by simp)) (ei x.pars)).setCell (p := ⟨wA.heap.size, 1, none⟩) (Or.inr (by simp)) (.slice x0 x.start.length y0)).setCell (p := ⟨wA.heap.size, 2, none⟩) (Or.inr (by simp)) (.slice (some ⟨wA.heap.size + 1, 0, none⟩) 0 0)) (by intro c hc; simp at hc; subst hc; left; omega))
  case rest =>
    obtain ⟨Z, q, x0, y0, g0, rfl, hZA, hrow, hU, hown, hqZ, r0, o0, bd⟩ := hcut
    obtain ⟨wq, rfl⟩ : ∃ wq : World, wq = wc := ⟨_, rfl⟩
    have hex : ∀ c ∈ Z :: g0, c < wq.heap.size := fun c hc => by
      rcases List.mem_cons.1 hc with rfl | hc
      · exact hrow.lt
      · exact (bd c hc).2.2.2
    have hacc : AccZ 5 R_Sm wA.heap.size 56 (Z :: g0) wq (.slice (some ⟨q, 0, none⟩) 0 0) ([] : List Sm) := AccZ.start hown (fun h => by
      rcases List.mem_cons.1 h with h | h
      · exact hqZ h
      · exact (bd q h).2.2.1 rfl) hex
    have HR0 := Lib.hid hrow
    have HU0 := Lib.hid hU
    have HAC := Lib.hid hacc
    have HG := Lib.hid (And.intro r0 o0)
    have HBD := Lib.hid (show ∀ c ∈ g0, wA.heap.size ≤ c ∧ c ≠ Z from fun c hc => ⟨(bd c hc).1, (bd c hc).2.1⟩)
    have hbA := HA.out.lt
    clear hrow hU hown r0 o0 bd hacc hex S0 a0 a1
    go_wp2_with fail
    go_loopw [4] (fun iv wr => ∃ (k : Nat) (sv : Value), k ≤ x.sms.length ∧ iv = .int .i64 k ∧ Hid (Upd [] wA wr) ∧ Hid (RowAt wr Z 29 [ei x.pars, .slice x0 x.start.length y0, sv]) ∧ Hid (AccZ 5 R_Sm wA.heap.size 56 (Z :: g0) wr sv (x.sms.take k)) ∧ Hid (R_I1 g0 wr [.slice x0 x.start.length y0] x.start ∧ Own g0 wr)) (fun iv _ => x.sms.length - (intOf iv).toNat)
    case atStart => exact ⟨0, _, Nat.zero_le _, rfl, HU0, HR0, HAC, HG⟩
    case round =>
      clear HR0 HU0 HAC HG
      obtain ⟨wo, rfl⟩ : ∃ wo : World, wo = wr := ⟨_, rfl⟩
      obtain ⟨k, sv, hk, rfl, HU, HR, HAC, HG⟩ := hrel
      have c2 := HR.out.cell 2 _ rfl
      have z2 := HR.out.fz 2
      have a2 := HU.out.keep a2'
      by_cases hlt : k < x.sms.length
      · obtain ⟨b, off, u, f, rfl, -, -, -, hcell, -, hr⟩ := HC.out k hlt
        have hkl : (k : Int) < (x.sms.length : Int) := by omega
        have uw : Upd [] w wo := UA.out.trans HU.out
        have S1 := Lib.hid (ownSmS b (off + k * 5) u x.sms[k] wo.drew f (fun j c hj => (uw.drew).keep (hcell j c hj)) (R_Smk.upd hr uw.drew (by simp)) (HF.out _ (List.getElem_mem hlt)))
        have HTK := Lib.hid (List.take_succ_eq_append_getElem hlt)
        have htl : (x.sms.take k).length = k := by rw [List.length_take]; omega
        have HTL := Lib.hid htl
        obtain ⟨us, hown, hrows, hvZ, hexl⟩ := HAC.out
        rw [htl] at hown
        have HOW := Lib.hid hown
        have HRW := Lib.hid hrows
        have HVZ := Lib.hid hvZ
        have HEX := Lib.hid hexl
        obtain ⟨ca, cc, rfl⟩ := ownsRow_form hown
        have hszo := HU.out.size
        generalize x.sms[k] = s at *
        clear htl hown hrows hvZ hexl hcell hr uw HAC
        go_wp2_with fail
        go_region_law ((first
          | (refine step_call (by rfl) 96 #[.pointer (some ⟨b, off + k * 5, none⟩)] (by go_simp) ?_; refine S1.out.mono ?_; rintro e w3 ⟨⟨us2, rfl, hl5, hone, hnew⟩, hu3⟩; obtain ⟨n0, n1, n2, n3, n4, rfl⟩ : ∃ a b c d e, us2 = [a, b, c, d, e] := (by match us2, hl5 with | [a, b, c, d, e], _ => exact ⟨a, b, c, d, e, rfl⟩); have huo : Upd [] wo w3 := (Upd.refl [] wo).drew.trans hu3; have hr3 := HR.out.upd huo (by simp); have d2 := hr3.cell 2 _ rfl; have y2 := hr3.fz 2; have hou3 := ownsRow_upd HOW.out huo; have hle3 := huo.size; have hex3 := hr3.upd ((Upd.refl [] w3).alloc (.cells #[n0, n1, n2, n3, n4] 56)) (by simp); have d2' := hex3.cell 2 _ rfl; refine ⟨_, rfl, ?_⟩)
          | (refine step_append_lies _ (by rfl) _ _ 27 (by rfl) wA.heap.size 56 i0 (.agg #[.slice none 0 0, .slice none 0 0, .string ⟨#[]⟩, .slice none 0 0, .slice none 0 0]) 5 112 Try.underlying27 hi hz0 hz1 hz2 rfl (by decide) _ k us.flatten (by rfl) (hou3.alloc _) ⟨w3.heap.size, 0, none⟩ 1 1 [n0, n1, n2, n3, n4] (by rfl) (by rfl) (by intro j u hj; rw [addr_add, Nat.zero_add]; exact cell_new w3 #[n0, n1, n2, n3, n4] _ _ rfl j u (by simpa using hj)) (by intro u hu; exact (Array.all_eq_true_iff_forall_mem.1 hone) u (by simpa using hu)) (by decide) (by unfold maxLen; omega) (by omega) (by simp; omega) (w3.heap.size + 1) (by simp) ?_; intro g gcap w4 hown4 hg4 hat4 hlt4; have hv4 : Upd (Value.slice ca k cc).ownBlock.toList (w3.alloc (.cells #[n0, n1, n2, n3, n4] 56)) w4 := (Upd.refl _ _).grown hg4 (fun k hk => Or.inr (by simp [hk])); have hr4 := hex3.upd hv4 (by intro hm; exact HVZ.out Z (by simpa using hm) (by simp)); have e2 := hr4.cell 2 _ rfl; have f2 := hr4.fz 2)))
        all_goals
          have hgg : (w3.alloc (.cells #[n0, n1, n2, n3, n4] 56)).grownBy w4 (Value.slice ca k cc).ownBlock := ⟨hg4.os, hg4.tape, hg4.output, hg4.size, hg4.block⟩
          have hacc := AccZ.push (w := wo) (ex := Z :: g0) R_Smk (by rw [HTL.out]; exact HOW.out) HRW.out HVZ.out HEX.out hszo huo hnew rfl (.cells #[n0, n1, n2, n3, n4] 56) (by rw [HTL.out]; exact hown4) hgg (fun c hc => by
            simp only [Value.ownBlock, Option.some.injEq] at hc
            subst hc
            rcases hat4 with h | h
            · exact Or.inl h
            · exact Or.inr (by simp; omega))
          rw [← HTK.out] at hacc
          have uZ : Upd [Z] w4 (w4.setCell ⟨Z, 2, none⟩ (.slice (some ⟨g, 0, none⟩) (k + 1) gcap)) := (Upd.refl _ _).setCell (Or.inr (by simp)) _
          have hacc2 := hacc.put R_Smk uZ (by simp)
          have hU4 : Upd [] wA (w4.setCell ⟨Z, 2, none⟩ (.slice (some ⟨g, 0, none⟩) (k + 1) gcap)) := (((HU.out.trans huo).alloc _).grown hgg (fun c hc => Or.inl (HOW.out.lt c hc).1)).setCell (Or.inl hZA) _
          have hrow4 : RowAt (w4.setCell ⟨Z, 2, none⟩ (.slice (some ⟨g, 0, none⟩) (k + 1) gcap)) Z 29 [ei x.pars, .slice x0 x.start.length y0, .slice (some ⟨g, 0, none⟩) (k + 1) gcap] := hr4.store 2 _
          have hgo : ∀ c ∈ g0, c ∉ (Value.slice ca k cc).ownBlock.toList := fun c hc hm => HVZ.out c (by simpa using hm) (by simp [hc])
          have hgz : ∀ c ∈ g0, c ∉ [Z] := fun c hc hm => (HBD.out c hc).2 (by simpa using hm)
          have hG4 := And.intro (R_I1k.upd (R_I1k.upd (R_I1k.upd (R_I1k.upd HG.out.1 huo (by simp)) ((Upd.refl [] w3).alloc (.cells #[n0, n1, n2, n3, n4] 56)) (by simp)) hv4 hgo) uZ hgz) ((((HG.out.2.upd huo (by simp)).upd ((Upd.refl [] w3).alloc (.cells #[n0, n1, n2, n3, n4] 56)) (by simp)).upd hv4 hgo).upd uZ hgz)
          have HP := Lib.hid (And.intro (And.intro hacc2 hU4) (And.intro hrow4 hG4))
          clear hacc hacc2 uZ hU4 hrow4 hgo hgz hG4 hgg hown4 hg4 hat4 hv4 hr4 e2 f2 d2 d2' y2 hex3 hr3 huo hnew hou3 hu3 c2 z2 a2
          go_wp2_with fail
          go_roundw
          case rel => exact ⟨k + 1, _, by omega, by go_num, Lib.hid HP.out.1.2, Lib.hid HP.out.2.1, Lib.hid HP.out.1.1, Lib.hid HP.out.2.2⟩
          case measure => simp [intOf]; omega
      · obtain rfl : k = x.sms.length := by omega
        have ha := HAC.out
        rw [List.take_length] at ha
        obtain ⟨fs, hsl, hso, hsb⟩ := ha.new (w0 := wA) rfl
        obtain ⟨ca, cc, rfl⟩ := ha.form
        have hr5 := HR.out
        have hres := HA.out.upd HU.out (by simp)
        unfold RowAt at hr5 hres
        have HS := Lib.hid (And.intro hsl (And.intro hso hsb))
        clear ha hsl hso hsb HAC
        go_wp2_with (first
          | (refine wpList_load_row rfl 29 _ rfl Z rfl 29 #[ei x.pars, .slice x0 x.start.length y0, .slice ca x.sms.length cc] (0, 0) _ hr5 Try.underlying29 rfl Ln_size ?_)
          | (refine wpList_store_row rfl 29 _ _ rfl B #[ei x.pars, .slice x0 x.start.length y0, .slice ca x.sms.length cc] rfl rfl 29 _ hres Ln_size rfl (by simp [Value.oneCell']) ?_)
          | fail)
        have hC := setRow_heap wo B _ #[ei x.pars, .slice x0 x.start.length y0, .slice ca x.sms.length cc] _ _ hres
        refine bodyPost_ret (results_cell_row Try.results55 _ _ B 29 _ (0, 0) _ rfl hC Try.underlying29 rfl Ln_size) rfl ?_
        have hB := HBB.out
        have hszw := UA.out.size
        have DB : Upd [B] wo (wo.setRow B #[ei x.pars, .slice x0 x.start.length y0, .slice ca x.sms.length cc]) := (Upd.refl _ _).row (Or.inr (by simp)) _
        have UE : Upd [] w (wo.setRow B #[ei x.pars, .slice x0 x.start.length y0, .slice ca x.sms.length cc]) := (UA.out.trans HU.out).row (Or.inl (by omega)) _
        refine ⟨⟨[ei x.pars, .slice x0 x.start.length y0, .slice ca x.sms.length cc], rfl, rfl, by simp [Value.oneCell'], ?_⟩, UE⟩
        obtain ⟨hsl, hso, hsb⟩ := HS.out
        have d0 : ∀ c ∈ g0, c ∉ [B] := fun c hc hm => by have := HBD.out c hc; simp at hm; omega
        have d1 : ∀ c ∈ fs, c ∉ [B] := fun c hc hm => by have := hsb c hc; simp at hm; omega
        refine ⟨g0 ++ fs, ⟨_, _, g0, fs, rfl, R_I1k.upd HG.out.1 DB d0, R_Sm1k.upd hsl DB d1, rfl⟩, own_join (HG.out.2.upd DB d0) (hso.upd DB d1) (fun c h1 h2 => (hsb c h2).2 (by simp [h1])), fun c hc => ?_⟩
        rcases List.mem_append.1 hc with hc | hc
        · have := HBD.out c hc; omega
        · have := hsb c hc; omega

end Go.Proofs.Ytnfghgaadnobbaa
