/-
  Texts joined in one file: DecL, BisP, BisO, BisI, BisC, BisM, BisH.
-/
import Derived.Test.YtcnaapiljmgfoaaGreatDoorZB1
import Derived.Test.YtcnaapiljmgfoaaGreatDoorZB2
import Derived.Deep.RegionLaw
import Derived.Deep.DeepCutAuto
import Derived.Test.YtcnaapiljmgfoaaGreatDoorShelf
/-
  A system that is being read: its block, its two rows, and what appends to them leave.
-/
namespace Go.Proofs.YtcnaapiljmgfoaaGreatDoor
open Go.RowKit

theorem ownsRow_keep {w w' : World} {base : Nat} {e : TypeId} {size : Nat} {v : Value} {n : Nat} {xs : List Value} (h : w.ownsRow base e size v n xs) (hk : ∀ g, v.ownBlock = some g → w'.heap[g]? = w.heap[g]?) : w'.ownsRow base e size v n xs := by
  refine ⟨h.1, ?_⟩
  rcases h.2 with h2 | ⟨g, cap, cur, rfl, hb, hh, r⟩
  · exact Or.inl h2
  · exact Or.inr ⟨g, cap, cur, rfl, hb, by rw [hk g rfl]; exact hh, r⟩
theorem ownsRow_base {w : World} {base base' : Nat} {e : TypeId} {size : Nat} {v : Value} {n : Nat} {xs : List Value} (h : w.ownsRow base e size v n xs) (hb : base' ≤ base) : w.ownsRow base' e size v n xs := by
  refine ⟨h.1, ?_⟩
  rcases h.2 with h2 | ⟨g, cap, cur, rfl, hb2, r⟩
  · exact Or.inl h2
  · exact Or.inr ⟨g, cap, cur, rfl, Nat.le_trans hb hb2, r⟩
theorem row_type {w : World} {base g : Nat} {v : Value} {n sz : Nat} {xs : List Value} {e : TypeId} (h : w.ownsRow base e sz v n xs) (hg : v.ownBlock = some g) : base ≤ g ∧ ∃ c, w.heap[g]? = some (.cells c e (0, 0)) := by
  rcases h.2 with ⟨rfl, -⟩ | ⟨g', cap, cur, rfl, hb, hh, -⟩
  · simp [Value.ownBlock] at hg
  · simp [Value.ownBlock] at hg
    subst hg
    exact ⟨hb, _, hh⟩
theorem row_ne {w : World} {base g : Nat} {v : Value} {n sz : Nat} {xs : List Value} {e T : TypeId} {c : Array Value} (h : w.ownsRow base e sz v n xs) (hp : w.heap[g]? = some (.cells c T (0, 0))) (hne : e ≠ T) : v.ownBlock ≠ some g := by
  intro hb
  obtain ⟨-, c', h2⟩ := row_type h hb
  rw [hp] at h2
  simp only [Option.some.injEq, Obj.cells.injEq] at h2
  exact hne h2.2.1.symm

/-- a system's four cells in a block of their own. -/
def SysAt (T : Nat) (W : World) (st ini : Int) (v1 v2 : Value) : Prop := W.heap[T]? = some (.cells #[ei st, ei ini, v1, v2] 32 (0, 0))
theorem SysAt.lt {T : Nat} {W : World} {st ini : Int} {v1 v2 : Value} (h : SysAt T W st ini v1 v2) : T < W.heap.size := (Array.getElem?_eq_some_iff.1 h).1
theorem SysAt.facts {T : Nat} {W : World} {st ini : Int} {v1 v2 : Value} (h : SysAt T W st ini v1 v2) : W.cell? ⟨T, 0, none⟩ = some (ei st) ∧ W.cell? ⟨T, 1, none⟩ = some (ei ini) ∧ W.cell? ⟨T, 2, none⟩ = some v1 ∧ W.cell? ⟨T, 3, none⟩ = some v2 ∧ ∀ j, W.frozen? ⟨T, j, none⟩ = false := by
  unfold SysAt at h
  refine ⟨?_, ?_, ?_, ?_, fun j => ?_⟩
  · simp [World.cell?, h]
  · simp [World.cell?, h]
  · simp [World.cell?, h]
  · simp [World.cell?, h]
  · simp [World.frozen?, h]
theorem SysAt.upd {T : Nat} {w w1 : World} {st ini : Int} {v1 v2 : Value} (h : SysAt T w st ini v1 v2) {f : List Nat} (hu : Upd f w w1) (hf : T ∉ f) : SysAt T w1 st ini v1 v2 := by
  unfold SysAt at *
  rw [hu.block T (Array.getElem?_eq_some_iff.1 h).1 hf]; exact h
theorem SysAt.set2 {T : Nat} {w : World} {st ini : Int} {v1 v2 : Value} (h : SysAt T w st ini v1 v2) (u : Value) : SysAt T (w.setCell ⟨T, 2, none⟩ u) st ini u v2 := by
  unfold SysAt
  have := heap_setCell_same w T 2 _ _ u h
  simpa using this
theorem SysAt.set3 {T : Nat} {w : World} {st ini : Int} {v1 v2 : Value} (h : SysAt T w st ini v1 v2) (u : Value) : SysAt T (w.setCell ⟨T, 3, none⟩ u) st ini v1 u := by
  unfold SysAt
  have := heap_setCell_same w T 3 _ _ u h
  simpa using this
theorem SysAt.set0 {T : Nat} {w : World} {st ini : Int} {v1 v2 : Value} (h : SysAt T w st ini v1 v2) (n : Int) : SysAt T (w.setCell ⟨T, 0, none⟩ (ei n)) n ini v1 v2 := by
  unfold SysAt
  have := heap_setCell_same w T 0 _ _ (ei n) h
  simpa using this
theorem SysAt.set1 {T : Nat} {w : World} {st ini : Int} {v1 v2 : Value} (h : SysAt T w st ini v1 v2) (n : Int) : SysAt T (w.setCell ⟨T, 1, none⟩ (ei n)) st n v1 v2 := by
  unfold SysAt
  have := heap_setCell_same w T 1 _ _ (ei n) h
  simpa using this

theorem SysAt.store {T : Nat} {w : World} {st ini : Int} {v1 v2 : Value} (h : SysAt T w st ini v1 v2) (a b : Int) (u v : Value) : SysAt T ((((w.setCell ⟨T, 0, none⟩ (ei a)).setCell ⟨T, 1, none⟩ (ei b)).setCell ⟨T, 2, none⟩ u).setCell ⟨T, 3, none⟩ v) a b u v := ((((h.set0 a).set1 b).set2 u).set3 v)
theorem str_ne_lts : (9 : TypeId) ≠ 32 := by decide
theorem edge_ne_lts : (74 : TypeId) ≠ 32 := by decide
theorem str_ne_edge : (9 : TypeId) ≠ 74 := by decide

/-- behind an append to a row of the system in block T and the store of cell j. -/
theorem sys_push {T base n n4 sz j : Nat} {w w4 : World} {st ini : Int} {v1 v2 v v4 : Value} {xs xs4 : List Value} {e : TypeId} (h0 : SysAt T w st ini v1 v2) (he : e ≠ 32) (hown : w.ownsRow base e sz v n xs)
    (hown4 : w4.ownsRow base e sz v4 n4 xs4) (hg : w.grownBy w4 v.ownBlock) :
    SysAt T w4 st ini v1 v2 ∧ (w4.setCell ⟨T, j, none⟩ v4).ownsRow base e sz v4 n4 xs4 ∧ w.heap.size ≤ (w4.setCell ⟨T, j, none⟩ v4).heap.size ∧
    (∀ b, b < w.heap.size → b ≠ T → v.ownBlock ≠ some b → (w4.setCell ⟨T, j, none⟩ v4).heap[b]? = w.heap[b]?) ∧
    (∀ w0 : World, w0.heap.size ≤ base → w0.heap.size ≤ T → Upd [] w0 w → Upd [] w0 (w4.setCell ⟨T, j, none⟩ v4)) := by
  have hlt := h0.lt
  have hne := row_ne hown h0 he
  have hT : SysAt T w4 st ini v1 v2 := by
    unfold SysAt at *
    rw [hg.block T hlt (fun e => hne e.symm)]; exact h0
  have hne4 := row_ne hown4 hT he
  refine ⟨hT, ?_, ?_, ?_, ?_⟩
  · refine ownsRow_keep hown4 (fun g hg2 => ?_)
    rw [heap_setCell_other _ _ _ _ (fun hh => hne4 (by rw [hg2, hh]))]
  · have := hg.size
    simp [World.setCell]; omega
  · intro b hb hbT hbv
    rw [heap_setCell_other _ _ _ _ hbT]
    exact hg.block b hb (fun e => hbv e.symm)
  · intro w0 hw0 hT0 hu
    exact (hu.grown hg (fun b hb => Or.inl (by have := (hown.lt b hb).1; omega))).setCell (Or.inl hT0) _

def zeroSys : Sys := ⟨0, 0, [], []⟩
/-- the two rows as a system of its own. -/
theorem new_sys {w W : World} {base : Nat} {st ini : Int} {v1 v2 : Value} {L : List (List UInt8)} {E : List Ed} (hb : w.heap.size ≤ base)
    (h1 : W.ownsRow base 9 1 v1 L.length (L.map es)) (h2 : W.ownsRow base 74 3 v2 E.length (E.flatMap fun t => [ei t.fr, ei t.lb, ei t.to])) :
    ∃ f1 f2, RS f1 W [v1] L ∧ R_E1 f2 W [v2] E ∧ New R_L1 w W (.agg #[ei st, ei ini, v1, v2]) ⟨st, ini, L, E⟩ := by
  obtain ⟨f1, a1, a2, a3, a4⟩ := Flat.ofOwns h1
  obtain ⟨f2, b1, b2, b3, b4⟩ := Flat.ofOwns h2
  have r1 : RS f1 W [v1] L := ⟨v1, rfl, by rw [flatMap_single]; exact a1⟩
  have r2 : R_E1 f2 W [v2] E := ⟨v2, rfl, b1⟩
  refine ⟨f1, f2, r1, r2, f1 ++ f2, ⟨v1, v2, f1, f2, rfl, r1, r2, rfl⟩, ⟨?_, ?_⟩, ?_⟩
  · rw [List.nodup_append]
    refine ⟨a2.1, b2.1, ?_⟩
    intro x hx y hy hxy
    obtain ⟨-, c1, p1⟩ := row_type h1 (a4 x hx)
    obtain ⟨-, c2, p2⟩ := row_type h2 (b4 y hy)
    rw [← hxy, p1] at p2
    simp only [Option.some.injEq, Obj.cells.injEq] at p2
    exact str_ne_edge p2.2.1
  · intro b hbm
    rcases List.mem_append.1 hbm with h | h
    · exact a2.2 b h
    · exact b2.2 b h
  · intro b hbm
    rcases List.mem_append.1 hbm with h | h
    · have := a3 b h; omega
    · have := b3 b h; omega
theorem new_zero (w W : World) : New R_L1 w W (.agg #[ei 0, ei 0, .slice none 0 0, .slice none 0 0]) zeroSys := by
  obtain ⟨f1, f2, -, -, h⟩ := new_sys (w := w) (W := W) (base := w.heap.size) (st := 0) (ini := 0) (v1 := .slice none 0 0) (v2 := .slice none 0 0) (L := []) (E := []) (Nat.le_refl _) (World.ownsRow_nil _ _ _ _) (World.ownsRow_nil _ _ _ _)
  exact h

def edCs (t : Ed) : List Value := [ei t.fr, ei t.lb, ei t.to]
/-- all that is under way while a system is read: H the result's block, p the reader's, T the system's. -/
structure DL (H p T : Nat) (w W : World) (a b : Int) (L : List (List UInt8)) (E : List Ed) (v1 v2 : Value) (o : Obj) : Prop where
  rd : W.heap[p]? = some o
  sys : SysAt T W a b v1 v2
  out : SysAt H W 0 0 (.slice none 0 0) (.slice none 0 0)
  row1 : W.ownsRow (p + 1) 9 1 v1 L.length (L.map es)
  row2 : W.ownsRow (p + 1) 74 3 v2 E.length (E.flatMap edCs)
  upd : Upd [] w W
  hw : w.heap.size = H
  hHp : H < p
  hpT : p < T
namespace DL
variable {H p T : Nat} {w W W' : World} {a b : Int} {L : List (List UInt8)} {E : List Ed} {v1 v2 : Value} {o o' : Obj}
theorem dlCall (h : DL H p T w W a b L E v1 v2 o) (hu : Upd [p] W W') (ho : W'.heap[p]? = some o') : DL H p T w W' a b L E v1 v2 o' := by
  have hp := h.hHp
  have hT := h.hpT
  have hH := h.hw
  refine ⟨ho, h.sys.upd hu (by simp; omega), h.out.upd hu (by simp; omega), ownsRow_keep h.row1 (fun g hg => ?_), ownsRow_keep h.row2 (fun g hg => ?_), h.upd.fresh hu (fun q hq => Or.inl (by simp at hq; omega)), hH, hp, hT⟩
  · have := (h.row1.lt g hg)
    exact hu.block g this.2 (by simp; omega)
  · have := (h.row2.lt g hg)
    exact hu.block g this.2 (by simp; omega)
theorem dlQuiet (h : DL H p T w W a b L E v1 v2 o) (hu : Upd [] W W') : DL H p T w W' a b L E v1 v2 o :=
  h.dlCall (hu.mono (by simp)) (by rw [hu.block p (Array.getElem?_eq_some_iff.1 h.rd).1 (by simp)]; exact h.rd)
theorem dlSetA (h : DL H p T w W a b L E v1 v2 o) (n : Int) : DL H p T w (W.setCell ⟨T, 0, none⟩ (ei n)) n b L E v1 v2 o := by
  have hp := h.hHp
  have hT := h.hpT
  have hH := h.hw
  have hs := h.sys
  unfold SysAt at hs
  have hk : ∀ g, g ≠ T → (W.setCell ⟨T, 0, none⟩ (ei n)).heap[g]? = W.heap[g]? := fun g hg => heap_setCell_other _ _ _ _ hg
  refine ⟨by rw [hk p (by omega)]; exact h.rd, h.sys.set0 n, by unfold SysAt; rw [hk H (by omega)]; exact h.out, ownsRow_keep h.row1 (fun g hg => hk g (fun e => row_ne h.row1 hs str_ne_lts (by rw [hg, e]))), ownsRow_keep h.row2 (fun g hg => hk g (fun e => row_ne h.row2 hs edge_ne_lts (by rw [hg, e]))), h.upd.setCell (Or.inl (by simp; omega)) _, hH, hp, hT⟩
theorem dlSetB (h : DL H p T w W a b L E v1 v2 o) (n : Int) : DL H p T w (W.setCell ⟨T, 1, none⟩ (ei n)) a n L E v1 v2 o := by
  have hp := h.hHp
  have hT := h.hpT
  have hH := h.hw
  have hs := h.sys
  unfold SysAt at hs
  have hk : ∀ g, g ≠ T → (W.setCell ⟨T, 1, none⟩ (ei n)).heap[g]? = W.heap[g]? := fun g hg => heap_setCell_other _ _ _ _ hg
  refine ⟨by rw [hk p (by omega)]; exact h.rd, h.sys.set1 n, by unfold SysAt; rw [hk H (by omega)]; exact h.out, ownsRow_keep h.row1 (fun g hg => hk g (fun e => row_ne h.row1 hs str_ne_lts (by rw [hg, e]))), ownsRow_keep h.row2 (fun g hg => hk g (fun e => row_ne h.row2 hs edge_ne_lts (by rw [hg, e]))), h.upd.setCell (Or.inl (by simp; omega)) _, hH, hp, hT⟩
theorem dlPushL (h : DL H p T w W a b L E v1 v2 o) {w4 : World} {v4 : Value} {s : List UInt8} (hown : w4.ownsRow (p + 1) 9 1 v4 (L.length + 1) (L.map es ++ [es s])) (hg : W.grownBy w4 v1.ownBlock) :
    w4.cell? ⟨T, 2, none⟩ = some v1 ∧ w4.frozen? ⟨T, 2, none⟩ = false ∧ Hid (DL H p T w (w4.setCell ⟨T, 2, none⟩ v4) a b (L ++ [s]) E v4 v2 o) := by
  obtain ⟨q1, q2, q3, q4, q5⟩ := sys_push (j := 2) h.sys str_ne_lts h.row1 hown hg
  obtain ⟨c0, c1, c2, c3, fz⟩ := q1.facts
  have hp := h.hHp
  have hT := h.hpT
  have hH := h.hw
  have hpl := (Array.getElem?_eq_some_iff.1 h.rd).1
  have hHl := h.out.lt
  have hn1 : v1.ownBlock ≠ some p := fun e => by have := (h.row1.lt p e).1; omega
  have hn2 : v1.ownBlock ≠ some H := fun e => by have := (h.row1.lt H e).1; omega
  refine ⟨c2, fz 2, Lib.hid ⟨?_, q1.set2 v4, ?_, ?_, ?_, q5 w (by omega) (by omega) h.upd, hH, hp, hT⟩⟩
  · rw [q4 p hpl (by omega) hn1]; exact h.rd
  · unfold SysAt
    rw [q4 H hHl (by omega) hn2]; exact h.out
  · simpa using q2
  · refine ownsRow_keep h.row2 (fun g hg2 => ?_)
    obtain ⟨-, c, hc⟩ := row_type h.row2 hg2
    refine q4 g (h.row2.lt g hg2).2 ?_ (row_ne h.row1 hc str_ne_edge)
    intro e
    have hs := h.sys
    unfold SysAt at hs
    rw [e, hs] at hc
    simp only [Option.some.injEq, Obj.cells.injEq] at hc
    exact edge_ne_lts hc.2.1.symm
theorem dlPushE (h : DL H p T w W a b L E v1 v2 o) {w4 : World} {v4 : Value} {t : Ed} (hown : w4.ownsRow (p + 1) 74 3 v4 (E.length + 1) (E.flatMap edCs ++ edCs t)) (hg : W.grownBy w4 v2.ownBlock) :
    w4.cell? ⟨T, 3, none⟩ = some v2 ∧ w4.frozen? ⟨T, 3, none⟩ = false ∧ Hid (DL H p T w (w4.setCell ⟨T, 3, none⟩ v4) a b L (E ++ [t]) v1 v4 o) := by
  obtain ⟨q1, q2, q3, q4, q5⟩ := sys_push (j := 3) h.sys edge_ne_lts h.row2 hown hg
  obtain ⟨c0, c1, c2, c3, fz⟩ := q1.facts
  have hp := h.hHp
  have hT := h.hpT
  have hH := h.hw
  have hpl := (Array.getElem?_eq_some_iff.1 h.rd).1
  have hHl := h.out.lt
  have hn1 : v2.ownBlock ≠ some p := fun e => by have := (h.row2.lt p e).1; omega
  have hn2 : v2.ownBlock ≠ some H := fun e => by have := (h.row2.lt H e).1; omega
  refine ⟨c3, fz 3, Lib.hid ⟨?_, q1.set3 v4, ?_, ?_, ?_, q5 w (by omega) (by omega) h.upd, hH, hp, hT⟩⟩
  · rw [q4 p hpl (by omega) hn1]; exact h.rd
  · unfold SysAt
    rw [q4 H hHl (by omega) hn2]; exact h.out
  · refine ownsRow_keep h.row1 (fun g hg2 => ?_)
    obtain ⟨-, c, hc⟩ := row_type h.row1 hg2
    refine q4 g (h.row1.lt g hg2).2 ?_ (row_ne h.row2 hc (fun e => str_ne_edge e.symm))
    intro e
    have hs := h.sys
    unfold SysAt at hs
    rw [e, hs] at hc
    simp only [Option.some.injEq, Obj.cells.injEq] at hc
    exact str_ne_lts hc.2.1.symm
  · simpa using q2
/-- the system's readings, and what storing it to the result's block leaves. -/
theorem dlFin (h : DL H p T w W a b L E v1 v2 o) : ∃ f1 f2, RS f1 W [v1] L ∧ R_E1 f2 W [v2] E := by
  have hH := h.hw
  have hp := h.hHp
  obtain ⟨f1, f2, r1, r2, -⟩ := new_sys (w := w) (st := a) (ini := b) (by omega) h.row1 h.row2
  exact ⟨f1, f2, r1, r2⟩
theorem dlStored (h : DL H p T w W a b L E v1 v2 o) : SysAt H ((((W.setCell ⟨H, 0, none⟩ (ei a)).setCell ⟨H, 1, none⟩ (ei b)).setCell ⟨H, 2, none⟩ v1).setCell ⟨H, 3, none⟩ v2) a b v1 v2 ∧
    New R_L1 w ((((W.setCell ⟨H, 0, none⟩ (ei a)).setCell ⟨H, 1, none⟩ (ei b)).setCell ⟨H, 2, none⟩ v1).setCell ⟨H, 3, none⟩ v2) (.agg #[ei a, ei b, v1, v2]) ⟨a, b, L, E⟩ ∧
    Upd [] w ((((W.setCell ⟨H, 0, none⟩ (ei a)).setCell ⟨H, 1, none⟩ (ei b)).setCell ⟨H, 2, none⟩ v1).setCell ⟨H, 3, none⟩ v2) := by
  have hH := h.hw
  have hp := h.hHp
  refine ⟨h.out.store a b v1 v2, ?_, ?_⟩
  · obtain ⟨-, -, -, -, hn⟩ := new_sys (w := w) (W := (((W.setCell ⟨H, 0, none⟩ (ei a)).setCell ⟨H, 1, none⟩ (ei b)).setCell ⟨H, 2, none⟩ v1).setCell ⟨H, 3, none⟩ v2) (st := a) (ini := b) (L := L) (E := E) (base := p + 1) (v1 := v1) (v2 := v2) (by omega)
      (ownsRow_keep h.row1 (fun g hg => by
        have := (h.row1.lt g hg).1
        rw [heap_setCell_other _ _ _ _ (by simp; omega), heap_setCell_other _ _ _ _ (by simp; omega), heap_setCell_other _ _ _ _ (by simp; omega), heap_setCell_other _ _ _ _ (by simp; omega)]))
      (ownsRow_keep h.row2 (fun g hg => by
        have := (h.row2.lt g hg).1
        rw [heap_setCell_other _ _ _ _ (by simp; omega), heap_setCell_other _ _ _ _ (by simp; omega), heap_setCell_other _ _ _ _ (by simp; omega), heap_setCell_other _ _ _ _ (by simp; omega)]))
    exact hn
  · exact (((h.upd.setCell (Or.inl (by simp; omega)) _).setCell (Or.inl (by simp; omega)) _).setCell (Or.inl (by simp; omega)) _).setCell (Or.inl (by simp; omega)) _
theorem dlCleared (h : DL H p T w W a b L E v1 v2 o) : SysAt H ((((W.setCell ⟨H, 0, none⟩ (ei 0)).setCell ⟨H, 1, none⟩ (ei 0)).setCell ⟨H, 2, none⟩ (.slice none 0 0)).setCell ⟨H, 3, none⟩ (.slice none 0 0)) 0 0 (.slice none 0 0) (.slice none 0 0) ∧
    Upd [] w ((((W.setCell ⟨H, 0, none⟩ (ei 0)).setCell ⟨H, 1, none⟩ (ei 0)).setCell ⟨H, 2, none⟩ (.slice none 0 0)).setCell ⟨H, 3, none⟩ (.slice none 0 0)) := by
  have hH := h.hw
  refine ⟨h.out.store 0 0 _ _, ?_⟩
  exact (((h.upd.setCell (Or.inl (by simp; omega)) _).setCell (Or.inl (by simp; omega)) _).setCell (Or.inl (by simp; omega)) _).setCell (Or.inl (by simp; omega)) _
end DL

end Go.Proofs.YtcnaapiljmgfoaaGreatDoor

/-
  Relations between systems, the program's pairsOk: a set of pairs out of a strictly rising list. (The drawn region's ways are printed by tools/genbisp.py.)
-/
namespace Go.Proofs.YtcnaapiljmgfoaaGreatDoor
open Go.RowKit Go.Maps

def pairsOf (R : List (List Int)) : List (Int × Int) := R.map fun p => (p.getD 0 0, p.getD 1 0)
theorem pairsOf_step (R : List (List Int)) (k : Nat) (h : k < R.length) : pairsOf (R.take (k + 1)) = pairsOf (R.take k) ++ [(R[k].getD 0 0, R[k].getD 1 0)] := by
  unfold pairsOf
  rw [List.take_succ_eq_append_getElem h, List.map_append]; rfl
/-- what the program's pairsOk leaves. -/
def PairsOkP (R : List (List Int)) (sa sb : Int) (w : World) (e : Ending) (w' : World) : Prop :=
  (pairsF R sa sb = false ∧ e = .returned (.tuple #[.map none, .bool false])) ∨
  (pairsF R sa sb = true ∧ ∃ (b n : Nat) (D : DataW Unit), e = .returned (.tuple #[.map (some b), .bool true]) ∧ w.heap.size ≤ b ∧ w'.ownsMap Tryz.prog 108 ElB b n D ∧ PMap (pairsOf R) D)

set_option maxRecDepth 20000 in
set_option maxHeartbeats 16000000 in
theorem pairsOkI (sa ia sb ib : Int) (a1 a2 b1 b2 v : Value) (R : List (List Int)) (w : World) (fr : List Nat) (hR : R_N2 fr w [v] R) (ha0 : 1 ≤ sa) (ha1 : sa ≤ 40) (hb0 : 1 ≤ sb) (hb1 : sb ≤ 40) (hR9 : R.length ≤ 2000000) :
    Calls Tryz.prog 90 #[.agg #[ei sa, ei ia, a1, a2], .agg #[ei sb, ei ib, b1, b2], v] w fun e w' => PairsOkP R sa sb w e w' ∧ Upd [] w w' := by
  obtain ⟨av, cap, rfl, l1, l2, hc⟩ := slP_open hR
  unfold maxLen at l2
  have HC := Lib.hid hc
  have HR9 := Lib.hid hR9
  have HA := Lib.hid (show pairsF R sa sb = allF (pairP R sa sb) 0 R.length from rfl)
  obtain ⟨wA, hwA⟩ : ∃ wA, wA = (w.alloc (.cells #[ei sa, ei ia, a1, a2] 32)).alloc (.cells #[ei sb, ei ib, b1, b2] 32) := ⟨_, rfl⟩
  have HUA := Lib.hid (show Upd [] w wA by rw [hwA]; exact ((Upd.refl _ _).alloc _).alloc _)
  have HZ := Lib.hid (show ∀ W, Upd [] wA W → SysAt w.heap.size W sa ia a1 a2 ∧ SysAt (w.heap.size + 1) W sb ib b1 b2 from fun W hu => by
    have s1 : SysAt w.heap.size (w.alloc (.cells #[ei sa, ei ia, a1, a2] 32)) sa ia a1 a2 := heap_alloc_new w _
    have s2 : SysAt (w.alloc (.cells #[ei sa, ei ia, a1, a2] 32)).heap.size wA sb ib b1 b2 := by rw [hwA]; exact heap_alloc_new _ _
    have s3 : SysAt w.heap.size wA sa ia a1 a2 := by rw [hwA]; exact s1.upd ((Upd.refl [] _).alloc _) (by simp)
    refine ⟨s3.upd hu (by simp), ?_⟩
    have := s2.upd hu (by simp)
    simpa using this)
  have hszA : wA.heap.size = w.heap.size + 2 := by rw [hwA]; simp
  obtain ⟨BA, hBA⟩ : ∃ BA, BA = w.heap.size := ⟨_, rfl⟩
  obtain ⟨BB, hBB⟩ : ∃ BB, BB = BA + 1 := ⟨_, rfl⟩
  obtain ⟨BM, hBM⟩ : ∃ BM, BM = wA.heap.size := ⟨_, rfl⟩
  have HBM := Lib.hid (show w.heap.size ≤ BM by omega)
  have HBMA := Lib.hid hBM
  rw [← hBA] at HZ
  rw [← hBB] at HZ
  have IA0 := Lib.hid (fun (n : Int) W => isStateI sa ia a1 a2 n W ha0 ha1)
  have IB0 := Lib.hid (fun (n : Int) W => isStateI sb ib b1 b2 n W hb0 hb1)
  have HI0 := Lib.hid (fun (x : Int) (h : inB x 0 (sa - 1) = true) => in64_of (a := x) (by have := inB_true h; omega))
  have HI1 := Lib.hid (fun (x : Int) (h : inB x 0 (sb - 1) = true) => in64_of (a := x) (by have := inB_true h; omega))
  have hmm := @run_makeMap Tryz.prog
  have HMAP := Lib.hid (World.ownsMap_made wA Tryz.prog 108 ElB)
  rw [← hBM] at HMAP
  clear hR hc hR9 hszA ha0 ha1 hb0 hb1
  go_enter Tryz.func90, Tryz.ntmps90
  go_upto_region 1 with (fail)
  rw [← hwA, ← hBA]
  rw [← hBB]
  clear hwA hBA hBB
  go_wp2_with fail
  rw [← hBM]
  clear hBM hmm
  go_loopw [14] (fun iv wr => ∃ (k : Nat) (D : DataW Unit), k ≤ R.length ∧ iv = .int .i64 k ∧ Hid (allF (pairP R sa sb) k (R.length - k) = pairsF R sa sb) ∧ Hid (Upd [] wA wr) ∧ Hid (wr.ownsMap Tryz.prog 108 ElB BM k D) ∧ Hid (PMap (pairsOf (R.take k)) D)) (fun iv _ => R.length - (intOf iv).toNat)
  case atStart => exact ⟨0, _, Nat.zero_le _, rfl, Lib.hid (by rw [HA.out]; rfl), Lib.hid ((Upd.refl _ _).alloc _), HMAP, Lib.hid PMap.empty⟩
  case round =>
    clear HA HMAP
    obtain ⟨wo, rfl⟩ : ∃ wo : World, wo = wr := ⟨_, rfl⟩
    obtain ⟨k, D, hk, rfl, HF, HU, HM, HP⟩ := hrel
    by_cases hlt : k < R.length
    · obtain ⟨bb, off, u, fr2, hbb, -, -, hcell, -, hr⟩ := HC.out k hlt
      subst hbb
      have q0 := HU.out.keep (HUA.out.keep hcell)
      have gk : R.getD k [] = R[k] := by rw [List.getD_eq_getElem?_getD, List.getElem?_eq_getElem hlt]; rfl
      have hF := HF.out
      rw [allF_step _ k R.length hlt] at hF
      unfold pairP at hF
      rw [gk] at hF
      have hkl : (k : Int) < (R.length : Int) := by omega
      have HRK := Lib.hid (R1k.upd (R1k.upd hr HUA.out (by simp)) HU.out (by simp))
      obtain ⟨ra, rc, hu, m1, m2, hcs⟩ := slF1_open hr
      subst hu
      unfold maxLen at m2
      obtain ⟨⟨za0, za1, za2, za3, -⟩, ⟨zb0, zb1, zb2, zb3, -⟩⟩ := And.intro (HZ.out wo HU.out).1.facts (HZ.out wo HU.out).2.facts
      by_cases h2 : R[k].length = 2
      · obtain ⟨b2r, o2r, rfl, -, -, p1⟩ := hcs 0 (by omega)
        obtain ⟨b2', o2', hb2, -, -, p2⟩ := hcs 1 (by omega)
        cases hb2
        have q1 := HU.out.keep (HUA.out.keep p1)
        have q2 := HU.out.keep (HUA.out.keep p2)
        rw [Nat.add_zero] at q1
        have e0 : R[k].getD 0 0 = R[k][0] := by rw [List.getD_eq_getElem?_getD, List.getElem?_eq_getElem (by omega)]; rfl
        have e1 : R[k].getD 1 0 = R[k][1] := by rw [List.getD_eq_getElem?_getD, List.getElem?_eq_getElem (by omega)]; rfl
        rw [e0, e1] at hF
        have hst := pairsOf_step R k hlt
        rw [e0, e1] at hst
        have HST := Lib.hid hst
        have HK := Lib.hid (show 0 < k → ∃ (u : Value) (f : List Nat), wo.cell? ⟨bb, off + (k - 1), none⟩ = some u ∧ R1 f wo [u] (R.getD (k - 1) []) from fun h0 => by
          have hl1 : k - 1 < R.length := by omega
          obtain ⟨b9, o9, u9, f9, h9, -, -, c9, -, r9⟩ := HC.out (k - 1) hl1
          cases h9
          refine ⟨u9, f9, HU.out.keep (HUA.out.keep c9), ?_⟩
          rw [List.getD_eq_getElem?_getD, List.getElem?_eq_getElem hl1]
          exact R1k.upd (R1k.upd r9 HUA.out (by simp)) HU.out (by simp))
        rw [h2] at q0
        have hF2 : (true && inB R[k][0] 0 (sa - 1) && inB R[k][1] 0 (sb - 1) && (decide (k = 0) || decide (cmpQ (R.getD (k - 1) []) R[k] < 0)) && allF (pairP R sa sb) (k + 1) (R.length - (k + 1))) = pairsF R sa sb := by
          rw [← hF, show (R[k].length == 2) = true from by simpa using h2]
          rfl
        have HFF := Lib.hid hF2
        clear hF2 hst
        have SC := Lib.hid (fun (u : Value) (f : List Nat) (p : List Int) (hp : R1 f wo [u] p) (W : World) (hu : Upd [] wo W) => compareSl u (.slice (some ⟨b2r, o2r, none⟩) R[k].length rc) p R[k] W f fr2 (R1k.upd hp hu (by simp)) (R1k.upd HRK.out hu (by simp)))
        rw [h2] at SC
        have IA := Lib.hid (fun W (_ : Upd [] wo W) => IA0.out R[k][0] W)
        have IB := Lib.hid (fun W (_ : Upd [] wo W) => IB0.out R[k][1] W)
        clear hF HF gk hcs p1 p2 e0 e1 hr hcell m1 HRK
        generalize hP0 : R[k][0] = P0 at *
        generalize hP1 : R[k][1] = P1 at *
        clear hP0 hP1
        cases hi1 : inB P0 0 (sa - 1) with
        | false =>
          rw [hi1] at IA
          have HE := Lib.hid (show pairsF R sa sb = false by rw [← HFF.out, hi1]; simp)
          clear HFF hi1 SC HK IB
          go_upto_region 5 with (fail)
          refine wp_region_held_drew (S := fun w' => w'.cell? ⟨BA, 0, none⟩ = some (ei sa) ∧ w'.cell? ⟨BA, 1, none⟩ = some (ei ia) ∧ w'.cell? ⟨BA, 2, none⟩ = some a1 ∧ w'.cell? ⟨BA, 3, none⟩ = some a2 ∧ w'.cell? ⟨BB, 0, none⟩ = some (ei sb) ∧ w'.cell? ⟨BB, 1, none⟩ = some (ei ib) ∧ w'.cell? ⟨BB, 2, none⟩ = some b1 ∧ w'.cell? ⟨BB, 3, none⟩ = some b2 ∧ w'.cell? ⟨b2r, o2r, none⟩ = some (ei P0) ∧ w'.cell? ⟨b2r, o2r + 1, none⟩ = some (ei P1)) (by kernel_rfl) ?_ (fun hHeld => ?_)
          · exact ⟨za0, za1, za2, za3, zb0, zb1, zb2, zb3, q1, q2⟩
          refine wpAnyH_take (i := 0) (v := ?_) rfl (by kernel_rfl) (by kernel_rfl) (by kernel_rfl) (fun _ _ _ h => h) (Or.inl ⟨by rfl, ?_⟩) (by assumption) ?_
          rotate_left
          · (intro w hSw; (try dsimp only at hSw); go_simp)
            first | done | with_reducible rfl
          simp only [Act.put, List.getElem_toArray, List.getElem_cons_zero, List.getElem_cons_succ, List.setIfInBounds_toArray, List.set_cons_zero, List.set_cons_succ]
          refine wpAnyH_take (i := 1) (v := ?_) rfl (by kernel_rfl) (by kernel_rfl) (by kernel_rfl) (fun _ _ _ h => h) (Or.inl ⟨by rfl, ?_⟩) (by assumption) ?_
          rotate_left
          · (intro w hSw; (try dsimp only at hSw); go_simp)
            first | done | with_reducible rfl
          simp only [Act.put, List.getElem_toArray, List.getElem_cons_zero, List.getElem_cons_succ, List.setIfInBounds_toArray, List.set_cons_zero, List.set_cons_succ]
          refine wpAnyH_take (i := 2) (v := ?_) rfl (by kernel_rfl) (by kernel_rfl) (by kernel_rfl) (fun _ _ _ h => h) (Or.inl ⟨by rfl, ?_⟩) (by assumption) ?_
          rotate_left
          · (intro w hSw; (try dsimp only at hSw); go_simp)
            first | done | with_reducible rfl
          simp only [Act.put, List.getElem_toArray, List.getElem_cons_zero, List.getElem_cons_succ, List.setIfInBounds_toArray, List.set_cons_zero, List.set_cons_succ]
          refine wpAnyH_take (i := 3) (v := ?_) rfl (by kernel_rfl) (by kernel_rfl) (by kernel_rfl) (fun _ _ _ h => h) (Or.inl ⟨by rfl, ?_⟩) (by assumption) ?_
          rotate_left
          · (intro w hSw; (try dsimp only at hSw); go_simp)
            first | done | with_reducible rfl
          simp only [Act.put, List.getElem_toArray, List.getElem_cons_zero, List.getElem_cons_succ, List.setIfInBounds_toArray, List.set_cons_zero, List.set_cons_succ]
          refine wpAnyH_take (i := 4) (v := ?_) rfl (by kernel_rfl) (by kernel_rfl) (by kernel_rfl) (fun _ _ _ h => h) (Or.inl ⟨by rfl, ?_⟩) (by assumption) ?_
          rotate_left
          · (intro w hSw; (try dsimp only at hSw); go_simp)
            first | done | with_reducible rfl
          simp only [Act.put, List.getElem_toArray, List.getElem_cons_zero, List.getElem_cons_succ, List.setIfInBounds_toArray, List.set_cons_zero, List.set_cons_succ]
          refine wpAnyH_take (i := 5) (v := ?_) rfl (by kernel_rfl) (by kernel_rfl) (by kernel_rfl) (fun _ _ _ h => h) (Or.inl ⟨by rfl, ?_⟩) (by assumption) ?_
          rotate_left
          · (intro w hSw; (try dsimp only at hSw); go_simp)
            first | done | with_reducible rfl
          simp only [Act.put, List.getElem_toArray, List.getElem_cons_zero, List.getElem_cons_succ, List.setIfInBounds_toArray, List.set_cons_zero, List.set_cons_succ]
          refine wpAnyH_take (i := 6) (v := ?_) rfl (by kernel_rfl) (by kernel_rfl) (by kernel_rfl) (fun _ _ _ h => h) (Or.inl ⟨by rfl, ?_⟩) (by assumption) ?_
          rotate_left
          · (intro w hSw; (try dsimp only at hSw); go_simp)
            first | done | with_reducible rfl
          simp only [Act.put, List.getElem_toArray, List.getElem_cons_zero, List.getElem_cons_succ, List.setIfInBounds_toArray, List.set_cons_zero, List.set_cons_succ]
          refine wpAnyH_take (i := 7) (v := ?_) rfl (by kernel_rfl) (by kernel_rfl) (by kernel_rfl) (fun _ _ _ h => h) (Or.inl ⟨by rfl, ?_⟩) (by assumption) ?_
          rotate_left
          · (intro w hSw; (try dsimp only at hSw); go_simp)
            first | done | with_reducible rfl
          simp only [Act.put, List.getElem_toArray, List.getElem_cons_zero, List.getElem_cons_succ, List.setIfInBounds_toArray, List.set_cons_zero, List.set_cons_succ]
          refine wpAnyH_ready (rs := [8]) (by kernel_rfl) (by simp) ?_
          refine AllReadyH.cons rfl (fun K hK => ?_) AllReadyH.nil
          go_simp
          refine (IA.out _ ((Upd.refl [] wo).drew)).mono ?_
          rintro e w8 ⟨rfl, hu1⟩
          have hv1 : Upd [] wo w8 := (Upd.refl [] wo).drew.trans hu1
          refine hK.out _ _ ?_ (fun hHeld => ?_)
          · exact ⟨hu1.keep hHeld.1, hu1.keep hHeld.2.1, hu1.keep hHeld.2.2.1, hu1.keep hHeld.2.2.2.1, hu1.keep hHeld.2.2.2.2.1, hu1.keep hHeld.2.2.2.2.2.1, hu1.keep hHeld.2.2.2.2.2.2.1, hu1.keep hHeld.2.2.2.2.2.2.2.1, hu1.keep hHeld.2.2.2.2.2.2.2.2.1, hu1.keep hHeld.2.2.2.2.2.2.2.2.2⟩
          clear hK K
          try simp only [Act.put, List.getElem_toArray, List.getElem_cons_zero, List.getElem_cons_succ, List.setIfInBounds_toArray, List.set_cons_zero, List.set_cons_succ]
          refine wpAnyH_take (i := 9) (v := ?_) rfl (by kernel_rfl) (by kernel_rfl) (by kernel_rfl) (fun _ _ _ h => h) (Or.inl ⟨by rfl, ?_⟩) (by assumption) ?_
          rotate_left
          · (intro w hSw; (try dsimp only at hSw); go_simp)
            first | done | with_reducible rfl
          simp only [Act.put, List.getElem_toArray, List.getElem_cons_zero, List.getElem_cons_succ, List.setIfInBounds_toArray, List.set_cons_zero, List.set_cons_succ]
          refine wpAnyH_take (i := 10) (v := ?_) rfl (by kernel_rfl) (by kernel_rfl) (by kernel_rfl) (fun _ _ _ h => h) (Or.inl ⟨by rfl, ?_⟩) (by assumption) ?_
          rotate_left
          · (intro w hSw; (try dsimp only at hSw); go_simp)
            first | done | with_reducible rfl
          simp only [Act.put, List.getElem_toArray, List.getElem_cons_zero, List.getElem_cons_succ, List.setIfInBounds_toArray, List.set_cons_zero, List.set_cons_succ]
          refine wpAnyH_take (i := 11) (v := ?_) rfl (by kernel_rfl) (by kernel_rfl) (by kernel_rfl) (fun _ _ _ h => h) (Or.inl ⟨by rfl, ?_⟩) (by assumption) ?_
          rotate_left
          · (intro w hSw; (try dsimp only at hSw); go_simp)
            first | done | with_reducible rfl
          simp only [Act.put, List.getElem_toArray, List.getElem_cons_zero, List.getElem_cons_succ, List.setIfInBounds_toArray, List.set_cons_zero, List.set_cons_succ]
          refine wpAnyH_take (i := 12) rfl (by kernel_rfl) (by kernel_rfl) (by kernel_rfl) (fun _ _ _ h => h) (Or.inr ⟨by rfl, rfl⟩) (by assumption) ?_
          simp only [Act.put, List.getElem_toArray, List.getElem_cons_zero, List.getElem_cons_succ, List.setIfInBounds_toArray, List.set_cons_zero, List.set_cons_succ]
          refine wpAnyH_take (i := 13) rfl (by kernel_rfl) (by kernel_rfl) (by kernel_rfl) (fun _ _ _ h => h) (Or.inr ⟨by rfl, rfl⟩) (by assumption) ?_
          simp only [Act.put, List.getElem_toArray, List.getElem_cons_zero, List.getElem_cons_succ, List.setIfInBounds_toArray, List.set_cons_zero, List.set_cons_succ]
          refine wpAnyH_take (i := 14) rfl (by kernel_rfl) (by kernel_rfl) (by kernel_rfl) (fun _ _ _ h => h) (Or.inr ⟨by rfl, rfl⟩) (by assumption) ?_
          simp only [Act.put, List.getElem_toArray, List.getElem_cons_zero, List.getElem_cons_succ, List.setIfInBounds_toArray, List.set_cons_zero, List.set_cons_succ]
          refine wpAnyH_take (i := 15) rfl (by kernel_rfl) (by kernel_rfl) (by kernel_rfl) (fun _ _ _ h => h) (Or.inr ⟨by rfl, rfl⟩) (by assumption) ?_
          simp only [Act.put, List.getElem_toArray, List.getElem_cons_zero, List.getElem_cons_succ, List.setIfInBounds_toArray, List.set_cons_zero, List.set_cons_succ]
          refine wpAnyH_take (i := 16) rfl (by kernel_rfl) (by kernel_rfl) (by kernel_rfl) (fun _ _ _ h => h) (Or.inr ⟨by rfl, rfl⟩) (by assumption) ?_
          simp only [Act.put, List.getElem_toArray, List.getElem_cons_zero, List.getElem_cons_succ, List.setIfInBounds_toArray, List.set_cons_zero, List.set_cons_succ]
          refine wpAnyH_take (i := 17) rfl (by kernel_rfl) (by kernel_rfl) (by kernel_rfl) (fun _ _ _ h => h) (Or.inr ⟨by rfl, rfl⟩) (by assumption) ?_
          simp only [Act.put, List.getElem_toArray, List.getElem_cons_zero, List.getElem_cons_succ, List.setIfInBounds_toArray, List.set_cons_zero, List.set_cons_succ]
          refine wpAnyH_take (i := 18) (v := ?_) rfl (by kernel_rfl) (by kernel_rfl) (by kernel_rfl) (fun _ _ _ h => h) (Or.inl ⟨by rfl, ?_⟩) (by assumption) ?_
          rotate_left
          · (intro w hSw; (try dsimp only at hSw); go_simp)
            first | done | with_reducible rfl
          simp only [Act.put, List.getElem_toArray, List.getElem_cons_zero, List.getElem_cons_succ, List.setIfInBounds_toArray, List.set_cons_zero, List.set_cons_succ]
          refine wpAnyH_take (i := 19) (v := ?_) rfl (by kernel_rfl) (by kernel_rfl) (by kernel_rfl) (fun _ _ _ h => h) (Or.inl ⟨by rfl, ?_⟩) (by assumption) ?_
          rotate_left
          · (intro w hSw; (try dsimp only at hSw); go_simp)
            first | done | with_reducible rfl
          simp only [Act.put, List.getElem_toArray, List.getElem_cons_zero, List.getElem_cons_succ, List.setIfInBounds_toArray, List.set_cons_zero, List.set_cons_succ]
          refine wpAnyH_take (i := 20) rfl (by kernel_rfl) (by kernel_rfl) (by kernel_rfl) (fun _ _ _ h => h) (Or.inr ⟨by rfl, rfl⟩) (by assumption) ?_
          simp only [Act.put, List.getElem_toArray, List.getElem_cons_zero, List.getElem_cons_succ, List.setIfInBounds_toArray, List.set_cons_zero, List.set_cons_succ]
          refine wpAnyH_take (i := 21) rfl (by kernel_rfl) (by kernel_rfl) (by kernel_rfl) (fun _ _ _ h => h) (Or.inr ⟨by rfl, rfl⟩) (by assumption) ?_
          simp only [Act.put, List.getElem_toArray, List.getElem_cons_zero, List.getElem_cons_succ, List.setIfInBounds_toArray, List.set_cons_zero, List.set_cons_succ]
          refine wpAnyH_take (i := 22) rfl (by kernel_rfl) (by kernel_rfl) (by kernel_rfl) (fun _ _ _ h => h) (Or.inr ⟨by rfl, rfl⟩) (by assumption) ?_
          simp only [Act.put, List.getElem_toArray, List.getElem_cons_zero, List.getElem_cons_succ, List.setIfInBounds_toArray, List.set_cons_zero, List.set_cons_succ]
          refine wpAnyH_take (i := 23) rfl (by kernel_rfl) (by kernel_rfl) (by kernel_rfl) (fun _ _ _ h => h) (Or.inr ⟨by rfl, rfl⟩) (by assumption) ?_
          simp only [Act.put, List.getElem_toArray, List.getElem_cons_zero, List.getElem_cons_succ, List.setIfInBounds_toArray, List.set_cons_zero, List.set_cons_succ]
          refine wpAnyH_take (i := 24) rfl (by kernel_rfl) (by kernel_rfl) (by kernel_rfl) (fun _ _ _ h => h) (Or.inr ⟨by rfl, rfl⟩) (by assumption) ?_
          simp only [Act.put, List.getElem_toArray, List.getElem_cons_zero, List.getElem_cons_succ, List.setIfInBounds_toArray, List.set_cons_zero, List.set_cons_succ]
          refine wpAnyH_take (i := 25) rfl (by kernel_rfl) (by kernel_rfl) (by kernel_rfl) (fun _ _ _ h => h) (Or.inr ⟨by rfl, rfl⟩) (by assumption) ?_
          simp only [Act.put, List.getElem_toArray, List.getElem_cons_zero, List.getElem_cons_succ, List.setIfInBounds_toArray, List.set_cons_zero, List.set_cons_succ]
          refine wpAnyH_take (i := 26) rfl (by kernel_rfl) (by kernel_rfl) (by kernel_rfl) (fun _ _ _ h => h) (Or.inr ⟨by rfl, rfl⟩) (by assumption) ?_
          simp only [Act.put, List.getElem_toArray, List.getElem_cons_zero, List.getElem_cons_succ, List.setIfInBounds_toArray, List.set_cons_zero, List.set_cons_succ]
          refine wpAnyH_take (i := 27) rfl (by kernel_rfl) (by kernel_rfl) (by kernel_rfl) (fun _ _ _ h => h) (Or.inr ⟨by rfl, rfl⟩) (by assumption) ?_
          simp only [Act.put, List.getElem_toArray, List.getElem_cons_zero, List.getElem_cons_succ, List.setIfInBounds_toArray, List.set_cons_zero, List.set_cons_succ]
          refine wpAnyH_take (i := 28) rfl (by kernel_rfl) (by kernel_rfl) (by kernel_rfl) (fun _ _ _ h => h) (Or.inr ⟨by rfl, rfl⟩) (by assumption) ?_
          simp only [Act.put, List.getElem_toArray, List.getElem_cons_zero, List.getElem_cons_succ, List.setIfInBounds_toArray, List.set_cons_zero, List.set_cons_succ]
          refine wpAnyH_take (i := 29) rfl (by kernel_rfl) (by kernel_rfl) (by kernel_rfl) (fun _ _ _ h => h) (Or.inr ⟨by rfl, rfl⟩) (by assumption) ?_
          simp only [Act.put, List.getElem_toArray, List.getElem_cons_zero, List.getElem_cons_succ, List.setIfInBounds_toArray, List.set_cons_zero, List.set_cons_succ]
          refine wpAnyH_take (i := 30) rfl (by kernel_rfl) (by kernel_rfl) (by kernel_rfl) (fun _ _ _ h => h) (Or.inr ⟨by rfl, rfl⟩) (by assumption) ?_
          simp only [Act.put, List.getElem_toArray, List.getElem_cons_zero, List.getElem_cons_succ, List.setIfInBounds_toArray, List.set_cons_zero, List.set_cons_succ]
          refine wpAnyH_take (i := 31) rfl (by kernel_rfl) (by kernel_rfl) (by kernel_rfl) (fun _ _ _ h => h) (Or.inr ⟨by rfl, rfl⟩) (by assumption) ?_
          simp only [Act.put, List.getElem_toArray, List.getElem_cons_zero, List.getElem_cons_succ, List.setIfInBounds_toArray, List.set_cons_zero, List.set_cons_succ]
          refine wpAnyH_take (i := 32) (v := ?_) rfl (by kernel_rfl) (by kernel_rfl) (by kernel_rfl) (fun _ _ _ h => h) (Or.inl ⟨by rfl, ?_⟩) (by assumption) ?_
          rotate_left
          · (intro w hSw; (try dsimp only at hSw); go_simp)
            first | done | with_reducible rfl
          simp only [Act.put, List.getElem_toArray, List.getElem_cons_zero, List.getElem_cons_succ, List.setIfInBounds_toArray, List.set_cons_zero, List.set_cons_succ]
          refine wpAnyH_done (by kernel_rfl) ?_ _
          have HU9 := Lib.hid (HU.out.trans hv1)
          clear HU hHeld q1 q2 za0 za1 za2 za3 zb0 zb1 zb2 zb3
          go_wp2_with fail
          go_ret2
          exact ⟨Or.inl ⟨HE.out, rfl⟩, HUA.out.trans HU9.out⟩
        | true =>
          rw [hi1] at IA
          cases hi2 : inB P1 0 (sb - 1) with
          | false =>
            rw [hi2] at IB
            have HE := Lib.hid (show pairsF R sa sb = false by rw [← HFF.out, hi1, hi2]; simp)
            clear HFF hi1 hi2 SC HK
            go_upto_region 5 with (fail)
            refine wp_region_held_drew (S := fun w' => w'.cell? ⟨BA, 0, none⟩ = some (ei sa) ∧ w'.cell? ⟨BA, 1, none⟩ = some (ei ia) ∧ w'.cell? ⟨BA, 2, none⟩ = some a1 ∧ w'.cell? ⟨BA, 3, none⟩ = some a2 ∧ w'.cell? ⟨BB, 0, none⟩ = some (ei sb) ∧ w'.cell? ⟨BB, 1, none⟩ = some (ei ib) ∧ w'.cell? ⟨BB, 2, none⟩ = some b1 ∧ w'.cell? ⟨BB, 3, none⟩ = some b2 ∧ w'.cell? ⟨b2r, o2r, none⟩ = some (ei P0) ∧ w'.cell? ⟨b2r, o2r + 1, none⟩ = some (ei P1)) (by kernel_rfl) ?_ (fun hHeld => ?_)
            · exact ⟨za0, za1, za2, za3, zb0, zb1, zb2, zb3, q1, q2⟩
            refine wpAnyH_take (i := 0) (v := ?_) rfl (by kernel_rfl) (by kernel_rfl) (by kernel_rfl) (fun _ _ _ h => h) (Or.inl ⟨by rfl, ?_⟩) (by assumption) ?_
            rotate_left
            · (intro w hSw; (try dsimp only at hSw); go_simp)
              first | done | with_reducible rfl
            simp only [Act.put, List.getElem_toArray, List.getElem_cons_zero, List.getElem_cons_succ, List.setIfInBounds_toArray, List.set_cons_zero, List.set_cons_succ]
            refine wpAnyH_take (i := 1) (v := ?_) rfl (by kernel_rfl) (by kernel_rfl) (by kernel_rfl) (fun _ _ _ h => h) (Or.inl ⟨by rfl, ?_⟩) (by assumption) ?_
            rotate_left
            · (intro w hSw; (try dsimp only at hSw); go_simp)
              first | done | with_reducible rfl
            simp only [Act.put, List.getElem_toArray, List.getElem_cons_zero, List.getElem_cons_succ, List.setIfInBounds_toArray, List.set_cons_zero, List.set_cons_succ]
            refine wpAnyH_take (i := 2) (v := ?_) rfl (by kernel_rfl) (by kernel_rfl) (by kernel_rfl) (fun _ _ _ h => h) (Or.inl ⟨by rfl, ?_⟩) (by assumption) ?_
            rotate_left
            · (intro w hSw; (try dsimp only at hSw); go_simp)
              first | done | with_reducible rfl
            simp only [Act.put, List.getElem_toArray, List.getElem_cons_zero, List.getElem_cons_succ, List.setIfInBounds_toArray, List.set_cons_zero, List.set_cons_succ]
            refine wpAnyH_take (i := 3) (v := ?_) rfl (by kernel_rfl) (by kernel_rfl) (by kernel_rfl) (fun _ _ _ h => h) (Or.inl ⟨by rfl, ?_⟩) (by assumption) ?_
            rotate_left
            · (intro w hSw; (try dsimp only at hSw); go_simp)
              first | done | with_reducible rfl
            simp only [Act.put, List.getElem_toArray, List.getElem_cons_zero, List.getElem_cons_succ, List.setIfInBounds_toArray, List.set_cons_zero, List.set_cons_succ]
            refine wpAnyH_take (i := 4) (v := ?_) rfl (by kernel_rfl) (by kernel_rfl) (by kernel_rfl) (fun _ _ _ h => h) (Or.inl ⟨by rfl, ?_⟩) (by assumption) ?_
            rotate_left
            · (intro w hSw; (try dsimp only at hSw); go_simp)
              first | done | with_reducible rfl
            simp only [Act.put, List.getElem_toArray, List.getElem_cons_zero, List.getElem_cons_succ, List.setIfInBounds_toArray, List.set_cons_zero, List.set_cons_succ]
            refine wpAnyH_take (i := 5) (v := ?_) rfl (by kernel_rfl) (by kernel_rfl) (by kernel_rfl) (fun _ _ _ h => h) (Or.inl ⟨by rfl, ?_⟩) (by assumption) ?_
            rotate_left
            · (intro w hSw; (try dsimp only at hSw); go_simp)
              first | done | with_reducible rfl
            simp only [Act.put, List.getElem_toArray, List.getElem_cons_zero, List.getElem_cons_succ, List.setIfInBounds_toArray, List.set_cons_zero, List.set_cons_succ]
            refine wpAnyH_take (i := 6) (v := ?_) rfl (by kernel_rfl) (by kernel_rfl) (by kernel_rfl) (fun _ _ _ h => h) (Or.inl ⟨by rfl, ?_⟩) (by assumption) ?_
            rotate_left
            · (intro w hSw; (try dsimp only at hSw); go_simp)
              first | done | with_reducible rfl
            simp only [Act.put, List.getElem_toArray, List.getElem_cons_zero, List.getElem_cons_succ, List.setIfInBounds_toArray, List.set_cons_zero, List.set_cons_succ]
            refine wpAnyH_take (i := 7) (v := ?_) rfl (by kernel_rfl) (by kernel_rfl) (by kernel_rfl) (fun _ _ _ h => h) (Or.inl ⟨by rfl, ?_⟩) (by assumption) ?_
            rotate_left
            · (intro w hSw; (try dsimp only at hSw); go_simp)
              first | done | with_reducible rfl
            simp only [Act.put, List.getElem_toArray, List.getElem_cons_zero, List.getElem_cons_succ, List.setIfInBounds_toArray, List.set_cons_zero, List.set_cons_succ]
            refine wpAnyH_ready (rs := [8]) (by kernel_rfl) (by simp) ?_
            refine AllReadyH.cons rfl (fun K hK => ?_) AllReadyH.nil
            go_simp
            refine (IA.out _ ((Upd.refl [] wo).drew)).mono ?_
            rintro e w8 ⟨rfl, hu1⟩
            have hv1 : Upd [] wo w8 := (Upd.refl [] wo).drew.trans hu1
            refine hK.out _ _ ?_ (fun hHeld => ?_)
            · exact ⟨hu1.keep hHeld.1, hu1.keep hHeld.2.1, hu1.keep hHeld.2.2.1, hu1.keep hHeld.2.2.2.1, hu1.keep hHeld.2.2.2.2.1, hu1.keep hHeld.2.2.2.2.2.1, hu1.keep hHeld.2.2.2.2.2.2.1, hu1.keep hHeld.2.2.2.2.2.2.2.1, hu1.keep hHeld.2.2.2.2.2.2.2.2.1, hu1.keep hHeld.2.2.2.2.2.2.2.2.2⟩
            clear hK K
            try simp only [Act.put, List.getElem_toArray, List.getElem_cons_zero, List.getElem_cons_succ, List.setIfInBounds_toArray, List.set_cons_zero, List.set_cons_succ]
            refine wpAnyH_take (i := 9) (v := ?_) rfl (by kernel_rfl) (by kernel_rfl) (by kernel_rfl) (fun _ _ _ h => h) (Or.inl ⟨by rfl, ?_⟩) (by assumption) ?_
            rotate_left
            · (intro w hSw; (try dsimp only at hSw); go_simp)
              first | done | with_reducible rfl
            simp only [Act.put, List.getElem_toArray, List.getElem_cons_zero, List.getElem_cons_succ, List.setIfInBounds_toArray, List.set_cons_zero, List.set_cons_succ]
            refine wpAnyH_take (i := 10) (v := ?_) rfl (by kernel_rfl) (by kernel_rfl) (by kernel_rfl) (fun _ _ _ h => h) (Or.inl ⟨by rfl, ?_⟩) (by assumption) ?_
            rotate_left
            · (intro w hSw; (try dsimp only at hSw); go_simp)
              first | done | with_reducible rfl
            simp only [Act.put, List.getElem_toArray, List.getElem_cons_zero, List.getElem_cons_succ, List.setIfInBounds_toArray, List.set_cons_zero, List.set_cons_succ]
            refine wpAnyH_take (i := 11) (v := ?_) rfl (by kernel_rfl) (by kernel_rfl) (by kernel_rfl) (fun _ _ _ h => h) (Or.inl ⟨by rfl, ?_⟩) (by assumption) ?_
            rotate_left
            · (intro w hSw; (try dsimp only at hSw); go_simp)
              first | done | with_reducible rfl
            simp only [Act.put, List.getElem_toArray, List.getElem_cons_zero, List.getElem_cons_succ, List.setIfInBounds_toArray, List.set_cons_zero, List.set_cons_succ]
            refine wpAnyH_take (i := 12) (v := ?_) rfl (by kernel_rfl) (by kernel_rfl) (by kernel_rfl) (fun _ _ _ h => h) (Or.inl ⟨by rfl, ?_⟩) (by assumption) ?_
            rotate_left
            · (intro w hSw; (try dsimp only at hSw); go_simp)
              first | done | with_reducible rfl
            simp only [Act.put, List.getElem_toArray, List.getElem_cons_zero, List.getElem_cons_succ, List.setIfInBounds_toArray, List.set_cons_zero, List.set_cons_succ]
            refine wpAnyH_take (i := 13) (v := ?_) rfl (by kernel_rfl) (by kernel_rfl) (by kernel_rfl) (fun _ _ _ h => h) (Or.inl ⟨by rfl, ?_⟩) (by assumption) ?_
            rotate_left
            · (intro w hSw; (try dsimp only at hSw); go_simp)
              first | done | with_reducible rfl
            simp only [Act.put, List.getElem_toArray, List.getElem_cons_zero, List.getElem_cons_succ, List.setIfInBounds_toArray, List.set_cons_zero, List.set_cons_succ]
            refine wpAnyH_take (i := 14) (v := ?_) rfl (by kernel_rfl) (by kernel_rfl) (by kernel_rfl) (fun _ _ _ h => h) (Or.inl ⟨by rfl, ?_⟩) (by assumption) ?_
            rotate_left
            · (intro w hSw; (try dsimp only at hSw); go_simp)
              first | done | with_reducible rfl
            simp only [Act.put, List.getElem_toArray, List.getElem_cons_zero, List.getElem_cons_succ, List.setIfInBounds_toArray, List.set_cons_zero, List.set_cons_succ]
            refine wpAnyH_take (i := 15) (v := ?_) rfl (by kernel_rfl) (by kernel_rfl) (by kernel_rfl) (fun _ _ _ h => h) (Or.inl ⟨by rfl, ?_⟩) (by assumption) ?_
            rotate_left
            · (intro w hSw; (try dsimp only at hSw); go_simp)
              first | done | with_reducible rfl
            simp only [Act.put, List.getElem_toArray, List.getElem_cons_zero, List.getElem_cons_succ, List.setIfInBounds_toArray, List.set_cons_zero, List.set_cons_succ]
            refine wpAnyH_ready (rs := [16]) (by kernel_rfl) (by simp) ?_
            refine AllReadyH.cons rfl (fun K hK => ?_) AllReadyH.nil
            go_simp
            refine (IB.out w8 hv1).mono ?_
            rintro e w16 ⟨rfl, hu2⟩
            have hv2 : Upd [] wo w16 := hv1.trans hu2
            refine hK.out _ _ ?_ (fun hHeld => ?_)
            · exact ⟨hu2.keep hHeld.1, hu2.keep hHeld.2.1, hu2.keep hHeld.2.2.1, hu2.keep hHeld.2.2.2.1, hu2.keep hHeld.2.2.2.2.1, hu2.keep hHeld.2.2.2.2.2.1, hu2.keep hHeld.2.2.2.2.2.2.1, hu2.keep hHeld.2.2.2.2.2.2.2.1, hu2.keep hHeld.2.2.2.2.2.2.2.2.1, hu2.keep hHeld.2.2.2.2.2.2.2.2.2⟩
            clear hK K
            try simp only [Act.put, List.getElem_toArray, List.getElem_cons_zero, List.getElem_cons_succ, List.setIfInBounds_toArray, List.set_cons_zero, List.set_cons_succ]
            refine wpAnyH_take (i := 17) (v := ?_) rfl (by kernel_rfl) (by kernel_rfl) (by kernel_rfl) (fun _ _ _ h => h) (Or.inl ⟨by rfl, ?_⟩) (by assumption) ?_
            rotate_left
            · (intro w hSw; (try dsimp only at hSw); go_simp)
              first | done | with_reducible rfl
            simp only [Act.put, List.getElem_toArray, List.getElem_cons_zero, List.getElem_cons_succ, List.setIfInBounds_toArray, List.set_cons_zero, List.set_cons_succ]
            refine wpAnyH_take (i := 18) (v := ?_) rfl (by kernel_rfl) (by kernel_rfl) (by kernel_rfl) (fun _ _ _ h => h) (Or.inl ⟨by rfl, ?_⟩) (by assumption) ?_
            rotate_left
            · (intro w hSw; (try dsimp only at hSw); go_simp)
              first | done | with_reducible rfl
            simp only [Act.put, List.getElem_toArray, List.getElem_cons_zero, List.getElem_cons_succ, List.setIfInBounds_toArray, List.set_cons_zero, List.set_cons_succ]
            refine wpAnyH_take (i := 19) (v := ?_) rfl (by kernel_rfl) (by kernel_rfl) (by kernel_rfl) (fun _ _ _ h => h) (Or.inl ⟨by rfl, ?_⟩) (by assumption) ?_
            rotate_left
            · (intro w hSw; (try dsimp only at hSw); go_simp)
              first | done | with_reducible rfl
            simp only [Act.put, List.getElem_toArray, List.getElem_cons_zero, List.getElem_cons_succ, List.setIfInBounds_toArray, List.set_cons_zero, List.set_cons_succ]
            refine wpAnyH_take (i := 20) rfl (by kernel_rfl) (by kernel_rfl) (by kernel_rfl) (fun _ _ _ h => h) (Or.inr ⟨by rfl, rfl⟩) (by assumption) ?_
            simp only [Act.put, List.getElem_toArray, List.getElem_cons_zero, List.getElem_cons_succ, List.setIfInBounds_toArray, List.set_cons_zero, List.set_cons_succ]
            refine wpAnyH_take (i := 21) rfl (by kernel_rfl) (by kernel_rfl) (by kernel_rfl) (fun _ _ _ h => h) (Or.inr ⟨by rfl, rfl⟩) (by assumption) ?_
            simp only [Act.put, List.getElem_toArray, List.getElem_cons_zero, List.getElem_cons_succ, List.setIfInBounds_toArray, List.set_cons_zero, List.set_cons_succ]
            refine wpAnyH_take (i := 22) rfl (by kernel_rfl) (by kernel_rfl) (by kernel_rfl) (fun _ _ _ h => h) (Or.inr ⟨by rfl, rfl⟩) (by assumption) ?_
            simp only [Act.put, List.getElem_toArray, List.getElem_cons_zero, List.getElem_cons_succ, List.setIfInBounds_toArray, List.set_cons_zero, List.set_cons_succ]
            refine wpAnyH_take (i := 23) rfl (by kernel_rfl) (by kernel_rfl) (by kernel_rfl) (fun _ _ _ h => h) (Or.inr ⟨by rfl, rfl⟩) (by assumption) ?_
            simp only [Act.put, List.getElem_toArray, List.getElem_cons_zero, List.getElem_cons_succ, List.setIfInBounds_toArray, List.set_cons_zero, List.set_cons_succ]
            refine wpAnyH_take (i := 24) rfl (by kernel_rfl) (by kernel_rfl) (by kernel_rfl) (fun _ _ _ h => h) (Or.inr ⟨by rfl, rfl⟩) (by assumption) ?_
            simp only [Act.put, List.getElem_toArray, List.getElem_cons_zero, List.getElem_cons_succ, List.setIfInBounds_toArray, List.set_cons_zero, List.set_cons_succ]
            refine wpAnyH_take (i := 25) rfl (by kernel_rfl) (by kernel_rfl) (by kernel_rfl) (fun _ _ _ h => h) (Or.inr ⟨by rfl, rfl⟩) (by assumption) ?_
            simp only [Act.put, List.getElem_toArray, List.getElem_cons_zero, List.getElem_cons_succ, List.setIfInBounds_toArray, List.set_cons_zero, List.set_cons_succ]
            refine wpAnyH_take (i := 26) rfl (by kernel_rfl) (by kernel_rfl) (by kernel_rfl) (fun _ _ _ h => h) (Or.inr ⟨by rfl, rfl⟩) (by assumption) ?_
            simp only [Act.put, List.getElem_toArray, List.getElem_cons_zero, List.getElem_cons_succ, List.setIfInBounds_toArray, List.set_cons_zero, List.set_cons_succ]
            refine wpAnyH_take (i := 27) rfl (by kernel_rfl) (by kernel_rfl) (by kernel_rfl) (fun _ _ _ h => h) (Or.inr ⟨by rfl, rfl⟩) (by assumption) ?_
            simp only [Act.put, List.getElem_toArray, List.getElem_cons_zero, List.getElem_cons_succ, List.setIfInBounds_toArray, List.set_cons_zero, List.set_cons_succ]
            refine wpAnyH_take (i := 28) rfl (by kernel_rfl) (by kernel_rfl) (by kernel_rfl) (fun _ _ _ h => h) (Or.inr ⟨by rfl, rfl⟩) (by assumption) ?_
            simp only [Act.put, List.getElem_toArray, List.getElem_cons_zero, List.getElem_cons_succ, List.setIfInBounds_toArray, List.set_cons_zero, List.set_cons_succ]
            refine wpAnyH_take (i := 29) rfl (by kernel_rfl) (by kernel_rfl) (by kernel_rfl) (fun _ _ _ h => h) (Or.inr ⟨by rfl, rfl⟩) (by assumption) ?_
            simp only [Act.put, List.getElem_toArray, List.getElem_cons_zero, List.getElem_cons_succ, List.setIfInBounds_toArray, List.set_cons_zero, List.set_cons_succ]
            refine wpAnyH_take (i := 30) rfl (by kernel_rfl) (by kernel_rfl) (by kernel_rfl) (fun _ _ _ h => h) (Or.inr ⟨by rfl, rfl⟩) (by assumption) ?_
            simp only [Act.put, List.getElem_toArray, List.getElem_cons_zero, List.getElem_cons_succ, List.setIfInBounds_toArray, List.set_cons_zero, List.set_cons_succ]
            refine wpAnyH_take (i := 31) rfl (by kernel_rfl) (by kernel_rfl) (by kernel_rfl) (fun _ _ _ h => h) (Or.inr ⟨by rfl, rfl⟩) (by assumption) ?_
            simp only [Act.put, List.getElem_toArray, List.getElem_cons_zero, List.getElem_cons_succ, List.setIfInBounds_toArray, List.set_cons_zero, List.set_cons_succ]
            refine wpAnyH_take (i := 32) (v := ?_) rfl (by kernel_rfl) (by kernel_rfl) (by kernel_rfl) (fun _ _ _ h => h) (Or.inl ⟨by rfl, ?_⟩) (by assumption) ?_
            rotate_left
            · (intro w hSw; (try dsimp only at hSw); go_simp)
              first | done | with_reducible rfl
            simp only [Act.put, List.getElem_toArray, List.getElem_cons_zero, List.getElem_cons_succ, List.setIfInBounds_toArray, List.set_cons_zero, List.set_cons_succ]
            refine wpAnyH_done (by kernel_rfl) ?_ _
            have HU9 := Lib.hid (HU.out.trans hv2)
            clear HU hHeld q1 q2 za0 za1 za2 za3 zb0 zb1 zb2 zb3
            go_wp2_with fail
            go_ret2
            exact ⟨Or.inl ⟨HE.out, rfl⟩, HUA.out.trans HU9.out⟩
          | true =>
            rw [hi2] at IB
            have HIN := Lib.hid (And.intro (HI0.out P0 hi1) (HI1.out P1 hi2))
            clear HI0 HI1
            by_cases k0 : k = 0
            · have HE := Lib.hid (show allF (pairP R sa sb) (k + 1) (R.length - (k + 1)) = pairsF R sa sb by rw [← HFF.out, hi1, hi2, decide_eq_true k0]; simp)
              have kk : decide (0 < k) = false := by rw [k0]; rfl
              clear HFF hi1 hi2 SC HK k0
              go_upto_region 5 with (fail)
              refine wp_region_held_drew (S := fun w' => w'.cell? ⟨BA, 0, none⟩ = some (ei sa) ∧ w'.cell? ⟨BA, 1, none⟩ = some (ei ia) ∧ w'.cell? ⟨BA, 2, none⟩ = some a1 ∧ w'.cell? ⟨BA, 3, none⟩ = some a2 ∧ w'.cell? ⟨BB, 0, none⟩ = some (ei sb) ∧ w'.cell? ⟨BB, 1, none⟩ = some (ei ib) ∧ w'.cell? ⟨BB, 2, none⟩ = some b1 ∧ w'.cell? ⟨BB, 3, none⟩ = some b2 ∧ w'.cell? ⟨b2r, o2r, none⟩ = some (ei P0) ∧ w'.cell? ⟨b2r, o2r + 1, none⟩ = some (ei P1)) (by kernel_rfl) ?_ (fun hHeld => ?_)
              · exact ⟨za0, za1, za2, za3, zb0, zb1, zb2, zb3, q1, q2⟩
              refine wpAnyH_take (i := 0) (v := ?_) rfl (by kernel_rfl) (by kernel_rfl) (by kernel_rfl) (fun _ _ _ h => h) (Or.inl ⟨by rfl, ?_⟩) (by assumption) ?_
              rotate_left
              · (intro w hSw; (try dsimp only at hSw); go_simp)
                first | done | with_reducible rfl
              simp only [Act.put, List.getElem_toArray, List.getElem_cons_zero, List.getElem_cons_succ, List.setIfInBounds_toArray, List.set_cons_zero, List.set_cons_succ]
              refine wpAnyH_take (i := 1) (v := ?_) rfl (by kernel_rfl) (by kernel_rfl) (by kernel_rfl) (fun _ _ _ h => h) (Or.inl ⟨by rfl, ?_⟩) (by assumption) ?_
              rotate_left
              · (intro w hSw; (try dsimp only at hSw); go_simp)
                first | done | with_reducible rfl
              simp only [Act.put, List.getElem_toArray, List.getElem_cons_zero, List.getElem_cons_succ, List.setIfInBounds_toArray, List.set_cons_zero, List.set_cons_succ]
              refine wpAnyH_take (i := 2) (v := ?_) rfl (by kernel_rfl) (by kernel_rfl) (by kernel_rfl) (fun _ _ _ h => h) (Or.inl ⟨by rfl, ?_⟩) (by assumption) ?_
              rotate_left
              · (intro w hSw; (try dsimp only at hSw); go_simp)
                first | done | with_reducible rfl
              simp only [Act.put, List.getElem_toArray, List.getElem_cons_zero, List.getElem_cons_succ, List.setIfInBounds_toArray, List.set_cons_zero, List.set_cons_succ]
              refine wpAnyH_take (i := 3) (v := ?_) rfl (by kernel_rfl) (by kernel_rfl) (by kernel_rfl) (fun _ _ _ h => h) (Or.inl ⟨by rfl, ?_⟩) (by assumption) ?_
              rotate_left
              · (intro w hSw; (try dsimp only at hSw); go_simp)
                first | done | with_reducible rfl
              simp only [Act.put, List.getElem_toArray, List.getElem_cons_zero, List.getElem_cons_succ, List.setIfInBounds_toArray, List.set_cons_zero, List.set_cons_succ]
              refine wpAnyH_take (i := 4) (v := ?_) rfl (by kernel_rfl) (by kernel_rfl) (by kernel_rfl) (fun _ _ _ h => h) (Or.inl ⟨by rfl, ?_⟩) (by assumption) ?_
              rotate_left
              · (intro w hSw; (try dsimp only at hSw); go_simp)
                first | done | with_reducible rfl
              simp only [Act.put, List.getElem_toArray, List.getElem_cons_zero, List.getElem_cons_succ, List.setIfInBounds_toArray, List.set_cons_zero, List.set_cons_succ]
              refine wpAnyH_take (i := 5) (v := ?_) rfl (by kernel_rfl) (by kernel_rfl) (by kernel_rfl) (fun _ _ _ h => h) (Or.inl ⟨by rfl, ?_⟩) (by assumption) ?_
              rotate_left
              · (intro w hSw; (try dsimp only at hSw); go_simp)
                first | done | with_reducible rfl
              simp only [Act.put, List.getElem_toArray, List.getElem_cons_zero, List.getElem_cons_succ, List.setIfInBounds_toArray, List.set_cons_zero, List.set_cons_succ]
              refine wpAnyH_take (i := 6) (v := ?_) rfl (by kernel_rfl) (by kernel_rfl) (by kernel_rfl) (fun _ _ _ h => h) (Or.inl ⟨by rfl, ?_⟩) (by assumption) ?_
              rotate_left
              · (intro w hSw; (try dsimp only at hSw); go_simp)
                first | done | with_reducible rfl
              simp only [Act.put, List.getElem_toArray, List.getElem_cons_zero, List.getElem_cons_succ, List.setIfInBounds_toArray, List.set_cons_zero, List.set_cons_succ]
              refine wpAnyH_take (i := 7) (v := ?_) rfl (by kernel_rfl) (by kernel_rfl) (by kernel_rfl) (fun _ _ _ h => h) (Or.inl ⟨by rfl, ?_⟩) (by assumption) ?_
              rotate_left
              · (intro w hSw; (try dsimp only at hSw); go_simp)
                first | done | with_reducible rfl
              simp only [Act.put, List.getElem_toArray, List.getElem_cons_zero, List.getElem_cons_succ, List.setIfInBounds_toArray, List.set_cons_zero, List.set_cons_succ]
              refine wpAnyH_ready (rs := [8]) (by kernel_rfl) (by simp) ?_
              refine AllReadyH.cons rfl (fun K hK => ?_) AllReadyH.nil
              go_simp
              refine (IA.out _ ((Upd.refl [] wo).drew)).mono ?_
              rintro e w8 ⟨rfl, hu1⟩
              have hv1 : Upd [] wo w8 := (Upd.refl [] wo).drew.trans hu1
              refine hK.out _ _ ?_ (fun hHeld => ?_)
              · exact ⟨hu1.keep hHeld.1, hu1.keep hHeld.2.1, hu1.keep hHeld.2.2.1, hu1.keep hHeld.2.2.2.1, hu1.keep hHeld.2.2.2.2.1, hu1.keep hHeld.2.2.2.2.2.1, hu1.keep hHeld.2.2.2.2.2.2.1, hu1.keep hHeld.2.2.2.2.2.2.2.1, hu1.keep hHeld.2.2.2.2.2.2.2.2.1, hu1.keep hHeld.2.2.2.2.2.2.2.2.2⟩
              clear hK K
              try simp only [Act.put, List.getElem_toArray, List.getElem_cons_zero, List.getElem_cons_succ, List.setIfInBounds_toArray, List.set_cons_zero, List.set_cons_succ]
              refine wpAnyH_take (i := 9) (v := ?_) rfl (by kernel_rfl) (by kernel_rfl) (by kernel_rfl) (fun _ _ _ h => h) (Or.inl ⟨by rfl, ?_⟩) (by assumption) ?_
              rotate_left
              · (intro w hSw; (try dsimp only at hSw); go_simp)
                first | done | with_reducible rfl
              simp only [Act.put, List.getElem_toArray, List.getElem_cons_zero, List.getElem_cons_succ, List.setIfInBounds_toArray, List.set_cons_zero, List.set_cons_succ]
              refine wpAnyH_take (i := 10) (v := ?_) rfl (by kernel_rfl) (by kernel_rfl) (by kernel_rfl) (fun _ _ _ h => h) (Or.inl ⟨by rfl, ?_⟩) (by assumption) ?_
              rotate_left
              · (intro w hSw; (try dsimp only at hSw); go_simp)
                first | done | with_reducible rfl
              simp only [Act.put, List.getElem_toArray, List.getElem_cons_zero, List.getElem_cons_succ, List.setIfInBounds_toArray, List.set_cons_zero, List.set_cons_succ]
              refine wpAnyH_take (i := 11) (v := ?_) rfl (by kernel_rfl) (by kernel_rfl) (by kernel_rfl) (fun _ _ _ h => h) (Or.inl ⟨by rfl, ?_⟩) (by assumption) ?_
              rotate_left
              · (intro w hSw; (try dsimp only at hSw); go_simp)
                first | done | with_reducible rfl
              simp only [Act.put, List.getElem_toArray, List.getElem_cons_zero, List.getElem_cons_succ, List.setIfInBounds_toArray, List.set_cons_zero, List.set_cons_succ]
              refine wpAnyH_take (i := 12) (v := ?_) rfl (by kernel_rfl) (by kernel_rfl) (by kernel_rfl) (fun _ _ _ h => h) (Or.inl ⟨by rfl, ?_⟩) (by assumption) ?_
              rotate_left
              · (intro w hSw; (try dsimp only at hSw); go_simp)
                first | done | with_reducible rfl
              simp only [Act.put, List.getElem_toArray, List.getElem_cons_zero, List.getElem_cons_succ, List.setIfInBounds_toArray, List.set_cons_zero, List.set_cons_succ]
              refine wpAnyH_take (i := 13) (v := ?_) rfl (by kernel_rfl) (by kernel_rfl) (by kernel_rfl) (fun _ _ _ h => h) (Or.inl ⟨by rfl, ?_⟩) (by assumption) ?_
              rotate_left
              · (intro w hSw; (try dsimp only at hSw); go_simp)
                first | done | with_reducible rfl
              simp only [Act.put, List.getElem_toArray, List.getElem_cons_zero, List.getElem_cons_succ, List.setIfInBounds_toArray, List.set_cons_zero, List.set_cons_succ]
              refine wpAnyH_take (i := 14) (v := ?_) rfl (by kernel_rfl) (by kernel_rfl) (by kernel_rfl) (fun _ _ _ h => h) (Or.inl ⟨by rfl, ?_⟩) (by assumption) ?_
              rotate_left
              · (intro w hSw; (try dsimp only at hSw); go_simp)
                first | done | with_reducible rfl
              simp only [Act.put, List.getElem_toArray, List.getElem_cons_zero, List.getElem_cons_succ, List.setIfInBounds_toArray, List.set_cons_zero, List.set_cons_succ]
              refine wpAnyH_take (i := 15) (v := ?_) rfl (by kernel_rfl) (by kernel_rfl) (by kernel_rfl) (fun _ _ _ h => h) (Or.inl ⟨by rfl, ?_⟩) (by assumption) ?_
              rotate_left
              · (intro w hSw; (try dsimp only at hSw); go_simp)
                first | done | with_reducible rfl
              simp only [Act.put, List.getElem_toArray, List.getElem_cons_zero, List.getElem_cons_succ, List.setIfInBounds_toArray, List.set_cons_zero, List.set_cons_succ]
              refine wpAnyH_ready (rs := [16]) (by kernel_rfl) (by simp) ?_
              refine AllReadyH.cons rfl (fun K hK => ?_) AllReadyH.nil
              go_simp
              refine (IB.out w8 hv1).mono ?_
              rintro e w16 ⟨rfl, hu2⟩
              have hv2 : Upd [] wo w16 := hv1.trans hu2
              refine hK.out _ _ ?_ (fun hHeld => ?_)
              · exact ⟨hu2.keep hHeld.1, hu2.keep hHeld.2.1, hu2.keep hHeld.2.2.1, hu2.keep hHeld.2.2.2.1, hu2.keep hHeld.2.2.2.2.1, hu2.keep hHeld.2.2.2.2.2.1, hu2.keep hHeld.2.2.2.2.2.2.1, hu2.keep hHeld.2.2.2.2.2.2.2.1, hu2.keep hHeld.2.2.2.2.2.2.2.2.1, hu2.keep hHeld.2.2.2.2.2.2.2.2.2⟩
              clear hK K
              try simp only [Act.put, List.getElem_toArray, List.getElem_cons_zero, List.getElem_cons_succ, List.setIfInBounds_toArray, List.set_cons_zero, List.set_cons_succ]
              refine wpAnyH_take (i := 17) (v := ?_) rfl (by kernel_rfl) (by kernel_rfl) (by kernel_rfl) (fun _ _ _ h => h) (Or.inl ⟨by rfl, ?_⟩) (by assumption) ?_
              rotate_left
              · (intro w hSw; (try dsimp only at hSw); go_simp)
                first | done | with_reducible rfl
              simp only [Act.put, List.getElem_toArray, List.getElem_cons_zero, List.getElem_cons_succ, List.setIfInBounds_toArray, List.set_cons_zero, List.set_cons_succ]
              refine wpAnyH_take (i := 18) (v := ?_) rfl (by kernel_rfl) (by kernel_rfl) (by kernel_rfl) (fun _ _ _ h => h) (Or.inl ⟨by rfl, ?_⟩) (by assumption) ?_
              rotate_left
              · (intro w hSw; (try dsimp only at hSw); go_simp)
                first | done | with_reducible rfl
              simp only [Act.put, List.getElem_toArray, List.getElem_cons_zero, List.getElem_cons_succ, List.setIfInBounds_toArray, List.set_cons_zero, List.set_cons_succ]
              refine wpAnyH_take (i := 19) (v := ?_) rfl (by kernel_rfl) (by kernel_rfl) (by kernel_rfl) (fun _ _ _ h => h) (Or.inl ⟨by rfl, ?_⟩) (by assumption) ?_
              rotate_left
              · (intro w hSw; (try dsimp only at hSw); go_simp)
                first | done | with_reducible rfl
              simp only [Act.put, List.getElem_toArray, List.getElem_cons_zero, List.getElem_cons_succ, List.setIfInBounds_toArray, List.set_cons_zero, List.set_cons_succ]
              refine wpAnyH_take (i := 20) (v := ?_) rfl (by kernel_rfl) (by kernel_rfl) (by kernel_rfl) (fun _ _ _ h => h) (Or.inl ⟨by rfl, ?_⟩) (by assumption) ?_
              rotate_left
              · (intro w hSw; (try dsimp only at hSw); go_simp)
                first | done | with_reducible rfl
              simp only [Act.put, List.getElem_toArray, List.getElem_cons_zero, List.getElem_cons_succ, List.setIfInBounds_toArray, List.set_cons_zero, List.set_cons_succ]
              refine wpAnyH_take (i := 21) (v := ?_) rfl (by kernel_rfl) (by kernel_rfl) (by kernel_rfl) (fun _ _ _ h => h) (Or.inl ⟨by rfl, ?_⟩) (by assumption) ?_
              rotate_left
              · (intro w hSw; (try dsimp only at hSw); go_simp)
                first | done | with_reducible rfl
              simp only [Act.put, List.getElem_toArray, List.getElem_cons_zero, List.getElem_cons_succ, List.setIfInBounds_toArray, List.set_cons_zero, List.set_cons_succ]
              refine wpAnyH_take (i := 22) (v := ?_) rfl (by kernel_rfl) (by kernel_rfl) (by kernel_rfl) (fun _ _ _ h => h) (Or.inl ⟨by rfl, ?_⟩) (by assumption) ?_
              rotate_left
              · (intro w hSw; (try dsimp only at hSw); go_simp)
                first | done | with_reducible rfl
              simp only [Act.put, List.getElem_toArray, List.getElem_cons_zero, List.getElem_cons_succ, List.setIfInBounds_toArray, List.set_cons_zero, List.set_cons_succ]
              refine wpAnyH_take (i := 23) rfl (by kernel_rfl) (by kernel_rfl) (by kernel_rfl) (fun _ _ _ h => h) (Or.inr ⟨by rfl, rfl⟩) (by assumption) ?_
              simp only [Act.put, List.getElem_toArray, List.getElem_cons_zero, List.getElem_cons_succ, List.setIfInBounds_toArray, List.set_cons_zero, List.set_cons_succ]
              refine wpAnyH_take (i := 24) rfl (by kernel_rfl) (by kernel_rfl) (by kernel_rfl) (fun _ _ _ h => h) (Or.inr ⟨by rfl, rfl⟩) (by assumption) ?_
              simp only [Act.put, List.getElem_toArray, List.getElem_cons_zero, List.getElem_cons_succ, List.setIfInBounds_toArray, List.set_cons_zero, List.set_cons_succ]
              refine wpAnyH_take (i := 25) rfl (by kernel_rfl) (by kernel_rfl) (by kernel_rfl) (fun _ _ _ h => h) (Or.inr ⟨by rfl, rfl⟩) (by assumption) ?_
              simp only [Act.put, List.getElem_toArray, List.getElem_cons_zero, List.getElem_cons_succ, List.setIfInBounds_toArray, List.set_cons_zero, List.set_cons_succ]
              refine wpAnyH_take (i := 26) rfl (by kernel_rfl) (by kernel_rfl) (by kernel_rfl) (fun _ _ _ h => h) (Or.inr ⟨by rfl, rfl⟩) (by assumption) ?_
              simp only [Act.put, List.getElem_toArray, List.getElem_cons_zero, List.getElem_cons_succ, List.setIfInBounds_toArray, List.set_cons_zero, List.set_cons_succ]
              refine wpAnyH_take (i := 27) rfl (by kernel_rfl) (by kernel_rfl) (by kernel_rfl) (fun _ _ _ h => h) (Or.inr ⟨by rfl, rfl⟩) (by assumption) ?_
              simp only [Act.put, List.getElem_toArray, List.getElem_cons_zero, List.getElem_cons_succ, List.setIfInBounds_toArray, List.set_cons_zero, List.set_cons_succ]
              refine wpAnyH_take (i := 28) rfl (by kernel_rfl) (by kernel_rfl) (by kernel_rfl) (fun _ _ _ h => h) (Or.inr ⟨by rfl, rfl⟩) (by assumption) ?_
              simp only [Act.put, List.getElem_toArray, List.getElem_cons_zero, List.getElem_cons_succ, List.setIfInBounds_toArray, List.set_cons_zero, List.set_cons_succ]
              refine wpAnyH_take (i := 29) rfl (by kernel_rfl) (by kernel_rfl) (by kernel_rfl) (fun _ _ _ h => h) (Or.inr ⟨by rfl, rfl⟩) (by assumption) ?_
              simp only [Act.put, List.getElem_toArray, List.getElem_cons_zero, List.getElem_cons_succ, List.setIfInBounds_toArray, List.set_cons_zero, List.set_cons_succ]
              refine wpAnyH_take (i := 30) rfl (by kernel_rfl) (by kernel_rfl) (by kernel_rfl) (fun _ _ _ h => h) (Or.inr ⟨by rfl, rfl⟩) (by assumption) ?_
              simp only [Act.put, List.getElem_toArray, List.getElem_cons_zero, List.getElem_cons_succ, List.setIfInBounds_toArray, List.set_cons_zero, List.set_cons_succ]
              refine wpAnyH_take (i := 31) (v := ?_) rfl (by kernel_rfl) (by kernel_rfl) (by kernel_rfl) (fun _ _ _ h => h) (Or.inl ⟨by rfl, ?_⟩) (by assumption) ?_
              rotate_left
              · (intro w hSw; (try dsimp only at hSw); go_simp)
                first | done | with_reducible rfl
              simp only [Act.put, List.getElem_toArray, List.getElem_cons_zero, List.getElem_cons_succ, List.setIfInBounds_toArray, List.set_cons_zero, List.set_cons_succ]
              refine wpAnyH_take (i := 32) (v := ?_) rfl (by kernel_rfl) (by kernel_rfl) (by kernel_rfl) (fun _ _ _ h => h) (Or.inl ⟨by rfl, ?_⟩) (by assumption) ?_
              rotate_left
              · (intro w hSw; (try dsimp only at hSw); go_simp)
                first | done | with_reducible rfl
              simp only [Act.put, List.getElem_toArray, List.getElem_cons_zero, List.getElem_cons_succ, List.setIfInBounds_toArray, List.set_cons_zero, List.set_cons_succ]
              refine wpAnyH_done (by kernel_rfl) ?_ _
              have HU9 := Lib.hid (HU.out.trans hv2)
              have HM9 := Lib.hid (ownsMap_upd HM.out hv2 (by simp))
              have q1 := hv2.keep q1
              have q2 := hv2.keep q2
              obtain ⟨in0, in1⟩ := HIN.out
              have HP9 := Lib.hid (HP.out.put in0 in1)
              obtain ⟨w10, hrun10, hm10, hg10⟩ := (ownsMap_upd HM9.out (Upd.refl [] w16).drew (by simp)).update keyP Tryz.underlying105 (show k < maxLen by unfold maxLen; have := HR9.out; omega) (keyOfP in0 in1) (plainElem_bool (H := Unit) Tryz.underlying4 true)
              have HU10 := Lib.hid ((HU9.out.drew).fresh ((Upd.refl [BM] (w16).drew).grown hg10 (fun j hj => Or.inr (by simp at hj ⊢; exact hj.symm))) (fun b hb => Or.inl (by simp at hb; have := HBMA.out; omega)))
              have HM10 := Lib.hid hm10
              have HP10 := Lib.hid (show PMap (pairsOf (R.take (k + 1))) _ by rw [HST.out]; exact HP9.out)
              clear HU HM HIN HP hHeld za0 za1 za2 za3 zb0 zb1 zb2 zb3 hm10 hg10 HU9 HM9 HP9 in0 in1 HST IA0 IB0 IA IB HC HZ
              go_upto_region 7 with (fail)
              go_region
              all_goals
                go_wp2_with fail
                go_roundw
                case rel => exact ⟨k + 1, _, by omega, by go_num, HE, HU10, HM10, HP10⟩
                case measure => simp [intOf]; omega
            · have kk : decide (0 < k) = true := decide_eq_true (by omega)
              have kd : decide (k = 0) = false := decide_eq_false k0
              have i0 : IntKind.i64.wrap ((k : Int) - 1) = (k : Int) - 1 := IntWalk.i64_in _ (by omega)
              have i1 : ((k : Int) - 1).toNat = k - 1 := by omega
              have i3 : (0 : Int) ≤ (k : Int) - 1 := by omega
              have i5 : (1 : Int) ≤ (k : Int) := by omega
              have i6 : (0 : Int) < (k : Int) := by omega
              have i4 : (k : Int) - 1 < (R.length : Int) := by omega
              obtain ⟨u9, f9, q9, r9⟩ := HK.out (by omega)
              have SC9 := Lib.hid (SC.out u9 f9 _ r9)
              clear HK r9 SC
              have hcq : pairsF R sa sb = (decide (cmpQ (R.getD (k - 1) []) R[k] < 0) && allF (pairP R sa sb) (k + 1) (R.length - (k + 1))) := by rw [← HFF.out, hi1, hi2, kd]; simp
              have HCQ := Lib.hid hcq
              clear HFF hi1 hi2 kd hcq k0
              generalize cmpQ (R.getD (k - 1) []) R[k] = c at *
              by_cases hc0 : c < 0
              · have hd : decide (0 ≤ c) = false := decide_eq_false (by omega)
                have hd2 : decide (c ≥ 0) = false := hd
                have HE := Lib.hid (show allF (pairP R sa sb) (k + 1) (R.length - (k + 1)) = pairsF R sa sb by rw [HCQ.out, decide_eq_true hc0]; simp)
                clear HCQ hc0
                go_upto_region 5 with (fail)
                refine wp_region_held_drew (S := fun w' => w'.cell? ⟨BA, 0, none⟩ = some (ei sa) ∧ w'.cell? ⟨BA, 1, none⟩ = some (ei ia) ∧ w'.cell? ⟨BA, 2, none⟩ = some a1 ∧ w'.cell? ⟨BA, 3, none⟩ = some a2 ∧ w'.cell? ⟨BB, 0, none⟩ = some (ei sb) ∧ w'.cell? ⟨BB, 1, none⟩ = some (ei ib) ∧ w'.cell? ⟨BB, 2, none⟩ = some b1 ∧ w'.cell? ⟨BB, 3, none⟩ = some b2 ∧ w'.cell? ⟨b2r, o2r, none⟩ = some (ei P0) ∧ w'.cell? ⟨b2r, o2r + 1, none⟩ = some (ei P1) ∧ w'.cell? ⟨bb, off + (k - 1), none⟩ = some u9) (by kernel_rfl) ?_ (fun hHeld => ?_)
                · exact ⟨za0, za1, za2, za3, zb0, zb1, zb2, zb3, q1, q2, q9⟩
                refine wpAnyH_take (i := 0) (v := ?_) rfl (by kernel_rfl) (by kernel_rfl) (by kernel_rfl) (fun _ _ _ h => h) (Or.inl ⟨by rfl, ?_⟩) (by assumption) ?_
                rotate_left
                · (intro w hSw; (try dsimp only at hSw); go_simp)
                  first | done | with_reducible rfl
                simp only [Act.put, List.getElem_toArray, List.getElem_cons_zero, List.getElem_cons_succ, List.setIfInBounds_toArray, List.set_cons_zero, List.set_cons_succ]
                refine wpAnyH_take (i := 1) (v := ?_) rfl (by kernel_rfl) (by kernel_rfl) (by kernel_rfl) (fun _ _ _ h => h) (Or.inl ⟨by rfl, ?_⟩) (by assumption) ?_
                rotate_left
                · (intro w hSw; (try dsimp only at hSw); go_simp)
                  first | done | with_reducible rfl
                simp only [Act.put, List.getElem_toArray, List.getElem_cons_zero, List.getElem_cons_succ, List.setIfInBounds_toArray, List.set_cons_zero, List.set_cons_succ]
                refine wpAnyH_take (i := 2) (v := ?_) rfl (by kernel_rfl) (by kernel_rfl) (by kernel_rfl) (fun _ _ _ h => h) (Or.inl ⟨by rfl, ?_⟩) (by assumption) ?_
                rotate_left
                · (intro w hSw; (try dsimp only at hSw); go_simp)
                  first | done | with_reducible rfl
                simp only [Act.put, List.getElem_toArray, List.getElem_cons_zero, List.getElem_cons_succ, List.setIfInBounds_toArray, List.set_cons_zero, List.set_cons_succ]
                refine wpAnyH_take (i := 3) (v := ?_) rfl (by kernel_rfl) (by kernel_rfl) (by kernel_rfl) (fun _ _ _ h => h) (Or.inl ⟨by rfl, ?_⟩) (by assumption) ?_
                rotate_left
                · (intro w hSw; (try dsimp only at hSw); go_simp)
                  first | done | with_reducible rfl
                simp only [Act.put, List.getElem_toArray, List.getElem_cons_zero, List.getElem_cons_succ, List.setIfInBounds_toArray, List.set_cons_zero, List.set_cons_succ]
                refine wpAnyH_take (i := 4) (v := ?_) rfl (by kernel_rfl) (by kernel_rfl) (by kernel_rfl) (fun _ _ _ h => h) (Or.inl ⟨by rfl, ?_⟩) (by assumption) ?_
                rotate_left
                · (intro w hSw; (try dsimp only at hSw); go_simp)
                  first | done | with_reducible rfl
                simp only [Act.put, List.getElem_toArray, List.getElem_cons_zero, List.getElem_cons_succ, List.setIfInBounds_toArray, List.set_cons_zero, List.set_cons_succ]
                refine wpAnyH_take (i := 5) (v := ?_) rfl (by kernel_rfl) (by kernel_rfl) (by kernel_rfl) (fun _ _ _ h => h) (Or.inl ⟨by rfl, ?_⟩) (by assumption) ?_
                rotate_left
                · (intro w hSw; (try dsimp only at hSw); go_simp)
                  first | done | with_reducible rfl
                simp only [Act.put, List.getElem_toArray, List.getElem_cons_zero, List.getElem_cons_succ, List.setIfInBounds_toArray, List.set_cons_zero, List.set_cons_succ]
                refine wpAnyH_take (i := 6) (v := ?_) rfl (by kernel_rfl) (by kernel_rfl) (by kernel_rfl) (fun _ _ _ h => h) (Or.inl ⟨by rfl, ?_⟩) (by assumption) ?_
                rotate_left
                · (intro w hSw; (try dsimp only at hSw); go_simp)
                  first | done | with_reducible rfl
                simp only [Act.put, List.getElem_toArray, List.getElem_cons_zero, List.getElem_cons_succ, List.setIfInBounds_toArray, List.set_cons_zero, List.set_cons_succ]
                refine wpAnyH_take (i := 7) (v := ?_) rfl (by kernel_rfl) (by kernel_rfl) (by kernel_rfl) (fun _ _ _ h => h) (Or.inl ⟨by rfl, ?_⟩) (by assumption) ?_
                rotate_left
                · (intro w hSw; (try dsimp only at hSw); go_simp)
                  first | done | with_reducible rfl
                simp only [Act.put, List.getElem_toArray, List.getElem_cons_zero, List.getElem_cons_succ, List.setIfInBounds_toArray, List.set_cons_zero, List.set_cons_succ]
                refine wpAnyH_ready (rs := [8]) (by kernel_rfl) (by simp) ?_
                refine AllReadyH.cons rfl (fun K hK => ?_) AllReadyH.nil
                go_simp
                refine (IA.out _ ((Upd.refl [] wo).drew)).mono ?_
                rintro e w8 ⟨rfl, hu1⟩
                have hv1 : Upd [] wo w8 := (Upd.refl [] wo).drew.trans hu1
                refine hK.out _ _ ?_ (fun hHeld => ?_)
                · exact ⟨hu1.keep hHeld.1, hu1.keep hHeld.2.1, hu1.keep hHeld.2.2.1, hu1.keep hHeld.2.2.2.1, hu1.keep hHeld.2.2.2.2.1, hu1.keep hHeld.2.2.2.2.2.1, hu1.keep hHeld.2.2.2.2.2.2.1, hu1.keep hHeld.2.2.2.2.2.2.2.1, hu1.keep hHeld.2.2.2.2.2.2.2.2.1, hu1.keep hHeld.2.2.2.2.2.2.2.2.2.1, hu1.keep hHeld.2.2.2.2.2.2.2.2.2.2⟩
                clear hK K
                try simp only [Act.put, List.getElem_toArray, List.getElem_cons_zero, List.getElem_cons_succ, List.setIfInBounds_toArray, List.set_cons_zero, List.set_cons_succ]
                refine wpAnyH_take (i := 9) (v := ?_) rfl (by kernel_rfl) (by kernel_rfl) (by kernel_rfl) (fun _ _ _ h => h) (Or.inl ⟨by rfl, ?_⟩) (by assumption) ?_
                rotate_left
                · (intro w hSw; (try dsimp only at hSw); go_simp)
                  first | done | with_reducible rfl
                simp only [Act.put, List.getElem_toArray, List.getElem_cons_zero, List.getElem_cons_succ, List.setIfInBounds_toArray, List.set_cons_zero, List.set_cons_succ]
                refine wpAnyH_take (i := 10) (v := ?_) rfl (by kernel_rfl) (by kernel_rfl) (by kernel_rfl) (fun _ _ _ h => h) (Or.inl ⟨by rfl, ?_⟩) (by assumption) ?_
                rotate_left
                · (intro w hSw; (try dsimp only at hSw); go_simp)
                  first | done | with_reducible rfl
                simp only [Act.put, List.getElem_toArray, List.getElem_cons_zero, List.getElem_cons_succ, List.setIfInBounds_toArray, List.set_cons_zero, List.set_cons_succ]
                refine wpAnyH_take (i := 11) (v := ?_) rfl (by kernel_rfl) (by kernel_rfl) (by kernel_rfl) (fun _ _ _ h => h) (Or.inl ⟨by rfl, ?_⟩) (by assumption) ?_
                rotate_left
                · (intro w hSw; (try dsimp only at hSw); go_simp)
                  first | done | with_reducible rfl
                simp only [Act.put, List.getElem_toArray, List.getElem_cons_zero, List.getElem_cons_succ, List.setIfInBounds_toArray, List.set_cons_zero, List.set_cons_succ]
                refine wpAnyH_take (i := 12) (v := ?_) rfl (by kernel_rfl) (by kernel_rfl) (by kernel_rfl) (fun _ _ _ h => h) (Or.inl ⟨by rfl, ?_⟩) (by assumption) ?_
                rotate_left
                · (intro w hSw; (try dsimp only at hSw); go_simp)
                  first | done | with_reducible rfl
                simp only [Act.put, List.getElem_toArray, List.getElem_cons_zero, List.getElem_cons_succ, List.setIfInBounds_toArray, List.set_cons_zero, List.set_cons_succ]
                refine wpAnyH_take (i := 13) (v := ?_) rfl (by kernel_rfl) (by kernel_rfl) (by kernel_rfl) (fun _ _ _ h => h) (Or.inl ⟨by rfl, ?_⟩) (by assumption) ?_
                rotate_left
                · (intro w hSw; (try dsimp only at hSw); go_simp)
                  first | done | with_reducible rfl
                simp only [Act.put, List.getElem_toArray, List.getElem_cons_zero, List.getElem_cons_succ, List.setIfInBounds_toArray, List.set_cons_zero, List.set_cons_succ]
                refine wpAnyH_take (i := 14) (v := ?_) rfl (by kernel_rfl) (by kernel_rfl) (by kernel_rfl) (fun _ _ _ h => h) (Or.inl ⟨by rfl, ?_⟩) (by assumption) ?_
                rotate_left
                · (intro w hSw; (try dsimp only at hSw); go_simp)
                  first | done | with_reducible rfl
                simp only [Act.put, List.getElem_toArray, List.getElem_cons_zero, List.getElem_cons_succ, List.setIfInBounds_toArray, List.set_cons_zero, List.set_cons_succ]
                refine wpAnyH_take (i := 15) (v := ?_) rfl (by kernel_rfl) (by kernel_rfl) (by kernel_rfl) (fun _ _ _ h => h) (Or.inl ⟨by rfl, ?_⟩) (by assumption) ?_
                rotate_left
                · (intro w hSw; (try dsimp only at hSw); go_simp)
                  first | done | with_reducible rfl
                simp only [Act.put, List.getElem_toArray, List.getElem_cons_zero, List.getElem_cons_succ, List.setIfInBounds_toArray, List.set_cons_zero, List.set_cons_succ]
                refine wpAnyH_ready (rs := [16]) (by kernel_rfl) (by simp) ?_
                refine AllReadyH.cons rfl (fun K hK => ?_) AllReadyH.nil
                go_simp
                refine (IB.out w8 hv1).mono ?_
                rintro e w16 ⟨rfl, hu2⟩
                have hv2 : Upd [] wo w16 := hv1.trans hu2
                refine hK.out _ _ ?_ (fun hHeld => ?_)
                · exact ⟨hu2.keep hHeld.1, hu2.keep hHeld.2.1, hu2.keep hHeld.2.2.1, hu2.keep hHeld.2.2.2.1, hu2.keep hHeld.2.2.2.2.1, hu2.keep hHeld.2.2.2.2.2.1, hu2.keep hHeld.2.2.2.2.2.2.1, hu2.keep hHeld.2.2.2.2.2.2.2.1, hu2.keep hHeld.2.2.2.2.2.2.2.2.1, hu2.keep hHeld.2.2.2.2.2.2.2.2.2.1, hu2.keep hHeld.2.2.2.2.2.2.2.2.2.2⟩
                clear hK K
                try simp only [Act.put, List.getElem_toArray, List.getElem_cons_zero, List.getElem_cons_succ, List.setIfInBounds_toArray, List.set_cons_zero, List.set_cons_succ]
                refine wpAnyH_take (i := 17) (v := ?_) rfl (by kernel_rfl) (by kernel_rfl) (by kernel_rfl) (fun _ _ _ h => h) (Or.inl ⟨by rfl, ?_⟩) (by assumption) ?_
                rotate_left
                · (intro w hSw; (try dsimp only at hSw); go_simp)
                  first | done | with_reducible rfl
                simp only [Act.put, List.getElem_toArray, List.getElem_cons_zero, List.getElem_cons_succ, List.setIfInBounds_toArray, List.set_cons_zero, List.set_cons_succ]
                refine wpAnyH_take (i := 18) (v := ?_) rfl (by kernel_rfl) (by kernel_rfl) (by kernel_rfl) (fun _ _ _ h => h) (Or.inl ⟨by rfl, ?_⟩) (by assumption) ?_
                rotate_left
                · (intro w hSw; (try dsimp only at hSw); go_simp)
                  first | done | with_reducible rfl
                simp only [Act.put, List.getElem_toArray, List.getElem_cons_zero, List.getElem_cons_succ, List.setIfInBounds_toArray, List.set_cons_zero, List.set_cons_succ]
                refine wpAnyH_take (i := 19) (v := ?_) rfl (by kernel_rfl) (by kernel_rfl) (by kernel_rfl) (fun _ _ _ h => h) (Or.inl ⟨by rfl, ?_⟩) (by assumption) ?_
                rotate_left
                · (intro w hSw; (try dsimp only at hSw); go_simp)
                  first | done | with_reducible rfl
                simp only [Act.put, List.getElem_toArray, List.getElem_cons_zero, List.getElem_cons_succ, List.setIfInBounds_toArray, List.set_cons_zero, List.set_cons_succ]
                refine wpAnyH_take (i := 20) (v := ?_) rfl (by kernel_rfl) (by kernel_rfl) (by kernel_rfl) (fun _ _ _ h => h) (Or.inl ⟨by rfl, ?_⟩) (by assumption) ?_
                rotate_left
                · (intro w hSw; (try dsimp only at hSw); go_simp)
                  first | done | with_reducible rfl
                simp only [Act.put, List.getElem_toArray, List.getElem_cons_zero, List.getElem_cons_succ, List.setIfInBounds_toArray, List.set_cons_zero, List.set_cons_succ]
                refine wpAnyH_take (i := 21) (v := ?_) rfl (by kernel_rfl) (by kernel_rfl) (by kernel_rfl) (fun _ _ _ h => h) (Or.inl ⟨by rfl, ?_⟩) (by assumption) ?_
                rotate_left
                · (intro w hSw; (try dsimp only at hSw); go_simp)
                  first | done | with_reducible rfl
                simp only [Act.put, List.getElem_toArray, List.getElem_cons_zero, List.getElem_cons_succ, List.setIfInBounds_toArray, List.set_cons_zero, List.set_cons_succ]
                refine wpAnyH_take (i := 22) (v := ?_) rfl (by kernel_rfl) (by kernel_rfl) (by kernel_rfl) (fun _ _ _ h => h) (Or.inl ⟨by rfl, ?_⟩) (by assumption) ?_
                rotate_left
                · (intro w hSw; (try dsimp only at hSw); go_simp)
                  first | done | with_reducible rfl
                simp only [Act.put, List.getElem_toArray, List.getElem_cons_zero, List.getElem_cons_succ, List.setIfInBounds_toArray, List.set_cons_zero, List.set_cons_succ]
                refine wpAnyH_take (i := 23) (v := ?_) rfl (by kernel_rfl) (by kernel_rfl) (by kernel_rfl) (fun _ _ _ h => h) (Or.inl ⟨by rfl, ?_⟩) (by assumption) ?_
                rotate_left
                · (intro w hSw; (try dsimp only at hSw); go_simp)
                  first | done | with_reducible rfl
                simp only [Act.put, List.getElem_toArray, List.getElem_cons_zero, List.getElem_cons_succ, List.setIfInBounds_toArray, List.set_cons_zero, List.set_cons_succ]
                refine wpAnyH_take (i := 24) (v := ?_) rfl (by kernel_rfl) (by kernel_rfl) (by kernel_rfl) (fun _ _ _ h => h) (Or.inl ⟨by rfl, ?_⟩) (by assumption) ?_
                rotate_left
                · (intro w hSw; (try dsimp only at hSw); go_simp)
                  first | done | with_reducible rfl
                simp only [Act.put, List.getElem_toArray, List.getElem_cons_zero, List.getElem_cons_succ, List.setIfInBounds_toArray, List.set_cons_zero, List.set_cons_succ]
                refine wpAnyH_take (i := 25) (v := ?_) rfl (by kernel_rfl) (by kernel_rfl) (by kernel_rfl) (fun _ _ _ h => h) (Or.inl ⟨by rfl, ?_⟩) (by assumption) ?_
                rotate_left
                · (intro w hSw; (try dsimp only at hSw); go_simp)
                  first | done | with_reducible rfl
                simp only [Act.put, List.getElem_toArray, List.getElem_cons_zero, List.getElem_cons_succ, List.setIfInBounds_toArray, List.set_cons_zero, List.set_cons_succ]
                refine wpAnyH_take (i := 26) (v := ?_) rfl (by kernel_rfl) (by kernel_rfl) (by kernel_rfl) (fun _ _ _ h => h) (Or.inl ⟨by rfl, ?_⟩) (by assumption) ?_
                rotate_left
                · (intro w hSw; (try dsimp only at hSw); go_simp)
                  first | done | with_reducible rfl
                simp only [Act.put, List.getElem_toArray, List.getElem_cons_zero, List.getElem_cons_succ, List.setIfInBounds_toArray, List.set_cons_zero, List.set_cons_succ]
                refine wpAnyH_take (i := 27) (v := ?_) rfl (by kernel_rfl) (by kernel_rfl) (by kernel_rfl) (fun _ _ _ h => h) (Or.inl ⟨by rfl, ?_⟩) (by assumption) ?_
                rotate_left
                · (intro w hSw; (try dsimp only at hSw); go_simp)
                  first | done | with_reducible rfl
                simp only [Act.put, List.getElem_toArray, List.getElem_cons_zero, List.getElem_cons_succ, List.setIfInBounds_toArray, List.set_cons_zero, List.set_cons_succ]
                refine wpAnyH_take (i := 28) (v := ?_) rfl (by kernel_rfl) (by kernel_rfl) (by kernel_rfl) (fun _ _ _ h => h) (Or.inl ⟨by rfl, ?_⟩) (by assumption) ?_
                rotate_left
                · (intro w hSw; (try dsimp only at hSw); go_simp)
                  first | done | with_reducible rfl
                simp only [Act.put, List.getElem_toArray, List.getElem_cons_zero, List.getElem_cons_succ, List.setIfInBounds_toArray, List.set_cons_zero, List.set_cons_succ]
                refine wpAnyH_ready (rs := [29]) (by kernel_rfl) (by simp) ?_
                refine AllReadyH.cons rfl (fun K hK => ?_) AllReadyH.nil
                go_simp
                refine (SC9.out w16 hv2).mono ?_
                rintro e w29 ⟨rfl, rfl⟩
                have hv3 : Upd [] wo w16 := hv2
                refine hK.out _ _ ?_ (fun hHeld => ?_)
                · exact ⟨hHeld.1, hHeld.2.1, hHeld.2.2.1, hHeld.2.2.2.1, hHeld.2.2.2.2.1, hHeld.2.2.2.2.2.1, hHeld.2.2.2.2.2.2.1, hHeld.2.2.2.2.2.2.2.1, hHeld.2.2.2.2.2.2.2.2.1, hHeld.2.2.2.2.2.2.2.2.2.1, hHeld.2.2.2.2.2.2.2.2.2.2⟩
                clear hK K
                try simp only [Act.put, List.getElem_toArray, List.getElem_cons_zero, List.getElem_cons_succ, List.setIfInBounds_toArray, List.set_cons_zero, List.set_cons_succ]
                refine wpAnyH_take (i := 30) (v := ?_) rfl (by kernel_rfl) (by kernel_rfl) (by kernel_rfl) (fun _ _ _ h => h) (Or.inl ⟨by rfl, ?_⟩) (by assumption) ?_
                rotate_left
                · (intro w hSw; (try dsimp only at hSw); go_simp)
                  first | done | with_reducible rfl
                simp only [Act.put, List.getElem_toArray, List.getElem_cons_zero, List.getElem_cons_succ, List.setIfInBounds_toArray, List.set_cons_zero, List.set_cons_succ]
                refine wpAnyH_take (i := 31) (v := ?_) rfl (by kernel_rfl) (by kernel_rfl) (by kernel_rfl) (fun _ _ _ h => h) (Or.inl ⟨by rfl, ?_⟩) (by assumption) ?_
                rotate_left
                · (intro w hSw; (try dsimp only at hSw); go_simp)
                  first | done | with_reducible rfl
                simp only [Act.put, List.getElem_toArray, List.getElem_cons_zero, List.getElem_cons_succ, List.setIfInBounds_toArray, List.set_cons_zero, List.set_cons_succ]
                refine wpAnyH_take (i := 32) (v := ?_) rfl (by kernel_rfl) (by kernel_rfl) (by kernel_rfl) (fun _ _ _ h => h) (Or.inl ⟨by rfl, ?_⟩) (by assumption) ?_
                rotate_left
                · (intro w hSw; (try dsimp only at hSw); go_simp)
                  first | done | with_reducible rfl
                simp only [Act.put, List.getElem_toArray, List.getElem_cons_zero, List.getElem_cons_succ, List.setIfInBounds_toArray, List.set_cons_zero, List.set_cons_succ]
                refine wpAnyH_done (by kernel_rfl) ?_ _
                have HU9 := Lib.hid (HU.out.trans hv2)
                have HM9 := Lib.hid (ownsMap_upd HM.out hv2 (by simp))
                have q1 := hv2.keep q1
                have q2 := hv2.keep q2
                obtain ⟨in0, in1⟩ := HIN.out
                have HP9 := Lib.hid (HP.out.put in0 in1)
                obtain ⟨w10, hrun10, hm10, hg10⟩ := (ownsMap_upd HM9.out (Upd.refl [] w16).drew (by simp)).update keyP Tryz.underlying105 (show k < maxLen by unfold maxLen; have := HR9.out; omega) (keyOfP in0 in1) (plainElem_bool (H := Unit) Tryz.underlying4 true)
                have HU10 := Lib.hid ((HU9.out.drew).fresh ((Upd.refl [BM] (w16).drew).grown hg10 (fun j hj => Or.inr (by simp at hj ⊢; exact hj.symm))) (fun b hb => Or.inl (by simp at hb; have := HBMA.out; omega)))
                have HM10 := Lib.hid hm10
                have HP10 := Lib.hid (show PMap (pairsOf (R.take (k + 1))) _ by rw [HST.out]; exact HP9.out)
                clear HU HM HIN HP hHeld za0 za1 za2 za3 zb0 zb1 zb2 zb3 hm10 hg10 HU9 HM9 HP9 in0 in1 HST IA0 IB0 IA IB HC HZ
                go_upto_region 7 with (fail)
                go_region
                all_goals
                  go_wp2_with fail
                  go_roundw
                  case rel => exact ⟨k + 1, _, by omega, by go_num, HE, HU10, HM10, HP10⟩
                  case measure => simp [intOf]; omega
              · have hd : decide (0 ≤ c) = true := decide_eq_true (by omega)
                have hd2 : decide (c ≥ 0) = true := hd
                have HE := Lib.hid (show pairsF R sa sb = false by rw [HCQ.out, decide_eq_false hc0]; simp)
                clear HCQ hc0
                go_upto_region 5 with (fail)
                refine wp_region_held_drew (S := fun w' => w'.cell? ⟨BA, 0, none⟩ = some (ei sa) ∧ w'.cell? ⟨BA, 1, none⟩ = some (ei ia) ∧ w'.cell? ⟨BA, 2, none⟩ = some a1 ∧ w'.cell? ⟨BA, 3, none⟩ = some a2 ∧ w'.cell? ⟨BB, 0, none⟩ = some (ei sb) ∧ w'.cell? ⟨BB, 1, none⟩ = some (ei ib) ∧ w'.cell? ⟨BB, 2, none⟩ = some b1 ∧ w'.cell? ⟨BB, 3, none⟩ = some b2 ∧ w'.cell? ⟨b2r, o2r, none⟩ = some (ei P0) ∧ w'.cell? ⟨b2r, o2r + 1, none⟩ = some (ei P1) ∧ w'.cell? ⟨bb, off + (k - 1), none⟩ = some u9) (by kernel_rfl) ?_ (fun hHeld => ?_)
                · exact ⟨za0, za1, za2, za3, zb0, zb1, zb2, zb3, q1, q2, q9⟩
                refine wpAnyH_take (i := 0) (v := ?_) rfl (by kernel_rfl) (by kernel_rfl) (by kernel_rfl) (fun _ _ _ h => h) (Or.inl ⟨by rfl, ?_⟩) (by assumption) ?_
                rotate_left
                · (intro w hSw; (try dsimp only at hSw); go_simp)
                  first | done | with_reducible rfl
                simp only [Act.put, List.getElem_toArray, List.getElem_cons_zero, List.getElem_cons_succ, List.setIfInBounds_toArray, List.set_cons_zero, List.set_cons_succ]
                refine wpAnyH_take (i := 1) (v := ?_) rfl (by kernel_rfl) (by kernel_rfl) (by kernel_rfl) (fun _ _ _ h => h) (Or.inl ⟨by rfl, ?_⟩) (by assumption) ?_
                rotate_left
                · (intro w hSw; (try dsimp only at hSw); go_simp)
                  first | done | with_reducible rfl
                simp only [Act.put, List.getElem_toArray, List.getElem_cons_zero, List.getElem_cons_succ, List.setIfInBounds_toArray, List.set_cons_zero, List.set_cons_succ]
                refine wpAnyH_take (i := 2) (v := ?_) rfl (by kernel_rfl) (by kernel_rfl) (by kernel_rfl) (fun _ _ _ h => h) (Or.inl ⟨by rfl, ?_⟩) (by assumption) ?_
                rotate_left
                · (intro w hSw; (try dsimp only at hSw); go_simp)
                  first | done | with_reducible rfl
                simp only [Act.put, List.getElem_toArray, List.getElem_cons_zero, List.getElem_cons_succ, List.setIfInBounds_toArray, List.set_cons_zero, List.set_cons_succ]
                refine wpAnyH_take (i := 3) (v := ?_) rfl (by kernel_rfl) (by kernel_rfl) (by kernel_rfl) (fun _ _ _ h => h) (Or.inl ⟨by rfl, ?_⟩) (by assumption) ?_
                rotate_left
                · (intro w hSw; (try dsimp only at hSw); go_simp)
                  first | done | with_reducible rfl
                simp only [Act.put, List.getElem_toArray, List.getElem_cons_zero, List.getElem_cons_succ, List.setIfInBounds_toArray, List.set_cons_zero, List.set_cons_succ]
                refine wpAnyH_take (i := 4) (v := ?_) rfl (by kernel_rfl) (by kernel_rfl) (by kernel_rfl) (fun _ _ _ h => h) (Or.inl ⟨by rfl, ?_⟩) (by assumption) ?_
                rotate_left
                · (intro w hSw; (try dsimp only at hSw); go_simp)
                  first | done | with_reducible rfl
                simp only [Act.put, List.getElem_toArray, List.getElem_cons_zero, List.getElem_cons_succ, List.setIfInBounds_toArray, List.set_cons_zero, List.set_cons_succ]
                refine wpAnyH_take (i := 5) (v := ?_) rfl (by kernel_rfl) (by kernel_rfl) (by kernel_rfl) (fun _ _ _ h => h) (Or.inl ⟨by rfl, ?_⟩) (by assumption) ?_
                rotate_left
                · (intro w hSw; (try dsimp only at hSw); go_simp)
                  first | done | with_reducible rfl
                simp only [Act.put, List.getElem_toArray, List.getElem_cons_zero, List.getElem_cons_succ, List.setIfInBounds_toArray, List.set_cons_zero, List.set_cons_succ]
                refine wpAnyH_take (i := 6) (v := ?_) rfl (by kernel_rfl) (by kernel_rfl) (by kernel_rfl) (fun _ _ _ h => h) (Or.inl ⟨by rfl, ?_⟩) (by assumption) ?_
                rotate_left
                · (intro w hSw; (try dsimp only at hSw); go_simp)
                  first | done | with_reducible rfl
                simp only [Act.put, List.getElem_toArray, List.getElem_cons_zero, List.getElem_cons_succ, List.setIfInBounds_toArray, List.set_cons_zero, List.set_cons_succ]
                refine wpAnyH_take (i := 7) (v := ?_) rfl (by kernel_rfl) (by kernel_rfl) (by kernel_rfl) (fun _ _ _ h => h) (Or.inl ⟨by rfl, ?_⟩) (by assumption) ?_
                rotate_left
                · (intro w hSw; (try dsimp only at hSw); go_simp)
                  first | done | with_reducible rfl
                simp only [Act.put, List.getElem_toArray, List.getElem_cons_zero, List.getElem_cons_succ, List.setIfInBounds_toArray, List.set_cons_zero, List.set_cons_succ]
                refine wpAnyH_ready (rs := [8]) (by kernel_rfl) (by simp) ?_
                refine AllReadyH.cons rfl (fun K hK => ?_) AllReadyH.nil
                go_simp
                refine (IA.out _ ((Upd.refl [] wo).drew)).mono ?_
                rintro e w8 ⟨rfl, hu1⟩
                have hv1 : Upd [] wo w8 := (Upd.refl [] wo).drew.trans hu1
                refine hK.out _ _ ?_ (fun hHeld => ?_)
                · exact ⟨hu1.keep hHeld.1, hu1.keep hHeld.2.1, hu1.keep hHeld.2.2.1, hu1.keep hHeld.2.2.2.1, hu1.keep hHeld.2.2.2.2.1, hu1.keep hHeld.2.2.2.2.2.1, hu1.keep hHeld.2.2.2.2.2.2.1, hu1.keep hHeld.2.2.2.2.2.2.2.1, hu1.keep hHeld.2.2.2.2.2.2.2.2.1, hu1.keep hHeld.2.2.2.2.2.2.2.2.2.1, hu1.keep hHeld.2.2.2.2.2.2.2.2.2.2⟩
                clear hK K
                try simp only [Act.put, List.getElem_toArray, List.getElem_cons_zero, List.getElem_cons_succ, List.setIfInBounds_toArray, List.set_cons_zero, List.set_cons_succ]
                refine wpAnyH_take (i := 9) (v := ?_) rfl (by kernel_rfl) (by kernel_rfl) (by kernel_rfl) (fun _ _ _ h => h) (Or.inl ⟨by rfl, ?_⟩) (by assumption) ?_
                rotate_left
                · (intro w hSw; (try dsimp only at hSw); go_simp)
                  first | done | with_reducible rfl
                simp only [Act.put, List.getElem_toArray, List.getElem_cons_zero, List.getElem_cons_succ, List.setIfInBounds_toArray, List.set_cons_zero, List.set_cons_succ]
                refine wpAnyH_take (i := 10) (v := ?_) rfl (by kernel_rfl) (by kernel_rfl) (by kernel_rfl) (fun _ _ _ h => h) (Or.inl ⟨by rfl, ?_⟩) (by assumption) ?_
                rotate_left
                · (intro w hSw; (try dsimp only at hSw); go_simp)
                  first | done | with_reducible rfl
                simp only [Act.put, List.getElem_toArray, List.getElem_cons_zero, List.getElem_cons_succ, List.setIfInBounds_toArray, List.set_cons_zero, List.set_cons_succ]
                refine wpAnyH_take (i := 11) (v := ?_) rfl (by kernel_rfl) (by kernel_rfl) (by kernel_rfl) (fun _ _ _ h => h) (Or.inl ⟨by rfl, ?_⟩) (by assumption) ?_
                rotate_left
                · (intro w hSw; (try dsimp only at hSw); go_simp)
                  first | done | with_reducible rfl
                simp only [Act.put, List.getElem_toArray, List.getElem_cons_zero, List.getElem_cons_succ, List.setIfInBounds_toArray, List.set_cons_zero, List.set_cons_succ]
                refine wpAnyH_take (i := 12) (v := ?_) rfl (by kernel_rfl) (by kernel_rfl) (by kernel_rfl) (fun _ _ _ h => h) (Or.inl ⟨by rfl, ?_⟩) (by assumption) ?_
                rotate_left
                · (intro w hSw; (try dsimp only at hSw); go_simp)
                  first | done | with_reducible rfl
                simp only [Act.put, List.getElem_toArray, List.getElem_cons_zero, List.getElem_cons_succ, List.setIfInBounds_toArray, List.set_cons_zero, List.set_cons_succ]
                refine wpAnyH_take (i := 13) (v := ?_) rfl (by kernel_rfl) (by kernel_rfl) (by kernel_rfl) (fun _ _ _ h => h) (Or.inl ⟨by rfl, ?_⟩) (by assumption) ?_
                rotate_left
                · (intro w hSw; (try dsimp only at hSw); go_simp)
                  first | done | with_reducible rfl
                simp only [Act.put, List.getElem_toArray, List.getElem_cons_zero, List.getElem_cons_succ, List.setIfInBounds_toArray, List.set_cons_zero, List.set_cons_succ]
                refine wpAnyH_take (i := 14) (v := ?_) rfl (by kernel_rfl) (by kernel_rfl) (by kernel_rfl) (fun _ _ _ h => h) (Or.inl ⟨by rfl, ?_⟩) (by assumption) ?_
                rotate_left
                · (intro w hSw; (try dsimp only at hSw); go_simp)
                  first | done | with_reducible rfl
                simp only [Act.put, List.getElem_toArray, List.getElem_cons_zero, List.getElem_cons_succ, List.setIfInBounds_toArray, List.set_cons_zero, List.set_cons_succ]
                refine wpAnyH_take (i := 15) (v := ?_) rfl (by kernel_rfl) (by kernel_rfl) (by kernel_rfl) (fun _ _ _ h => h) (Or.inl ⟨by rfl, ?_⟩) (by assumption) ?_
                rotate_left
                · (intro w hSw; (try dsimp only at hSw); go_simp)
                  first | done | with_reducible rfl
                simp only [Act.put, List.getElem_toArray, List.getElem_cons_zero, List.getElem_cons_succ, List.setIfInBounds_toArray, List.set_cons_zero, List.set_cons_succ]
                refine wpAnyH_ready (rs := [16]) (by kernel_rfl) (by simp) ?_
                refine AllReadyH.cons rfl (fun K hK => ?_) AllReadyH.nil
                go_simp
                refine (IB.out w8 hv1).mono ?_
                rintro e w16 ⟨rfl, hu2⟩
                have hv2 : Upd [] wo w16 := hv1.trans hu2
                refine hK.out _ _ ?_ (fun hHeld => ?_)
                · exact ⟨hu2.keep hHeld.1, hu2.keep hHeld.2.1, hu2.keep hHeld.2.2.1, hu2.keep hHeld.2.2.2.1, hu2.keep hHeld.2.2.2.2.1, hu2.keep hHeld.2.2.2.2.2.1, hu2.keep hHeld.2.2.2.2.2.2.1, hu2.keep hHeld.2.2.2.2.2.2.2.1, hu2.keep hHeld.2.2.2.2.2.2.2.2.1, hu2.keep hHeld.2.2.2.2.2.2.2.2.2.1, hu2.keep hHeld.2.2.2.2.2.2.2.2.2.2⟩
                clear hK K
                try simp only [Act.put, List.getElem_toArray, List.getElem_cons_zero, List.getElem_cons_succ, List.setIfInBounds_toArray, List.set_cons_zero, List.set_cons_succ]
                refine wpAnyH_take (i := 17) (v := ?_) rfl (by kernel_rfl) (by kernel_rfl) (by kernel_rfl) (fun _ _ _ h => h) (Or.inl ⟨by rfl, ?_⟩) (by assumption) ?_
                rotate_left
                · (intro w hSw; (try dsimp only at hSw); go_simp)
                  first | done | with_reducible rfl
                simp only [Act.put, List.getElem_toArray, List.getElem_cons_zero, List.getElem_cons_succ, List.setIfInBounds_toArray, List.set_cons_zero, List.set_cons_succ]
                refine wpAnyH_take (i := 18) (v := ?_) rfl (by kernel_rfl) (by kernel_rfl) (by kernel_rfl) (fun _ _ _ h => h) (Or.inl ⟨by rfl, ?_⟩) (by assumption) ?_
                rotate_left
                · (intro w hSw; (try dsimp only at hSw); go_simp)
                  first | done | with_reducible rfl
                simp only [Act.put, List.getElem_toArray, List.getElem_cons_zero, List.getElem_cons_succ, List.setIfInBounds_toArray, List.set_cons_zero, List.set_cons_succ]
                refine wpAnyH_take (i := 19) (v := ?_) rfl (by kernel_rfl) (by kernel_rfl) (by kernel_rfl) (fun _ _ _ h => h) (Or.inl ⟨by rfl, ?_⟩) (by assumption) ?_
                rotate_left
                · (intro w hSw; (try dsimp only at hSw); go_simp)
                  first | done | with_reducible rfl
                simp only [Act.put, List.getElem_toArray, List.getElem_cons_zero, List.getElem_cons_succ, List.setIfInBounds_toArray, List.set_cons_zero, List.set_cons_succ]
                refine wpAnyH_take (i := 20) (v := ?_) rfl (by kernel_rfl) (by kernel_rfl) (by kernel_rfl) (fun _ _ _ h => h) (Or.inl ⟨by rfl, ?_⟩) (by assumption) ?_
                rotate_left
                · (intro w hSw; (try dsimp only at hSw); go_simp)
                  first | done | with_reducible rfl
                simp only [Act.put, List.getElem_toArray, List.getElem_cons_zero, List.getElem_cons_succ, List.setIfInBounds_toArray, List.set_cons_zero, List.set_cons_succ]
                refine wpAnyH_take (i := 21) (v := ?_) rfl (by kernel_rfl) (by kernel_rfl) (by kernel_rfl) (fun _ _ _ h => h) (Or.inl ⟨by rfl, ?_⟩) (by assumption) ?_
                rotate_left
                · (intro w hSw; (try dsimp only at hSw); go_simp)
                  first | done | with_reducible rfl
                simp only [Act.put, List.getElem_toArray, List.getElem_cons_zero, List.getElem_cons_succ, List.setIfInBounds_toArray, List.set_cons_zero, List.set_cons_succ]
                refine wpAnyH_take (i := 22) (v := ?_) rfl (by kernel_rfl) (by kernel_rfl) (by kernel_rfl) (fun _ _ _ h => h) (Or.inl ⟨by rfl, ?_⟩) (by assumption) ?_
                rotate_left
                · (intro w hSw; (try dsimp only at hSw); go_simp)
                  first | done | with_reducible rfl
                simp only [Act.put, List.getElem_toArray, List.getElem_cons_zero, List.getElem_cons_succ, List.setIfInBounds_toArray, List.set_cons_zero, List.set_cons_succ]
                refine wpAnyH_take (i := 23) (v := ?_) rfl (by kernel_rfl) (by kernel_rfl) (by kernel_rfl) (fun _ _ _ h => h) (Or.inl ⟨by rfl, ?_⟩) (by assumption) ?_
                rotate_left
                · (intro w hSw; (try dsimp only at hSw); go_simp)
                  first | done | with_reducible rfl
                simp only [Act.put, List.getElem_toArray, List.getElem_cons_zero, List.getElem_cons_succ, List.setIfInBounds_toArray, List.set_cons_zero, List.set_cons_succ]
                refine wpAnyH_take (i := 24) (v := ?_) rfl (by kernel_rfl) (by kernel_rfl) (by kernel_rfl) (fun _ _ _ h => h) (Or.inl ⟨by rfl, ?_⟩) (by assumption) ?_
                rotate_left
                · (intro w hSw; (try dsimp only at hSw); go_simp)
                  first | done | with_reducible rfl
                simp only [Act.put, List.getElem_toArray, List.getElem_cons_zero, List.getElem_cons_succ, List.setIfInBounds_toArray, List.set_cons_zero, List.set_cons_succ]
                refine wpAnyH_take (i := 25) (v := ?_) rfl (by kernel_rfl) (by kernel_rfl) (by kernel_rfl) (fun _ _ _ h => h) (Or.inl ⟨by rfl, ?_⟩) (by assumption) ?_
                rotate_left
                · (intro w hSw; (try dsimp only at hSw); go_simp)
                  first | done | with_reducible rfl
                simp only [Act.put, List.getElem_toArray, List.getElem_cons_zero, List.getElem_cons_succ, List.setIfInBounds_toArray, List.set_cons_zero, List.set_cons_succ]
                refine wpAnyH_take (i := 26) (v := ?_) rfl (by kernel_rfl) (by kernel_rfl) (by kernel_rfl) (fun _ _ _ h => h) (Or.inl ⟨by rfl, ?_⟩) (by assumption) ?_
                rotate_left
                · (intro w hSw; (try dsimp only at hSw); go_simp)
                  first | done | with_reducible rfl
                simp only [Act.put, List.getElem_toArray, List.getElem_cons_zero, List.getElem_cons_succ, List.setIfInBounds_toArray, List.set_cons_zero, List.set_cons_succ]
                refine wpAnyH_take (i := 27) (v := ?_) rfl (by kernel_rfl) (by kernel_rfl) (by kernel_rfl) (fun _ _ _ h => h) (Or.inl ⟨by rfl, ?_⟩) (by assumption) ?_
                rotate_left
                · (intro w hSw; (try dsimp only at hSw); go_simp)
                  first | done | with_reducible rfl
                simp only [Act.put, List.getElem_toArray, List.getElem_cons_zero, List.getElem_cons_succ, List.setIfInBounds_toArray, List.set_cons_zero, List.set_cons_succ]
                refine wpAnyH_take (i := 28) (v := ?_) rfl (by kernel_rfl) (by kernel_rfl) (by kernel_rfl) (fun _ _ _ h => h) (Or.inl ⟨by rfl, ?_⟩) (by assumption) ?_
                rotate_left
                · (intro w hSw; (try dsimp only at hSw); go_simp)
                  first | done | with_reducible rfl
                simp only [Act.put, List.getElem_toArray, List.getElem_cons_zero, List.getElem_cons_succ, List.setIfInBounds_toArray, List.set_cons_zero, List.set_cons_succ]
                refine wpAnyH_ready (rs := [29]) (by kernel_rfl) (by simp) ?_
                refine AllReadyH.cons rfl (fun K hK => ?_) AllReadyH.nil
                go_simp
                refine (SC9.out w16 hv2).mono ?_
                rintro e w29 ⟨rfl, rfl⟩
                have hv3 : Upd [] wo w16 := hv2
                refine hK.out _ _ ?_ (fun hHeld => ?_)
                · exact ⟨hHeld.1, hHeld.2.1, hHeld.2.2.1, hHeld.2.2.2.1, hHeld.2.2.2.2.1, hHeld.2.2.2.2.2.1, hHeld.2.2.2.2.2.2.1, hHeld.2.2.2.2.2.2.2.1, hHeld.2.2.2.2.2.2.2.2.1, hHeld.2.2.2.2.2.2.2.2.2.1, hHeld.2.2.2.2.2.2.2.2.2.2⟩
                clear hK K
                try simp only [Act.put, List.getElem_toArray, List.getElem_cons_zero, List.getElem_cons_succ, List.setIfInBounds_toArray, List.set_cons_zero, List.set_cons_succ]
                refine wpAnyH_take (i := 30) (v := ?_) rfl (by kernel_rfl) (by kernel_rfl) (by kernel_rfl) (fun _ _ _ h => h) (Or.inl ⟨by rfl, ?_⟩) (by assumption) ?_
                rotate_left
                · (intro w hSw; (try dsimp only at hSw); go_simp)
                  first | done | with_reducible rfl
                simp only [Act.put, List.getElem_toArray, List.getElem_cons_zero, List.getElem_cons_succ, List.setIfInBounds_toArray, List.set_cons_zero, List.set_cons_succ]
                refine wpAnyH_take (i := 31) (v := ?_) rfl (by kernel_rfl) (by kernel_rfl) (by kernel_rfl) (fun _ _ _ h => h) (Or.inl ⟨by rfl, ?_⟩) (by assumption) ?_
                rotate_left
                · (intro w hSw; (try dsimp only at hSw); go_simp)
                  first | done | with_reducible rfl
                simp only [Act.put, List.getElem_toArray, List.getElem_cons_zero, List.getElem_cons_succ, List.setIfInBounds_toArray, List.set_cons_zero, List.set_cons_succ]
                refine wpAnyH_take (i := 32) (v := ?_) rfl (by kernel_rfl) (by kernel_rfl) (by kernel_rfl) (fun _ _ _ h => h) (Or.inl ⟨by rfl, ?_⟩) (by assumption) ?_
                rotate_left
                · (intro w hSw; (try dsimp only at hSw); go_simp)
                  first | done | with_reducible rfl
                simp only [Act.put, List.getElem_toArray, List.getElem_cons_zero, List.getElem_cons_succ, List.setIfInBounds_toArray, List.set_cons_zero, List.set_cons_succ]
                refine wpAnyH_done (by kernel_rfl) ?_ _
                have HU9 := Lib.hid (HU.out.trans hv2)
                clear HU hHeld q1 q2 za0 za1 za2 za3 zb0 zb1 zb2 zb3
                go_wp2_with fail
                go_ret2
                exact ⟨Or.inl ⟨HE.out, rfl⟩, HUA.out.trans HU9.out⟩
      · have hbe : ((R[k].length : Int) != 2) = true := by simp; omega
        have HE := Lib.hid (show pairsF R sa sb = false by rw [← hF, show (R[k].length == 2) = false from by simpa using h2]; simp)
        clear hF HF h2 hcs hr HRK gk
        go_upto_region 5 with (fail)
        go_quiet (fail)
        have HU9 := Lib.hid (HU.out.drewN nq)
        clear HU
        go_wp2_with fail
        go_ret2
        exact ⟨Or.inl ⟨HE.out, rfl⟩, HUA.out.trans HU9.out⟩
    · obtain rfl : k = R.length := by omega
      have HE := Lib.hid (show pairsF R sa sb = true by rw [← HF.out, Nat.sub_self]; rfl)
      have HP9 := Lib.hid (show PMap (pairsOf R) D by have := HP.out; rw [List.take_length] at this; exact this)
      clear HF HP
      go_wp2_with fail
      go_ret2
      exact ⟨Or.inr ⟨HE.out, BM, _, D, rfl, HBM.out, HM.out, HP9.out⟩, HUA.out.trans HU.out⟩

end Go.Proofs.YtcnaapiljmgfoaaGreatDoor

/-
  Relations between systems, the reference's parts: the edges from a state, and lists of pairs.
-/
namespace Go.Proofs.YtcnaapiljmgfoaaGreatDoor
open Go.RowKit

/-- the edges from a state. -/
def outF (eds : List Ed) (k : Int) : List Ed := eds.filter fun e => e.fr == k
theorem outF_step (eds : List Ed) (k : Int) (i : Nat) (h : i < eds.length) : outF (eds.take (i + 1)) k = outF (eds.take i) k ++ (if eds[i].fr == k then [eds[i]] else []) := by
  unfold outF
  rw [List.take_succ_eq_append_getElem h, List.filter_append]
  congr 1
  cases hq : eds[i].fr == k <;> simp [hq]
theorem outF_len (eds : List Ed) (k : Int) : (outF eds k).length ≤ eds.length := List.length_filter_le _ _

set_option maxRecDepth 20000 in
set_option maxHeartbeats 4000000 in
theorem outES (T : Nat) (v2 : Value) (eds : List Ed) (k : Int) (w : World) (f2 : List Nat) (z3 : w.cell? ⟨T, 3, none⟩ = some v2) (h2 : R_E1 f2 w [v2] eds) (hm : eds.length ≤ 2000000) :
    Calls Tryz.prog 68 #[.pointer (some ⟨T, 0, none⟩), .int .i64 k] w fun e w' => (∃ v', e = .returned v' ∧ New R_E1 w w' v' (outF eds k)) ∧ Upd [] w w' := by
  obtain ⟨i3, ni, nz0, nz1, nz2⟩ := info_parts Tryz.infoEd
  obtain ⟨a, cap, rfl, l1, l2, hc⟩ := slF3_open h2
  unfold maxLen at l2
  have HC := Lib.hid hc
  have hlit := World.ownsRow_lit (base := w.heap.size) (e := 74) (size := 3) w #[] 0 (Nat.le_refl _) (by simp [maxLen]) (by simp)
  have HLIT := Lib.hid hlit
  have hT := World.block_lt_of_cell? w _ z3
  clear h2 hc hlit
  go_enter Tryz.func68, Tryz.ntmps68
  go_wp2_with fail
  go_loopw [5, 6] (fun ov iv wr => ∃ i : Nat, i ≤ eds.length ∧ iv = .int .i64 i ∧ Hid (wr.ownsRow w.heap.size 74 3 ov (outF (eds.take i) k).length ((outF (eds.take i) k).flatMap edCs)) ∧ Hid (Upd [] w wr)) (fun _ iv _ => eds.length - (intOf iv).toNat)
  case atStart => exact ⟨0, Nat.zero_le _, rfl, Lib.hid (by simpa [outF] using HLIT.out), Lib.hid ((Upd.refl _ _).alloc _)⟩
  case round =>
    clear HLIT
    obtain ⟨wo, rfl⟩ : ∃ wo : World, wo = wr := ⟨_, rfl⟩
    obtain ⟨i, hi, rfl, HO, HU⟩ := hrel
    have y3 := HU.out.keep z3
    obtain ⟨oa, oc, hov⟩ := ownsRow_form HO.out
    subst hov
    by_cases hlt : i < eds.length
    · obtain ⟨b, o, rfl, -, -, p1, p2, p3⟩ := HC.out i hlt
      have q1 := HU.out.keep p1
      have q2 := HU.out.keep p2
      have q3 := HU.out.keep p3
      have HST := Lib.hid (outF_step eds k i hlt)
      have hll : (outF (eds.take i) k).length ≤ 2000000 := by have := outF_len (eds.take i) k; simp at this; omega
      have hil : (i : Int) < (eds.length : Int) := by omega
      clear p1 p2 p3
      generalize outF (eds.take i) k = P at *
      generalize eds[i] = x at *
      obtain ⟨x1, x2, x3⟩ := x
      simp only at q1 q2 q3 HST
      cases hk : (x1 == k) with
      | false =>
        have HP := Lib.hid (show outF (eds.take (i + 1)) k = P by rw [HST.out, hk]; simp)
        clear HST
        go_wp2_with fail
        go_roundw
        case rel => exact ⟨i + 1, by omega, by go_num, Lib.hid (by rw [HP.out]; exact HO.out), HU⟩
        case measure => simp [intOf]; omega
      | true =>
        have HP := Lib.hid (show outF (eds.take (i + 1)) k = P ++ [⟨x1, x2, x3⟩] by rw [HST.out, hk]; simp)
        have hsz := HU.out.size
        have hown0 := HO.out
        clear HST
        go_wp2_with (first
          | (at_builtin; refine wpList_append_tight _ rfl _ _ 30 rfl w.heap.size 74 i3 (.agg #[.int .i64 0, .int .i64 0, .int .i64 0]) 3 24 Tryz.underlying30 ni nz0 nz1 nz2 rfl (by decide) _ _ _ rfl (hown0.alloc _) ⟨wo.heap.size, 0, none⟩ 1 1 [.int .i64 x1, .int .i64 x2, .int .i64 x3] rfl rfl (fun j u hj => by rw [addr_add]; exact cell_new wo #[.int .i64 x1, .int .i64 x2, .int .i64 x3] _ _ rfl _ _ (by simpa using hj)) (by simp [Value.oneCell']) (by unfold maxLen; omega) (by omega) (by simp; omega) ?_)
          | fail)
        intro v4 w4 hown4 hg4 ht4
        have HO4 := Lib.hid (show w4.ownsRow w.heap.size 74 3 v4 (P ++ [(⟨x1, x2, x3⟩ : Ed)]).length ((P ++ [(⟨x1, x2, x3⟩ : Ed)]).flatMap edCs) by
          rw [List.length_append, List.flatMap_append]; simpa [edCs] using hown4)
        have HU4 := Lib.hid ((HU.out.alloc (.cells #[.int .i64 x1, .int .i64 x2, .int .i64 x3] 74)).grown hg4 (fun b hb => Or.inl ((hown0.lt b hb).1)))
        clear hown4 hg4 ht4 hown0 HO HU
        go_wp2_with fail
        go_roundw
        case rel => exact ⟨i + 1, by omega, by go_num, Lib.hid (by rw [HP.out]; exact HO4.out), HU4⟩
        case measure => simp [intOf]; omega
    · obtain rfl : i = eds.length := by omega
      have HO2 := Lib.hid (show wo.ownsRow w.heap.size 74 3 (.slice oa (outF (eds.take eds.length) k).length oc) (outF eds k).length ((outF eds k).flatMap edCs) by
        have := HO.out
        rw [List.take_length] at this ⊢
        exact this)
      clear HO
      go_wp2_with fail
      go_ret
      exact ⟨⟨_, rfl, New.ofOwns3 HO2.out⟩, HU.out⟩

end Go.Proofs.YtcnaapiljmgfoaaGreatDoor

/-
  Relations between systems, the program's parts: the edges from a state, lists held against each other.
-/
namespace Go.Proofs.YtcnaapiljmgfoaaGreatDoor
open Go.RowKit

set_option maxRecDepth 20000 in
set_option maxHeartbeats 4000000 in
theorem outEI (st ini : Int) (v1 v2 : Value) (eds : List Ed) (k : Int) (w : World) (f2 : List Nat) (h2 : R_E1 f2 w [v2] eds) (hm : eds.length ≤ 2000000) :
    Calls Tryz.prog 121 #[.agg #[ei st, ei ini, v1, v2], .int .i64 k] w fun e w' => (∃ v', e = .returned v' ∧ New R_E1 w w' v' (outF eds k)) ∧ Upd [] w w' := by
  obtain ⟨i3, ni, nz0, nz1, nz2⟩ := info_parts Tryz.infoEd
  obtain ⟨a, cap, rfl, l1, l2, hc⟩ := slF3_open h2
  unfold maxLen at l2
  have HC := Lib.hid hc
  obtain ⟨wA, hwA⟩ : ∃ wA, wA = w.alloc (.cells #[ei st, ei ini, v1, .slice a eds.length cap] 32) := ⟨_, rfl⟩
  have HUA := Lib.hid (show Upd [] w wA by rw [hwA]; exact (Upd.refl _ _).alloc _)
  have z3 : wA.cell? ⟨w.heap.size, 3, none⟩ = some (.slice a eds.length cap) := by rw [hwA]; exact cell_new w _ _ _ rfl 3 _ rfl
  clear h2 hc
  go_enter Tryz.func121, Tryz.ntmps121
  go_upto_region 2 with (fail)
  rw [← hwA]
  clear hwA
  go_wp2_with fail
  go_loopw [5, 11] (fun ov iv wr => ∃ i : Nat, i ≤ eds.length ∧ iv = .int .i64 i ∧ Hid (wr.ownsRow w.heap.size 74 3 ov (outF (eds.take i) k).length ((outF (eds.take i) k).flatMap edCs)) ∧ Hid (Upd [] w wr)) (fun _ iv _ => eds.length - (intOf iv).toNat)
  case atStart => exact ⟨0, Nat.zero_le _, rfl, Lib.hid (World.ownsRow_nil _ _ _ _), HUA⟩
  case round =>
    clear HUA z3
    obtain ⟨wo, rfl⟩ : ∃ wo : World, wo = wr := ⟨_, rfl⟩
    obtain ⟨i, hi, rfl, HO, HU⟩ := hrel
    obtain ⟨oa, oc, hov⟩ := ownsRow_form HO.out
    subst hov
    by_cases hlt : i < eds.length
    · obtain ⟨b, o, rfl, -, -, p1, p2, p3⟩ := HC.out i hlt
      have q1 := HU.out.keep p1
      have q2 := HU.out.keep p2
      have q3 := HU.out.keep p3
      have HST := Lib.hid (outF_step eds k i hlt)
      have hll : (outF (eds.take i) k).length ≤ 2000000 := by have := outF_len (eds.take i) k; simp at this; omega
      have hil : (i : Int) < (eds.length : Int) := by omega
      clear p1 p2 p3
      generalize outF (eds.take i) k = P at *
      generalize eds[i] = x at *
      obtain ⟨x1, x2, x3⟩ := x
      simp only at q1 q2 q3 HST
      cases hk : (x1 == k) with
      | false =>
        have HP := Lib.hid (show outF (eds.take (i + 1)) k = P by rw [HST.out, hk]; simp)
        clear HST
        go_wp2_with fail
        go_roundw
        case rel => exact ⟨i + 1, by omega, by go_num, Lib.hid (by rw [HP.out]; exact HO.out.alloc _), Lib.hid (HU.out.alloc _)⟩
        case measure => simp [intOf]; omega
      | true =>
        have HP := Lib.hid (show outF (eds.take (i + 1)) k = P ++ [⟨x1, x2, x3⟩] by rw [HST.out, hk]; simp)
        have hsz := HU.out.size
        obtain ⟨wB, hwB⟩ : ∃ wB, wB = wo.alloc (.cells #[.int .i64 x1, .int .i64 x2, .int .i64 x3] 74) := ⟨_, rfl⟩
        have hown0 : wB.ownsRow w.heap.size 74 3 (.slice oa P.length oc) P.length (P.flatMap edCs) := by rw [hwB]; exact HO.out.alloc _
        have HUB := Lib.hid (show Upd [] w wB by rw [hwB]; exact HU.out.alloc _)
        have t0 : wB.cell? ⟨wo.heap.size, 0, none⟩ = some (ei x1) := by rw [hwB]; exact cell_new wo _ _ _ rfl 0 _ rfl
        have t1 : wB.cell? ⟨wo.heap.size, 1, none⟩ = some (ei x2) := by rw [hwB]; exact cell_new wo _ _ _ rfl 1 _ rfl
        have t2 : wB.cell? ⟨wo.heap.size, 2, none⟩ = some (ei x3) := by rw [hwB]; exact cell_new wo _ _ _ rfl 2 _ rfl
        have hszB : w.heap.size ≤ wB.heap.size := HUB.out.size
        clear HST
        go_upto_region 5 with (fail)
        rw [← hwB]
        clear hwB HO HU q1 q2 q3
        go_wp2_with (first
          | (at_builtin; refine wpList_append_tight _ rfl _ _ 30 rfl w.heap.size 74 i3 (.agg #[.int .i64 0, .int .i64 0, .int .i64 0]) 3 24 Tryz.underlying30 ni nz0 nz1 nz2 rfl (by decide) _ _ _ rfl (hown0.alloc _) ⟨wB.heap.size, 0, none⟩ 1 1 [.int .i64 x1, .int .i64 x2, .int .i64 x3] rfl rfl (fun j u hj => by rw [addr_add]; exact cell_new wB #[.int .i64 x1, .int .i64 x2, .int .i64 x3] _ _ rfl _ _ (by simpa using hj)) (by simp [Value.oneCell']) (by unfold maxLen; omega) (by omega) (by simp; omega) ?_)
          | fail)
        intro v4 w4 hown4 hg4 ht4
        have HO4 := Lib.hid (show w4.ownsRow w.heap.size 74 3 v4 (P ++ [(⟨x1, x2, x3⟩ : Ed)]).length ((P ++ [(⟨x1, x2, x3⟩ : Ed)]).flatMap edCs) by
          rw [List.length_append, List.flatMap_append]; simpa [edCs] using hown4)
        have HU4 := Lib.hid ((HUB.out.alloc (.cells #[.int .i64 x1, .int .i64 x2, .int .i64 x3] 74)).grown hg4 (fun b hb => Or.inl ((hown0.lt b hb).1)))
        clear hown4 hg4 ht4 hown0 t0 t1 t2 HUB
        go_wp2_with fail
        go_roundw
        case rel => exact ⟨i + 1, by omega, by go_num, Lib.hid (by rw [HP.out]; exact HO4.out), HU4⟩
        case measure => simp [intOf]; omega
    · obtain rfl : i = eds.length := by omega
      have HO2 := Lib.hid (show wo.ownsRow w.heap.size 74 3 (.slice oa (outF (eds.take eds.length) k).length oc) (outF eds k).length ((outF eds k).flatMap edCs) by
        have := HO.out
        rw [List.take_length] at this ⊢
        exact this)
      clear HO
      go_wp2_with fail
      go_ret
      exact ⟨⟨_, rfl, New.ofOwns3 HO2.out⟩, HU.out⟩

set_option maxRecDepth 20000 in
set_option maxHeartbeats 2000000 in
theorem equalLI (v1 v2 : Value) (x y : List Int) (w : World) (f1 f2 : List Nat) (h1 : R1 f1 w [v1] x) (h2 : R1 f2 w [v2] y) :
    Calls Tryz.prog 62 #[v1, v2] w fun e w' => e = .returned (.bool (x == y)) ∧ ∃ n, w' = w.drewN n := by
  obtain ⟨a1, c1, rfl, hl1, hm1, hc1⟩ := slF1_open h1
  obtain ⟨a2, c2, rfl, hl2, hm2, hc2⟩ := slF1_open h2
  unfold maxLen at hm1 hm2
  have HC1 := Lib.hid hc1
  have HC2 := Lib.hid hc2
  clear h1 h2 hc1 hc2
  by_cases hl : x.length = y.length
  · have HL := Lib.hid hl
    have hbe : ((x.length : Int) != (y.length : Int)) = false := by rw [hl]; simp
    clear hl
    go_enter Tryz.func62, Tryz.ntmps62
    go_wp2_with fail
    go_loopw [13] (fun iv wr => ∃ k : Nat, k ≤ x.length ∧ iv = .int .i64 k ∧ Hid ((x.drop k == y.drop k) = (x == y)) ∧ Hid (∃ n, wr = w.drewN n)) (fun iv _ => x.length - (intOf iv).toNat)
    case atStart => exact ⟨0, Nat.zero_le _, rfl, Lib.hid rfl, Lib.hid ⟨0, rfl⟩⟩
    case round =>
      obtain ⟨wo, rfl⟩ : ∃ wo : World, wo = wr := ⟨_, rfl⟩
      obtain ⟨k, hk, rfl, HS, HN⟩ := hrel
      have HU := Lib.hid (show Upd [] w wo by obtain ⟨n, rfl⟩ := HN.out; exact (Upd.refl _ _).drewN n)
      have HM := Lib.hid (fun m : Nat => show ∃ n, wo.drewN m = w.drewN n by obtain ⟨n, hn⟩ := HN.out; exact ⟨n + m, by rw [hn, drewN_add]⟩)
      by_cases hlt : k < x.length
      · have hlt2 : k < y.length := by have := HL.out; omega
        obtain ⟨b1, o1, rfl, -, -, p1⟩ := HC1.out k hlt
        obtain ⟨b2, o2, rfl, -, -, p2⟩ := HC2.out k hlt2
        have q1 := HU.out.keep p1
        have q2 := HU.out.keep p2
        have HD := Lib.hid (HS.out.symm.trans (drop_step x y k hlt hlt2))
        have k1 : (k : Int) < (x.length : Int) := by omega
        have k2 : (k : Int) < (y.length : Int) := by omega
        clear p1 p2 HS
        generalize x[k] = a at *
        generalize y[k] = b at *
        by_cases hab : a = b
        · have hne : (a != b) = false := by simp [hab]
          have hne2 : (a == b) = true := by simp [hab]
          have HE := Lib.hid (show (x.drop (k + 1) == y.drop (k + 1)) = (x == y) by rw [HD.out, hne2]; simp)
          clear HD hab
          go_wp2_with fail
          go_quiet (fail)
          go_wp2_with fail
          go_roundw
          case rel => exact ⟨k + 1, by omega, by go_num, HE, Lib.hid (HM.out _)⟩
          case measure => simp [intOf]; omega
        · have hne : (a != b) = true := by simp [hab]
          have hne2 : (a == b) = false := by simp [hab]
          have HE := Lib.hid (show (x == y) = false by rw [HD.out, hne2]; simp)
          clear HD hab
          go_wp2_with fail
          go_quiet (fail)
          go_wp2_with fail
          go_ret
          exact ⟨by rw [HE.out]; rfl, HM.out _⟩
      · obtain rfl : k = x.length := by omega
        have HE := Lib.hid (show (x == y) = true by rw [← HS.out, List.drop_length, List.drop_of_length_le (by have := HL.out; omega)]; rfl)
        clear HS
        go_wp2_with fail
        go_ret
        exact ⟨by rw [HE.out]; rfl, HN.out⟩
  · have hbe : ((x.length : Int) != (y.length : Int)) = true := by simp; omega
    have HE := Lib.hid (show (x == y) = false by rw [beq_eq_false_iff_ne]; intro h; exact hl (by rw [h]))
    clear hl
    go_enter Tryz.func62, Tryz.ntmps62
    go_wp2_with fail
    go_ret
    exact ⟨by rw [HE.out]; rfl, 0, rfl⟩

end Go.Proofs.YtcnaapiljmgfoaaGreatDoor

/-
  The library's sort of numbers, at a list that rises already: it stays.
-/
namespace Go.Proofs.YtcnaapiljmgfoaaGreatDoor
open Go.RowKit

def Rising (xs : List Int) : Prop := ∀ (i j : Nat) (hi : i < xs.length) (hj : j < xs.length), i < j → xs[i] < xs[j]

set_option maxRecDepth 20000 in
theorem lessI (a b : Int) (w : World) : Calls Tryz.prog 141 #[.int .i64 a, .int .i64 b] w fun e w' => e = .returned (.bool (decide (a < b))) ∧ w = w' := by
  go_enter Tryz.func141, Tryz.ntmps141
  go_wp2_with (first | (go_at_call 133; refine (isNaN _ _).mono ?_; rintro e w' ⟨rfl, rfl⟩))
  go_ret
  exact ⟨rfl, rfl⟩

set_option maxRecDepth 20000 in
set_option maxHeartbeats 2000000 in
theorem insertSortI (v : Value) (xs : List Int) (w : World) (fp : List Nat) (hR : R1 fp w [v] xs) (hs : Rising xs) (hm : xs.length ≤ 40) :
    Calls Tryz.prog 135 #[v, .int .i64 0, .int .i64 xs.length] w fun e w' => e = .returned (.tuple #[]) ∧ ∃ n, w' = w.drewN n := by
  obtain ⟨a, c, rfl, hl, -, hc⟩ := slF1_open hR
  have HC := Lib.hid hc
  have HS := Lib.hid hs
  clear hR hc hs
  go_enter Tryz.func135, Tryz.ntmps135
  go_wp2_with fail
  go_loopw [6] (fun iv wr => ∃ k n : Nat, 1 ≤ k ∧ k ≤ 41 ∧ iv = .int .i64 k ∧ wr = w.drewN n) (fun iv _ => xs.length - (intOf iv).toNat)
  case atStart => exact ⟨1, 0, by omega, by omega, rfl, rfl⟩
  case round =>
    obtain ⟨k, n, hk1, hk2, rfl, rfl⟩ := hrel
    by_cases hlt : k < xs.length
    · obtain ⟨b, o, rfl, -, -, p1⟩ := HC.out k hlt
      obtain ⟨b', o', hb, -, -, p2⟩ := HC.out (k - 1) (by omega)
      cases hb
      have hno := HS.out (k - 1) k (by omega) hlt (by omega)
      have SL := Lib.hid (fun j n => (lessI xs[k] xs[k - 1] (w.drewN (j + n))).mono (R' := fun e w' => e = .returned (.bool false) ∧ ∃ m, w' = w.drewN (j + m)) (fun e w' h => ⟨by rw [h.1, decide_eq_false (by omega)], n, h.2.symm⟩))
      clear hno
      generalize xs[k] = x at *
      generalize xs[k - 1] = y at *
      have i0 : IntKind.i64.wrap ((k : Int) - 1) = (k : Int) - 1 := IntWalk.i64_in _ (by omega)
      have i1 : ((k : Int) - 1).toNat = k - 1 := by omega
      have i3 : (0 : Int) ≤ (k : Int) - 1 := by omega
      have i5 : (1 : Int) ≤ (k : Int) := by omega
      have i6 : (0 : Int) < (k : Int) := by omega
      have i7 : decide (0 < k) = true := decide_eq_true (by omega)
      have i4 : (k : Int) - 1 < (xs.length : Int) := by omega
      have i8 : (k : Int) < (xs.length : Int) := by omega
      go_wp2_with fail
      go_loopw [7] (fun iv wr => ∃ n : Nat, iv = .int .i64 k ∧ wr = w.drewN n) (fun iv _ => 0)
      case atStart => exact ⟨n, rfl, rfl⟩
      case round =>
        obtain ⟨n2, rfl, rfl⟩ := hrel
        go_upto_region 4 with (fail)
        go_quiet ((go_at_call 141; first | exact SL.out _ _ | (simp only [drewN_add]; exact SL.out _ _)))
        go_wp2_with fail
        go_roundw
        case rel => exact ⟨k + 1, _, by omega, by omega, by go_num, rfl⟩
        case measure => simp [intOf]; omega
    · have i8 : ¬ (k : Int) < (xs.length : Int) := by omega
      go_wp2_with fail
      go_end0
      exact ⟨rfl, n, rfl⟩

set_option maxRecDepth 20000 in
set_option maxHeartbeats 2000000 in
theorem order2I (v u : Value) (xs : List Int) (i j : Nat) (w : World) (fp : List Nat) (hR : R1 fp w [v] xs) (hs : Rising xs) (hij : i < j) (hj : j < xs.length) :
    Calls Tryz.prog 174 #[v, .int .i64 i, .int .i64 j, u] w fun e w' => e = .returned (.tuple #[.int .i64 i, .int .i64 j]) ∧ ∃ n, w' = w.drewN n := by
  obtain ⟨a, c, rfl, hl, -, hc⟩ := slF1_open hR
  have hi : i < xs.length := by omega
  obtain ⟨b, o, rfl, -, -, p1⟩ := hc i hi
  obtain ⟨b', o', hb, -, -, p2⟩ := hc j hj
  cases hb
  have hno := hs i j hi hj hij
  have SL := Lib.hid (fun k n => (lessI xs[j] xs[i] (w.drewN (k + n))).mono (R' := fun e w' => e = .returned (.bool false) ∧ ∃ m, w' = w.drewN (k + m)) (fun e w' h => ⟨by rw [h.1, decide_eq_false (by omega)], n, h.2.symm⟩))
  have S0 := Lib.hid (fun n => (lessI xs[j] xs[i] (w.drewN n)).mono (R' := fun e w' => e = .returned (.bool false) ∧ ∃ m, w' = w.drewN m) (fun e w' h => ⟨by rw [h.1, decide_eq_false (by omega)], n, h.2.symm⟩))
  have i1 : (i : Int) < (xs.length : Int) := by omega
  have i2 : (j : Int) < (xs.length : Int) := by omega
  clear hno hs hR hc hij
  generalize xs[i] = x at *
  generalize xs[j] = y at *
  go_enter Tryz.func174, Tryz.ntmps174
  go_upto_region 1 with (fail)
  go_quiet ((go_at_call 141; first | exact S0.out _ | exact SL.out _ _ | (simp only [drewN_add]; exact SL.out _ _)))
  go_wp2_with fail
  go_ret2
  exact ⟨rfl, _, rfl⟩

set_option maxRecDepth 20000 in
set_option maxHeartbeats 2000000 in
theorem medianI (v u : Value) (xs : List Int) (i j k : Nat) (w : World) (fp : List Nat) (hR : R1 fp w [v] xs) (hs : Rising xs) (hm : xs.length ≤ 40) (hij : i < j) (hjk : j < k) (hk : k < xs.length) :
    Calls Tryz.prog 161 #[v, .int .i64 i, .int .i64 j, .int .i64 k, u] w fun e w' => e = .returned (.int .i64 j) ∧ ∃ n, w' = w.drewN n := by
  have S1 := Lib.hid (fun n => order2I v u xs i j (w.drewN n) fp (R1k.drewN hR n) hs hij (by omega))
  have S2 := Lib.hid (fun n => order2I v u xs j k (w.drewN n) fp (R1k.drewN hR n) hs hjk (by omega))
  have S0 := Lib.hid (order2I v u xs i j w fp hR hs hij (by omega))
  have h1 : i ≤ 40 := by omega
  have h2 : j ≤ 40 := by omega
  have h3 : k ≤ 40 := by omega
  clear hR hs hm hij hjk hk
  go_enter Tryz.func161, Tryz.ntmps161
  go_wp2_with fail
  refine S0.out.mono ?_
  rintro e w1 ⟨rfl, n1, rfl⟩
  go_wp2_with fail
  refine (S2.out n1).mono ?_
  rintro e w2 ⟨rfl, n2, rfl⟩
  rw [drewN_add]
  go_wp2_with fail
  refine (S1.out _).mono ?_
  rintro e w3 ⟨rfl, n3, rfl⟩
  rw [drewN_add]
  go_wp2_with fail
  go_ret
  exact ⟨rfl, _, rfl⟩

set_option maxRecDepth 20000 in
set_option maxHeartbeats 2000000 in
theorem partialI (v : Value) (xs : List Int) (w : World) (fp : List Nat) (hR : R1 fp w [v] xs) (hs : Rising xs) (hm : xs.length ≤ 40) (hm1 : 13 ≤ xs.length) :
    Calls Tryz.prog 140 #[v, .int .i64 0, .int .i64 xs.length] w fun e w' => e = .returned (.bool true) ∧ ∃ n, w' = w.drewN n := by
  obtain ⟨a, c, rfl, hl, -, hc⟩ := slF1_open hR
  have HC := Lib.hid hc
  have HS := Lib.hid hs
  clear hR hc hs
  go_enter Tryz.func140, Tryz.ntmps140
  go_wp2_with fail
  go_loopw [7, 8] (fun iv jv wr => iv = .int .i64 1 ∧ jv = .int .i64 0 ∧ wr = w) (fun iv _ _ => 0)
  case atStart => exact ⟨rfl, rfl, rfl⟩
  case round =>
    obtain ⟨rfl, rfl, rfl⟩ := hrel
    go_wp2_with fail
    go_loopw [7] (fun iv wr2 => ∃ k n : Nat, 1 ≤ k ∧ k ≤ xs.length ∧ iv = .int .i64 k ∧ wr2 = wr.drewN n) (fun iv _ => xs.length - (intOf iv).toNat)
    case atStart => exact ⟨1, 0, by omega, by omega, rfl, rfl⟩
    case round =>
      obtain ⟨k, n, hk1, hk2, rfl, rfl⟩ := hrel
      by_cases hlt : k < xs.length
      · obtain ⟨b, o, rfl, -, -, p1⟩ := HC.out k hlt
        obtain ⟨b', o', hb, -, -, p2⟩ := HC.out (k - 1) (by omega)
        cases hb
        have hno := HS.out (k - 1) k (by omega) hlt (by omega)
        have SL := Lib.hid (fun j n => (lessI xs[k] xs[k - 1] (wr.drewN (j + n))).mono (R' := fun e w' => e = .returned (.bool false) ∧ ∃ m, w' = wr.drewN (j + m)) (fun e w' h => ⟨by rw [h.1, decide_eq_false (by omega)], n, h.2.symm⟩))
        clear hno
        generalize xs[k] = x at *
        generalize xs[k - 1] = y at *
        have i0 : IntKind.i64.wrap ((k : Int) - 1) = (k : Int) - 1 := IntWalk.i64_in _ (by omega)
        have i1 : ((k : Int) - 1).toNat = k - 1 := by omega
        have i3 : (0 : Int) ≤ (k : Int) - 1 := by omega
        have i5 : (1 : Int) ≤ (k : Int) := by omega
        have i4 : (k : Int) - 1 < (xs.length : Int) := by omega
        have i8 : (k : Int) < (xs.length : Int) := by omega
        have i9 : decide (k < xs.length) = true := decide_eq_true hlt
        go_upto_region 5 with (fail)
        go_quiet ((go_at_call 141; first | exact SL.out _ _ | (simp only [drewN_add]; exact SL.out _ _)))
        go_wp2_with fail
        go_roundw
        case rel => exact ⟨k + 1, _, by omega, by omega, by go_num, rfl⟩
        case measure => simp [intOf]; omega
      · obtain rfl : k = xs.length := by omega
        have i8 : ¬ (xs.length : Int) < (xs.length : Int) := by omega
        have i9 : decide (xs.length < xs.length) = false := decide_eq_false (by omega)
        go_upto_region 5 with (fail)
        go_quiet (fail)
        go_wp2_with fail
        go_ret
        exact ⟨rfl, _, rfl⟩

set_option maxRecDepth 20000 in
set_option maxHeartbeats 2000000 in
theorem pivotI (v : Value) (xs : List Int) (w : World) (fp : List Nat) (hR : R1 fp w [v] xs) (hs : Rising xs) (hm : xs.length ≤ 40) (hm1 : 13 ≤ xs.length) :
    Calls Tryz.prog 138 #[v, .int .i64 0, .int .i64 xs.length] w fun e w' => (∃ p : Nat, e = .returned (.tuple #[.int .i64 p, .int .i64 1])) ∧ Upd [] w w' := by
  obtain ⟨q, hq, hq1, hq2, hq3⟩ : ∃ q : Nat, (xs.length : Int).tdiv 4 = q ∧ 3 ≤ q ∧ q * 3 < xs.length ∧ q ≤ 10 := ⟨xs.length / 4, by rw [Int.tdiv_eq_ediv_of_nonneg (by omega)]; omega, by omega, by omega, by omega⟩
  obtain ⟨wA, hwA⟩ : ∃ wA, wA = w.alloc (.cells #[.int .i64 0] 3) := ⟨_, rfl⟩
  have U := Lib.hid (show Upd [] w wA by rw [hwA]; exact (Upd.refl _ _).alloc _)
  have z := Lib.hid (show wA.cell? ⟨w.heap.size, 0, none⟩ = some (.int .i64 0) by rw [hwA]; exact cell_new w _ _ _ rfl 0 _ rfl)
  obtain ⟨T, hT⟩ : ∃ T, T = w.heap.size := ⟨_, rfl⟩
  rw [← hT] at z
  have S1 := Lib.hid (medianI v (.pointer (some ⟨T, 0, none⟩)) xs q (q * 2) (q * 3) wA fp (R1k.upd hR U.out (by simp)) hs hm (by omega) (by omega) hq2)
  have hn : (xs.length : Int) ≤ 40 := by omega
  have hn1 : (13 : Int) ≤ (xs.length : Int) := by omega
  rw [Int.natCast_mul, Int.natCast_mul] at S1
  clear hR hs hm hm1 hq2
  go_enter Tryz.func138, Tryz.ntmps138
  go_upto_region 3 with (fail)
  rw [← hwA, ← hT]
  clear hwA hT
  go_wp2_with fail
  refine S1.out.mono ?_
  rintro e w1 ⟨rfl, n1, rfl⟩
  have z1 := z.out
  go_wp2_with fail
  go_ret2
  exact ⟨⟨_, rfl⟩, U.out.drewN _⟩

set_option maxRecDepth 20000 in
set_option maxHeartbeats 2000000 in
theorem pdqI (v : Value) (xs : List Int) (L : Int) (w : World) (fp : List Nat) (hR : R1 fp w [v] xs) (hs : Rising xs) (hm : xs.length ≤ 40) (hL : 13 ≤ xs.length → L ≠ 0) :
    Calls Tryz.prog 117 #[v, .int .i64 0, .int .i64 xs.length, .int .i64 L] w fun e w' => e = .returned (.tuple #[]) ∧ Upd [] w w' := by
  have hi : (xs.length : Int) ≤ 40 := by omega
  by_cases h12 : xs.length ≤ 12
  · have h12' : (xs.length : Int) ≤ 12 := by omega
    have S1 := Lib.hid (insertSortI v xs w fp hR hs hm)
    clear hR hs hm hL h12
    go_enter Tryz.func117, Tryz.ntmps117
    go_wp2_with fail
    go_loopw [1, 2, 3, 8, 9] (fun s1 s2 s3 s8 s9 wr => s1 = .int .i64 0 ∧ s2 = .int .i64 xs.length ∧ wr = w) (fun s1 _ _ _ _ _ => 0)
    case atStart => exact ⟨rfl, rfl, rfl⟩
    case round =>
      obtain ⟨rfl, rfl, rfl⟩ := hrel
      go_wp2_with fail
      refine S1.out.mono ?_
      rintro e w1 ⟨rfl, n1, rfl⟩
      go_wp2_with fail
      refine bodyPost_ret (results_none Tryz.results117 _ _ _) rfl ?_
      exact ⟨rfl, (Upd.refl _ _).drewN _⟩
  · have h12' : ¬ (xs.length : Int) ≤ 12 := by omega
    have hL0 := hL (by omega)
    have S1 := Lib.hid (pivotI v xs w fp hR hs hm (by omega))
    have S2 := Lib.hid (fun W (hu : Upd [] w W) => partialI v xs W fp (R1k.upd hR hu (by simp)) hs hm (by omega))
    clear hR hs hm hL h12
    go_enter Tryz.func117, Tryz.ntmps117
    go_wp2_with fail
    go_loopw [1, 2, 3, 8, 9] (fun s1 s2 s3 s8 s9 wr => s1 = .int .i64 0 ∧ s2 = .int .i64 xs.length ∧ s3 = .int .i64 L ∧ s8 = .bool true ∧ s9 = .bool true ∧ wr = w) (fun s1 _ _ _ _ _ => 0)
    case atStart => exact ⟨rfl, rfl, rfl, rfl, rfl, rfl⟩
    case round =>
      obtain ⟨rfl, rfl, rfl, rfl, rfl, rfl⟩ := hrel
      go_wp2_with fail
      refine S1.out.mono ?_
      rintro e w1 ⟨⟨p, rfl⟩, hu1⟩
      have T2 := Lib.hid (S2.out w1 hu1)
      have U1 := Lib.hid hu1
      clear S1 S2 hu1
      go_wp2_with fail
      refine T2.out.mono ?_
      rintro e w2 ⟨rfl, n2, rfl⟩
      have U2 := Lib.hid (U1.out.drewN n2)
      clear T2
      go_wp2_with fail
      refine bodyPost_ret (results_none Tryz.results117 _ _ _) rfl ?_
      exact ⟨rfl, U2.out⟩

set_option maxRecDepth 20000 in
set_option maxHeartbeats 2000000 in
theorem sortI (v : Value) (xs : List Int) (w : World) (fp : List Nat) (hR : R1 fp w [v] xs) (hs : Rising xs) (hm : xs.length ≤ 40) :
    Calls Tryz.prog 95 #[v] w fun e w' => e = .returned (.tuple #[]) ∧ Upd [] w w' := by
  have S1 := Lib.hid (Tryz.bits_Len (xs.length : Int) w (by omega) (by omega))
  have S2 := Lib.hid (pdqI v xs (Lib.bitLen ((xs.length : Int).toNat) : Nat) w fp hR hs hm (fun h => by
    intro h0
    rw [Int.toNat_natCast] at h0
    have : ∀ n : Nat, 13 ≤ n → n ≤ 40 → Lib.bitLen n ≠ 0 := by
      intro n h1 h2 h3
      rw [Lib.bitLen, Lib.bitLenAux, if_neg (by omega)] at h3
      omega
    exact this _ h hm (by omega)))
  have hi : (xs.length : Int) ≤ 40 := by omega
  obtain ⟨a, c, rfl, hl, -, -⟩ := slF1_open hR
  clear hR hs hm hl
  generalize Lib.bitLen ((xs.length : Int).toNat) = L at *
  go_enter Tryz.func95, Tryz.ntmps95
  go_wp2_with fail
  refine S1.out.mono ?_
  rintro e w1 ⟨rfl, rfl⟩
  go_wp2_with fail
  refine S2.out.mono ?_
  rintro e w2 ⟨rfl, hu⟩
  have U := Lib.hid hu
  clear S1 S2 hu
  go_wp2_with fail
  go_end0
  exact ⟨rfl, U.out⟩

set_option maxRecDepth 20000 in
set_option maxHeartbeats 2000000 in
theorem compactI (v : Value) (xs : List Int) (w : World) (fp : List Nat) (hR : R1 fp w [v] xs) (hs : Rising xs) (hm : xs.length ≤ 40) :
    Calls Tryz.prog 96 #[v] w fun e w' => e = .returned v ∧ ∃ n, w' = w.drewN n := by
  obtain ⟨a, c, rfl, hl, -, hc⟩ := slF1_open hR
  have HC := Lib.hid hc
  have HS := Lib.hid hs
  have hi : (xs.length : Int) ≤ 40 := by omega
  clear hR hc hs
  go_enter Tryz.func96, Tryz.ntmps96
  by_cases h2 : xs.length < 2
  · have h2' : (xs.length : Int) < 2 := by omega
    go_wp2_with fail
    go_ret
    exact ⟨rfl, 0, rfl⟩
  · have h2' : ¬ (xs.length : Int) < 2 := by omega
    go_wp2_with fail
    go_loopw [3] (fun iv wr => ∃ k n : Nat, 1 ≤ k ∧ k ≤ xs.length ∧ iv = .int .i64 k ∧ wr = w.drewN n) (fun iv _ => xs.length - (intOf iv).toNat)
    case atStart => exact ⟨1, 0, by omega, by omega, rfl, rfl⟩
    case round =>
      obtain ⟨k, n, hk1, hk2, rfl, rfl⟩ := hrel
      by_cases hlt : k < xs.length
      · obtain ⟨b, o, rfl, -, -, p1⟩ := HC.out k hlt
        obtain ⟨b', o', hb, -, -, p2⟩ := HC.out (k - 1) (by omega)
        cases hb
        have hno := HS.out (k - 1) k (by omega) hlt (by omega)
        have hne : (xs[k] == xs[k - 1]) = false := by rw [beq_eq_false_iff_ne]; omega
        have hne2 : (xs[k] != xs[k - 1]) = true := by rw [bne_iff_ne]; omega
        clear hno
        generalize xs[k] = x at *
        generalize xs[k - 1] = y at *
        have i0 : IntKind.i64.wrap ((k : Int) - 1) = (k : Int) - 1 := IntWalk.i64_in _ (by omega)
        have i1 : ((k : Int) - 1).toNat = k - 1 := by omega
        have i3 : (0 : Int) ≤ (k : Int) - 1 := by omega
        have i5 : (1 : Int) ≤ (k : Int) := by omega
        have i4 : (k : Int) - 1 < (xs.length : Int) := by omega
        have i8 : (k : Int) < (xs.length : Int) := by omega
        go_upto_region 6 with (fail)
        go_quiet (fail)
        go_wp2_with fail
        go_roundw
        case rel => exact ⟨k + 1, _, by omega, by omega, by go_num, rfl⟩
        case measure => simp [intOf]; omega
      · obtain rfl : k = xs.length := by omega
        have i8 : ¬ (xs.length : Int) < (xs.length : Int) := by omega
        go_wp2_with fail
        go_ret
        exact ⟨rfl, _, rfl⟩

end Go.Proofs.YtcnaapiljmgfoaaGreatDoor

/-
  Relations between systems, the reference's parts: whether all edges from a state are met.
-/
namespace Go.Proofs.YtcnaapiljmgfoaaGreatDoor
open Go.RowKit

/-- one edge is met by another one to a related state. -/
def metP (A B : List (List UInt8)) (R : List (List Int)) (back : Bool) (e g : Ed) : Bool := (A.getD e.lb.toNat [] == B.getD g.lb.toNat []) && (if back then hasP R g.to e.to else hasP R e.to g.to)
/-- all edges from x are met by edges from y. -/
def movesF (A B : Sys) (x y : Int) (R : List (List Int)) (back : Bool) : Bool := (outF A.eds x).all fun e => (outF B.eds y).any fun g => metP A.labs B.labs R back e g
theorem outF_mem {eds : List Ed} {k : Int} {e : Ed} (h : e ∈ outF eds k) : e ∈ eds := (List.mem_filter.1 h).1

set_option maxRecDepth 20000 in
set_option maxHeartbeats 8000000 in
theorem movesS (A B : Sys) (Ta Tb : Nat) (a1 a2 b1 b2 : Value) (x y : Int) (v : Value) (R : List (List Int)) (back : Bool) (w : World) (f1 f2 f3 f4 fr : List Nat)
    (za2 : w.cell? ⟨Ta, 2, none⟩ = some a1) (za3 : w.cell? ⟨Ta, 3, none⟩ = some a2) (zb2 : w.cell? ⟨Tb, 2, none⟩ = some b1) (zb3 : w.cell? ⟨Tb, 3, none⟩ = some b2)
    (hA1 : RS f1 w [a1] A.labs) (hA2 : R_E1 f2 w [a2] A.eds) (hB1 : RS f3 w [b1] B.labs) (hB2 : R_E1 f4 w [b2] B.eds) (hR : R_N2 fr w [v] R) (hR2 : ∀ p ∈ R, p.length = 2)
    (hAe : ∀ e ∈ A.eds, 0 ≤ e.lb ∧ e.lb < A.labs.length) (hBe : ∀ e ∈ B.eds, 0 ≤ e.lb ∧ e.lb < B.labs.length) (hAl : A.eds.length ≤ 2000000) (hBl : B.eds.length ≤ 2000000) :
    Calls Tryz.prog 57 #[.pointer (some ⟨Ta, 0, none⟩), .pointer (some ⟨Tb, 0, none⟩), .int .i64 x, .int .i64 y, v, .bool back] w fun e w' => e = .returned (.bool (movesF A B x y R back)) ∧ Upd [] w w' := by
  have S1 := Lib.hid (outES Ta a2 A.eds x w f2 za3 hA2 hAl)
  have S2 := Lib.hid (fun W (hu : Upd [] w W) => outES Tb b2 B.eds y W f4 (hu.keep zb3) (R_E1k.upd hB2 hu (by simp)) hBl)
  have HR := Lib.hid (fun W (hu : Upd [] w W) => R_N2k.upd hR hu (by simp))
  obtain ⟨rv, rc, hv, -, -, -⟩ := slP_open hR
  subst hv
  obtain ⟨la, ca, rfl, la1, la2, hca⟩ := slF1_open hA1
  obtain ⟨lb, cb, rfl, lb1, lb2, hcb⟩ := slF1_open hB1
  unfold maxLen at la2 lb2
  have HCA := Lib.hid hca
  have HCB := Lib.hid hcb
  have HZ := Lib.hid (And.intro za2 zb2)
  have HAE := Lib.hid (And.intro hAe hBe)
  have HM := Lib.hid (show movesF A B x y R back = ((outF A.eds x).drop 0).all fun e => (outF B.eds y).any fun g => metP A.labs B.labs R back e g from rfl)
  clear za2 za3 zb2 zb3 hA1 hA2 hB1 hB2 hR hca hcb hAe hBe
  have HOA := Lib.hid (fun e (h : e ∈ outF A.eds x) => HAE.out.1 e (outF_mem h))
  have HOB := Lib.hid (fun e (h : e ∈ outF B.eds y) => HAE.out.2 e (outF_mem h))
  generalize outF A.eds x = OA at *
  generalize outF B.eds y = OB at *
  go_enter Tryz.func57, Tryz.ntmps57
  go_wp2_with fail
  refine S1.out.mono ?_
  rintro e w1 ⟨⟨vl, rfl, fl, rl, -, -⟩, hu1⟩
  have T2 := Lib.hid (S2.out w1 hu1)
  have HU1 := Lib.hid hu1
  have HRL := Lib.hid rl
  obtain ⟨l1, cl, rfl, -, -, -⟩ := slF3_open rl
  clear S1 S2 rl hu1
  go_wp2_with fail
  refine T2.out.mono ?_
  rintro e w2 ⟨⟨vr, rfl, fr2, rr, -, -⟩, hu2⟩
  have HU2 := Lib.hid (HU1.out.trans hu2)
  have hl := R_E1k.upd HRL.out hu2 (by simp)
  obtain ⟨l1', cl', hvl, ll1, ll2, hcl⟩ := slF3_open hl
  cases hvl
  obtain ⟨r1, cr, rfl, rr1, rr2, hcr⟩ := slF3_open rr
  unfold maxLen at ll2 rr2
  have HCL := Lib.hid hcl
  have HCR := Lib.hid hcr
  clear T2 HRL HU1 hu2 hl rr hcl hcr
  go_wp2_with fail
  go_loopw [15] (fun iv wr => ∃ i n : Nat, i ≤ OA.length ∧ iv = .int .i64 i ∧ wr = w2.drewN n ∧ Hid (((OA.drop i).all fun e => OB.any fun g => metP A.labs B.labs R back e g) = movesF A B x y R back)) (fun iv _ => OA.length - (intOf iv).toNat)
  case atStart => exact ⟨0, 0, Nat.zero_le _, rfl, rfl, Lib.hid HM.out.symm⟩
  case round =>
    clear HM
    obtain ⟨i, n, hi, rfl, rfl, HA⟩ := hrel
    by_cases hlt : i < OA.length
    · obtain ⟨bl, ol, rfl, -, -, p1, p2, p3⟩ := HCL.out i hlt
      have hlab := HOA.out OA[i] (List.getElem_mem hlt)
      have hS := HA.out
      rw [List.drop_eq_getElem_cons hlt, List.all_cons] at hS
      have HS := Lib.hid hS
      have hil : (i : Int) < (OA.length : Int) := by omega
      clear hS HA
      generalize OA[i] = e at *
      obtain ⟨e1, e2, e3⟩ := e
      simp only at p1 p2 p3 hlab
      obtain ⟨le, rfl⟩ : ∃ N : Nat, e2 = N := ⟨e2.toNat, by omega⟩
      have hle : le < A.labs.length := by omega
      obtain ⟨ba, oa, rfl, -, -, pA⟩ := HCA.out le hle
      have hlei : (le : Int) < (A.labs.length : Int) := by omega
      have gA : A.labs.getD le [] = A.labs[le] := by rw [List.getD_eq_getElem?_getD, List.getElem?_eq_getElem hle]; rfl
      have pA := HU2.out.keep pA
      obtain ⟨zA, zB⟩ := HZ.out
      have zA := HU2.out.keep zA
      have zB := HU2.out.keep zB
      have HMET := Lib.hid (fun g : Ed => show metP A.labs B.labs R back ⟨e1, le, e3⟩ g = ((A.labs[le] == B.labs.getD g.lb.toNat []) && (if back then hasP R g.to e3 else hasP R e3 g.to)) by
        unfold metP
        rw [show ((⟨e1, (le : Int), e3⟩ : Ed).lb.toNat) = le from Int.toNat_natCast le, gA])
      clear gA hlab
      generalize A.labs[le] = sa at *
      go_wp2_with fail
      go_loopw [16, 17] (fun fv kv wr => ∃ (k n : Nat) (q : Bool), k ≤ OB.length ∧ kv = .int .i64 k ∧ fv = .bool q ∧ wr = w2.drewN n ∧ Hid ((q || (OB.drop k).any fun g => metP A.labs B.labs R back ⟨e1, le, e3⟩ g) = OB.any fun g => metP A.labs B.labs R back ⟨e1, le, e3⟩ g)) (fun _ kv _ => OB.length - (intOf kv).toNat)
      case atStart => exact ⟨0, n, false, Nat.zero_le _, rfl, rfl, rfl, Lib.hid (by simp)⟩
      case round =>
        obtain ⟨k, n2, q, hk, rfl, rfl, rfl, HB⟩ := hrel
        cases q with
        | true =>
          have HE := Lib.hid (show ((OA.drop (i + 1)).all fun e => OB.any fun g => metP A.labs B.labs R back e g) = movesF A B x y R back by rw [← HS.out, ← HB.out]; simp)
          clear HB
          by_cases hkl : k < OB.length
          · have hki : (k : Int) < (OB.length : Int) := by omega
            go_wp2_with fail
            go_roundw
            case rel => exact ⟨i + 1, n2, by omega, by go_num, rfl, HE⟩
            case measure => simp [intOf]; omega
          · have hki : ¬ (k : Int) < (OB.length : Int) := by omega
            go_wp2_with fail
            go_roundw
            case rel => exact ⟨i + 1, n2, by omega, by go_num, rfl, HE⟩
            case measure => simp [intOf]; omega
        | false =>
          by_cases hkl : k < OB.length
          · obtain ⟨br, orr, rfl, -, -, u1, u2, u3⟩ := HCR.out k hkl
            have hlb2 := HOB.out OB[k] (List.getElem_mem hkl)
            have hB := HB.out
            rw [List.drop_eq_getElem_cons hkl, List.any_cons, HMET.out] at hB
            have HBB := Lib.hid hB
            have hki : (k : Int) < (OB.length : Int) := by omega
            clear hB HB
            generalize OB[k] = g at *
            obtain ⟨g1, g2, g3⟩ := g
            simp only at u1 u2 u3 hlb2 HBB
            obtain ⟨lg, rfl⟩ : ∃ N : Nat, g2 = N := ⟨g2.toNat, by omega⟩
            have hlg : lg < B.labs.length := by omega
            obtain ⟨bb, ob, rfl, -, -, pB⟩ := HCB.out lg hlg
            have hlgi : (lg : Int) < (B.labs.length : Int) := by omega
            have gB : B.labs.getD lg [] = B.labs[lg] := by rw [List.getD_eq_getElem?_getD, List.getElem?_eq_getElem hlg]; rfl
            have pB := HU2.out.keep pB
            rw [Int.toNat_natCast, gB] at HBB
            clear gB hlb2
            generalize B.labs[lg] = sb at *
            by_cases hab : sa = sb
            · have hne : (sa != sb) = false := by simp [hab]
              have hne2 : (sa == sb) = true := by simp [hab]
              rw [hne2] at HBB
              have SH := Lib.hid (fun (p q : Int) (j n : Nat) => (hasPS _ R p q (w2.drewN (j + n)) fr (R_N2k.drewN (HR.out w2 HU2.out) (j + n)) hR2).mono (fun e w' h => (⟨h.1, n, h.2.symm⟩ : _ ∧ ∃ m, w' = w2.drewN (j + m))))
              clear hab
              cases back with
              | true =>
                have HE := Lib.hid (show (hasP R g3 e3 || (OB.drop (k + 1)).any fun g => metP A.labs B.labs R true ⟨e1, le, e3⟩ g) = OB.any fun g => metP A.labs B.labs R true ⟨e1, le, e3⟩ g by rw [← HBB.out]; rfl)
                have SQ := Lib.hid (fun j n => show Calls Tryz.prog 29 #[_, .int .i64 g3, .int .i64 e3] (w2.drewN (j + n)) fun e w' => e = .returned (.bool (hasP R g3 e3)) ∧ ∃ m, w' = w2.drewN (j + m) from SH.out _ _ j n)
                clear HBB SH
                generalize hasP R g3 e3 = qq at *
                go_wp2_with fail
                go_quiet (fail)
                go_wp2_with fail
                go_quiet ((go_at_call 29; first | exact SQ.out _ _ | (simp only [drewN_add]; exact SQ.out _ _)))
                go_wp2_with fail
                go_roundw
                case rel => exact ⟨k + 1, _, qq, by omega, by go_num, rfl, rfl, HE⟩
                case measure => simp [intOf]; omega
              | false =>
                have HE := Lib.hid (show (hasP R e3 g3 || (OB.drop (k + 1)).any fun g => metP A.labs B.labs R false ⟨e1, le, e3⟩ g) = OB.any fun g => metP A.labs B.labs R false ⟨e1, le, e3⟩ g by rw [← HBB.out]; rfl)
                have SQ := Lib.hid (fun j n => show Calls Tryz.prog 29 #[_, .int .i64 e3, .int .i64 g3] (w2.drewN (j + n)) fun e w' => e = .returned (.bool (hasP R e3 g3)) ∧ ∃ m, w' = w2.drewN (j + m) from SH.out _ _ j n)
                clear HBB SH
                generalize hasP R e3 g3 = qq at *
                go_wp2_with fail
                go_quiet (fail)
                go_wp2_with fail
                go_quiet ((go_at_call 29; first | exact SQ.out _ _ | (simp only [drewN_add]; exact SQ.out _ _)))
                go_wp2_with fail
                go_roundw
                case rel => exact ⟨k + 1, _, qq, by omega, by go_num, rfl, rfl, HE⟩
                case measure => simp [intOf]; omega
            · have hne : (sa != sb) = true := by simp [hab]
              have hne2 : (sa == sb) = false := by simp [hab]
              have HE := Lib.hid (show (false || (OB.drop (k + 1)).any fun g => metP A.labs B.labs R back ⟨e1, le, e3⟩ g) = OB.any fun g => metP A.labs B.labs R back ⟨e1, le, e3⟩ g by rw [← HBB.out, hne2]; simp)
              clear HBB hab
              go_wp2_with fail
              go_quiet (fail)
              go_wp2_with fail
              go_roundw
              case rel => exact ⟨k + 1, _, false, by omega, by go_num, rfl, rfl, HE⟩
              case measure => simp [intOf]; omega
          · have hki : ¬ (k : Int) < (OB.length : Int) := by omega
            have HE := Lib.hid (show movesF A B x y R back = false by
              rw [← HS.out, ← HB.out, List.drop_of_length_le (by omega)]; simp)
            clear HB
            go_wp2_with fail
            go_ret
            exact ⟨by rw [HE.out]; rfl, HU2.out.drewN _⟩
    · obtain rfl : i = OA.length := by omega
      have HE := Lib.hid (show movesF A B x y R back = true by rw [← HA.out, List.drop_length]; rfl)
      clear HA
      go_wp2_with fail
      go_ret
      exact ⟨by rw [HE.out]; rfl, HU2.out.drewN _⟩

end Go.Proofs.YtcnaapiljmgfoaaGreatDoor

/-
  Relations between systems, the reference's parts: whether all pairs are met. (The drawn region's ways are printed by tools/genbish.py.)
-/
namespace Go.Proofs.YtcnaapiljmgfoaaGreatDoor
open Go.RowKit

/-- pairs are a strong bisimulation of two systems. -/
def holdsF (A B : Sys) (R : List (List Int)) : Bool := R.all fun p => movesF A B (p.getD 0 0) (p.getD 1 0) R false && movesF B A (p.getD 1 0) (p.getD 0 0) R true

set_option maxRecDepth 20000 in
set_option maxHeartbeats 8000000 in
theorem holdsS (A B : Sys) (Ta Tb : Nat) (a1 a2 b1 b2 : Value) (v : Value) (R : List (List Int)) (w : World) (f1 f2 f3 f4 fr : List Nat)
    (za2 : w.cell? ⟨Ta, 2, none⟩ = some a1) (za3 : w.cell? ⟨Ta, 3, none⟩ = some a2) (zb2 : w.cell? ⟨Tb, 2, none⟩ = some b1) (zb3 : w.cell? ⟨Tb, 3, none⟩ = some b2)
    (hA1 : RS f1 w [a1] A.labs) (hA2 : R_E1 f2 w [a2] A.eds) (hB1 : RS f3 w [b1] B.labs) (hB2 : R_E1 f4 w [b2] B.eds) (hR : R_N2 fr w [v] R) (hR2 : ∀ p ∈ R, p.length = 2)
    (hAe : ∀ e ∈ A.eds, 0 ≤ e.lb ∧ e.lb < A.labs.length) (hBe : ∀ e ∈ B.eds, 0 ≤ e.lb ∧ e.lb < B.labs.length) (hAl : A.eds.length ≤ 2000000) (hBl : B.eds.length ≤ 2000000) :
    Calls Tryz.prog 30 #[.pointer (some ⟨Ta, 0, none⟩), .pointer (some ⟨Tb, 0, none⟩), v] w fun e w' => e = .returned (.bool (holdsF A B R)) ∧ Upd [] w w' := by
  have M1 := Lib.hid (fun (x y : Int) W (hu : Upd [] w W) => movesS A B Ta Tb a1 a2 b1 b2 x y v R false W f1 f2 f3 f4 fr (hu.keep za2) (hu.keep za3) (hu.keep zb2) (hu.keep zb3) (RSk.upd hA1 hu (by simp)) (R_E1k.upd hA2 hu (by simp)) (RSk.upd hB1 hu (by simp)) (R_E1k.upd hB2 hu (by simp)) (R_N2k.upd hR hu (by simp)) hR2 hAe hBe hAl hBl)
  have M2 := Lib.hid (fun (x y : Int) W (hu : Upd [] w W) => movesS B A Tb Ta b1 b2 a1 a2 x y v R true W f3 f4 f1 f2 fr (hu.keep zb2) (hu.keep zb3) (hu.keep za2) (hu.keep za3) (RSk.upd hB1 hu (by simp)) (R_E1k.upd hB2 hu (by simp)) (RSk.upd hA1 hu (by simp)) (R_E1k.upd hA2 hu (by simp)) (R_N2k.upd hR hu (by simp)) hR2 hBe hAe hBl hAl)
  have H2 := Lib.hid hR2
  have HC := Lib.hid (fun i (hi : i < R.length) => And.intro (mat_cell hR i 0 hi (by have := H2.out R[i] (List.getElem_mem hi); omega)) (mat_cell hR i 1 hi (by have := H2.out R[i] (List.getElem_mem hi); omega)))
  obtain ⟨av, cap, rfl, l1, l2, -⟩ := slP_open hR
  unfold maxLen at l2
  have HH := Lib.hid (show holdsF A B R = (R.drop 0).all fun p => movesF A B (p.getD 0 0) (p.getD 1 0) R false && movesF B A (p.getD 1 0) (p.getD 0 0) R true from rfl)
  clear za2 za3 zb2 zb3 hA1 hA2 hB1 hB2 hR hR2 hAe hBe hAl hBl
  go_enter Tryz.func30, Tryz.ntmps30
  go_wp2_with fail
  go_loopw [7] (fun iv wr => ∃ k : Nat, k ≤ R.length ∧ iv = .int .i64 k ∧ Hid (((R.drop k).all fun p => movesF A B (p.getD 0 0) (p.getD 1 0) R false && movesF B A (p.getD 1 0) (p.getD 0 0) R true) = holdsF A B R) ∧ Hid (Upd [] w wr)) (fun iv _ => R.length - (intOf iv).toNat)
  case atStart => exact ⟨0, Nat.zero_le _, rfl, Lib.hid HH.out.symm, Lib.hid (Upd.refl _ _)⟩
  case round =>
    clear HH
    obtain ⟨wo, rfl⟩ : ∃ wo : World, wo = wr := ⟨_, rfl⟩
    obtain ⟨k, hk, rfl, HA, HU⟩ := hrel
    by_cases hlt : k < R.length
    · obtain ⟨⟨cp, bR, oR, b2, o2, c2, hv, -, -, -, p1, g1, g2, -, p2, -, -⟩, ⟨cp', b', o', b2', o2', c2', hv', -, -, -, p1', -, -, -, p3, -, -⟩⟩ := HC.out k hlt
      cases hv
      cases hv'
      rw [p1] at p1'
      simp only [Option.some.injEq, Value.slice.injEq, Addr.mk.injEq, and_true] at p1'
      obtain ⟨⟨rfl, rfl⟩, -, rfl⟩ := p1'
      have hl2 := H2.out R[k] (List.getElem_mem hlt)
      have hS := HA.out
      rw [List.drop_eq_getElem_cons hlt, List.all_cons, List.getD_eq_getElem?_getD, List.getD_eq_getElem?_getD, List.getElem?_eq_getElem (by omega), List.getElem?_eq_getElem (by omega), Option.getD_some, Option.getD_some] at hS
      rw [hl2] at p1
      rw [Nat.add_zero] at p2
      have HS := Lib.hid hS
      unfold maxLen at g2
      clear hS HA g1
      have q0 := HU.out.keep p1
      have q1 := HU.out.keep p2
      have q2 := HU.out.keep p3
      generalize R[k][0] = P0 at *
      generalize R[k][1] = P1 at *
      have hkl : (k : Int) < (R.length : Int) := by omega
      have N1 := Lib.hid (fun W (hu : Upd [] wo W) => M1.out P0 P1 W (HU.out.trans hu))
      have N2 := Lib.hid (fun W (hu : Upd [] wo W) => M2.out P1 P0 W (HU.out.trans hu))
      generalize movesF A B P0 P1 R false = m1 at *
      generalize movesF B A P1 P0 R true = m2 at *
      clear p1 p2 p3
      cases m1 with
      | false =>
        have HE := Lib.hid (show holdsF A B R = false by rw [← HS.out]; rfl)
        clear HS N2
        go_upto_region 4 with (fail)
        refine wp_region_held_drew (S := fun w' => w'.cell? ⟨bR, oR + k, none⟩ = some (.slice (some ⟨b2, o2, none⟩) 2 c2) ∧ w'.cell? ⟨b2, o2, none⟩ = some (ei P0) ∧ w'.cell? ⟨b2, o2 + 1, none⟩ = some (ei P1)) (by kernel_rfl) ?_ (fun hHeld => ?_)
        · exact ⟨q0, q1, q2⟩
        refine wpAnyH_take (i := 0) (v := ?_) rfl (by kernel_rfl) (by kernel_rfl) (by kernel_rfl) (fun _ _ _ h => h) (Or.inl ⟨by rfl, ?_⟩) (by assumption) ?_
        rotate_left
        · (intro w hSw; (try dsimp only at hSw); go_simp)
          first | done | with_reducible rfl
        simp only [Act.put, List.getElem_toArray, List.getElem_cons_zero, List.getElem_cons_succ, List.setIfInBounds_toArray, List.set_cons_zero, List.set_cons_succ]
        refine wpAnyH_take (i := 1) (v := ?_) rfl (by kernel_rfl) (by kernel_rfl) (by kernel_rfl) (fun _ _ _ h => h) (Or.inl ⟨by rfl, ?_⟩) (by assumption) ?_
        rotate_left
        · (intro w hSw; (try dsimp only at hSw); go_simp)
          first | done | with_reducible rfl
        simp only [Act.put, List.getElem_toArray, List.getElem_cons_zero, List.getElem_cons_succ, List.setIfInBounds_toArray, List.set_cons_zero, List.set_cons_succ]
        refine wpAnyH_take (i := 2) (v := ?_) rfl (by kernel_rfl) (by kernel_rfl) (by kernel_rfl) (fun _ _ _ h => h) (Or.inl ⟨by rfl, ?_⟩) (by assumption) ?_
        rotate_left
        · (intro w hSw; (try dsimp only at hSw); go_simp)
          first | done | with_reducible rfl
        simp only [Act.put, List.getElem_toArray, List.getElem_cons_zero, List.getElem_cons_succ, List.setIfInBounds_toArray, List.set_cons_zero, List.set_cons_succ]
        refine wpAnyH_take (i := 3) (v := ?_) rfl (by kernel_rfl) (by kernel_rfl) (by kernel_rfl) (fun _ _ _ h => h) (Or.inl ⟨by rfl, ?_⟩) (by assumption) ?_
        rotate_left
        · (intro w hSw; (try dsimp only at hSw); go_simp)
          first | done | with_reducible rfl
        simp only [Act.put, List.getElem_toArray, List.getElem_cons_zero, List.getElem_cons_succ, List.setIfInBounds_toArray, List.set_cons_zero, List.set_cons_succ]
        refine wpAnyH_take (i := 4) (v := ?_) rfl (by kernel_rfl) (by kernel_rfl) (by kernel_rfl) (fun _ _ _ h => h) (Or.inl ⟨by rfl, ?_⟩) (by assumption) ?_
        rotate_left
        · (intro w hSw; (try dsimp only at hSw); go_simp)
          first | done | with_reducible rfl
        simp only [Act.put, List.getElem_toArray, List.getElem_cons_zero, List.getElem_cons_succ, List.setIfInBounds_toArray, List.set_cons_zero, List.set_cons_succ]
        refine wpAnyH_take (i := 5) (v := ?_) rfl (by kernel_rfl) (by kernel_rfl) (by kernel_rfl) (fun _ _ _ h => h) (Or.inl ⟨by rfl, ?_⟩) (by assumption) ?_
        rotate_left
        · (intro w hSw; (try dsimp only at hSw); go_simp)
          first | done | with_reducible rfl
        simp only [Act.put, List.getElem_toArray, List.getElem_cons_zero, List.getElem_cons_succ, List.setIfInBounds_toArray, List.set_cons_zero, List.set_cons_succ]
        refine wpAnyH_take (i := 6) (v := ?_) rfl (by kernel_rfl) (by kernel_rfl) (by kernel_rfl) (fun _ _ _ h => h) (Or.inl ⟨by rfl, ?_⟩) (by assumption) ?_
        rotate_left
        · (intro w hSw; (try dsimp only at hSw); go_simp)
          first | done | with_reducible rfl
        simp only [Act.put, List.getElem_toArray, List.getElem_cons_zero, List.getElem_cons_succ, List.setIfInBounds_toArray, List.set_cons_zero, List.set_cons_succ]
        refine wpAnyH_take (i := 7) (v := ?_) rfl (by kernel_rfl) (by kernel_rfl) (by kernel_rfl) (fun _ _ _ h => h) (Or.inl ⟨by rfl, ?_⟩) (by assumption) ?_
        rotate_left
        · (intro w hSw; (try dsimp only at hSw); go_simp)
          first | done | with_reducible rfl
        simp only [Act.put, List.getElem_toArray, List.getElem_cons_zero, List.getElem_cons_succ, List.setIfInBounds_toArray, List.set_cons_zero, List.set_cons_succ]
        refine wpAnyH_take (i := 8) (v := ?_) rfl (by kernel_rfl) (by kernel_rfl) (by kernel_rfl) (fun _ _ _ h => h) (Or.inl ⟨by rfl, ?_⟩) (by assumption) ?_
        rotate_left
        · (intro w hSw; (try dsimp only at hSw); go_simp)
          first | done | with_reducible rfl
        simp only [Act.put, List.getElem_toArray, List.getElem_cons_zero, List.getElem_cons_succ, List.setIfInBounds_toArray, List.set_cons_zero, List.set_cons_succ]
        refine wpAnyH_take (i := 9) (v := ?_) rfl (by kernel_rfl) (by kernel_rfl) (by kernel_rfl) (fun _ _ _ h => h) (Or.inl ⟨by rfl, ?_⟩) (by assumption) ?_
        rotate_left
        · (intro w hSw; (try dsimp only at hSw); go_simp)
          first | done | with_reducible rfl
        simp only [Act.put, List.getElem_toArray, List.getElem_cons_zero, List.getElem_cons_succ, List.setIfInBounds_toArray, List.set_cons_zero, List.set_cons_succ]
        refine wpAnyH_take (i := 10) (v := ?_) rfl (by kernel_rfl) (by kernel_rfl) (by kernel_rfl) (fun _ _ _ h => h) (Or.inl ⟨by rfl, ?_⟩) (by assumption) ?_
        rotate_left
        · (intro w hSw; (try dsimp only at hSw); go_simp)
          first | done | with_reducible rfl
        simp only [Act.put, List.getElem_toArray, List.getElem_cons_zero, List.getElem_cons_succ, List.setIfInBounds_toArray, List.set_cons_zero, List.set_cons_succ]
        refine wpAnyH_take (i := 11) (v := ?_) rfl (by kernel_rfl) (by kernel_rfl) (by kernel_rfl) (fun _ _ _ h => h) (Or.inl ⟨by rfl, ?_⟩) (by assumption) ?_
        rotate_left
        · (intro w hSw; (try dsimp only at hSw); go_simp)
          first | done | with_reducible rfl
        simp only [Act.put, List.getElem_toArray, List.getElem_cons_zero, List.getElem_cons_succ, List.setIfInBounds_toArray, List.set_cons_zero, List.set_cons_succ]
        refine wpAnyH_take (i := 12) (v := ?_) rfl (by kernel_rfl) (by kernel_rfl) (by kernel_rfl) (fun _ _ _ h => h) (Or.inl ⟨by rfl, ?_⟩) (by assumption) ?_
        rotate_left
        · (intro w hSw; (try dsimp only at hSw); go_simp)
          first | done | with_reducible rfl
        simp only [Act.put, List.getElem_toArray, List.getElem_cons_zero, List.getElem_cons_succ, List.setIfInBounds_toArray, List.set_cons_zero, List.set_cons_succ]
        refine wpAnyH_take (i := 13) (v := ?_) rfl (by kernel_rfl) (by kernel_rfl) (by kernel_rfl) (fun _ _ _ h => h) (Or.inl ⟨by rfl, ?_⟩) (by assumption) ?_
        rotate_left
        · (intro w hSw; (try dsimp only at hSw); go_simp)
          first | done | with_reducible rfl
        simp only [Act.put, List.getElem_toArray, List.getElem_cons_zero, List.getElem_cons_succ, List.setIfInBounds_toArray, List.set_cons_zero, List.set_cons_succ]
        refine wpAnyH_take (i := 14) (v := ?_) rfl (by kernel_rfl) (by kernel_rfl) (by kernel_rfl) (fun _ _ _ h => h) (Or.inl ⟨by rfl, ?_⟩) (by assumption) ?_
        rotate_left
        · (intro w hSw; (try dsimp only at hSw); go_simp)
          first | done | with_reducible rfl
        simp only [Act.put, List.getElem_toArray, List.getElem_cons_zero, List.getElem_cons_succ, List.setIfInBounds_toArray, List.set_cons_zero, List.set_cons_succ]
        refine wpAnyH_ready (rs := [15]) (by kernel_rfl) (by simp) ?_
        refine AllReadyH.cons rfl (fun K hK => ?_) AllReadyH.nil
        go_simp
        refine (N1.out _ ((Upd.refl [] wo).drew)).mono ?_
        rintro e w15 ⟨rfl, hu1⟩
        have hv1 : Upd [] wo w15 := (Upd.refl [] wo).drew.trans hu1
        refine hK.out _ _ ?_ (fun hHeld => ?_)
        · exact ⟨hu1.keep hHeld.1, hu1.keep hHeld.2.1, hu1.keep hHeld.2.2⟩
        clear hK K
        try simp only [Act.put, List.getElem_toArray, List.getElem_cons_zero, List.getElem_cons_succ, List.setIfInBounds_toArray, List.set_cons_zero, List.set_cons_succ]
        refine wpAnyH_take (i := 16) (v := ?_) rfl (by kernel_rfl) (by kernel_rfl) (by kernel_rfl) (fun _ _ _ h => h) (Or.inl ⟨by rfl, ?_⟩) (by assumption) ?_
        rotate_left
        · (intro w hSw; (try dsimp only at hSw); go_simp)
          first | done | with_reducible rfl
        simp only [Act.put, List.getElem_toArray, List.getElem_cons_zero, List.getElem_cons_succ, List.setIfInBounds_toArray, List.set_cons_zero, List.set_cons_succ]
        refine wpAnyH_take (i := 17) (v := ?_) rfl (by kernel_rfl) (by kernel_rfl) (by kernel_rfl) (fun _ _ _ h => h) (Or.inl ⟨by rfl, ?_⟩) (by assumption) ?_
        rotate_left
        · (intro w hSw; (try dsimp only at hSw); go_simp)
          first | done | with_reducible rfl
        simp only [Act.put, List.getElem_toArray, List.getElem_cons_zero, List.getElem_cons_succ, List.setIfInBounds_toArray, List.set_cons_zero, List.set_cons_succ]
        refine wpAnyH_take (i := 18) rfl (by kernel_rfl) (by kernel_rfl) (by kernel_rfl) (fun _ _ _ h => h) (Or.inr ⟨by rfl, rfl⟩) (by assumption) ?_
        simp only [Act.put, List.getElem_toArray, List.getElem_cons_zero, List.getElem_cons_succ, List.setIfInBounds_toArray, List.set_cons_zero, List.set_cons_succ]
        refine wpAnyH_take (i := 19) rfl (by kernel_rfl) (by kernel_rfl) (by kernel_rfl) (fun _ _ _ h => h) (Or.inr ⟨by rfl, rfl⟩) (by assumption) ?_
        simp only [Act.put, List.getElem_toArray, List.getElem_cons_zero, List.getElem_cons_succ, List.setIfInBounds_toArray, List.set_cons_zero, List.set_cons_succ]
        refine wpAnyH_take (i := 20) rfl (by kernel_rfl) (by kernel_rfl) (by kernel_rfl) (fun _ _ _ h => h) (Or.inr ⟨by rfl, rfl⟩) (by assumption) ?_
        simp only [Act.put, List.getElem_toArray, List.getElem_cons_zero, List.getElem_cons_succ, List.setIfInBounds_toArray, List.set_cons_zero, List.set_cons_succ]
        refine wpAnyH_take (i := 21) rfl (by kernel_rfl) (by kernel_rfl) (by kernel_rfl) (fun _ _ _ h => h) (Or.inr ⟨by rfl, rfl⟩) (by assumption) ?_
        simp only [Act.put, List.getElem_toArray, List.getElem_cons_zero, List.getElem_cons_succ, List.setIfInBounds_toArray, List.set_cons_zero, List.set_cons_succ]
        refine wpAnyH_take (i := 22) rfl (by kernel_rfl) (by kernel_rfl) (by kernel_rfl) (fun _ _ _ h => h) (Or.inr ⟨by rfl, rfl⟩) (by assumption) ?_
        simp only [Act.put, List.getElem_toArray, List.getElem_cons_zero, List.getElem_cons_succ, List.setIfInBounds_toArray, List.set_cons_zero, List.set_cons_succ]
        refine wpAnyH_take (i := 23) rfl (by kernel_rfl) (by kernel_rfl) (by kernel_rfl) (fun _ _ _ h => h) (Or.inr ⟨by rfl, rfl⟩) (by assumption) ?_
        simp only [Act.put, List.getElem_toArray, List.getElem_cons_zero, List.getElem_cons_succ, List.setIfInBounds_toArray, List.set_cons_zero, List.set_cons_succ]
        refine wpAnyH_take (i := 24) rfl (by kernel_rfl) (by kernel_rfl) (by kernel_rfl) (fun _ _ _ h => h) (Or.inr ⟨by rfl, rfl⟩) (by assumption) ?_
        simp only [Act.put, List.getElem_toArray, List.getElem_cons_zero, List.getElem_cons_succ, List.setIfInBounds_toArray, List.set_cons_zero, List.set_cons_succ]
        refine wpAnyH_take (i := 25) rfl (by kernel_rfl) (by kernel_rfl) (by kernel_rfl) (fun _ _ _ h => h) (Or.inr ⟨by rfl, rfl⟩) (by assumption) ?_
        simp only [Act.put, List.getElem_toArray, List.getElem_cons_zero, List.getElem_cons_succ, List.setIfInBounds_toArray, List.set_cons_zero, List.set_cons_succ]
        refine wpAnyH_take (i := 26) rfl (by kernel_rfl) (by kernel_rfl) (by kernel_rfl) (fun _ _ _ h => h) (Or.inr ⟨by rfl, rfl⟩) (by assumption) ?_
        simp only [Act.put, List.getElem_toArray, List.getElem_cons_zero, List.getElem_cons_succ, List.setIfInBounds_toArray, List.set_cons_zero, List.set_cons_succ]
        refine wpAnyH_take (i := 27) rfl (by kernel_rfl) (by kernel_rfl) (by kernel_rfl) (fun _ _ _ h => h) (Or.inr ⟨by rfl, rfl⟩) (by assumption) ?_
        simp only [Act.put, List.getElem_toArray, List.getElem_cons_zero, List.getElem_cons_succ, List.setIfInBounds_toArray, List.set_cons_zero, List.set_cons_succ]
        refine wpAnyH_take (i := 28) rfl (by kernel_rfl) (by kernel_rfl) (by kernel_rfl) (fun _ _ _ h => h) (Or.inr ⟨by rfl, rfl⟩) (by assumption) ?_
        simp only [Act.put, List.getElem_toArray, List.getElem_cons_zero, List.getElem_cons_succ, List.setIfInBounds_toArray, List.set_cons_zero, List.set_cons_succ]
        refine wpAnyH_take (i := 29) rfl (by kernel_rfl) (by kernel_rfl) (by kernel_rfl) (fun _ _ _ h => h) (Or.inr ⟨by rfl, rfl⟩) (by assumption) ?_
        simp only [Act.put, List.getElem_toArray, List.getElem_cons_zero, List.getElem_cons_succ, List.setIfInBounds_toArray, List.set_cons_zero, List.set_cons_succ]
        refine wpAnyH_take (i := 30) rfl (by kernel_rfl) (by kernel_rfl) (by kernel_rfl) (fun _ _ _ h => h) (Or.inr ⟨by rfl, rfl⟩) (by assumption) ?_
        simp only [Act.put, List.getElem_toArray, List.getElem_cons_zero, List.getElem_cons_succ, List.setIfInBounds_toArray, List.set_cons_zero, List.set_cons_succ]
        refine wpAnyH_take (i := 31) rfl (by kernel_rfl) (by kernel_rfl) (by kernel_rfl) (fun _ _ _ h => h) (Or.inr ⟨by rfl, rfl⟩) (by assumption) ?_
        simp only [Act.put, List.getElem_toArray, List.getElem_cons_zero, List.getElem_cons_succ, List.setIfInBounds_toArray, List.set_cons_zero, List.set_cons_succ]
        refine wpAnyH_take (i := 32) rfl (by kernel_rfl) (by kernel_rfl) (by kernel_rfl) (fun _ _ _ h => h) (Or.inr ⟨by rfl, rfl⟩) (by assumption) ?_
        simp only [Act.put, List.getElem_toArray, List.getElem_cons_zero, List.getElem_cons_succ, List.setIfInBounds_toArray, List.set_cons_zero, List.set_cons_succ]
        refine wpAnyH_take (i := 33) rfl (by kernel_rfl) (by kernel_rfl) (by kernel_rfl) (fun _ _ _ h => h) (Or.inr ⟨by rfl, rfl⟩) (by assumption) ?_
        simp only [Act.put, List.getElem_toArray, List.getElem_cons_zero, List.getElem_cons_succ, List.setIfInBounds_toArray, List.set_cons_zero, List.set_cons_succ]
        refine wpAnyH_take (i := 34) rfl (by kernel_rfl) (by kernel_rfl) (by kernel_rfl) (fun _ _ _ h => h) (Or.inr ⟨by rfl, rfl⟩) (by assumption) ?_
        simp only [Act.put, List.getElem_toArray, List.getElem_cons_zero, List.getElem_cons_succ, List.setIfInBounds_toArray, List.set_cons_zero, List.set_cons_succ]
        refine wpAnyH_take (i := 35) (v := ?_) rfl (by kernel_rfl) (by kernel_rfl) (by kernel_rfl) (fun _ _ _ h => h) (Or.inl ⟨by rfl, ?_⟩) (by assumption) ?_
        rotate_left
        · (intro w hSw; (try dsimp only at hSw); go_simp)
          first | done | with_reducible rfl
        simp only [Act.put, List.getElem_toArray, List.getElem_cons_zero, List.getElem_cons_succ, List.setIfInBounds_toArray, List.set_cons_zero, List.set_cons_succ]
        refine wpAnyH_done (by kernel_rfl) ?_ _
        have HU9 := Lib.hid (HU.out.trans hv1)
        clear HU hHeld q0 q1 q2 N1
        go_wp2_with fail
        go_ret
        exact ⟨by rw [HE.out]; rfl, HU9.out⟩
      | true =>
        cases m2 with
        | false =>
          have HE := Lib.hid (show holdsF A B R = false by rw [← HS.out]; rfl)
          clear HS
          go_upto_region 4 with (fail)
          refine wp_region_held_drew (S := fun w' => w'.cell? ⟨bR, oR + k, none⟩ = some (.slice (some ⟨b2, o2, none⟩) 2 c2) ∧ w'.cell? ⟨b2, o2, none⟩ = some (ei P0) ∧ w'.cell? ⟨b2, o2 + 1, none⟩ = some (ei P1)) (by kernel_rfl) ?_ (fun hHeld => ?_)
          · exact ⟨q0, q1, q2⟩
          refine wpAnyH_take (i := 0) (v := ?_) rfl (by kernel_rfl) (by kernel_rfl) (by kernel_rfl) (fun _ _ _ h => h) (Or.inl ⟨by rfl, ?_⟩) (by assumption) ?_
          rotate_left
          · (intro w hSw; (try dsimp only at hSw); go_simp)
            first | done | with_reducible rfl
          simp only [Act.put, List.getElem_toArray, List.getElem_cons_zero, List.getElem_cons_succ, List.setIfInBounds_toArray, List.set_cons_zero, List.set_cons_succ]
          refine wpAnyH_take (i := 1) (v := ?_) rfl (by kernel_rfl) (by kernel_rfl) (by kernel_rfl) (fun _ _ _ h => h) (Or.inl ⟨by rfl, ?_⟩) (by assumption) ?_
          rotate_left
          · (intro w hSw; (try dsimp only at hSw); go_simp)
            first | done | with_reducible rfl
          simp only [Act.put, List.getElem_toArray, List.getElem_cons_zero, List.getElem_cons_succ, List.setIfInBounds_toArray, List.set_cons_zero, List.set_cons_succ]
          refine wpAnyH_take (i := 2) (v := ?_) rfl (by kernel_rfl) (by kernel_rfl) (by kernel_rfl) (fun _ _ _ h => h) (Or.inl ⟨by rfl, ?_⟩) (by assumption) ?_
          rotate_left
          · (intro w hSw; (try dsimp only at hSw); go_simp)
            first | done | with_reducible rfl
          simp only [Act.put, List.getElem_toArray, List.getElem_cons_zero, List.getElem_cons_succ, List.setIfInBounds_toArray, List.set_cons_zero, List.set_cons_succ]
          refine wpAnyH_take (i := 3) (v := ?_) rfl (by kernel_rfl) (by kernel_rfl) (by kernel_rfl) (fun _ _ _ h => h) (Or.inl ⟨by rfl, ?_⟩) (by assumption) ?_
          rotate_left
          · (intro w hSw; (try dsimp only at hSw); go_simp)
            first | done | with_reducible rfl
          simp only [Act.put, List.getElem_toArray, List.getElem_cons_zero, List.getElem_cons_succ, List.setIfInBounds_toArray, List.set_cons_zero, List.set_cons_succ]
          refine wpAnyH_take (i := 4) (v := ?_) rfl (by kernel_rfl) (by kernel_rfl) (by kernel_rfl) (fun _ _ _ h => h) (Or.inl ⟨by rfl, ?_⟩) (by assumption) ?_
          rotate_left
          · (intro w hSw; (try dsimp only at hSw); go_simp)
            first | done | with_reducible rfl
          simp only [Act.put, List.getElem_toArray, List.getElem_cons_zero, List.getElem_cons_succ, List.setIfInBounds_toArray, List.set_cons_zero, List.set_cons_succ]
          refine wpAnyH_take (i := 5) (v := ?_) rfl (by kernel_rfl) (by kernel_rfl) (by kernel_rfl) (fun _ _ _ h => h) (Or.inl ⟨by rfl, ?_⟩) (by assumption) ?_
          rotate_left
          · (intro w hSw; (try dsimp only at hSw); go_simp)
            first | done | with_reducible rfl
          simp only [Act.put, List.getElem_toArray, List.getElem_cons_zero, List.getElem_cons_succ, List.setIfInBounds_toArray, List.set_cons_zero, List.set_cons_succ]
          refine wpAnyH_take (i := 6) (v := ?_) rfl (by kernel_rfl) (by kernel_rfl) (by kernel_rfl) (fun _ _ _ h => h) (Or.inl ⟨by rfl, ?_⟩) (by assumption) ?_
          rotate_left
          · (intro w hSw; (try dsimp only at hSw); go_simp)
            first | done | with_reducible rfl
          simp only [Act.put, List.getElem_toArray, List.getElem_cons_zero, List.getElem_cons_succ, List.setIfInBounds_toArray, List.set_cons_zero, List.set_cons_succ]
          refine wpAnyH_take (i := 7) (v := ?_) rfl (by kernel_rfl) (by kernel_rfl) (by kernel_rfl) (fun _ _ _ h => h) (Or.inl ⟨by rfl, ?_⟩) (by assumption) ?_
          rotate_left
          · (intro w hSw; (try dsimp only at hSw); go_simp)
            first | done | with_reducible rfl
          simp only [Act.put, List.getElem_toArray, List.getElem_cons_zero, List.getElem_cons_succ, List.setIfInBounds_toArray, List.set_cons_zero, List.set_cons_succ]
          refine wpAnyH_take (i := 8) (v := ?_) rfl (by kernel_rfl) (by kernel_rfl) (by kernel_rfl) (fun _ _ _ h => h) (Or.inl ⟨by rfl, ?_⟩) (by assumption) ?_
          rotate_left
          · (intro w hSw; (try dsimp only at hSw); go_simp)
            first | done | with_reducible rfl
          simp only [Act.put, List.getElem_toArray, List.getElem_cons_zero, List.getElem_cons_succ, List.setIfInBounds_toArray, List.set_cons_zero, List.set_cons_succ]
          refine wpAnyH_take (i := 9) (v := ?_) rfl (by kernel_rfl) (by kernel_rfl) (by kernel_rfl) (fun _ _ _ h => h) (Or.inl ⟨by rfl, ?_⟩) (by assumption) ?_
          rotate_left
          · (intro w hSw; (try dsimp only at hSw); go_simp)
            first | done | with_reducible rfl
          simp only [Act.put, List.getElem_toArray, List.getElem_cons_zero, List.getElem_cons_succ, List.setIfInBounds_toArray, List.set_cons_zero, List.set_cons_succ]
          refine wpAnyH_take (i := 10) (v := ?_) rfl (by kernel_rfl) (by kernel_rfl) (by kernel_rfl) (fun _ _ _ h => h) (Or.inl ⟨by rfl, ?_⟩) (by assumption) ?_
          rotate_left
          · (intro w hSw; (try dsimp only at hSw); go_simp)
            first | done | with_reducible rfl
          simp only [Act.put, List.getElem_toArray, List.getElem_cons_zero, List.getElem_cons_succ, List.setIfInBounds_toArray, List.set_cons_zero, List.set_cons_succ]
          refine wpAnyH_take (i := 11) (v := ?_) rfl (by kernel_rfl) (by kernel_rfl) (by kernel_rfl) (fun _ _ _ h => h) (Or.inl ⟨by rfl, ?_⟩) (by assumption) ?_
          rotate_left
          · (intro w hSw; (try dsimp only at hSw); go_simp)
            first | done | with_reducible rfl
          simp only [Act.put, List.getElem_toArray, List.getElem_cons_zero, List.getElem_cons_succ, List.setIfInBounds_toArray, List.set_cons_zero, List.set_cons_succ]
          refine wpAnyH_take (i := 12) (v := ?_) rfl (by kernel_rfl) (by kernel_rfl) (by kernel_rfl) (fun _ _ _ h => h) (Or.inl ⟨by rfl, ?_⟩) (by assumption) ?_
          rotate_left
          · (intro w hSw; (try dsimp only at hSw); go_simp)
            first | done | with_reducible rfl
          simp only [Act.put, List.getElem_toArray, List.getElem_cons_zero, List.getElem_cons_succ, List.setIfInBounds_toArray, List.set_cons_zero, List.set_cons_succ]
          refine wpAnyH_take (i := 13) (v := ?_) rfl (by kernel_rfl) (by kernel_rfl) (by kernel_rfl) (fun _ _ _ h => h) (Or.inl ⟨by rfl, ?_⟩) (by assumption) ?_
          rotate_left
          · (intro w hSw; (try dsimp only at hSw); go_simp)
            first | done | with_reducible rfl
          simp only [Act.put, List.getElem_toArray, List.getElem_cons_zero, List.getElem_cons_succ, List.setIfInBounds_toArray, List.set_cons_zero, List.set_cons_succ]
          refine wpAnyH_take (i := 14) (v := ?_) rfl (by kernel_rfl) (by kernel_rfl) (by kernel_rfl) (fun _ _ _ h => h) (Or.inl ⟨by rfl, ?_⟩) (by assumption) ?_
          rotate_left
          · (intro w hSw; (try dsimp only at hSw); go_simp)
            first | done | with_reducible rfl
          simp only [Act.put, List.getElem_toArray, List.getElem_cons_zero, List.getElem_cons_succ, List.setIfInBounds_toArray, List.set_cons_zero, List.set_cons_succ]
          refine wpAnyH_ready (rs := [15]) (by kernel_rfl) (by simp) ?_
          refine AllReadyH.cons rfl (fun K hK => ?_) AllReadyH.nil
          go_simp
          refine (N1.out _ ((Upd.refl [] wo).drew)).mono ?_
          rintro e w15 ⟨rfl, hu1⟩
          have hv1 : Upd [] wo w15 := (Upd.refl [] wo).drew.trans hu1
          refine hK.out _ _ ?_ (fun hHeld => ?_)
          · exact ⟨hu1.keep hHeld.1, hu1.keep hHeld.2.1, hu1.keep hHeld.2.2⟩
          clear hK K
          try simp only [Act.put, List.getElem_toArray, List.getElem_cons_zero, List.getElem_cons_succ, List.setIfInBounds_toArray, List.set_cons_zero, List.set_cons_succ]
          refine wpAnyH_take (i := 16) (v := ?_) rfl (by kernel_rfl) (by kernel_rfl) (by kernel_rfl) (fun _ _ _ h => h) (Or.inl ⟨by rfl, ?_⟩) (by assumption) ?_
          rotate_left
          · (intro w hSw; (try dsimp only at hSw); go_simp)
            first | done | with_reducible rfl
          simp only [Act.put, List.getElem_toArray, List.getElem_cons_zero, List.getElem_cons_succ, List.setIfInBounds_toArray, List.set_cons_zero, List.set_cons_succ]
          refine wpAnyH_take (i := 17) (v := ?_) rfl (by kernel_rfl) (by kernel_rfl) (by kernel_rfl) (fun _ _ _ h => h) (Or.inl ⟨by rfl, ?_⟩) (by assumption) ?_
          rotate_left
          · (intro w hSw; (try dsimp only at hSw); go_simp)
            first | done | with_reducible rfl
          simp only [Act.put, List.getElem_toArray, List.getElem_cons_zero, List.getElem_cons_succ, List.setIfInBounds_toArray, List.set_cons_zero, List.set_cons_succ]
          refine wpAnyH_take (i := 18) (v := ?_) rfl (by kernel_rfl) (by kernel_rfl) (by kernel_rfl) (fun _ _ _ h => h) (Or.inl ⟨by rfl, ?_⟩) (by assumption) ?_
          rotate_left
          · (intro w hSw; (try dsimp only at hSw); go_simp)
            first | done | with_reducible rfl
          simp only [Act.put, List.getElem_toArray, List.getElem_cons_zero, List.getElem_cons_succ, List.setIfInBounds_toArray, List.set_cons_zero, List.set_cons_succ]
          refine wpAnyH_take (i := 19) (v := ?_) rfl (by kernel_rfl) (by kernel_rfl) (by kernel_rfl) (fun _ _ _ h => h) (Or.inl ⟨by rfl, ?_⟩) (by assumption) ?_
          rotate_left
          · (intro w hSw; (try dsimp only at hSw); go_simp)
            first | done | with_reducible rfl
          simp only [Act.put, List.getElem_toArray, List.getElem_cons_zero, List.getElem_cons_succ, List.setIfInBounds_toArray, List.set_cons_zero, List.set_cons_succ]
          refine wpAnyH_take (i := 20) (v := ?_) rfl (by kernel_rfl) (by kernel_rfl) (by kernel_rfl) (fun _ _ _ h => h) (Or.inl ⟨by rfl, ?_⟩) (by assumption) ?_
          rotate_left
          · (intro w hSw; (try dsimp only at hSw); go_simp)
            first | done | with_reducible rfl
          simp only [Act.put, List.getElem_toArray, List.getElem_cons_zero, List.getElem_cons_succ, List.setIfInBounds_toArray, List.set_cons_zero, List.set_cons_succ]
          refine wpAnyH_take (i := 21) (v := ?_) rfl (by kernel_rfl) (by kernel_rfl) (by kernel_rfl) (fun _ _ _ h => h) (Or.inl ⟨by rfl, ?_⟩) (by assumption) ?_
          rotate_left
          · (intro w hSw; (try dsimp only at hSw); go_simp)
            first | done | with_reducible rfl
          simp only [Act.put, List.getElem_toArray, List.getElem_cons_zero, List.getElem_cons_succ, List.setIfInBounds_toArray, List.set_cons_zero, List.set_cons_succ]
          refine wpAnyH_take (i := 22) (v := ?_) rfl (by kernel_rfl) (by kernel_rfl) (by kernel_rfl) (fun _ _ _ h => h) (Or.inl ⟨by rfl, ?_⟩) (by assumption) ?_
          rotate_left
          · (intro w hSw; (try dsimp only at hSw); go_simp)
            first | done | with_reducible rfl
          simp only [Act.put, List.getElem_toArray, List.getElem_cons_zero, List.getElem_cons_succ, List.setIfInBounds_toArray, List.set_cons_zero, List.set_cons_succ]
          refine wpAnyH_take (i := 23) (v := ?_) rfl (by kernel_rfl) (by kernel_rfl) (by kernel_rfl) (fun _ _ _ h => h) (Or.inl ⟨by rfl, ?_⟩) (by assumption) ?_
          rotate_left
          · (intro w hSw; (try dsimp only at hSw); go_simp)
            first | done | with_reducible rfl
          simp only [Act.put, List.getElem_toArray, List.getElem_cons_zero, List.getElem_cons_succ, List.setIfInBounds_toArray, List.set_cons_zero, List.set_cons_succ]
          refine wpAnyH_take (i := 24) (v := ?_) rfl (by kernel_rfl) (by kernel_rfl) (by kernel_rfl) (fun _ _ _ h => h) (Or.inl ⟨by rfl, ?_⟩) (by assumption) ?_
          rotate_left
          · (intro w hSw; (try dsimp only at hSw); go_simp)
            first | done | with_reducible rfl
          simp only [Act.put, List.getElem_toArray, List.getElem_cons_zero, List.getElem_cons_succ, List.setIfInBounds_toArray, List.set_cons_zero, List.set_cons_succ]
          refine wpAnyH_take (i := 25) (v := ?_) rfl (by kernel_rfl) (by kernel_rfl) (by kernel_rfl) (fun _ _ _ h => h) (Or.inl ⟨by rfl, ?_⟩) (by assumption) ?_
          rotate_left
          · (intro w hSw; (try dsimp only at hSw); go_simp)
            first | done | with_reducible rfl
          simp only [Act.put, List.getElem_toArray, List.getElem_cons_zero, List.getElem_cons_succ, List.setIfInBounds_toArray, List.set_cons_zero, List.set_cons_succ]
          refine wpAnyH_take (i := 26) (v := ?_) rfl (by kernel_rfl) (by kernel_rfl) (by kernel_rfl) (fun _ _ _ h => h) (Or.inl ⟨by rfl, ?_⟩) (by assumption) ?_
          rotate_left
          · (intro w hSw; (try dsimp only at hSw); go_simp)
            first | done | with_reducible rfl
          simp only [Act.put, List.getElem_toArray, List.getElem_cons_zero, List.getElem_cons_succ, List.setIfInBounds_toArray, List.set_cons_zero, List.set_cons_succ]
          refine wpAnyH_take (i := 27) (v := ?_) rfl (by kernel_rfl) (by kernel_rfl) (by kernel_rfl) (fun _ _ _ h => h) (Or.inl ⟨by rfl, ?_⟩) (by assumption) ?_
          rotate_left
          · (intro w hSw; (try dsimp only at hSw); go_simp)
            first | done | with_reducible rfl
          simp only [Act.put, List.getElem_toArray, List.getElem_cons_zero, List.getElem_cons_succ, List.setIfInBounds_toArray, List.set_cons_zero, List.set_cons_succ]
          refine wpAnyH_take (i := 28) (v := ?_) rfl (by kernel_rfl) (by kernel_rfl) (by kernel_rfl) (fun _ _ _ h => h) (Or.inl ⟨by rfl, ?_⟩) (by assumption) ?_
          rotate_left
          · (intro w hSw; (try dsimp only at hSw); go_simp)
            first | done | with_reducible rfl
          simp only [Act.put, List.getElem_toArray, List.getElem_cons_zero, List.getElem_cons_succ, List.setIfInBounds_toArray, List.set_cons_zero, List.set_cons_succ]
          refine wpAnyH_take (i := 29) (v := ?_) rfl (by kernel_rfl) (by kernel_rfl) (by kernel_rfl) (fun _ _ _ h => h) (Or.inl ⟨by rfl, ?_⟩) (by assumption) ?_
          rotate_left
          · (intro w hSw; (try dsimp only at hSw); go_simp)
            first | done | with_reducible rfl
          simp only [Act.put, List.getElem_toArray, List.getElem_cons_zero, List.getElem_cons_succ, List.setIfInBounds_toArray, List.set_cons_zero, List.set_cons_succ]
          refine wpAnyH_take (i := 30) (v := ?_) rfl (by kernel_rfl) (by kernel_rfl) (by kernel_rfl) (fun _ _ _ h => h) (Or.inl ⟨by rfl, ?_⟩) (by assumption) ?_
          rotate_left
          · (intro w hSw; (try dsimp only at hSw); go_simp)
            first | done | with_reducible rfl
          simp only [Act.put, List.getElem_toArray, List.getElem_cons_zero, List.getElem_cons_succ, List.setIfInBounds_toArray, List.set_cons_zero, List.set_cons_succ]
          refine wpAnyH_take (i := 31) (v := ?_) rfl (by kernel_rfl) (by kernel_rfl) (by kernel_rfl) (fun _ _ _ h => h) (Or.inl ⟨by rfl, ?_⟩) (by assumption) ?_
          rotate_left
          · (intro w hSw; (try dsimp only at hSw); go_simp)
            first | done | with_reducible rfl
          simp only [Act.put, List.getElem_toArray, List.getElem_cons_zero, List.getElem_cons_succ, List.setIfInBounds_toArray, List.set_cons_zero, List.set_cons_succ]
          refine wpAnyH_take (i := 32) (v := ?_) rfl (by kernel_rfl) (by kernel_rfl) (by kernel_rfl) (fun _ _ _ h => h) (Or.inl ⟨by rfl, ?_⟩) (by assumption) ?_
          rotate_left
          · (intro w hSw; (try dsimp only at hSw); go_simp)
            first | done | with_reducible rfl
          simp only [Act.put, List.getElem_toArray, List.getElem_cons_zero, List.getElem_cons_succ, List.setIfInBounds_toArray, List.set_cons_zero, List.set_cons_succ]
          refine wpAnyH_ready (rs := [33]) (by kernel_rfl) (by simp) ?_
          refine AllReadyH.cons rfl (fun K hK => ?_) AllReadyH.nil
          go_simp
          refine (N2.out w15 hv1).mono ?_
          rintro e w33 ⟨rfl, hu2⟩
          refine hK.out _ _ ?_ (fun hHeld => ?_)
          · exact ⟨hu2.keep hHeld.1, hu2.keep hHeld.2.1, hu2.keep hHeld.2.2⟩
          clear hK K
          try simp only [Act.put, List.getElem_toArray, List.getElem_cons_zero, List.getElem_cons_succ, List.setIfInBounds_toArray, List.set_cons_zero, List.set_cons_succ]
          refine wpAnyH_take (i := 34) (v := ?_) rfl (by kernel_rfl) (by kernel_rfl) (by kernel_rfl) (fun _ _ _ h => h) (Or.inl ⟨by rfl, ?_⟩) (by assumption) ?_
          rotate_left
          · (intro w hSw; (try dsimp only at hSw); go_simp)
            first | done | with_reducible rfl
          simp only [Act.put, List.getElem_toArray, List.getElem_cons_zero, List.getElem_cons_succ, List.setIfInBounds_toArray, List.set_cons_zero, List.set_cons_succ]
          refine wpAnyH_take (i := 35) (v := ?_) rfl (by kernel_rfl) (by kernel_rfl) (by kernel_rfl) (fun _ _ _ h => h) (Or.inl ⟨by rfl, ?_⟩) (by assumption) ?_
          rotate_left
          · (intro w hSw; (try dsimp only at hSw); go_simp)
            first | done | with_reducible rfl
          simp only [Act.put, List.getElem_toArray, List.getElem_cons_zero, List.getElem_cons_succ, List.setIfInBounds_toArray, List.set_cons_zero, List.set_cons_succ]
          refine wpAnyH_done (by kernel_rfl) ?_ _
          have HU9 := Lib.hid (HU.out.trans (hv1.trans hu2))
          clear HU hHeld q0 q1 q2 N1 N2
          go_wp2_with fail
          go_ret
          exact ⟨by rw [HE.out]; rfl, HU9.out⟩
        | true =>
          have HE := Lib.hid (show ((R.drop (k + 1)).all fun p => movesF A B (p.getD 0 0) (p.getD 1 0) R false && movesF B A (p.getD 1 0) (p.getD 0 0) R true) = holdsF A B R by rw [← HS.out]; rfl)
          clear HS
          go_upto_region 4 with (fail)
          refine wp_region_held_drew (S := fun w' => w'.cell? ⟨bR, oR + k, none⟩ = some (.slice (some ⟨b2, o2, none⟩) 2 c2) ∧ w'.cell? ⟨b2, o2, none⟩ = some (ei P0) ∧ w'.cell? ⟨b2, o2 + 1, none⟩ = some (ei P1)) (by kernel_rfl) ?_ (fun hHeld => ?_)
          · exact ⟨q0, q1, q2⟩
          refine wpAnyH_take (i := 0) (v := ?_) rfl (by kernel_rfl) (by kernel_rfl) (by kernel_rfl) (fun _ _ _ h => h) (Or.inl ⟨by rfl, ?_⟩) (by assumption) ?_
          rotate_left
          · (intro w hSw; (try dsimp only at hSw); go_simp)
            first | done | with_reducible rfl
          simp only [Act.put, List.getElem_toArray, List.getElem_cons_zero, List.getElem_cons_succ, List.setIfInBounds_toArray, List.set_cons_zero, List.set_cons_succ]
          refine wpAnyH_take (i := 1) (v := ?_) rfl (by kernel_rfl) (by kernel_rfl) (by kernel_rfl) (fun _ _ _ h => h) (Or.inl ⟨by rfl, ?_⟩) (by assumption) ?_
          rotate_left
          · (intro w hSw; (try dsimp only at hSw); go_simp)
            first | done | with_reducible rfl
          simp only [Act.put, List.getElem_toArray, List.getElem_cons_zero, List.getElem_cons_succ, List.setIfInBounds_toArray, List.set_cons_zero, List.set_cons_succ]
          refine wpAnyH_take (i := 2) (v := ?_) rfl (by kernel_rfl) (by kernel_rfl) (by kernel_rfl) (fun _ _ _ h => h) (Or.inl ⟨by rfl, ?_⟩) (by assumption) ?_
          rotate_left
          · (intro w hSw; (try dsimp only at hSw); go_simp)
            first | done | with_reducible rfl
          simp only [Act.put, List.getElem_toArray, List.getElem_cons_zero, List.getElem_cons_succ, List.setIfInBounds_toArray, List.set_cons_zero, List.set_cons_succ]
          refine wpAnyH_take (i := 3) (v := ?_) rfl (by kernel_rfl) (by kernel_rfl) (by kernel_rfl) (fun _ _ _ h => h) (Or.inl ⟨by rfl, ?_⟩) (by assumption) ?_
          rotate_left
          · (intro w hSw; (try dsimp only at hSw); go_simp)
            first | done | with_reducible rfl
          simp only [Act.put, List.getElem_toArray, List.getElem_cons_zero, List.getElem_cons_succ, List.setIfInBounds_toArray, List.set_cons_zero, List.set_cons_succ]
          refine wpAnyH_take (i := 4) (v := ?_) rfl (by kernel_rfl) (by kernel_rfl) (by kernel_rfl) (fun _ _ _ h => h) (Or.inl ⟨by rfl, ?_⟩) (by assumption) ?_
          rotate_left
          · (intro w hSw; (try dsimp only at hSw); go_simp)
            first | done | with_reducible rfl
          simp only [Act.put, List.getElem_toArray, List.getElem_cons_zero, List.getElem_cons_succ, List.setIfInBounds_toArray, List.set_cons_zero, List.set_cons_succ]
          refine wpAnyH_take (i := 5) (v := ?_) rfl (by kernel_rfl) (by kernel_rfl) (by kernel_rfl) (fun _ _ _ h => h) (Or.inl ⟨by rfl, ?_⟩) (by assumption) ?_
          rotate_left
          · (intro w hSw; (try dsimp only at hSw); go_simp)
            first | done | with_reducible rfl
          simp only [Act.put, List.getElem_toArray, List.getElem_cons_zero, List.getElem_cons_succ, List.setIfInBounds_toArray, List.set_cons_zero, List.set_cons_succ]
          refine wpAnyH_take (i := 6) (v := ?_) rfl (by kernel_rfl) (by kernel_rfl) (by kernel_rfl) (fun _ _ _ h => h) (Or.inl ⟨by rfl, ?_⟩) (by assumption) ?_
          rotate_left
          · (intro w hSw; (try dsimp only at hSw); go_simp)
            first | done | with_reducible rfl
          simp only [Act.put, List.getElem_toArray, List.getElem_cons_zero, List.getElem_cons_succ, List.setIfInBounds_toArray, List.set_cons_zero, List.set_cons_succ]
          refine wpAnyH_take (i := 7) (v := ?_) rfl (by kernel_rfl) (by kernel_rfl) (by kernel_rfl) (fun _ _ _ h => h) (Or.inl ⟨by rfl, ?_⟩) (by assumption) ?_
          rotate_left
          · (intro w hSw; (try dsimp only at hSw); go_simp)
            first | done | with_reducible rfl
          simp only [Act.put, List.getElem_toArray, List.getElem_cons_zero, List.getElem_cons_succ, List.setIfInBounds_toArray, List.set_cons_zero, List.set_cons_succ]
          refine wpAnyH_take (i := 8) (v := ?_) rfl (by kernel_rfl) (by kernel_rfl) (by kernel_rfl) (fun _ _ _ h => h) (Or.inl ⟨by rfl, ?_⟩) (by assumption) ?_
          rotate_left
          · (intro w hSw; (try dsimp only at hSw); go_simp)
            first | done | with_reducible rfl
          simp only [Act.put, List.getElem_toArray, List.getElem_cons_zero, List.getElem_cons_succ, List.setIfInBounds_toArray, List.set_cons_zero, List.set_cons_succ]
          refine wpAnyH_take (i := 9) (v := ?_) rfl (by kernel_rfl) (by kernel_rfl) (by kernel_rfl) (fun _ _ _ h => h) (Or.inl ⟨by rfl, ?_⟩) (by assumption) ?_
          rotate_left
          · (intro w hSw; (try dsimp only at hSw); go_simp)
            first | done | with_reducible rfl
          simp only [Act.put, List.getElem_toArray, List.getElem_cons_zero, List.getElem_cons_succ, List.setIfInBounds_toArray, List.set_cons_zero, List.set_cons_succ]
          refine wpAnyH_take (i := 10) (v := ?_) rfl (by kernel_rfl) (by kernel_rfl) (by kernel_rfl) (fun _ _ _ h => h) (Or.inl ⟨by rfl, ?_⟩) (by assumption) ?_
          rotate_left
          · (intro w hSw; (try dsimp only at hSw); go_simp)
            first | done | with_reducible rfl
          simp only [Act.put, List.getElem_toArray, List.getElem_cons_zero, List.getElem_cons_succ, List.setIfInBounds_toArray, List.set_cons_zero, List.set_cons_succ]
          refine wpAnyH_take (i := 11) (v := ?_) rfl (by kernel_rfl) (by kernel_rfl) (by kernel_rfl) (fun _ _ _ h => h) (Or.inl ⟨by rfl, ?_⟩) (by assumption) ?_
          rotate_left
          · (intro w hSw; (try dsimp only at hSw); go_simp)
            first | done | with_reducible rfl
          simp only [Act.put, List.getElem_toArray, List.getElem_cons_zero, List.getElem_cons_succ, List.setIfInBounds_toArray, List.set_cons_zero, List.set_cons_succ]
          refine wpAnyH_take (i := 12) (v := ?_) rfl (by kernel_rfl) (by kernel_rfl) (by kernel_rfl) (fun _ _ _ h => h) (Or.inl ⟨by rfl, ?_⟩) (by assumption) ?_
          rotate_left
          · (intro w hSw; (try dsimp only at hSw); go_simp)
            first | done | with_reducible rfl
          simp only [Act.put, List.getElem_toArray, List.getElem_cons_zero, List.getElem_cons_succ, List.setIfInBounds_toArray, List.set_cons_zero, List.set_cons_succ]
          refine wpAnyH_take (i := 13) (v := ?_) rfl (by kernel_rfl) (by kernel_rfl) (by kernel_rfl) (fun _ _ _ h => h) (Or.inl ⟨by rfl, ?_⟩) (by assumption) ?_
          rotate_left
          · (intro w hSw; (try dsimp only at hSw); go_simp)
            first | done | with_reducible rfl
          simp only [Act.put, List.getElem_toArray, List.getElem_cons_zero, List.getElem_cons_succ, List.setIfInBounds_toArray, List.set_cons_zero, List.set_cons_succ]
          refine wpAnyH_take (i := 14) (v := ?_) rfl (by kernel_rfl) (by kernel_rfl) (by kernel_rfl) (fun _ _ _ h => h) (Or.inl ⟨by rfl, ?_⟩) (by assumption) ?_
          rotate_left
          · (intro w hSw; (try dsimp only at hSw); go_simp)
            first | done | with_reducible rfl
          simp only [Act.put, List.getElem_toArray, List.getElem_cons_zero, List.getElem_cons_succ, List.setIfInBounds_toArray, List.set_cons_zero, List.set_cons_succ]
          refine wpAnyH_ready (rs := [15]) (by kernel_rfl) (by simp) ?_
          refine AllReadyH.cons rfl (fun K hK => ?_) AllReadyH.nil
          go_simp
          refine (N1.out _ ((Upd.refl [] wo).drew)).mono ?_
          rintro e w15 ⟨rfl, hu1⟩
          have hv1 : Upd [] wo w15 := (Upd.refl [] wo).drew.trans hu1
          refine hK.out _ _ ?_ (fun hHeld => ?_)
          · exact ⟨hu1.keep hHeld.1, hu1.keep hHeld.2.1, hu1.keep hHeld.2.2⟩
          clear hK K
          try simp only [Act.put, List.getElem_toArray, List.getElem_cons_zero, List.getElem_cons_succ, List.setIfInBounds_toArray, List.set_cons_zero, List.set_cons_succ]
          refine wpAnyH_take (i := 16) (v := ?_) rfl (by kernel_rfl) (by kernel_rfl) (by kernel_rfl) (fun _ _ _ h => h) (Or.inl ⟨by rfl, ?_⟩) (by assumption) ?_
          rotate_left
          · (intro w hSw; (try dsimp only at hSw); go_simp)
            first | done | with_reducible rfl
          simp only [Act.put, List.getElem_toArray, List.getElem_cons_zero, List.getElem_cons_succ, List.setIfInBounds_toArray, List.set_cons_zero, List.set_cons_succ]
          refine wpAnyH_take (i := 17) (v := ?_) rfl (by kernel_rfl) (by kernel_rfl) (by kernel_rfl) (fun _ _ _ h => h) (Or.inl ⟨by rfl, ?_⟩) (by assumption) ?_
          rotate_left
          · (intro w hSw; (try dsimp only at hSw); go_simp)
            first | done | with_reducible rfl
          simp only [Act.put, List.getElem_toArray, List.getElem_cons_zero, List.getElem_cons_succ, List.setIfInBounds_toArray, List.set_cons_zero, List.set_cons_succ]
          refine wpAnyH_take (i := 18) (v := ?_) rfl (by kernel_rfl) (by kernel_rfl) (by kernel_rfl) (fun _ _ _ h => h) (Or.inl ⟨by rfl, ?_⟩) (by assumption) ?_
          rotate_left
          · (intro w hSw; (try dsimp only at hSw); go_simp)
            first | done | with_reducible rfl
          simp only [Act.put, List.getElem_toArray, List.getElem_cons_zero, List.getElem_cons_succ, List.setIfInBounds_toArray, List.set_cons_zero, List.set_cons_succ]
          refine wpAnyH_take (i := 19) (v := ?_) rfl (by kernel_rfl) (by kernel_rfl) (by kernel_rfl) (fun _ _ _ h => h) (Or.inl ⟨by rfl, ?_⟩) (by assumption) ?_
          rotate_left
          · (intro w hSw; (try dsimp only at hSw); go_simp)
            first | done | with_reducible rfl
          simp only [Act.put, List.getElem_toArray, List.getElem_cons_zero, List.getElem_cons_succ, List.setIfInBounds_toArray, List.set_cons_zero, List.set_cons_succ]
          refine wpAnyH_take (i := 20) (v := ?_) rfl (by kernel_rfl) (by kernel_rfl) (by kernel_rfl) (fun _ _ _ h => h) (Or.inl ⟨by rfl, ?_⟩) (by assumption) ?_
          rotate_left
          · (intro w hSw; (try dsimp only at hSw); go_simp)
            first | done | with_reducible rfl
          simp only [Act.put, List.getElem_toArray, List.getElem_cons_zero, List.getElem_cons_succ, List.setIfInBounds_toArray, List.set_cons_zero, List.set_cons_succ]
          refine wpAnyH_take (i := 21) (v := ?_) rfl (by kernel_rfl) (by kernel_rfl) (by kernel_rfl) (fun _ _ _ h => h) (Or.inl ⟨by rfl, ?_⟩) (by assumption) ?_
          rotate_left
          · (intro w hSw; (try dsimp only at hSw); go_simp)
            first | done | with_reducible rfl
          simp only [Act.put, List.getElem_toArray, List.getElem_cons_zero, List.getElem_cons_succ, List.setIfInBounds_toArray, List.set_cons_zero, List.set_cons_succ]
          refine wpAnyH_take (i := 22) (v := ?_) rfl (by kernel_rfl) (by kernel_rfl) (by kernel_rfl) (fun _ _ _ h => h) (Or.inl ⟨by rfl, ?_⟩) (by assumption) ?_
          rotate_left
          · (intro w hSw; (try dsimp only at hSw); go_simp)
            first | done | with_reducible rfl
          simp only [Act.put, List.getElem_toArray, List.getElem_cons_zero, List.getElem_cons_succ, List.setIfInBounds_toArray, List.set_cons_zero, List.set_cons_succ]
          refine wpAnyH_take (i := 23) (v := ?_) rfl (by kernel_rfl) (by kernel_rfl) (by kernel_rfl) (fun _ _ _ h => h) (Or.inl ⟨by rfl, ?_⟩) (by assumption) ?_
          rotate_left
          · (intro w hSw; (try dsimp only at hSw); go_simp)
            first | done | with_reducible rfl
          simp only [Act.put, List.getElem_toArray, List.getElem_cons_zero, List.getElem_cons_succ, List.setIfInBounds_toArray, List.set_cons_zero, List.set_cons_succ]
          refine wpAnyH_take (i := 24) (v := ?_) rfl (by kernel_rfl) (by kernel_rfl) (by kernel_rfl) (fun _ _ _ h => h) (Or.inl ⟨by rfl, ?_⟩) (by assumption) ?_
          rotate_left
          · (intro w hSw; (try dsimp only at hSw); go_simp)
            first | done | with_reducible rfl
          simp only [Act.put, List.getElem_toArray, List.getElem_cons_zero, List.getElem_cons_succ, List.setIfInBounds_toArray, List.set_cons_zero, List.set_cons_succ]
          refine wpAnyH_take (i := 25) (v := ?_) rfl (by kernel_rfl) (by kernel_rfl) (by kernel_rfl) (fun _ _ _ h => h) (Or.inl ⟨by rfl, ?_⟩) (by assumption) ?_
          rotate_left
          · (intro w hSw; (try dsimp only at hSw); go_simp)
            first | done | with_reducible rfl
          simp only [Act.put, List.getElem_toArray, List.getElem_cons_zero, List.getElem_cons_succ, List.setIfInBounds_toArray, List.set_cons_zero, List.set_cons_succ]
          refine wpAnyH_take (i := 26) (v := ?_) rfl (by kernel_rfl) (by kernel_rfl) (by kernel_rfl) (fun _ _ _ h => h) (Or.inl ⟨by rfl, ?_⟩) (by assumption) ?_
          rotate_left
          · (intro w hSw; (try dsimp only at hSw); go_simp)
            first | done | with_reducible rfl
          simp only [Act.put, List.getElem_toArray, List.getElem_cons_zero, List.getElem_cons_succ, List.setIfInBounds_toArray, List.set_cons_zero, List.set_cons_succ]
          refine wpAnyH_take (i := 27) (v := ?_) rfl (by kernel_rfl) (by kernel_rfl) (by kernel_rfl) (fun _ _ _ h => h) (Or.inl ⟨by rfl, ?_⟩) (by assumption) ?_
          rotate_left
          · (intro w hSw; (try dsimp only at hSw); go_simp)
            first | done | with_reducible rfl
          simp only [Act.put, List.getElem_toArray, List.getElem_cons_zero, List.getElem_cons_succ, List.setIfInBounds_toArray, List.set_cons_zero, List.set_cons_succ]
          refine wpAnyH_take (i := 28) (v := ?_) rfl (by kernel_rfl) (by kernel_rfl) (by kernel_rfl) (fun _ _ _ h => h) (Or.inl ⟨by rfl, ?_⟩) (by assumption) ?_
          rotate_left
          · (intro w hSw; (try dsimp only at hSw); go_simp)
            first | done | with_reducible rfl
          simp only [Act.put, List.getElem_toArray, List.getElem_cons_zero, List.getElem_cons_succ, List.setIfInBounds_toArray, List.set_cons_zero, List.set_cons_succ]
          refine wpAnyH_take (i := 29) (v := ?_) rfl (by kernel_rfl) (by kernel_rfl) (by kernel_rfl) (fun _ _ _ h => h) (Or.inl ⟨by rfl, ?_⟩) (by assumption) ?_
          rotate_left
          · (intro w hSw; (try dsimp only at hSw); go_simp)
            first | done | with_reducible rfl
          simp only [Act.put, List.getElem_toArray, List.getElem_cons_zero, List.getElem_cons_succ, List.setIfInBounds_toArray, List.set_cons_zero, List.set_cons_succ]
          refine wpAnyH_take (i := 30) (v := ?_) rfl (by kernel_rfl) (by kernel_rfl) (by kernel_rfl) (fun _ _ _ h => h) (Or.inl ⟨by rfl, ?_⟩) (by assumption) ?_
          rotate_left
          · (intro w hSw; (try dsimp only at hSw); go_simp)
            first | done | with_reducible rfl
          simp only [Act.put, List.getElem_toArray, List.getElem_cons_zero, List.getElem_cons_succ, List.setIfInBounds_toArray, List.set_cons_zero, List.set_cons_succ]
          refine wpAnyH_take (i := 31) (v := ?_) rfl (by kernel_rfl) (by kernel_rfl) (by kernel_rfl) (fun _ _ _ h => h) (Or.inl ⟨by rfl, ?_⟩) (by assumption) ?_
          rotate_left
          · (intro w hSw; (try dsimp only at hSw); go_simp)
            first | done | with_reducible rfl
          simp only [Act.put, List.getElem_toArray, List.getElem_cons_zero, List.getElem_cons_succ, List.setIfInBounds_toArray, List.set_cons_zero, List.set_cons_succ]
          refine wpAnyH_take (i := 32) (v := ?_) rfl (by kernel_rfl) (by kernel_rfl) (by kernel_rfl) (fun _ _ _ h => h) (Or.inl ⟨by rfl, ?_⟩) (by assumption) ?_
          rotate_left
          · (intro w hSw; (try dsimp only at hSw); go_simp)
            first | done | with_reducible rfl
          simp only [Act.put, List.getElem_toArray, List.getElem_cons_zero, List.getElem_cons_succ, List.setIfInBounds_toArray, List.set_cons_zero, List.set_cons_succ]
          refine wpAnyH_ready (rs := [33]) (by kernel_rfl) (by simp) ?_
          refine AllReadyH.cons rfl (fun K hK => ?_) AllReadyH.nil
          go_simp
          refine (N2.out w15 hv1).mono ?_
          rintro e w33 ⟨rfl, hu2⟩
          refine hK.out _ _ ?_ (fun hHeld => ?_)
          · exact ⟨hu2.keep hHeld.1, hu2.keep hHeld.2.1, hu2.keep hHeld.2.2⟩
          clear hK K
          try simp only [Act.put, List.getElem_toArray, List.getElem_cons_zero, List.getElem_cons_succ, List.setIfInBounds_toArray, List.set_cons_zero, List.set_cons_succ]
          refine wpAnyH_take (i := 34) (v := ?_) rfl (by kernel_rfl) (by kernel_rfl) (by kernel_rfl) (fun _ _ _ h => h) (Or.inl ⟨by rfl, ?_⟩) (by assumption) ?_
          rotate_left
          · (intro w hSw; (try dsimp only at hSw); go_simp)
            first | done | with_reducible rfl
          simp only [Act.put, List.getElem_toArray, List.getElem_cons_zero, List.getElem_cons_succ, List.setIfInBounds_toArray, List.set_cons_zero, List.set_cons_succ]
          refine wpAnyH_take (i := 35) (v := ?_) rfl (by kernel_rfl) (by kernel_rfl) (by kernel_rfl) (fun _ _ _ h => h) (Or.inl ⟨by rfl, ?_⟩) (by assumption) ?_
          rotate_left
          · (intro w hSw; (try dsimp only at hSw); go_simp)
            first | done | with_reducible rfl
          simp only [Act.put, List.getElem_toArray, List.getElem_cons_zero, List.getElem_cons_succ, List.setIfInBounds_toArray, List.set_cons_zero, List.set_cons_succ]
          refine wpAnyH_done (by kernel_rfl) ?_ _
          have HU9 := Lib.hid (HU.out.trans (hv1.trans hu2))
          clear HU hHeld q0 q1 q2 N1 N2
          go_wp2_with fail
          go_roundw
          case rel => exact ⟨k + 1, by omega, by go_num, HE, HU9⟩
          case measure => simp [intOf]; omega
    · obtain rfl : k = R.length := by omega
      have HE := Lib.hid (show holdsF A B R = true by rw [← HA.out, List.drop_length]; rfl)
      clear HA
      go_wp2_with fail
      go_ret
      exact ⟨by rw [HE.out]; rfl, HU.out⟩

end Go.Proofs.YtcnaapiljmgfoaaGreatDoor
