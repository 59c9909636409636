/-
  All assignments within the bounds 3, 2, 2 are gone through.
-/
import Derived.Test.YtnioopbficcbeaaBounds
import Derived.Deep.QuietTactic
import Derived.BigQuiet
namespace Go.Proofs.Ytnioopbficcbeaa
open Go.RowKit

/-- where the inner loop stands: behind what is set to zero. -/
def Inn (a b c k x y z : Int) : Prop := (k = 2 ∧ x = a ∧ y = b ∧ z = c) ∨ (k = 1 ∧ x = a ∧ y = b ∧ z = 0 ∧ c = 2) ∨ (k = 0 ∧ x = a ∧ y = 0 ∧ z = 0 ∧ b = 2 ∧ c = 2) ∨ (k = -1 ∧ a = 3 ∧ b = 2 ∧ c = 2)

/-- the three cells of an own row at block g. -/
def At3 (w0 w : World) (g : Nat) (x y z : Int) : Prop := w.ownsRow w0.heap.size 2 1 (.slice (some ⟨g, 0, none⟩) 3 3) 3 [ei x, ei y, ei z]

theorem At3.cells {w0 w : World} {g : Nat} {x y z : Int} (h : At3 w0 w g x y z) :
    w.cell? ⟨g, 0, none⟩ = some (ei x) ∧ w.cell? ⟨g, 1, none⟩ = some (ei y) ∧ w.cell? ⟨g, 2, none⟩ = some (ei z) ∧ (∀ o, w.frozen? ⟨g, o, none⟩ = false) ∧ w0.heap.size ≤ g ∧ g < w.heap.size :=
  ⟨by rw [World.ownsRow.cellAt h 0 (by omega)]; rfl, by rw [World.ownsRow.cellAt h 1 (by omega)]; rfl, by rw [World.ownsRow.cellAt h 2 (by omega)]; rfl, fun o => World.ownsRow.frozenAt h o, (World.ownsRow.lt h g rfl).1, (World.ownsRow.lt h g rfl).2⟩
theorem At3.set {w0 w : World} {g : Nat} {x y z : Int} (h : At3 w0 w g x y z) (q : Int) :
    At3 w0 (w.setCell ⟨g, 0, none⟩ (ei q)) g q y z ∧ At3 w0 (w.setCell ⟨g, 1, none⟩ (ei q)) g x q z ∧ At3 w0 (w.setCell ⟨g, 2, none⟩ (ei q)) g x y q :=
  ⟨(World.ownsRow.stored h 0 (ei q)).1, (World.ownsRow.stored h 1 (ei q)).1, (World.ownsRow.stored h 2 (ei q)).1⟩
theorem At3.upd {w0 w w1 : World} {g : Nat} {x y z : Int} (h : At3 w0 w g x y z) (hu : Upd [] w w1) : At3 w0 w1 g x y z := ownsRow_upd h hu

def cellI (w : World) (g o : Nat) : Int := match w.cell? ⟨g, o, none⟩ with
  | some v => intOf v
  | none => 0
theorem cellI_eq {w : World} {g o : Nat} {x : Int} (h : w.cell? ⟨g, o, none⟩ = some (ei x)) : cellI w g o = x := by simp [cellI, h, intOf]

set_option maxRecDepth 20000 in
set_option maxHeartbeats 4000000 in
theorem assign322 (fn : FuncId) (caps : Array Value) (vb : Value) (w : World) (fb : List Nat) (hB : R1 fb w [vb] [3, 2, 2])
    (hent : ∀ args w, Sem.run Try.prog (callFunc fn args) w = .ok (.enter fn args) w)
    (hby : ∀ wr u f (vals : List Int), vals.length = 3 → vals.all isV = true → Upd [] w wr → R1 f wr [u] vals → Calls Try.prog fn (#[u] ++ caps) wr fun e w' => e = .returned (.bool true) ∧ Upd [] wr w') :
    Calls Try.prog 43 #[vb, .func (.func fn) #[] caps] w fun e w' => e = .returned (.tuple #[]) ∧ Upd [] w w' := by
  obtain ⟨i1, ki, kz0, kz1, kz2⟩ := info_parts Try.info2
  obtain ⟨ab, cb, rfl, hl1, hm1, hc1⟩ := slF1_open hB
  unfold maxLen at hm1
  obtain ⟨b0, o0, rfl, -, -, p0⟩ := hc1 0 (by simp)
  obtain ⟨b1, o1, hb1, -, -, p1⟩ := hc1 1 (by simp)
  obtain ⟨b2, o2, hb2, -, -, p2⟩ := hc1 2 (by simp)
  simp only [Option.some.injEq, Addr.mk.injEq, and_true] at hb1 hb2
  obtain ⟨rfl, rfl⟩ := hb1
  obtain ⟨rfl, rfl⟩ := hb2
  have p0 : w.cell? ⟨b0, o0, none⟩ = some (ei 3) := p0
  have p1 : w.cell? ⟨b0, o0 + 1, none⟩ = some (ei 2) := p1
  have p2 : w.cell? ⟨b0, o0 + 2, none⟩ = some (ei 2) := p2
  have HBY := Lib.hid hby
  have hm2 : i1.bytes * 3 ≤ 281474976710656 := by rw [kz2]; omega
  clear hB hby hc1
  go_enter Try.func43, Try.ntmps43
  go_wp2_with (first
    | (at_make; refine wpList_make_full _ rfl _ _ 34 rfl w.heap.size 2 i1 (.int .i64 0) 1 Try.underlying34 ki kz0 kz1 .i64 .i64 _ _ 3 rfl rfl rfl rfl hm2 (by unfold maxLen; omega) (Nat.le_refl _) ?_; intro w3 hrow hgrow)
    | fail)
  rw [made_one _ rfl] at hrow
  have h3 : At3 w w3 w.heap.size 0 0 0 := hrow
  have hu3 : Upd [] w w3 := (Upd.refl _ _).grown hgrow (by simp)
  have H3 := Lib.hid (And.intro h3 hu3)
  clear hrow hgrow h3 hu3
  go_wp2_with fail
  go_loopw [5] (fun _ wr => Upd [] w wr ∧ ∃ a b c : Int, 0 ≤ a ∧ a ≤ 3 ∧ 0 ≤ b ∧ b ≤ 2 ∧ 0 ≤ c ∧ c ≤ 2 ∧ At3 w wr w.heap.size a b c) (fun _ wr => (36 - (9 * cellI wr w.heap.size 0 + 3 * cellI wr w.heap.size 1 + cellI wr w.heap.size 2)).toNat)
  case atStart => exact ⟨H3.out.2, 0, 0, 0, by omega, by omega, by omega, by omega, by omega, by omega, H3.out.1⟩
  case round =>
    clear H3
    obtain ⟨hU, a, b, c, ha0, ha1, hb0, hb1, hc0, hc1, hat⟩ := hrel
    have HM := Lib.hid (show cellI wr w.heap.size 0 = a ∧ cellI wr w.heap.size 1 = b ∧ cellI wr w.heap.size 2 = c by
      obtain ⟨q0, q1, q2, -⟩ := hat.cells
      exact ⟨cellI_eq q0, cellI_eq q1, cellI_eq q2⟩)
    obtain ⟨fr, hr, -, -⟩ := New.ofOwns (w := w) (e := 2) (enc := ei) (xs := [a, b, c]) (w' := wr) hat
    have S1 := Lib.hid (HBY.out wr _ fr [a, b, c] rfl (by simp only [List.all_cons, List.all_nil, Bool.and_true, Bool.and_eq_true]; exact ⟨inB_mk ⟨by omega, by omega⟩, inB_mk ⟨by omega, by omega⟩, inB_mk ⟨by omega, by omega⟩⟩) hU hr)
    have HU := Lib.hid hU
    have HAT := Lib.hid hat
    clear hU hat hr
    go_wp2_with fail
    refine S1.out.mono ?_
    rintro e w1 ⟨rfl, hu1⟩
    have HU1 := Lib.hid (HU.out.trans hu1)
    have HAT1 := Lib.hid (HAT.out.upd hu1)
    clear S1 HU HAT hu1
    go_wp2_with fail
    go_loopw [5] (fun kv wi => ∃ k x y z : Int, kv = .int .i64 k ∧ Upd [] w wi ∧ At3 w wi w.heap.size x y z ∧ Inn a b c k x y z) (fun kv _ => (intOf kv + 1).toNat)
    case atStart => exact ⟨2, a, b, c, rfl, HU1.out, HAT1.out, Or.inl ⟨rfl, rfl, rfl, rfl⟩⟩
    case round =>
      clear HU1 HAT1
      obtain ⟨k, x, y, z, rfl, hU, hat, hI⟩ := hrel
      have q0 := hU.keep p0
      have q1 := hU.keep p1
      have q2 := hU.keep p2
      obtain ⟨r0, r1, r2, rf, hge, hlt⟩ := hat.cells
      have rf0 := rf 0
      have rf1 := rf 1
      have rf2 := rf 2
      have HU := Lib.hid hU
      have HAT := Lib.hid hat
      clear hU hat rf p0 p1 p2
      rcases hI with ⟨rfl, rfl, rfl, rfl⟩ | ⟨rfl, rfl, rfl, rfl, rfl⟩ | ⟨rfl, rfl, rfl, rfl, rfl, rfl⟩ | ⟨rfl, rfl, rfl, rfl⟩
      · by_cases h : z = 2
        · subst h
          have hs := (HAT.out.set 0).2.2
          have HP := Lib.hid (And.intro hs (HU.out.setCell (p := ⟨w.heap.size, 2, none⟩) (Or.inl (Nat.le_refl _)) (ei 0)))
          clear hs HAT HU
          go_wp2_with fail
          go_quiet (fail)
          go_wp2_with fail
          go_roundw
          case rel => exact ⟨1, _, _, _, by go_num, HP.out.2.drewN _, HP.out.1.upd ((Upd.refl _ _).drewN _), Or.inr (Or.inl ⟨rfl, rfl, rfl, rfl, rfl⟩)⟩
          case measure => simp [intOf]
        · have h' : (z == 2) = false := by simpa using h
          have hs := fun n => ((HAT.out.upd ((Upd.refl [] wr).drewN n)).set (z + 1)).2.2
          have HP := Lib.hid (And.intro hs (fun n => (HU.out.drewN n).setCell (p := ⟨w.heap.size, 2, none⟩) (Or.inl (Nat.le_refl _)) (ei (z + 1))))
          clear hs HAT HU
          go_wp2_with fail
          go_quiet (fail)
          go_wp2_with fail
          go_roundw
          case rel => exact ⟨HP.out.2 _, x, y, z + 1, by omega, by omega, by omega, by omega, by omega, by omega, HP.out.1 _⟩
          case measure =>
            obtain ⟨e0, e1, e2⟩ := HM.out
            rw [cellI_eq (HP.out.1 _).cells.1, cellI_eq (HP.out.1 _).cells.2.1, cellI_eq (HP.out.1 _).cells.2.2.1, e0, e1, e2]
            omega
      · by_cases h : y = 2
        · subst h
          have hs := (HAT.out.set 0).2.1
          have HP := Lib.hid (And.intro hs (HU.out.setCell (p := ⟨w.heap.size, 1, none⟩) (Or.inl (Nat.le_refl _)) (ei 0)))
          clear hs HAT HU
          go_wp2_with fail
          go_quiet (fail)
          go_wp2_with fail
          go_roundw
          case rel => exact ⟨0, _, _, _, by go_num, HP.out.2.drewN _, HP.out.1.upd ((Upd.refl _ _).drewN _), Or.inr (Or.inr (Or.inl ⟨rfl, rfl, rfl, rfl, rfl, rfl⟩))⟩
          case measure => simp [intOf]
        · have h' : (y == 2) = false := by simpa using h
          have hs := fun n => ((HAT.out.upd ((Upd.refl [] wr).drewN n)).set (y + 1)).2.1
          have HP := Lib.hid (And.intro hs (fun n => (HU.out.drewN n).setCell (p := ⟨w.heap.size, 1, none⟩) (Or.inl (Nat.le_refl _)) (ei (y + 1))))
          clear hs HAT HU
          go_wp2_with fail
          go_quiet (fail)
          go_wp2_with fail
          go_roundw
          case rel => exact ⟨HP.out.2 _, x, y + 1, 0, by omega, by omega, by omega, by omega, by omega, by omega, HP.out.1 _⟩
          case measure =>
            obtain ⟨e0, e1, e2⟩ := HM.out
            rw [cellI_eq (HP.out.1 _).cells.1, cellI_eq (HP.out.1 _).cells.2.1, cellI_eq (HP.out.1 _).cells.2.2.1, e0, e1, e2]
            omega
      · by_cases h : x = 3
        · subst h
          have hs := (HAT.out.set 0).1
          have HP := Lib.hid (And.intro hs (HU.out.setCell (p := ⟨w.heap.size, 0, none⟩) (Or.inl (Nat.le_refl _)) (ei 0)))
          clear hs HAT HU
          go_wp2_with fail
          go_quiet (fail)
          go_wp2_with fail
          go_roundw
          case rel => exact ⟨-1, _, _, _, by go_num, HP.out.2.drewN _, HP.out.1.upd ((Upd.refl _ _).drewN _), Or.inr (Or.inr (Or.inr ⟨rfl, rfl, rfl, rfl⟩))⟩
          case measure => simp [intOf]
        · have h' : (x == 3) = false := by simpa using h
          have hs := fun n => ((HAT.out.upd ((Upd.refl [] wr).drewN n)).set (x + 1)).1
          have HP := Lib.hid (And.intro hs (fun n => (HU.out.drewN n).setCell (p := ⟨w.heap.size, 0, none⟩) (Or.inl (Nat.le_refl _)) (ei (x + 1))))
          clear hs HAT HU
          go_wp2_with fail
          go_quiet (fail)
          go_wp2_with fail
          go_roundw
          case rel => exact ⟨HP.out.2 _, x + 1, 0, 0, by omega, by omega, by omega, by omega, by omega, by omega, HP.out.1 _⟩
          case measure =>
            obtain ⟨e0, e1, e2⟩ := HM.out
            rw [cellI_eq (HP.out.1 _).cells.1, cellI_eq (HP.out.1 _).cells.2.1, cellI_eq (HP.out.1 _).cells.2.2.1, e0, e1, e2]
            omega
      · clear HAT
        go_wp2_with fail
        go_quiet (fail)
        go_wp2_with fail
        ((try simp only [Exit.inBlock, Exit.then]); refine bodyPost_ret (results_none rfl _ _ _) rfl ?_)
        exact ⟨rfl, HU.out.drewN _⟩

end Go.Proofs.Ytnioopbficcbeaa
