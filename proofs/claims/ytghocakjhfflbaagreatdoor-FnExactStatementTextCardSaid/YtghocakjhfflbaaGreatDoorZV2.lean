/-
  Texts joined in one file: Lib5, DecQ, OpenQ, OpenC, OpenL.
-/
import Derived.Test.YtghocakjhfflbaaGreatDoorZV1
import Derived.Deep.AppendLies
import Derived.Deep.RegionLaw
import Derived.Lib.SmallJoins
import Derived.Deep.Strs
/-
  A row of cells known whole; elements of several cells collected by append.
-/
namespace Go.Proofs.YtghocakjhfflbaaGreatDoor
open Go.RowKit

/-- block T holds these cells, and none is frozen. -/
def RowAt (W : World) (T : Nat) (ty : TypeId) (cs : List Value) : Prop := W.heap[T]? = some (.cells cs.toArray ty (0, 0))
namespace RowAt
variable {W W' : World} {T : Nat} {ty : TypeId} {cs : List Value}
theorem new (W : World) (ty : TypeId) (cs : List Value) : RowAt (W.alloc (.cells cs.toArray ty)) W.heap.size ty cs := heap_alloc_new W _
theorem lt (h : RowAt W T ty cs) : T < W.heap.size := (Array.getElem?_eq_some_iff.1 h).1
theorem upd (h : RowAt W T ty cs) {f : List Nat} (hu : Upd f W W') (hT : T ∉ f) : RowAt W' T ty cs := by
  unfold RowAt; rw [hu.block T h.lt hT]; exact h
theorem cell (h : RowAt W T ty cs) (j : Nat) (c : Value) (hc : cs[j]? = some c) : W.cell? ⟨T, j, none⟩ = some c := by unfold RowAt at h; simp [World.cell?, h, hc]
theorem fz (h : RowAt W T ty cs) (j : Nat) : W.frozen? ⟨T, j, none⟩ = false := by unfold RowAt at h; simp [World.frozen?, h]
theorem store (h : RowAt W T ty cs) (j : Nat) (v : Value) : RowAt (W.setCell ⟨T, j, none⟩ v) T ty (cs.set j v) := by
  unfold RowAt at h ⊢; simp [World.setCell, Array.getElem?_modify, h]
theorem other (h : RowAt W T ty cs) (g j : Nat) (v : Value) (hg : g ≠ T) : RowAt (W.setCell ⟨g, j, none⟩ v) T ty cs := by
  unfold RowAt at h ⊢; rw [Below.heap_setCell _ _ _ _ (by simpa using fun e => hg e.symm)]; exact h
theorem row (h : RowAt W T ty cs) (ds : List Value) : RowAt (W.setRow T ds.toArray) T ty ds := setRow_heap W T _ _ _ _ h
theorem own (h : RowAt W T ty cs) : Own [T] W := ⟨by simp, by intro b hb; obtain rfl : b = T := (by simpa using hb); exact ⟨_, _, h⟩⟩
end RowAt

/-- A slice of elements of n cells each, with memory of their own, that a call collects by append: e is the element's type. -/
def AccQ {α : Type} (n : Nat) (R : Rp α) (w0 : World) (e : TypeId) (w : World) (v : Value) (xs : List α) : Prop :=
  ∃ us, w.ownsRow w0.heap.size e n v xs.length (List.flatten us) ∧ RowsQ n R w0.heap.size v.ownBlock.toList w us xs

namespace AccQ
variable {α : Type} {n : Nat} {R : Rp α} {w0 w w1 w2 : World} {e : TypeId} {v : Value} {xs : List α}

theorem nil (n : Nat) (R : Rp α) (w0 : World) (e : TypeId) (w : World) : AccQ n R w0 e w (.slice none 0 0) [] := ⟨[], World.ownsRow_nil _ _ _ _, RowsQ.nil _ _ _ _ _⟩
theorem upd (K : Kept R) (h : AccQ n R w0 e w v xs) (hu : Upd [] w w1) : AccQ n R w0 e w1 v xs := by
  obtain ⟨us, h1, h2⟩ := h
  exact ⟨us, ownsRow_upd h1 hu, h2.upd K hu (by simp)⟩
theorem other (K : Kept R) (h : AccQ n R w0 e w v xs) {b : Nat} (hu : Upd [b] w w1) (hb : b < w0.heap.size) : AccQ n R w0 e w1 v xs := by
  obtain ⟨us, h1, h2⟩ := h
  refine ⟨us, h1.kept (row := some b) ⟨hu.os, hu.tape, hu.output, hu.size, fun k hk hne => hu.block k hk (by simpa using hne)⟩ ?_, h2.upd K hu (by simp; omega)⟩
  cases hv : v.ownBlock with
  | none => exact Or.inl rfl
  | some g =>
    right
    have := (h1.lt g hv).1
    intro e; cases e; omega
theorem new (h : AccQ n R w0 e w v xs) : New (slQ n R) w0 w v xs := by
  obtain ⟨us, h1, h2⟩ := h
  exact h2.new h1 (fun b hb => by simp [hb]) (Nat.le_refl _)
theorem own (h : AccQ n R w0 e w v xs) : ∃ us, w.ownsRow w0.heap.size e n v xs.length us := by obtain ⟨us, h1, -⟩ := h; exact ⟨_, h1⟩
theorem form (h : AccQ n R w0 e w v xs) : ∃ a c, v = .slice a xs.length c := by obtain ⟨us, h1, -⟩ := h; exact ownsRow_form h1
/-- Behind an append of one element, its cells made between w and w1 and laid into a new block: what the append's law leaves. -/
theorem push (K : Kept R) {us : List (List Value)} (hown : w.ownsRow w0.heap.size e n v xs.length us.flatten) (hrows : RowsQ n R w0.heap.size v.ownBlock.toList w us xs) (hs : w0.heap.size ≤ w.heap.size) {u : List Value} {x : α} (hu : Upd [] w w1) (hn : NewQ R w w1 u x) (hl : u.length = n) (o : Obj) {v2 : Value}
    (h2 : w2.ownsRow w0.heap.size e n v2 (xs.length + 1) (us.flatten ++ u)) (hg : (w1.alloc o).grownBy w2 v.ownBlock)
    (ht : ∀ b, v2.ownBlock = some b → v.ownBlock = some b ∨ (w1.alloc o).heap.size ≤ b) : AccQ n R w0 e w2 v2 (xs ++ [x]) := by
  refine ⟨us ++ [u], by simpa using h2, ?_⟩
  have hob : ∀ b ∈ v.ownBlock.toList, b < w.heap.size := fun b hb => (hown.lt b (by simpa using hb)).2
  have hr1 := hrows.push K hu hn hl hs hob
  have hu2 : Upd [] w1 (w1.alloc o) := (Upd.refl _ _).alloc o
  have hr2 := hr1.upd K hu2 (by simp)
  have hu3 : Upd v.ownBlock.toList (w1.alloc o) w2 := (Upd.refl _ _).grown hg (fun k hk => Or.inr (by simp [hk]))
  have hr3 := RowsQ.ob' hr2 (ob2 := v.ownBlock.toList ++ v2.ownBlock.toList) (by
    intro b hb
    rcases List.mem_append.1 hb with hb | hb
    · exact Or.inl hb
    · rcases ht b (by simpa using hb) with h | h
      · exact Or.inl (by simp [h])
      · exact Or.inr (Or.inr h))
  have hr4 := hr3.upd K hu3 (fun b hb => Or.inl (List.mem_append_left _ hb))
  exact hr4.ob' (fun b hb => Or.inl (List.mem_append_right _ hb))
end AccQ

end Go.Proofs.YtghocakjhfflbaaGreatDoor

/-
  Reading numbers, texts and edges, plainly: a reader of a given number of bytes a number.
-/
namespace Go.Proofs.YtghocakjhfflbaaGreatDoor
open Go.RowKit

end Go.Proofs.YtghocakjhfflbaaGreatDoor

/-
  The form's reading of slices of structs with memory of their own.
-/
namespace Go.Proofs.YtghocakjhfflbaaGreatDoor
open Go.RowKit Go.ChangeShapes Go.WideShapes Go.Deep

theorem opens_slQ {α : Type} {P : Program} {t e : TypeId} {n : Nat} {R : Rp α} {φ : α → Prop} (ht : P.underlying t = some (.slice e)) (hc : P.cellsOf e = n) (hn : 0 < n) (h : Opens P e R φ) :
    Opens P t (slQ n R) (fun xs => ∀ x ∈ xs, φ x) := by
  intro H enc w fuel cs x hx
  rcases open_slice ht hx with ⟨rfl, -⟩ | ⟨a, len, cap, m, q, D, Pl, rfl, -, hl, hm, hmm, -, hel⟩
  · exact ⟨[], [], slQ_nil w none 0 (by simp [maxLen]), by simp⟩
  · have hlm : len ≤ m := by subst hmm; simpa using hl
    rw [hc] at hel
    obtain ⟨l, hll, hlq⟩ := list_choice (fun i (y : α × List Value × List Nat) => (y.2.1.length = n ∧ ∀ j, j < n → w.cell? ((a.add (i * n)).add j) = y.2.1[j]?) ∧ R y.2.2 w y.2.1 y.1 ∧ φ y.1) len (fun i hi => by
      obtain ⟨cs', h1, h2⟩ := hel i (by omega)
      obtain ⟨-, h3, h4⟩ := World.cells?_some h1
      obtain ⟨y, f, hr, hy⟩ := h h2
      exact ⟨(y, cs', f), ⟨h3, h4⟩, hr, hy⟩)
    by_cases h0 : len = 0
    · subst h0
      exact ⟨[], [], by simpa using slQ_nil w (some a) cap hm, by simp⟩
    · have q0 := hlq 0 l[0] (by simp)
      have hc0 := q0.1.2 0 hn
      obtain ⟨c0, hc1⟩ : ∃ c, l[0].2.1[0]? = some c := ⟨_, List.getElem?_eq_getElem (by rw [q0.1.1]; exact hn)⟩
      rw [hc1] at hc0
      have hs : a.spot = none := by simpa [Addr.add] using World.cell?_spot hc0
      obtain ⟨b, off, spot⟩ := a
      simp at hs
      subst hs
      have ha : ∀ o, (⟨b, off, none⟩ : Addr).add o = ⟨b, off + o, none⟩ := fun o => by simp only [Addr.add]; split <;> simp_all
      have ha2 : ∀ o o2, (⟨b, off + o, none⟩ : Addr).add o2 = ⟨b, off + o + o2, none⟩ := fun o o2 => by simp only [Addr.add]; split <;> simp_all
      refine ⟨l.map (·.1), [b] ++ (l.map (·.2.2)).flatten, ⟨some ⟨b, off, none⟩, cap, l.map (·.2.1), [b], l.map (·.2.2), by simp [hll], by simpa [hll] using hl, hm, by simp, ?_, by simp, rfl, Or.inr ⟨b, off, rfl, rfl, ?_, ?_⟩, ?_⟩, ?_⟩
      · intro u hu
        obtain ⟨y, hy, rfl⟩ := List.mem_map.1 hu
        obtain ⟨i, hi, rfl⟩ := List.mem_iff_getElem.1 hy
        exact (hlq i _ (by simp)).1.1
      · have := World.block_lt_of_cell? w _ hc0
        simpa [Addr.add] using this
      · intro i j u c hu hj
        rw [List.getElem?_map] at hu
        cases hli : l[i]? with
        | none => simp [hli] at hu
        | some y =>
          simp [hli] at hu
          subst hu
          have g := hlq i y hli
          have := g.1.2 j (by rw [← g.1.1]; exact (List.getElem?_eq_some_iff.1 hj).1)
          rw [ha, ha2] at this
          rw [this]; exact hj
      · intro i hi u f hu hf
        simp at hi
        have hq := hlq i l[i] (by simp)
        simp [List.getElem?_eq_getElem hi] at hf hu
        subst hf hu
        simpa using hq.2.1
      · intro x hx
        obtain ⟨y, hy, rfl⟩ := List.mem_map.1 hx
        obtain ⟨i, hi, rfl⟩ := List.mem_iff_getElem.1 hy
        exact (hlq i _ (by simp)).2.2

section
variable {P : Program} {H : Type} {enc : TypeId × Value → H} {w : World} {base : Nat} {spare : Nat → Bool} {held : Bool}
theorem trod_struct5 {t : TypeId} {f0 f1 f2 f3 f4 : Field} {fuel : Nat} {cs : List Value} {x : DataW H × List MemPlace} (ht : P.underlying t = some (.struct #[f0, f1, f2, f3, f4])) (h : DataW.trod enc P w base spare held fuel t cs = some x) :
    ∃ y0 y1 y2 y3 y4 n, cs.length = P.cellsOf t ∧ DataW.trod enc P w base spare held n f0.type ((cs.drop f0.offset).take (P.cellsOf f0.type)) = some y0 ∧
      DataW.trod enc P w base spare held n f1.type ((cs.drop f1.offset).take (P.cellsOf f1.type)) = some y1 ∧ DataW.trod enc P w base spare held n f2.type ((cs.drop f2.offset).take (P.cellsOf f2.type)) = some y2 ∧
      DataW.trod enc P w base spare held n f3.type ((cs.drop f3.offset).take (P.cellsOf f3.type)) = some y3 ∧ DataW.trod enc P w base spare held n f4.type ((cs.drop f4.offset).take (P.cellsOf f4.type)) = some y4 := by
  obtain ⟨xs, n, _, rfl, hl, hlen, hf⟩ := DataW.trod_struct ht h
  match xs, hlen with
  | [y0, y1, y2, y3, y4], _ => exact ⟨y0, y1, y2, y3, y4, n, hl, by simpa using hf 0 f0 rfl, by simpa using hf 1 f1 rfl, by simpa using hf 2 f2 rfl, by simpa using hf 3 f3 rfl, by simpa using hf 4 f4 rfl⟩
end

end Go.Proofs.YtghocakjhfflbaaGreatDoor

/-
  The form's reading of texts and lists of texts.
-/
namespace Go.Proofs.YtghocakjhfflbaaGreatDoor
open Go.RowKit Go.ChangeShapes Go.WideShapes Go.Deep

theorem opens_S1 : Opens Tryz.prog 22 R_S1 (fun xs => ∀ p ∈ xs, p.length ≤ maxLen) :=
  opens_slF1 Tryz.underlying22 (by kernel_rfl) (by
    intro H enc w fuel v x hx
    obtain ⟨s, hv, -, hs⟩ := DataW.trod_string Tryz.underlying9 hx
    simp at hv
    exact ⟨s.data.toList, hv, hs⟩)
end Go.Proofs.YtghocakjhfflbaaGreatDoor

/-
  The form's reading of systems.
-/
namespace Go.Proofs.YtghocakjhfflbaaGreatDoor
open Go.RowKit Go.ChangeShapes Go.WideShapes Go.Deep

theorem cells3 {w : World} {a : Addr} {cs : List Value} (h : w.cells? 0 a 3 = some cs) : ∃ c0 c1 c2, cs = [c0, c1, c2] ∧ w.cell? a = some c0 ∧ w.cell? (a.add 1) = some c1 ∧ w.cell? (a.add 2) = some c2 := by
  rw [World.cells?, if_pos (Nat.zero_le _), show List.range 3 = [0, 1, 2] from rfl] at h
  simp only [List.mapM_cons, List.mapM_nil, Addr.add, if_true] at h
  cases h0 : w.cell? a with
  | none => simp [h0] at h
  | some c0 =>
    cases h1 : w.cell? (a.add 1) with
    | none => simp [Addr.add] at h1; simp [h0, h1] at h
    | some c1 =>
      cases h2 : w.cell? (a.add 2) with
      | none => simp [Addr.add] at h1 h2; simp [h0, h1, h2] at h
      | some c2 =>
        refine ⟨c0, c1, c2, ?_, rfl, rfl, rfl⟩
        simp [Addr.add] at h1 h2
        simpa [h0, h1, h2] using h.symm

/-- slices of structs of three plain fields. -/
theorem opens_slF3 {α : Type} {P : Program} {t e : TypeId} {e1 e2 e3 : α → Value} {φ : α → Prop} (ht : P.underlying t = some (.slice e)) (hc : P.cellsOf e = 3)
    (h : ∀ {H : Type} {enc : TypeId × Value → H} {w : World} {fuel : Nat} {u v z : Value} {x : DataW H × List MemPlace}, DataW.trod enc P w 0 (fun _ => true) true fuel e [u, v, z] = some x → ∃ a, u = e1 a ∧ v = e2 a ∧ z = e3 a ∧ φ a) :
    Opens P t (slF 3 (fun x => [e1 x, e2 x, e3 x])) (fun xs => ∀ x ∈ xs, φ x) := by
  intro H enc w fuel cs x hx
  rcases open_slice ht hx with ⟨rfl, -⟩ | ⟨a, len, cap, m, n, D, Pl, rfl, -, hl, hm, hmm, -, hel⟩
  · exact ⟨[], [], ⟨_, rfl, flat_nil w 3⟩, by simp⟩
  · have hlm : len ≤ m := by subst hmm; simpa using hl
    rw [hc] at hel
    obtain ⟨l, hll, hlq⟩ := list_choice (fun i (y : α) => w.cell? (a.add (i * 3)) = some (e1 y) ∧ w.cell? ((a.add (i * 3)).add 1) = some (e2 y) ∧ w.cell? ((a.add (i * 3)).add 2) = some (e3 y) ∧ φ y) len (fun i hi => by
      obtain ⟨cs', h1, h2⟩ := hel i (by omega)
      obtain ⟨c0, c1, c2, rfl, g0, g1, g2⟩ := cells3 h1
      obtain ⟨y, rfl, rfl, rfl, hy⟩ := h h2
      exact ⟨y, g0, g1, g2, hy⟩)
    by_cases h0 : len = 0
    · subst h0
      obtain rfl : l = [] := List.eq_nil_of_length_eq_zero hll
      exact ⟨[], [], ⟨_, rfl, some a, cap, rfl, hl, hm, by simp, Or.inl ⟨rfl, rfl⟩⟩, by simp⟩
    · have hc0 := (hlq 0 l[0] (by simp)).1
      have hs : a.spot = none := by simpa [Addr.add] using World.cell?_spot hc0
      obtain ⟨b, off, spot⟩ := a
      simp at hs
      subst hs
      refine ⟨l, [b], ⟨_, rfl, some ⟨b, off, none⟩, cap, by rw [hll], by omega, hm, by rw [flatMap_three_length], Or.inr ⟨b, off, rfl, rfl, ?_, fun j u hu => ?_⟩⟩, fun x hx => ?_⟩
      · exact World.block_lt_of_cell? w ⟨b, off, none⟩ (by simpa [Addr.add] using hc0)
      · have hj : j < l.length * 3 := by rw [← flatMap_three_length e1 e2 e3]; exact (List.getElem?_eq_some_iff.1 hu).1
        have hi : j / 3 < l.length := by omega
        obtain ⟨g1, g2, g3⟩ := flatMap_three_get e1 e2 e3 l (j / 3) hi
        obtain ⟨q1, q2, q3, -⟩ := hlq (j / 3) l[j / 3] (by simp)
        have ha : (⟨b, off, none⟩ : Addr).add (j / 3 * 3) = ⟨b, off + j / 3 * 3, none⟩ := by simp only [Addr.add]; split <;> simp_all
        rw [ha] at q1 q2 q3
        have hmod : j % 3 = 0 ∨ j % 3 = 1 ∨ j % 3 = 2 := by omega
        rcases hmod with hmod | hmod | hmod
        · have e : j / 3 * 3 = j := by omega
          rw [e] at g1 q1
          rw [g1] at hu; cases hu; exact q1
        · have e : j / 3 * 3 + 1 = j := by omega
          rw [e] at g2
          rw [g2] at hu; cases hu
          simp [Addr.add] at q2
          rw [show off + j = off + j / 3 * 3 + 1 from by omega]; exact q2
        · have e : j / 3 * 3 + 2 = j := by omega
          rw [e] at g3
          rw [g3] at hu; cases hu
          simp [Addr.add] at q3
          rw [show off + j = off + j / 3 * 3 + 2 from by omega]; exact q3
      · obtain ⟨i, hi, rfl⟩ := List.mem_iff_getElem.1 hx
        exact (hlq i _ (by simp)).2.2.2

theorem opens_E1 : Opens Tryz.prog 74 R_E1 (fun xs => ∀ x ∈ xs, True) :=
  opens_slF3 Tryz.underlying74 (by kernel_rfl) (by
    intro H enc w fuel u v z x hx
    obtain ⟨y0, y1, y2, n, -, -, h0, h1, h2⟩ := trod_struct3 Tryz.underlying119 hx
    obtain ⟨a, e0, -, -⟩ := DataW.trod_int Tryz.underlying2 h0
    obtain ⟨b, e1, -, -⟩ := DataW.trod_int Tryz.underlying2 h1
    obtain ⟨c, e2, -, -⟩ := DataW.trod_int Tryz.underlying2 h2
    have c1 : Tryz.prog.cellsOf 2 = 1 := by kernel_rfl
    simp [c1] at e0 e1 e2
    exact ⟨⟨a, b, c⟩, e0, e1, e2, trivial⟩)

end Go.Proofs.YtghocakjhfflbaaGreatDoor
