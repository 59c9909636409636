/-
  The form's reading of slices of structs with memory of their own.
-/
import Derived.Test.YtnfghgaadnobbaaGreatDoorLib3
import Derived.Test.YtnfghgaadnobbaaGreatDoorOpen
namespace Go.Proofs.YtnfghgaadnobbaaGreatDoor
open Go.RowKit Go.ChangeShapes Go.WideShapes Go.Deep

theorem opens_slQ {α : Type} {P : Program} {t e : TypeId} {n : Nat} {R : Rp α} {φ : α → Prop} (ht : P.underlying t = some (.slice e)) (hc : P.cellsOf e = n) (hn : 0 < n) (h : Opens P e R φ) :
    Opens P t (slQ n R) (fun xs => ∀ x ∈ xs, φ x) := by
  intro H enc w fuel cs x hx
  rcases open_slice ht hx with ⟨rfl, -⟩ | ⟨a, len, cap, m, q, D, Pl, rfl, -, hl, hm, hmm, -, hel⟩
  · exact ⟨[], [], slQ_nil w none 0 (by simp [maxLen]), by simp⟩
  · have hlm : len ≤ m := by subst hmm; simpa using hl
    rw [hc] at hel
    obtain ⟨l, hll, hlq⟩ := list_choice (fun i (y : α × List Value × List Nat) => (y.2.1.length = n ∧ ∀ j, j < n → w.cell? ((a.add (i * n)).add j) = y.2.1[j]?) ∧ R y.2.2 w y.2.1 y.1 ∧ φ y.1) len (fun i hi => by
      obtain ⟨cs', h1, h2⟩ := hel i (by omega)
      obtain ⟨-, h3, h4⟩ := World.cells?_some h1
      obtain ⟨y, f, hr, hy⟩ := h h2
      exact ⟨(y, cs', f), ⟨h3, h4⟩, hr, hy⟩)
    by_cases h0 : len = 0
    · subst h0
      exact ⟨[], [], by simpa using slQ_nil w (some a) cap hm, by simp⟩
    · have q0 := hlq 0 l[0] (by simp)
      have hc0 := q0.1.2 0 hn
      obtain ⟨c0, hc1⟩ : ∃ c, l[0].2.1[0]? = some c := ⟨_, List.getElem?_eq_getElem (by rw [q0.1.1]; exact hn)⟩
      rw [hc1] at hc0
      have hs : a.spot = none := by simpa [Addr.add] using World.cell?_spot hc0
      obtain ⟨b, off, spot⟩ := a
      simp at hs
      subst hs
      have ha : ∀ o, (⟨b, off, none⟩ : Addr).add o = ⟨b, off + o, none⟩ := fun o => by simp only [Addr.add]; split <;> simp_all
      have ha2 : ∀ o o2, (⟨b, off + o, none⟩ : Addr).add o2 = ⟨b, off + o + o2, none⟩ := fun o o2 => by simp only [Addr.add]; split <;> simp_all
      refine ⟨l.map (·.1), [b] ++ (l.map (·.2.2)).flatten, ⟨some ⟨b, off, none⟩, cap, l.map (·.2.1), [b], l.map (·.2.2), by simp [hll], by simpa [hll] using hl, hm, by simp, ?_, by simp, rfl, Or.inr ⟨b, off, rfl, rfl, ?_, ?_⟩, ?_⟩, ?_⟩
      · intro u hu
        obtain ⟨y, hy, rfl⟩ := List.mem_map.1 hu
        obtain ⟨i, hi, rfl⟩ := List.mem_iff_getElem.1 hy
        exact (hlq i _ (by simp)).1.1
      · have := World.block_lt_of_cell? w _ hc0
        simpa [Addr.add] using this
      · intro i j u c hu hj
        rw [List.getElem?_map] at hu
        cases hli : l[i]? with
        | none => simp [hli] at hu
        | some y =>
          simp [hli] at hu
          subst hu
          have g := hlq i y hli
          have := g.1.2 j (by rw [← g.1.1]; exact (List.getElem?_eq_some_iff.1 hj).1)
          rw [ha, ha2] at this
          rw [this]; exact hj
      · intro i hi u f hu hf
        simp at hi
        have hq := hlq i l[i] (by simp)
        simp [List.getElem?_eq_getElem hi] at hf hu
        subst hf hu
        simpa using hq.2.1
      · intro x hx
        obtain ⟨y, hy, rfl⟩ := List.mem_map.1 hx
        obtain ⟨i, hi, rfl⟩ := List.mem_iff_getElem.1 hy
        exact (hlq i _ (by simp)).2.2

section
variable {P : Program} {H : Type} {enc : TypeId × Value → H} {w : World} {base : Nat} {spare : Nat → Bool} {held : Bool}
theorem trod_struct5 {t : TypeId} {f0 f1 f2 f3 f4 : Field} {fuel : Nat} {cs : List Value} {x : DataW H × List MemPlace} (ht : P.underlying t = some (.struct #[f0, f1, f2, f3, f4])) (h : DataW.trod enc P w base spare held fuel t cs = some x) :
    ∃ y0 y1 y2 y3 y4 n, cs.length = P.cellsOf t ∧ DataW.trod enc P w base spare held n f0.type ((cs.drop f0.offset).take (P.cellsOf f0.type)) = some y0 ∧
      DataW.trod enc P w base spare held n f1.type ((cs.drop f1.offset).take (P.cellsOf f1.type)) = some y1 ∧ DataW.trod enc P w base spare held n f2.type ((cs.drop f2.offset).take (P.cellsOf f2.type)) = some y2 ∧
      DataW.trod enc P w base spare held n f3.type ((cs.drop f3.offset).take (P.cellsOf f3.type)) = some y3 ∧ DataW.trod enc P w base spare held n f4.type ((cs.drop f4.offset).take (P.cellsOf f4.type)) = some y4 := by
  obtain ⟨xs, n, _, rfl, hl, hlen, hf⟩ := DataW.trod_struct ht h
  match xs, hlen with
  | [y0, y1, y2, y3, y4], _ => exact ⟨y0, y1, y2, y3, y4, n, hl, by simpa using hf 0 f0 rfl, by simpa using hf 1 f1 rfl, by simpa using hf 2 f2 rfl, by simpa using hf 3 f3 rfl, by simpa using hf 4 f4 rfl⟩
end

end Go.Proofs.YtnfghgaadnobbaaGreatDoor
