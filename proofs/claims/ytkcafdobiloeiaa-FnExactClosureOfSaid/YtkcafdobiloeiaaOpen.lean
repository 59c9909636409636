/-
  From the form's own reading of an argument to the readings of Lib: slices, and slices of slices, of whatever elements.
-/
import Derived.Test.YtkcafdobiloeiaaLib
import Derived.ProofKit
import Derived.OpenShut
import Derived.ShutString
import Derived.ChangeOld
import Derived.Below
import Derived.Deep.Slices
namespace Go.Proofs.Ytkcafdobiloeiaa
open Go.RowKit Go.ChangeShapes Go.WideShapes Go.Deep

/-- What the form reads at type t reads by R, with a fact on the value. -/
def Opens {α : Type} (P : Program) (t : TypeId) (R : Rp α) (φ : α → Prop) : Prop :=
  ∀ {H : Type} {enc : TypeId × Value → H} {w : World} {fuel : Nat} {cs : List Value} {x : DataW H × List MemPlace},
    DataW.trod enc P w 0 (fun _ => true) true fuel t cs = some x → ∃ a fp, R fp w cs a ∧ φ a

theorem list_choice {α : Type} (Q : Nat → α → Prop) : ∀ n, (∀ i, i < n → ∃ a, Q i a) → ∃ l : List α, l.length = n ∧ ∀ i a, l[i]? = some a → Q i a
  | 0, _ => ⟨[], rfl, by simp⟩
  | n + 1, h => by
    obtain ⟨l, hl, hq⟩ := list_choice Q n (fun i hi => h i (by omega))
    obtain ⟨a, ha⟩ := h n (by omega)
    refine ⟨l ++ [a], by simp [hl], fun i b hb => ?_⟩
    by_cases hi : i < n
    · rw [List.getElem?_append_left (by omega)] at hb; exact hq i b hb
    · by_cases he : i = n
      · subst he
        rw [List.getElem?_append_right (by omega), hl, Nat.sub_self] at hb
        simp at hb; subst hb; exact ha
      · rw [List.getElem?_eq_none (by simp [hl]; omega)] at hb; cases hb

theorem flat_of_cells {w : World} {a : Addr} {len cap : Nat} {us : List Value} (hl : us.length = len) (h1 : len ≤ cap) (h2 : cap ≤ maxLen) (h : ∀ i u, us[i]? = some u → w.cell? (a.add i) = some u) :
    ∃ fb, Flat fb w (.slice (some a) len cap) 1 len us := by
  by_cases h0 : len = 0
  · exact ⟨[], _, cap, rfl, h1, h2, by simpa using hl, Or.inl ⟨h0, rfl⟩⟩
  · have hc := h 0 us[0] (by simp)
    have hs : a.spot = none := by simpa [Addr.add] using World.cell?_spot hc
    obtain ⟨b, off, spot⟩ := a
    simp at hs
    subst hs
    refine ⟨[b], _, cap, rfl, h1, h2, by simpa using hl, Or.inr ⟨b, off, rfl, rfl, ?_, fun j u hu => ?_⟩⟩
    · exact World.block_lt_of_cell? w ⟨b, off, none⟩ (by simpa [Addr.add] using hc)
    · have := h j u hu
      by_cases hj : j = 0
      · subst hj; simpa [Addr.add] using this
      · simpa [Addr.add, hj] using this

theorem flat_nil (w : World) (n : Nat) : Flat [] w (.slice none 0 0) n 0 [] := ⟨none, 0, rfl, Nat.le_refl _, by simp [maxLen], by simp, Or.inl ⟨rfl, rfl⟩⟩

theorem opens_slP {α : Type} {P : Program} {t e : TypeId} {R : Rp α} {φ : α → Prop} (ht : P.underlying t = some (.slice e)) (hc : P.cellsOf e = 1) (h : Opens P e R φ) :
    Opens P t (slP R) (fun xs => ∀ x ∈ xs, φ x) := by
  intro H enc w fuel cs x hx
  rcases open_slice1 ht hc hx with ⟨rfl, -⟩ | ⟨a, len, cap, m, n, V, D, Pl, rfl, -, hl, hm, hmm, -, hel⟩
  · exact ⟨[], [], ⟨_, [], [], [], rfl, flat_nil w 1, rfl, rfl, by simp⟩, by simp⟩
  · have hlm : len ≤ m := by subst hmm; simpa using hl
    obtain ⟨l, hll, hlq⟩ := list_choice (fun i (y : α × List Nat) => R y.2 w [V i] y.1 ∧ φ y.1) len (fun i hi => by
      obtain ⟨a, fp, h1, h2⟩ := h (hel i (by omega)).2
      exact ⟨(a, fp), h1, h2⟩)
    obtain ⟨fb, hfb⟩ := flat_of_cells (w := w) (a := a) (len := len) (cap := cap) (us := (List.range len).map V) (by simp) hl hm (by
      intro i u hu
      have hi : i < len := by
        rcases Nat.lt_or_ge i len with h | h
        · exact h
        · rw [List.getElem?_eq_none (by simpa using h)] at hu; cases hu
      rw [List.getElem?_map, List.getElem?_range hi] at hu
      simp at hu
      subst hu
      exact (hel _ (by omega)).1)
    refine ⟨l.map (·.1), fb ++ (l.map (·.2)).flatten, ⟨_, (List.range len).map V, fb, l.map (·.2), rfl, by simpa [hll] using hfb, by simp, rfl, ?_⟩, ?_⟩
    · intro i hi u f hu hf
      simp at hi
      have hq := hlq i l[i] (by simp)
      simp [List.getElem?_eq_getElem hi] at hf
      subst hf
      rw [List.getElem?_map, List.getElem?_range (by omega)] at hu
      simp at hu
      subst hu
      simpa using hq.1
    · intro x hx
      obtain ⟨y, hy, rfl⟩ := List.mem_map.1 hx
      obtain ⟨i, hi, rfl⟩ := List.mem_iff_getElem.1 hy
      exact (hlq i _ (by simp)).2

/-- slices of one-cell values that hold no memory. -/
theorem opens_slF1 {α : Type} {P : Program} {t e : TypeId} {encv : α → Value} {φ : α → Prop} (ht : P.underlying t = some (.slice e)) (hc : P.cellsOf e = 1)
    (h : ∀ {H : Type} {enc : TypeId × Value → H} {w : World} {fuel : Nat} {v : Value} {x : DataW H × List MemPlace}, DataW.trod enc P w 0 (fun _ => true) true fuel e [v] = some x → ∃ a, v = encv a ∧ φ a) :
    Opens P t (slF 1 (fun x => [encv x])) (fun xs => ∀ x ∈ xs, φ x) := by
  intro H enc w fuel cs x hx
  rcases open_slice1 ht hc hx with ⟨rfl, -⟩ | ⟨a, len, cap, m, n, V, D, Pl, rfl, -, hl, hm, hmm, -, hel⟩
  · exact ⟨[], [], ⟨_, rfl, flat_nil w 1⟩, by simp⟩
  · have hlm : len ≤ m := by subst hmm; simpa using hl
    obtain ⟨l, hll, hlq⟩ := list_choice (fun i (y : α) => V i = encv y ∧ φ y) len (fun i hi => h (hel i (by omega)).2)
    obtain ⟨fb, hfb⟩ := flat_of_cells (w := w) (a := a) (len := len) (cap := cap) (us := l.map encv) (by simpa using hll) hl hm (by
      intro i u hu
      rw [List.getElem?_map] at hu
      cases hli : l[i]? with
      | none => simp [hli] at hu
      | some y =>
        simp [hli] at hu
        subst hu
        have hi : i < len := by rw [← hll]; exact (List.getElem?_eq_some_iff.1 hli).1
        rw [(hel i (by omega)).1, (hlq i y hli).1])
    refine ⟨l, fb, ⟨_, rfl, by rw [flatMap_single, hll]; exact hfb⟩, fun x hx => ?_⟩
    obtain ⟨i, hi, rfl⟩ := List.mem_iff_getElem.1 hx
    exact (hlq i _ (by simp)).2

theorem opens_ints {P : Program} {t e : TypeId} {k : IntKind} (ht : P.underlying t = some (.slice e)) (he : P.underlying e = some (.int k)) (hc : P.cellsOf e = 1) :
    Opens P t (slF 1 (fun x => [Value.int k x])) (fun xs => ∀ x ∈ xs, (Lit.int k x).wf = true) :=
  opens_slF1 ht hc (by
    intro H enc w fuel v x hx
    obtain ⟨a, e0, rfl, wa⟩ := DataW.trod_int he hx
    simp at e0
    exact ⟨a, e0, wa⟩)

theorem Opens.of {α : Type} {P : Program} {t : TypeId} {R : Rp α} {φ : α → Prop} (h : Opens P t R φ) {H : Type} {enc : TypeId × Value → H} {w : World} {v : Value} {d : DataW H} {ps : List MemPlace}
    (hv : v.cells = #[v]) (hd : DataW.Trod enc P w 0 (fun _ => true) true t v d ps) : ∃ a fp, R fp w [v] a ∧ φ a := by
  obtain ⟨fuel, hf⟩ := hd
  rw [hv] at hf
  exact h hf

end Go.Proofs.Ytkcafdobiloeiaa
