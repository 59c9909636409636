/-
  From the form's own reading of an argument to the readings of Lib: slices, and slices of slices, of whatever elements.
-/
import Derived.Test.YtnfghgaadnobbaaGreatDoorLib
import Derived.ProofKit
import Derived.OpenShut
import Derived.ShutString
import Derived.ChangeOld
import Derived.Below
import Derived.Deep.Slices
namespace Go.Proofs.YtnfghgaadnobbaaGreatDoor
open Go.RowKit Go.ChangeShapes Go.WideShapes Go.Deep

/-- What the form reads at type t reads by R, with a fact on the value. -/
def Opens {α : Type} (P : Program) (t : TypeId) (R : Rp α) (φ : α → Prop) : Prop :=
  ∀ {H : Type} {enc : TypeId × Value → H} {w : World} {fuel : Nat} {cs : List Value} {x : DataW H × List MemPlace},
    DataW.trod enc P w 0 (fun _ => true) true fuel t cs = some x → ∃ a fp, R fp w cs a ∧ φ a

theorem list_choice {α : Type} (Q : Nat → α → Prop) : ∀ n, (∀ i, i < n → ∃ a, Q i a) → ∃ l : List α, l.length = n ∧ ∀ i a, l[i]? = some a → Q i a
  | 0, _ => ⟨[], rfl, by simp⟩
  | n + 1, h => by
    obtain ⟨l, hl, hq⟩ := list_choice Q n (fun i hi => h i (by omega))
    obtain ⟨a, ha⟩ := h n (by omega)
    refine ⟨l ++ [a], by simp [hl], fun i b hb => ?_⟩
    by_cases hi : i < n
    · rw [List.getElem?_append_left (by omega)] at hb; exact hq i b hb
    · by_cases he : i = n
      · subst he
        rw [List.getElem?_append_right (by omega), hl, Nat.sub_self] at hb
        simp at hb; subst hb; exact ha
      · rw [List.getElem?_eq_none (by simp [hl]; omega)] at hb; cases hb

theorem flat_of_cells {w : World} {a : Addr} {len cap : Nat} {us : List Value} (hl : us.length = len) (h1 : len ≤ cap) (h2 : cap ≤ maxLen) (h : ∀ i u, us[i]? = some u → w.cell? (a.add i) = some u) :
    ∃ fb, Flat fb w (.slice (some a) len cap) 1 len us := by
  by_cases h0 : len = 0
  · exact ⟨[], _, cap, rfl, h1, h2, by simpa using hl, Or.inl ⟨h0, rfl⟩⟩
  · have hc := h 0 us[0] (by simp)
    have hs : a.spot = none := by simpa [Addr.add] using World.cell?_spot hc
    obtain ⟨b, off, spot⟩ := a
    simp at hs
    subst hs
    refine ⟨[b], _, cap, rfl, h1, h2, by simpa using hl, Or.inr ⟨b, off, rfl, rfl, ?_, fun j u hu => ?_⟩⟩
    · exact World.block_lt_of_cell? w ⟨b, off, none⟩ (by simpa [Addr.add] using hc)
    · have := h j u hu
      by_cases hj : j = 0
      · subst hj; simpa [Addr.add] using this
      · simpa [Addr.add, hj] using this

theorem flat_nil (w : World) (n : Nat) : Flat [] w (.slice none 0 0) n 0 [] := ⟨none, 0, rfl, Nat.le_refl _, by simp [maxLen], by simp, Or.inl ⟨rfl, rfl⟩⟩

theorem opens_slP {α : Type} {P : Program} {t e : TypeId} {R : Rp α} {φ : α → Prop} (ht : P.underlying t = some (.slice e)) (hc : P.cellsOf e = 1) (h : Opens P e R φ) :
    Opens P t (slP R) (fun xs => ∀ x ∈ xs, φ x) := by
  intro H enc w fuel cs x hx
  rcases open_slice1 ht hc hx with ⟨rfl, -⟩ | ⟨a, len, cap, m, n, V, D, Pl, rfl, -, hl, hm, hmm, -, hel⟩
  · exact ⟨[], [], ⟨_, [], [], [], rfl, flat_nil w 1, rfl, rfl, by simp⟩, by simp⟩
  · have hlm : len ≤ m := by subst hmm; simpa using hl
    obtain ⟨l, hll, hlq⟩ := list_choice (fun i (y : α × List Nat) => R y.2 w [V i] y.1 ∧ φ y.1) len (fun i hi => by
      obtain ⟨a, fp, h1, h2⟩ := h (hel i (by omega)).2
      exact ⟨(a, fp), h1, h2⟩)
    obtain ⟨fb, hfb⟩ := flat_of_cells (w := w) (a := a) (len := len) (cap := cap) (us := (List.range len).map V) (by simp) hl hm (by
      intro i u hu
      have hi : i < len := by
        rcases Nat.lt_or_ge i len with h | h
        · exact h
        · rw [List.getElem?_eq_none (by simpa using h)] at hu; cases hu
      rw [List.getElem?_map, List.getElem?_range hi] at hu
      simp at hu
      subst hu
      exact (hel _ (by omega)).1)
    refine ⟨l.map (·.1), fb ++ (l.map (·.2)).flatten, ⟨_, (List.range len).map V, fb, l.map (·.2), rfl, by simpa [hll] using hfb, by simp, rfl, ?_⟩, ?_⟩
    · intro i hi u f hu hf
      simp at hi
      have hq := hlq i l[i] (by simp)
      simp [List.getElem?_eq_getElem hi] at hf
      subst hf
      rw [List.getElem?_map, List.getElem?_range (by omega)] at hu
      simp at hu
      subst hu
      simpa using hq.1
    · intro x hx
      obtain ⟨y, hy, rfl⟩ := List.mem_map.1 hx
      obtain ⟨i, hi, rfl⟩ := List.mem_iff_getElem.1 hy
      exact (hlq i _ (by simp)).2

/-- slices of one-cell values that hold no memory. -/
theorem opens_slF1 {α : Type} {P : Program} {t e : TypeId} {encv : α → Value} {φ : α → Prop} (ht : P.underlying t = some (.slice e)) (hc : P.cellsOf e = 1)
    (h : ∀ {H : Type} {enc : TypeId × Value → H} {w : World} {fuel : Nat} {v : Value} {x : DataW H × List MemPlace}, DataW.trod enc P w 0 (fun _ => true) true fuel e [v] = some x → ∃ a, v = encv a ∧ φ a) :
    Opens P t (slF 1 (fun x => [encv x])) (fun xs => ∀ x ∈ xs, φ x) := by
  intro H enc w fuel cs x hx
  rcases open_slice1 ht hc hx with ⟨rfl, -⟩ | ⟨a, len, cap, m, n, V, D, Pl, rfl, -, hl, hm, hmm, -, hel⟩
  · exact ⟨[], [], ⟨_, rfl, flat_nil w 1⟩, by simp⟩
  · have hlm : len ≤ m := by subst hmm; simpa using hl
    obtain ⟨l, hll, hlq⟩ := list_choice (fun i (y : α) => V i = encv y ∧ φ y) len (fun i hi => h (hel i (by omega)).2)
    obtain ⟨fb, hfb⟩ := flat_of_cells (w := w) (a := a) (len := len) (cap := cap) (us := l.map encv) (by simpa using hll) hl hm (by
      intro i u hu
      rw [List.getElem?_map] at hu
      cases hli : l[i]? with
      | none => simp [hli] at hu
      | some y =>
        simp [hli] at hu
        subst hu
        have hi : i < len := by rw [← hll]; exact (List.getElem?_eq_some_iff.1 hli).1
        rw [(hel i (by omega)).1, (hlq i y hli).1])
    refine ⟨l, fb, ⟨_, rfl, by rw [flatMap_single, hll]; exact hfb⟩, fun x hx => ?_⟩
    obtain ⟨i, hi, rfl⟩ := List.mem_iff_getElem.1 hx
    exact (hlq i _ (by simp)).2

theorem opens_ints {P : Program} {t e : TypeId} {k : IntKind} (ht : P.underlying t = some (.slice e)) (he : P.underlying e = some (.int k)) (hc : P.cellsOf e = 1) :
    Opens P t (slF 1 (fun x => [Value.int k x])) (fun xs => ∀ x ∈ xs, (Lit.int k x).wf = true) :=
  opens_slF1 ht hc (by
    intro H enc w fuel v x hx
    obtain ⟨a, e0, rfl, wa⟩ := DataW.trod_int he hx
    simp at e0
    exact ⟨a, e0, wa⟩)

theorem Opens.of {α : Type} {P : Program} {t : TypeId} {R : Rp α} {φ : α → Prop} (h : Opens P t R φ) {H : Type} {enc : TypeId × Value → H} {w : World} {v : Value} {d : DataW H} {ps : List MemPlace}
    (hv : v.cells = #[v]) (hd : DataW.Trod enc P w 0 (fun _ => true) true t v d ps) : ∃ a fp, R fp w [v] a ∧ φ a := by
  obtain ⟨fuel, hf⟩ := hd
  rw [hv] at hf
  exact h hf

theorem cells2 {w : World} {a : Addr} {cs : List Value} (h : w.cells? 0 a 2 = some cs) : ∃ c0 c1, cs = [c0, c1] ∧ w.cell? a = some c0 ∧ w.cell? (a.add 1) = some c1 := by
  rw [World.cells?, if_pos (Nat.zero_le _), show List.range 2 = [0, 1] from rfl] at h
  simp only [List.mapM_cons, List.mapM_nil, Addr.add, if_true] at h
  cases h0 : w.cell? a with
  | none => simp [h0] at h
  | some c0 =>
    cases h1 : w.cell? (a.add 1) with
    | none => simp [Addr.add] at h1; simp [h0, h1] at h
    | some c1 =>
      refine ⟨c0, c1, ?_, rfl, rfl⟩
      simp [Addr.add] at h1
      simpa [h0, h1] using h.symm

/-- slices of structs of two plain fields. -/
theorem opens_slF2 {α : Type} {P : Program} {t e : TypeId} {e1 e2 : α → Value} {φ : α → Prop} (ht : P.underlying t = some (.slice e)) (hc : P.cellsOf e = 2)
    (h : ∀ {H : Type} {enc : TypeId × Value → H} {w : World} {fuel : Nat} {u v : Value} {x : DataW H × List MemPlace}, DataW.trod enc P w 0 (fun _ => true) true fuel e [u, v] = some x → ∃ a, u = e1 a ∧ v = e2 a ∧ φ a) :
    Opens P t (slF 2 (fun x => [e1 x, e2 x])) (fun xs => ∀ x ∈ xs, φ x) := by
  intro H enc w fuel cs x hx
  rcases open_slice ht hx with ⟨rfl, -⟩ | ⟨a, len, cap, m, n, D, Pl, rfl, -, hl, hm, hmm, -, hel⟩
  · exact ⟨[], [], ⟨_, rfl, flat_nil w 2⟩, by simp⟩
  · have hlm : len ≤ m := by subst hmm; simpa using hl
    rw [hc] at hel
    obtain ⟨l, hll, hlq⟩ := list_choice (fun i (y : α) => w.cell? (a.add (i * 2)) = some (e1 y) ∧ w.cell? ((a.add (i * 2)).add 1) = some (e2 y) ∧ φ y) len (fun i hi => by
      obtain ⟨cs', h1, h2⟩ := hel i (by omega)
      obtain ⟨c0, c1, rfl, g0, g1⟩ := cells2 h1
      obtain ⟨y, rfl, rfl, hy⟩ := h h2
      exact ⟨y, g0, g1, hy⟩)
    by_cases h0 : len = 0
    · subst h0
      obtain rfl : l = [] := List.eq_nil_of_length_eq_zero hll
      exact ⟨[], [], ⟨_, rfl, some a, cap, rfl, hl, hm, by simp, Or.inl ⟨rfl, rfl⟩⟩, by simp⟩
    · have hc0 := (hlq 0 l[0] (by simp)).1
      have hs : a.spot = none := by simpa [Addr.add] using World.cell?_spot hc0
      obtain ⟨b, off, spot⟩ := a
      simp at hs
      subst hs
      refine ⟨l, [b], ⟨_, rfl, some ⟨b, off, none⟩, cap, by rw [hll], by omega, hm, by rw [flatMap_two_length], Or.inr ⟨b, off, rfl, rfl, ?_, fun j u hu => ?_⟩⟩, fun x hx => ?_⟩
      · exact World.block_lt_of_cell? w ⟨b, off, none⟩ (by simpa [Addr.add] using hc0)
      · have hj : j < l.length * 2 := by rw [← flatMap_two_length e1 e2]; exact (List.getElem?_eq_some_iff.1 hu).1
        have hi : j / 2 < l.length := by omega
        obtain ⟨g1, g2⟩ := flatMap_two_get e1 e2 l (j / 2) hi
        obtain ⟨q1, q2, -⟩ := hlq (j / 2) l[j / 2] (by simp)
        have ha : (⟨b, off, none⟩ : Addr).add (j / 2 * 2) = ⟨b, off + j / 2 * 2, none⟩ := by simp only [Addr.add]; split <;> simp_all
        rw [ha] at q1 q2
        rcases Nat.mod_two_eq_zero_or_one j with hmod | hmod
        · have e : j / 2 * 2 = j := by omega
          rw [e] at g1 q1
          rw [g1] at hu; cases hu; exact q1
        · have e : j / 2 * 2 + 1 = j := by omega
          rw [e] at g2
          rw [g2] at hu; cases hu
          simp [Addr.add] at q2
          rw [show off + j = off + j / 2 * 2 + 1 from by omega]; exact q2
      · obtain ⟨i, hi, rfl⟩ := List.mem_iff_getElem.1 hx
        exact (hlq i _ (by simp)).2.2

end Go.Proofs.YtnfghgaadnobbaaGreatDoor
