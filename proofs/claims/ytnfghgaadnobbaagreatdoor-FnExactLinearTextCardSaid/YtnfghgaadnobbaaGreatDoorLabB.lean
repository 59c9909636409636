/-
  Lists of texts in memory.
-/
import Derived.Test.YtnfghgaadnobbaaGreatDoorLabP
import Derived.Test.YtnfghgaadnobbaaGreatDoorDec
import Derived.Test.YtnfghgaadnobbaaGreatDoorSrc
namespace Go.Proofs.YtnfghgaadnobbaaGreatDoor
open Go.RowKit

abbrev RS : Rp (List (List UInt8)) := slF 1 (fun s => [es s])
theorem RSk : Kept RS := slF_kept _ _

theorem joinC_le (c : UInt8) (L : Nat) : ∀ ps : List (List UInt8), (∀ p ∈ ps, p.length ≤ L) → (joinC c ps).length ≤ ps.length * (L + 1)
  | [], _ => by simp [joinC]
  | [p], h => by have := h p (by simp); simp [joinC]; omega
  | p :: q :: ps, h => by
    have h1 := h p (by simp)
    have h2 := joinC_le c L (q :: ps) (fun x hx => h x (List.mem_cons_of_mem _ hx))
    have e : (p :: q :: ps).length * (L + 1) = (q :: ps).length * (L + 1) + (L + 1) := by rw [List.length_cons (a := p), Nat.add_mul]; omega
    rw [e]
    simp only [joinC, List.length_append, List.length_cons]
    simp only [List.length_cons] at h2
    omega

theorem rowCellS {fo : List Nat} {w : World} {b m cap : Nat} {l : List (List UInt8)} (h : RS fo w [.slice (some ⟨b, 0, none⟩) m cap] l) (hO : Own fo w) (hm : l.length = m) (j : Nat) (hj : j < m) :
    b < w.heap.size ∧ w.cell? ⟨b, j, none⟩ = some (es (l[j]'(by omega))) ∧ w.frozen? ⟨b, j, none⟩ = false ∧
      ∀ x, RS fo (w.setCell ⟨b, j, none⟩ (es x)) [.slice (some ⟨b, 0, none⟩) m cap] (l.set j x) ∧ Own fo (w.setCell ⟨b, j, none⟩ (es x)) := by
  subst hm
  obtain ⟨_, _, _, hv, -, -, hof, hbl, hoc, hos⟩ := slF1_cell h j hj
  simp only [Value.slice.injEq, Option.some.injEq, Addr.mk.injEq, and_true, true_and] at hv
  obtain ⟨⟨rfl, rfl⟩, rfl⟩ := hv
  rw [Nat.zero_add] at hoc hos
  exact ⟨hbl, hoc, hO.frozen (by rw [hof]; simp) _, fun x => ⟨hos x, hO.setCell _ _⟩⟩

theorem Tryz.info9 : (Tryz.prog.info? 9).map (fun i => (i.zero, i.size, i.bytes)) = some (some (.string ⟨#[]⟩), 1, 16) := by kernel_rfl

theorem numsF_cons (p : List UInt8) (ps : List (List UInt8)) : numsF (p :: ps) = (numF p).bind fun n => (numsF ps).map (n :: ·) := by
  rw [numsF]
  cases numF p with
  | none => rfl
  | some n => cases numsF ps <;> rfl

theorem new_nil (w w' : World) : New R1 w w' (.slice none 0 0) [] :=
  ⟨[], ⟨_, rfl, none, 0, rfl, Nat.le_refl _, by simp [maxLen], by simp, Or.inl ⟨rfl, rfl⟩⟩, Own.nil _, by simp⟩

end Go.Proofs.YtnfghgaadnobbaaGreatDoor
