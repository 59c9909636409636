/-
  The terms of a tree in order; a tree out of terms: what each call returns and makes.
-/
import Derived.Test.YtkhifpgpkklokaaDoorTree
namespace Go.Proofs.YtkhifpgpkklokaaDoor
open Go.RowKit

abbrev encT (t : Tm) : List Value := [ei t.1, ei t.2]

theorem flatEs_take (xs : List Ex) (k : Nat) (h : k < xs.length) : flatEs (xs.take (k + 1)) = flatEs (xs.take k) ++ flatE xs[k] := by
  rw [List.take_succ_eq_append_getElem h, flatEs_append]; simp [flatEs]
theorem flatEs_take_le (xs : List Ex) (k : Nat) : (flatEs (xs.take k)).length ≤ (flatEs xs).length := by
  conv => rhs; rw [← List.take_append_drop k xs, flatEs_append, List.length_append]
  omega

theorem Below.keepK {α : Type} {R : Rp α} (K : Kept R) {B : Nat} {w w' : World} {fp cs x} (h : R fp w cs x) (hb : Below B w w') (hf : ∀ b ∈ fp, b < B) : R fp w' cs x :=
  K.frame h hb.size fun b hm => hb.block b (hf b hm)

/-- a slice without its first element, whatever address its value bears. -/
theorem slF_tail {α : Type} {n : Nat} {enc : α → List Value} (he : ∀ x, (enc x).length = n) {fp : List Nat} {w : World} {b off len cap : Nat} {x : α} {xs : List α}
    (h : slF n enc fp w [.slice (some ⟨b, off, none⟩) len cap] (x :: xs)) (o' : Nat) (ho : xs ≠ [] → o' = off + n) :
    ∃ fp', slF n enc fp' w [.slice (some ⟨b, o', none⟩) (len - 1) (cap - 1)] xs ∧ (∀ c ∈ fp', c ∈ fp) := by
  obtain ⟨v, hv, a, cap', hv2, h1, h2, h3, h4⟩ := h
  cases hv
  simp only [Value.slice.injEq] at hv2
  obtain ⟨rfl, rfl, rfl⟩ := hv2
  simp only [List.length_cons] at *
  have hl : (xs.flatMap enc).length = xs.length * n := by
    clear h3 h4 ho
    induction xs with
    | nil => simp
    | cons y ys ih => rw [List.flatMap_cons, List.length_append, he, ih (by simp at h1; omega), List.length_cons, Nat.add_mul]; omega
  rcases h4 with ⟨h0, -⟩ | ⟨b', off', hb', rfl, hbl, hc⟩
  · omega
  · simp only [Option.some.injEq, Addr.mk.injEq, and_true] at hb'
    obtain ⟨rfl, rfl⟩ := hb'
    by_cases hx : xs = []
    · subst hx
      exact ⟨[], ⟨_, rfl, some ⟨b, o', none⟩, cap - 1, by simp, by simp, by omega, by simp, Or.inl ⟨rfl, rfl⟩⟩, by simp⟩
    · refine ⟨[b], ⟨_, rfl, _, cap - 1, by simp, by omega, by omega, hl, Or.inr ⟨b, o', rfl, rfl, hbl, fun j u hu => ?_⟩⟩, by simp⟩
      have := hc (n + j) u (by rw [List.flatMap_cons, List.getElem?_append_right (by rw [he]; omega), he, Nat.add_sub_cancel_left]; exact hu)
      rw [ho hx, Nat.add_assoc]; exact this

end Go.Proofs.YtkhifpgpkklokaaDoor
