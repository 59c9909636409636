/-
  Canonical forms, the program's side.
-/
import Derived.Test.YtkhifpgpkklokaaDoorCanonW
namespace Go.Proofs.YtkhifpgpkklokaaDoor
open Go.RowKit

/-- two elements of a collected row change places. -/
theorem Got.swap {α : Type} {R : Rp α} (K : Kept R) {base : Nat} {G : Nat → Prop} {e : TypeId} {w w1 : World} {g cap : Nat} {x y : α} {u0 u1 : Value} (h : Got R base G e w (.slice (some ⟨g, 0, none⟩) 2 cap) [x, y])
    (hus : w.ownsRow base e 1 (.slice (some ⟨g, 0, none⟩) 2 cap) 2 [u0, u1]) (h1 : w1.ownsRow base e 1 (.slice (some ⟨g, 0, none⟩) 2 cap) 2 [u1, u0]) (hu : Upd [g] w w1) :
    Got R base G e w1 (.slice (some ⟨g, 0, none⟩) 2 cap) [y, x] := by
  obtain ⟨us, fps, q1, q2, q3, q4⟩ := h
  have hsame : us = [u0, u1] := by
    rcases q1.2 with ⟨h0, -⟩ | ⟨b, c, cur, hv, -, hh, -, -, -, r4⟩
    · cases h0
    · cases hv
      rcases hus.2 with ⟨h0, -⟩ | ⟨b', c', cur', hv', -, hh', -, -, -, r4'⟩
      · cases h0
      · cases hv'
        rw [hh] at hh'; cases hh'
        simp only [List.length_cons, List.length_nil] at r4
        rw [← r4, ← r4']
  subst hsame
  match fps, q2 with
  | [f0, f1], _ =>
    have hd : ∀ b ∈ f0 ++ f1, b ∉ [g] := fun b hb hm => by
      have := (q3 b (by simpa using hb)).1
      simp at hm; subst hm; simp [Value.ownBlock] at this
    refine ⟨[u1, u0], [f1, f0], h1, rfl, fun b hb => q3 b (by simp at hb ⊢; exact hb.symm), fun i hi u f hu' hf => ?_⟩
    match i, hi with
    | 0, _ =>
      simp at hu' hf; subst hu' hf
      exact K.upd (q4 1 (by simp) u1 f1 rfl rfl) hu (fun b hb => hd b (by simp [hb]))
    | 1, _ =>
      simp at hu' hf; subst hu' hf
      exact K.upd (q4 0 (by simp) u0 f0 rfl rfl) hu (fun b hb => hd b (by simp [hb]))

theorem gtL_or (a b : List Tm) : gtL a b = decide (0 < orV (cmpI a.length b.length) (cmpTL a b)) := by
  have h := cmpI_gt (a.length : Int) (b.length : Int)
  unfold gtL orV
  by_cases hl : a.length = b.length
  · have h0 : cmpI (a.length : Int) (b.length : Int) = 0 := by omega
    simp [hl, cmpI]
  · have h0 : cmpI (a.length : Int) (b.length : Int) ≠ 0 := by omega
    rw [if_neg hl, if_pos h0, decide_eq_decide]; omega
theorem orV_bd {x y : Int} (h1 : -1 ≤ x ∧ x ≤ 1) (h2 : -1 ≤ y ∧ y ≤ 1) : -1 ≤ orV x y ∧ orV x y ≤ 1 := by unfold orV; split <;> omega

def Cano (x : Ex) (w : World) (fp : List Nat) (e : Ending) (w' : World) : Prop := Fo w fp (canonE x) e w'

theorem canon_b (e : List Tm) : mkF_T1 (canonRes e).1 ≤ 300 := by
  unfold canonRes
  split
  · rename_i h
    obtain ⟨-, hfl⟩ := treeOf_ok e h
    have hlen := eOk_len h
    have := canonE_len (treeOf e h)
    rw [hfl] at this
    unfold mkF_T1; simp only; omega
  · simp [mkF_T1]

end Go.Proofs.YtkhifpgpkklokaaDoor
