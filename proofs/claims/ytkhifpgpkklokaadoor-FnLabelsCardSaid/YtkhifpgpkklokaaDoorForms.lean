/-
  What the laws FnForms and FnTerms need: drawn expressions, expressions held against each other, postfix form.
-/
import Derived.Test.YtkhifpgpkklokaaDoorDraw
import Derived.Test.YtkhifpgpkklokaaDoorCanonV
namespace Go.Proofs.YtkhifpgpkklokaaDoor
open Go.RowKit

def TermsOut (nv : Int) (w : World) (e : Ending) (w' : World) : Prop := (∃ (v' : Value) (x : Ex), e = .returned v' ∧ goodE nv x = true ∧ (flatE x).length ≤ 13 ∧ New R_T1 w w' v' (flatE x)) ∧ Upd [] w w'

theorem goodE_more {nv mv : Int} (h : nv ≤ mv) : ∀ x : Ex, goodE nv x = true → goodE mv x = true := by
  intro x hx
  unfold goodE at hx ⊢
  rw [Bool.and_eq_true] at hx ⊢
  refine ⟨hx.1, ?_⟩
  rw [List.all_eq_true] at hx ⊢
  intro t ht
  have := hx.2 t ht
  unfold tOk at this ⊢
  repeat' split at this
  all_goals simp_all
  have h9 := inB_true this
  exact inB_mk ⟨by omega, by omega⟩

theorem eOk_of_good {x : Ex} {nv : Int} (h : goodE nv x = true) (hn : nv ≤ 29) (hl : (flatE x).length ≤ 60) : eOk (flatE x) = true := by
  have h2 := goodE_more hn x h
  unfold goodE at h2
  rw [Bool.and_eq_true] at h2
  rw [eOk_tree x h2.1, h2.2]
  simp [hl]

end Go.Proofs.YtkhifpgpkklokaaDoor
