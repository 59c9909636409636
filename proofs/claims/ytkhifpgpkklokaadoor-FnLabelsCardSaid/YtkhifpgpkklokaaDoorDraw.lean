/-
  The expressions that the reference draws.
-/
import Derived.Test.YtkhifpgpkklokaaDoorFoldS
import Derived.Test.YtkhifpgpkklokaaDoorSrc
import Derived.Test.YtkhifpgpkklokaaDoorOpenB
namespace Go.Proofs.YtkhifpgpkklokaaDoor
open Go.RowKit

def DrawP (w : World) (p N : Nat) (nv most : Int) (e : Ending) (w' : World) : Prop :=
  (∃ (v' : Value) (x : Ex), e = .returned v' ∧ goodE nv x = true ∧ ((flatE x).length : Int) ≤ 2 * most + 1 ∧ New R_T1 w w' v' (flatE x)) ∧ IsSrc (N + 20 * (2 * most.toNat + 1)) p w' ∧ Upd [p] w w'

theorem draw_leaf {w w' : World} {p N M : Nat} {nv most : Int} {e : TypeId} {a b : Int} (hm : 0 ≤ most) (ht : tOk (a, b) nv = true) (h0 : a = 0 ∨ a = 1) (hs : IsSrc M p w') (hu : Upd [p] w w') (hM : M ≤ N + 20) :
    DrawP w p N nv most (.returned (.slice (some ⟨w'.heap.size, 0, none⟩) 1 1)) (w'.alloc (.cells #[ei a, ei b] e)) := by
  have hn : New R_T1 w' (w'.alloc (.cells #[ei a, ei b] e)) (.slice (some ⟨w'.heap.size, 0, none⟩) 1 1) [(a, b)] :=
    New.ofOwns2 (e := e) (by simpa using World.ownsRow_lit (base := w'.heap.size) (e := e) (size := 2) w' #[ei a, ei b] 1 (Nat.le_refl _) (by simp [maxLen]) (by simp))
  refine ⟨⟨_, .mk (a, b) [], rfl, ?_, ?_, ?_⟩, (hs.upd ((Upd.refl _ _).alloc _)).mono (by omega), hu.alloc _⟩
  · rw [goodE_mk]
    have : arity (a, b) = 0 := by rcases h0 with rfl | rfl <;> simp [arity]
    simp [this, ht, goodEs, okEs, flatEs]
  · simp [flatE, flatEs]; omega
  · exact (show New R_T1 w' _ _ (flatE (.mk (a, b) [])) from by simpa [flatE, flatEs] using hn).mono hu.size

end Go.Proofs.YtkhifpgpkklokaaDoor
