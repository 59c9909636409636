/-
  Folding, the program's side.
-/
import Derived.Test.YtnfghgaadnobbaaGreatDoorValue
import Derived.Test.YtnfghgaadnobbaaGreatDoorOps
import Derived.Test.YtnfghgaadnobbaaGreatDoorLib2
namespace Go.Proofs.YtnfghgaadnobbaaGreatDoor
open Go.RowKit

theorem goodE_nums {t : Tm} {bs : List Ex} (h : goodE 29 (.mk t bs) = true) (hn : bs.all isNum = true) (h1 : t.1 ≠ 1) : goodE 0 (.mk t bs) = true := by
  rw [goodE_mk] at h ⊢
  simp only [Bool.and_eq_true] at h ⊢
  refine ⟨⟨h.1.1, ?_⟩, ?_⟩
  · have := h.1.2
    simp only [tOk, h1, if_false] at this ⊢; exact this
  · have hg := h.2
    rw [goodEs_all, List.all_eq_true] at hg ⊢
    rw [List.all_eq_true] at hn
    intro x hx
    obtain ⟨n, rfl, h0, h63⟩ := isNum_good (hg x hx) (hn x hx)
    rw [goodE_mk]
    simp only [Bool.and_eq_true]
    exact ⟨⟨by simp [arity], by simp only [tOk, if_true]; exact inB_mk ⟨h0, h63⟩⟩, rfl⟩

theorem flatE_arg_le' (args : List Ex) (k : Nat) (h : k < args.length) : (flatE args[k]).length ≤ (flatEs args).length := by
  have e1 : flatEs args = flatEs (args.take k) ++ (flatE args[k] ++ flatEs (args.drop (k + 1))) := by
    conv => lhs; rw [← List.take_append_drop k args, flatEs_append, List.drop_eq_getElem_cons h]
    rfl
  rw [e1, List.length_append, List.length_append]; omega

open Classical in
noncomputable def foldRes (e : List Tm) : List Tm × Int := if h : eOk e = true then (flatE (foldE (treeOf e h)), 0) else ([], 1)

def Fo (w : World) (fp : List Nat) (x : Ex) (e : Ending) (w' : World) : Prop := (∃ v' fp', e = .returned v' ∧ R_E fp' w' [v'] x ∧ ∀ b ∈ fp', b ∈ fp ∨ w.heap.size ≤ b) ∧ Upd [] w w'

end Go.Proofs.YtnfghgaadnobbaaGreatDoor
