/-
  Folding, the program's side.
-/
import Derived.Test.YtnioopbficcbeaaDoorValue
import Derived.Test.YtnioopbficcbeaaDoorOps
import Derived.Test.YtnioopbficcbeaaDoorLib2
namespace Go.Proofs.YtnioopbficcbeaaDoor
open Go.RowKit

set_option maxRecDepth 20000 in
theorem numberE (n : Int) (w : World) : Calls Tryd.prog 70 #[.int .i64 n] w fun r w' => (∃ v', r = .returned v' ∧ New R_E w w' v' (.mk (0, n) [])) ∧ Upd [] w w' := by
  have hn : ∀ w : World, New R_E w (w.alloc (.cells #[ei 0, ei n, .slice none 0 0] 70)) (.pointer (some ⟨w.heap.size, 0, none⟩)) (.mk (0, n) []) := fun w =>
    ⟨[w.heap.size], R_E_mk (by simp) (by simp) (by simp) (slP_nilv _ _), own_new _ _ _, fun b hb => by simp at hb; omega⟩
  have HN := Lib.hid hn
  clear hn
  go_enter Tryd.func70, Tryd.ntmps70
  go_wp2_with fail
  go_ret
  exact ⟨⟨_, rfl, HN.out _⟩, (Upd.refl _ _).alloc _⟩

theorem goodE_nums {t : Tm} {bs : List Ex} (h : goodE 29 (.mk t bs) = true) (hn : bs.all isNum = true) (h1 : t.1 ≠ 1) : goodE 0 (.mk t bs) = true := by
  rw [goodE_mk] at h ⊢
  simp only [Bool.and_eq_true] at h ⊢
  refine ⟨⟨h.1.1, ?_⟩, ?_⟩
  · have := h.1.2
    simp only [tOk, h1, if_false] at this ⊢; exact this
  · have hg := h.2
    rw [goodEs_all, List.all_eq_true] at hg ⊢
    rw [List.all_eq_true] at hn
    intro x hx
    obtain ⟨n, rfl, h0, h63⟩ := isNum_good (hg x hx) (hn x hx)
    rw [goodE_mk]
    simp only [Bool.and_eq_true]
    exact ⟨⟨by simp [arity], by simp only [tOk, if_true]; exact inB_mk ⟨h0, h63⟩⟩, rfl⟩

theorem flatE_arg_le' (args : List Ex) (k : Nat) (h : k < args.length) : (flatE args[k]).length ≤ (flatEs args).length := by
  have e1 : flatEs args = flatEs (args.take k) ++ (flatE args[k] ++ flatEs (args.drop (k + 1))) := by
    conv => lhs; rw [← List.take_append_drop k args, flatEs_append, List.drop_eq_getElem_cons h]
    rfl
  rw [e1, List.length_append, List.length_append]; omega

open Classical in
noncomputable def foldRes (e : List Tm) : List Tm × Int := if h : eOk e = true then (flatE (foldE (treeOf e h)), 0) else ([], 1)

def Fo (w : World) (fp : List Nat) (x : Ex) (e : Ending) (w' : World) : Prop := (∃ v' fp', e = .returned v' ∧ R_E fp' w' [v'] x ∧ ∀ b ∈ fp', b ∈ fp ∨ w.heap.size ≤ b) ∧ Upd [] w w'

end Go.Proofs.YtnioopbficcbeaaDoor
