/-
  Append of a whole slice to an owned row, whatever the slice: a law for the walks; slices.Clone and the reference's copies.
-/
import Derived.Test.YtnfghgaadnobbaaGreatDoorLib3
import Derived.Test.YtnfghgaadnobbaaGreatDoorHarnW
import Derived.Lib.SliceRun
namespace Go.Proofs.YtnfghgaadnobbaaGreatDoor
open Go.RowKit

section
variable {P : Program} {w : World}
theorem run_append_owned_empty (base : Nat) (t ty e : TypeId) (i : TypeInfo) (size : Nat) (ht : P.underlying t = some (.slice e)) (hi : P.info? e = some i)
    (v : Value) (n : Nat) (xs : List Value) (hown : w.ownsRow base e size v n xs) (a : Option Addr) (c : Nat) :
    (Builtin.append_ #[t, t] ty #[v, .slice a 0 c]).run P w = .ok v w := by
  have hf : (Builtin.firstCells i.size 0 (.slice a 0 c)).run P w = .ok #[] w := by
    cases a <;> simp [Builtin.firstCells, loadCells, loadCellsFrom]
  rcases hown.2 with ⟨rfl, rfl⟩ | ⟨g, cap, cur, rfl, _, _, hnc, _⟩
  · simp [Builtin.append_, run_underlying ht, sizeOf, typeInfo, hi, Builtin.lenOf, hf]
  · simp [Builtin.append_, run_underlying ht, sizeOf, typeInfo, hi, Builtin.lenOf, hf, hnc, storeCells]

theorem wpList_append_flat {ops : Array Oper} {rest : List Oper} {o : Oper} {a : Act} {Q : Exit → Act → World → Prop} (hgd : o.guard = none) (s x : Operand) (t : TypeId)
    (ho : o.op = .call { callee := .builtin .append, args := #[s, x], argTypes := #[t, t] })
    (base : Nat) (e : TypeId) (i : TypeInfo) (z : Value) (size bytes : Nat) (ht : P.underlying t = some (.slice e)) (hi : P.info? e = some i) (hz : i.zero = some z)
    (hsize : i.size = size) (hby : i.bytes = bytes) (hzs : z.cells.size = size) (hsz : 0 < size)
    (v : Value) (n : Nat) (xs : List Value) (hs : a.eval s = v) (hown : w.ownsRow base e size v n xs)
    (sv : Value) (m : Nat) (news : List Value) (hx : a.eval x = sv) (fp : List Nat) (hF : Flat fp w sv size m news) (h1 : ∀ u ∈ news, u.oneCell' = true)
    (h63 : n + m ≤ maxLen) (hbytes : (n + m) * bytes ≤ 140737488355328) (hbase : base ≤ w.heap.size)
    (h : ∀ v' w', w'.ownsRow base e size v' (n + m) (xs ++ news) → w.grownBy w' v.ownBlock → (∀ b, v'.ownBlock = some b → v.ownBlock = some b ∨ w.heap.size ≤ b) → wpList P ops Q rest (a.put o.dst v') w') : wpList P ops Q (o :: rest) a w := by
  obtain ⟨ad, cap, rfl, q1, q2, q3, q4⟩ := hF
  by_cases hm : m = 0
  · subst hm
    have hnil : news = [] := List.eq_nil_of_length_eq_zero (by simpa using q3)
    subst hnil
    refine wpList_plain hgd fun K hK => ?_
    have hrun := run_append_owned_empty (P := P) (w := w) base t o.type e i size ht hi v n xs hown ad cap
    unfold Oper.wp
    simp [execOp, ho, resolve, invoke, builtin, hs, hx, hrun, Result.andThen]
    exact hK _ _ (h v w (by simpa using hown) ⟨rfl, rfl, rfl, Nat.le_refl _, fun _ _ _ => rfl⟩ (fun b hb => Or.inl hb))
  · rcases q4 with ⟨h0, -⟩ | ⟨b, off, rfl, -, -, hc⟩
    · exact absurd h0 hm
    · exact wpList_append_tight w hgd s x t ho base e i z size bytes ht hi hz hsize hby hzs hsz v n xs hs hown ⟨b, off, none⟩ m cap news hx q3 (fun j u hj => by rw [addr_add]; exact hc j u hj) h1 h63 hbytes hbase h
end

theorem Flat.ofT1 {fp : List Nat} {w : World} {v : Value} {xs : List Tm} (h : R_T1 fp w [v] xs) : Flat fp w v 2 xs.length (xs.flatMap fun t => [ei t.1, ei t.2]) := by
  obtain ⟨v', hv, hF⟩ := h
  cases hv; exact hF
theorem Flat.ofI1 {fp : List Nat} {w : World} {v : Value} {xs : List Int} (h : R_I1 fp w [v] xs) : Flat fp w v 1 xs.length (xs.map ei) := by
  obtain ⟨v', hv, hF⟩ := h
  cases hv
  rw [flatMap_single] at hF; exact hF
theorem one_T1 (xs : List Tm) : ∀ u ∈ xs.flatMap (fun t => [ei t.1, ei t.2]), u.oneCell' = true := by
  intro u hu
  obtain ⟨t, -, ht⟩ := List.mem_flatMap.1 hu
  simp at ht
  rcases ht with rfl | rfl <;> rfl
theorem one_I1 (xs : List Int) : ∀ u ∈ xs.map ei, u.oneCell' = true := by
  intro u hu
  obtain ⟨t, -, rfl⟩ := List.mem_map.1 hu
  rfl

end Go.Proofs.YtnfghgaadnobbaaGreatDoor
