/-
  What the listed tables give the walks.
-/
import Derived.Test.YtnfghgaadnobbaaGreatDoorTextI
import Derived.Lib.LaidTab
import Derived.Lib.LaidU8
import Derived.OpenShut
namespace Go.Proofs.YtnfghgaadnobbaaGreatDoor
open Go.RowKit

/-- an array of strings that reads as these texts holds them, cell for cell. -/
theorem strs_of_array {H : Type} {enc : TypeId × Value → H} {P : Program} {w : World} {base : Nat} {sp : Nat → Bool} {held : Bool} {fuel : Nat} {t e : TypeId} {n : Nat} {cs : List Value} {zs : List (List UInt8)} {p : List MemPlace}
    (ht : P.underlying t = some (.array n e)) (he : P.underlying e = some .string) (hce : P.cellsOf e = 1) (hct : P.cellsOf t = n)
    (h : DataW.trod enc P w base sp held fuel t cs = some (.agg (zs.map fun z => .lit (.string z)), p)) : cs = zs.map es := by
  obtain ⟨xs, m, rfl, hx, hl, hxl, hall⟩ := DataW.trod_array ht h
  have hxs : xs.map (·.1) = zs.map fun z => (DataW.lit (.string z) : DataW H) := by
    have := congrArg Prod.fst hx
    simpa using this.symm
  have hzl : zs.length = n := by
    have := congrArg List.length hxs
    simp at this
    omega
  apply List.ext_getElem?
  intro i
  by_cases hi : i < n
  · have h1 := hall i hi
    obtain ⟨b, hb⟩ : ∃ b, xs[i]? = some b := ⟨xs[i]'(by omega), List.getElem?_eq_getElem (by omega)⟩
    rw [hb, hce, Nat.mul_one] at h1
    obtain ⟨s, hc, rfl, _⟩ := DataW.trod_string he h1
    have h2 : cs[i]? = some (.string s) := by
      have := congrArg (·[0]?) hc
      simpa [List.getElem?_take, List.getElem?_drop] using this
    have h3 : (xs.map (·.1))[i]? = some (DataW.lit (.string s.data.toList) : DataW H) := by simp [hb]
    rw [hxs] at h3
    simp only [List.getElem?_map, Option.map_eq_some_iff, DataW.lit.injEq, Lit.string.injEq] at h3
    obtain ⟨z, hz, rfl⟩ := h3
    simp [h2, hz]
  · rw [List.getElem?_eq_none (by omega), List.getElem?_eq_none (by simp; omega)]

theorem glob_of {W : World} {do' dl : DataW Unit} {no nl : String} (ho : Lib.VarReads Tryz.prog W no do') (hl : Lib.VarReads Tryz.prog W nl dl)
    (hdo : do' = .agg (([[43], [45], [42], [61], [35], [60], [60, 61], [38], [124]] : List (List UInt8)).map fun z => .lit (.string z)))
    (hdl : dl = Lib.tabData .i64 [4, 4, 5, 3, 3, 3, 3, 2, 1])
    (hno : Tryz.prog.globalNamed no = some 0) (hnl : Tryz.prog.globalNamed nl = some 1)
    (hto : (Tryz.prog.globals[0]?).map (·.type) = some 83) (htl : (Tryz.prog.globals[1]?).map (·.type) = some 111)
    (hc9 : Tryz.prog.cellsOf 83 = 9) (hcs : Tryz.prog.cellsOf 9 = 1) (hc9' : Tryz.prog.cellsOf 111 = 9) (hci : Tryz.prog.cellsOf 2 = 1) : Glob W := by
  obtain ⟨g, t, cs, fuel, p, hg, ht, hv, hd⟩ := ho
  obtain ⟨g', t', cs', fuel', p', hg', ht', hv', hd'⟩ := hl
  obtain rfl := Option.some.inj (hno.symm.trans hg)
  obtain rfl := Option.some.inj (hnl.symm.trans hg')
  obtain rfl := Option.some.inj (hto.symm.trans ht)
  obtain rfl := Option.some.inj (htl.symm.trans ht')
  subst hdo hdl
  have e1 := strs_of_array Tryz.underlying83 Tryz.underlying9 hcs hc9 hd
  have e2 := Lib.cells_of_tab Tryz.underlying111 Tryz.underlying2 hci hc9' hd'
  constructor
  · intro i hi
    rw [World.var?_cell hg hv i, ← Array.getElem?_toList, e1]
    rcases (by omega : i = 0 ∨ i = 1 ∨ i = 2 ∨ i = 3 ∨ i = 4 ∨ i = 5 ∨ i = 6 ∨ i = 7 ∨ i = 8) with rfl | rfl | rfl | rfl | rfl | rfl | rfl | rfl | rfl <;> simp [opT]
  · intro i hi
    rw [World.var?_cell hg' hv' i, ← Array.getElem?_toList, e2]
    rcases (by omega : i = 0 ∨ i = 1 ∨ i = 2 ∨ i = 3 ∨ i = 4 ∨ i = 5 ∨ i = 6 ∨ i = 7 ∨ i = 8) with rfl | rfl | rfl | rfl | rfl | rfl | rfl | rfl | rfl <;> simp [lvl]

end Go.Proofs.YtnfghgaadnobbaaGreatDoor
