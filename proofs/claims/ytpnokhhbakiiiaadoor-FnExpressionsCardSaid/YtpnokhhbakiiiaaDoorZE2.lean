/-
  Texts joined in one file: Forms, Long, Laid, LabY.
-/
import Derived.Test.YtpnokhhbakiiiaaDoorZE1
import Derived.Lib.LaidTab
import Derived.Lib.LaidU8
import Derived.OpenShut
import Derived.Stop.LaidErr
import Derived.Shelf.Vars
/-
  What the laws FnForms and FnTerms need: drawn expressions, expressions held against each other, postfix form.
-/
namespace Go.Proofs.YtpnokhhbakiiiaaDoor
open Go.RowKit

def TermsOut (nv : Int) (w : World) (e : Ending) (w' : World) : Prop := (∃ (v' : Value) (x : Ex), e = .returned v' ∧ goodE nv x = true ∧ (flatE x).length ≤ 13 ∧ New R_T1 w w' v' (flatE x)) ∧ Upd [] w w'

theorem goodE_more {nv mv : Int} (h : nv ≤ mv) : ∀ x : Ex, goodE nv x = true → goodE mv x = true := by
  intro x hx
  unfold goodE at hx ⊢
  rw [Bool.and_eq_true] at hx ⊢
  refine ⟨hx.1, ?_⟩
  rw [List.all_eq_true] at hx ⊢
  intro t ht
  have := hx.2 t ht
  unfold tOk at this ⊢
  repeat' split at this
  all_goals simp_all
  have h9 := inB_true this
  exact inB_mk ⟨by omega, by omega⟩

set_option maxRecDepth 20000 in
set_option maxHeartbeats 2000000 in
theorem b10Terms_draw (v : Value) (code : List Int) (w : World) (fc : List Nat) (hR : R_B fc w [v] code) (hb : bytesOk code) (hl : code.length ≤ 1048576) :
    Calls Tryd.prog 6 #[v] w (TermsOut 3 w) := by
  have S1 := Lib.hid (srcFrom v code w fc hR hb hl)
  clear hR hb
  go_enter Tryd.func6, Tryd.ntmps6
  go_wp2_with fail
  refine S1.out.mono ?_
  rintro e w1 ⟨⟨p, rfl, hs1, hp⟩, hu1⟩
  have S2 := Lib.hid (srcPick 0 p 3 w1 (by omega) hs1 (by omega) (by omega))
  clear hs1 S1
  go_wp2_with fail
  refine S2.out.mono ?_
  rintro e w2 ⟨⟨x, rfl, hx0, hx1⟩, hs2, hu2⟩
  have S3 := Lib.hid (srcPick (0 + 2) p 6 w2 (by omega) hs2 (by omega) (by omega))
  have HU2 := Lib.hid (show Upd [] w w2 from hu1.fresh hu2 (fun b hb => Or.inl (by simp at hb; omega)))
  clear hs2 S2 hu1 hu2
  go_wp2_with fail
  refine S3.out.mono ?_
  rintro e w3 ⟨⟨y, rfl, hy0, hy1⟩, hs3, hu3⟩
  have S4 := Lib.hid (drawE 6 (1 + y) (1 + x) (0 + 2 + 2) p w3 (by omega) (by omega) (by omega) (by omega) (by omega) (by omega) hs3)
  have HU3 := Lib.hid (show Upd [] w w3 from HU2.out.fresh hu3 (fun b hb => Or.inl (by simp at hb; omega)))
  clear hs3 S3 hu3
  go_wp2_with fail
  refine S4.out.mono ?_
  rintro e w4 ⟨⟨v4, z, rfl, hgz, hlz, hnz⟩, hs4, hu4⟩
  have HP := Lib.hid (show TermsOut 3 w (.returned v4) w4 from ⟨⟨v4, z, rfl, goodE_more (by omega) z hgz, by omega, hnz.mono HU3.out.size⟩, HU3.out.fresh hu4 (fun b hb => Or.inl (by simp at hb; omega))⟩)
  clear hs4 hu4 hnz hgz S4
  go_wp2_with fail
  go_ret
  exact HP.out

theorem eOk_of_good {x : Ex} {nv : Int} (h : goodE nv x = true) (hn : nv ≤ 29) (hl : (flatE x).length ≤ 60) : eOk (flatE x) = true := by
  have h2 := goodE_more hn x h
  unfold goodE at h2
  rw [Bool.and_eq_true] at h2
  rw [eOk_tree x h2.1, h2.2]
  simp [hl]

set_option maxRecDepth 20000 in
set_option maxHeartbeats 2000000 in
theorem b10Terms_eq (v1 v2 : Value) (xs : List Tm) (w : World) (f1 f2 : List Nat) (h1 : R_T1 f1 w [v1] xs) (h2 : R_T1 f2 w [v2] xs) :
    Calls Tryd.prog 9 #[v1, v2] w fun e w' => e = .returned (.bool true) ∧ ∃ n, w' = w.drewN n := by
  obtain ⟨a1, c1, rfl, hl1, hm1, hc1⟩ := slF2_open h1
  obtain ⟨a2, c2, rfl, hl2, hm2, hc2⟩ := slF2_open h2
  unfold maxLen at hm1 hm2
  clear h1 h2
  go_enter Tryd.func9, Tryd.ntmps9
  go_wp2_with fail
  go_loopw [5] (fun i wr => ∃ k n : Nat, k ≤ xs.length ∧ i = .int .i64 k ∧ wr = w.drewN n) (fun i _ => xs.length - (intOf i).toNat)
  case atStart => exact ⟨0, 0, Nat.zero_le _, rfl, rfl⟩
  case round =>
    obtain ⟨k, n, hk, rfl, hw⟩ := hrel
    have HW := Lib.hid hw
    by_cases hlt : k < xs.length
    · obtain ⟨b1, o1, rfl, -, -, p1, p2⟩ := hc1 k hlt
      obtain ⟨b2, o2, rfl, -, -, q1, q2⟩ := hc2 k hlt
      generalize xs[k] = x at *
      obtain ⟨x1, x2⟩ := x
      have p1' : wr.cell? ⟨b1, o1 + k * 2, none⟩ = some (ei x1) := by rw [hw]; exact p1
      have p2' : wr.cell? ⟨b1, o1 + k * 2 + 1, none⟩ = some (ei x2) := by rw [hw]; exact p2
      have q1' : wr.cell? ⟨b2, o2 + k * 2, none⟩ = some (ei x1) := by rw [hw]; exact q1
      have q2' : wr.cell? ⟨b2, o2 + k * 2 + 1, none⟩ = some (ei x2) := by rw [hw]; exact q2
      clear hc1 hc2 p1 p2 q1 q2 hw
      go_wp2_with fail
      go_quiet (fail)
      go_wp2_with fail
      go_roundw
      case rel => exact ⟨k + 1, _, by omega, by go_num, by rw [HW.out, drewN_add]⟩
      case measure => simp [intOf]; omega
    · clear hc1 hc2 hw
      go_wp2_with fail
      go_ret
      exact ⟨rfl, _, HW.out⟩

end Go.Proofs.YtpnokhhbakiiiaaDoor

/-
  An input that is too long for the laws over bytes.
-/
namespace Go.Proofs.YtpnokhhbakiiiaaDoor
open Go.RowKit

theorem b10Long (v : Value) (code : List Int) (w : World) (fc : List Nat) (hR : R_B fc w [v] code) :
    Calls Tryd.prog 5 #[v] w fun e w' => e = .returned (.bool (decide (1048576 < (code.length : Int)))) ∧ w = w' := by
  obtain ⟨a, cap, rfl, h1, h2, -⟩ := slF1_open hR
  unfold maxLen at h2
  go_enter Tryd.func5, Tryd.ntmps5
  go_wp2_with fail
  go_ret
  exact ⟨by simp, rfl⟩

end Go.Proofs.YtpnokhhbakiiiaaDoor

/-
  What the listed tables give the walks.
-/
namespace Go.Proofs.YtpnokhhbakiiiaaDoor
open Go.RowKit

/-- an array of strings that reads as these texts holds them, cell for cell. -/
theorem strs_of_array {H : Type} {enc : TypeId × Value → H} {P : Program} {w : World} {base : Nat} {sp : Nat → Bool} {held : Bool} {fuel : Nat} {t e : TypeId} {n : Nat} {cs : List Value} {zs : List (List UInt8)} {p : List MemPlace}
    (ht : P.underlying t = some (.array n e)) (he : P.underlying e = some .string) (hce : P.cellsOf e = 1) (hct : P.cellsOf t = n)
    (h : DataW.trod enc P w base sp held fuel t cs = some (.agg (zs.map fun z => .lit (.string z)), p)) : cs = zs.map es := by
  obtain ⟨xs, m, rfl, hx, hl, hxl, hall⟩ := DataW.trod_array ht h
  have hxs : xs.map (·.1) = zs.map fun z => (DataW.lit (.string z) : DataW H) := by
    have := congrArg Prod.fst hx
    simpa using this.symm
  have hzl : zs.length = n := by
    have := congrArg List.length hxs
    simp at this
    omega
  apply List.ext_getElem?
  intro i
  by_cases hi : i < n
  · have h1 := hall i hi
    obtain ⟨b, hb⟩ : ∃ b, xs[i]? = some b := ⟨xs[i]'(by omega), List.getElem?_eq_getElem (by omega)⟩
    rw [hb, hce, Nat.mul_one] at h1
    obtain ⟨s, hc, rfl, _⟩ := DataW.trod_string he h1
    have h2 : cs[i]? = some (.string s) := by
      have := congrArg (·[0]?) hc
      simpa [List.getElem?_take, List.getElem?_drop] using this
    have h3 : (xs.map (·.1))[i]? = some (DataW.lit (.string s.data.toList) : DataW H) := by simp [hb]
    rw [hxs] at h3
    simp only [List.getElem?_map, Option.map_eq_some_iff, DataW.lit.injEq, Lit.string.injEq] at h3
    obtain ⟨z, hz, rfl⟩ := h3
    simp [h2, hz]
  · rw [List.getElem?_eq_none (by omega), List.getElem?_eq_none (by simp; omega)]

theorem glob_of {W : World} {do' dl : DataW Unit} {no nl : String} (ho : Lib.VarReads Tryd.prog W no do') (hl : Lib.VarReads Tryd.prog W nl dl)
    (hdo : do' = .agg (([[43], [45], [42], [61], [35], [60], [60, 61], [38], [124]] : List (List UInt8)).map fun z => .lit (.string z)))
    (hdl : dl = Lib.tabData .i64 [4, 4, 5, 3, 3, 3, 3, 2, 1])
    (hno : Tryd.prog.globalNamed no = some 0) (hnl : Tryd.prog.globalNamed nl = some 1)
    (hto : (Tryd.prog.globals[0]?).map (·.type) = some 69) (htl : (Tryd.prog.globals[1]?).map (·.type) = some 89)
    (hc9 : Tryd.prog.cellsOf 69 = 9) (hcs : Tryd.prog.cellsOf 9 = 1) (hc9' : Tryd.prog.cellsOf 89 = 9) (hci : Tryd.prog.cellsOf 2 = 1) : Glob W := by
  obtain ⟨g, t, cs, fuel, p, hg, ht, hv, hd⟩ := ho
  obtain ⟨g', t', cs', fuel', p', hg', ht', hv', hd'⟩ := hl
  obtain rfl := Option.some.inj (hno.symm.trans hg)
  obtain rfl := Option.some.inj (hnl.symm.trans hg')
  obtain rfl := Option.some.inj (hto.symm.trans ht)
  obtain rfl := Option.some.inj (htl.symm.trans ht')
  subst hdo hdl
  have e1 := strs_of_array Tryd.underlying69 Tryd.underlying9 hcs hc9 hd
  have e2 := Lib.cells_of_tab Tryd.underlying89 Tryd.underlying2 hci hc9' hd'
  constructor
  · intro i hi
    rw [World.var?_cell hg hv i, ← Array.getElem?_toList, e1]
    rcases (by omega : i = 0 ∨ i = 1 ∨ i = 2 ∨ i = 3 ∨ i = 4 ∨ i = 5 ∨ i = 6 ∨ i = 7 ∨ i = 8) with rfl | rfl | rfl | rfl | rfl | rfl | rfl | rfl | rfl <;> simp [opT]
  · intro i hi
    rw [World.var?_cell hg' hv' i, ← Array.getElem?_toList, e2]
    rcases (by omega : i = 0 ∨ i = 1 ∨ i = 2 ∨ i = 3 ∨ i = 4 ∨ i = 5 ∨ i = 6 ∨ i = 7 ∨ i = 8) with rfl | rfl | rfl | rfl | rfl | rfl | rfl | rfl | rfl <;> simp [lvl]

end Go.Proofs.YtpnokhhbakiiiaaDoor

/-
  What the listed variables give the walks of numbers' texts (tables and sentinels, no shape of the world).
-/
namespace Go.Proofs.YtpnokhhbakiiiaaDoor
open Go.RowKit Go.ChangeShapes

theorem errStarT : "*" ++ "errors.errorString" = "*errors.errorString" := by decide
theorem errRowT (u : TypeId) (h : Tryd.prog.typeName? 3 u = some "*errors.errorString") : u = 130 :=
  typeName_ptr_named (nm := "errors.errorString") (by rw [errStarT]; kernel_rfl) (by kernel_rfl) (by decide) u (by rw [errStarT]; exact h)

theorem envT_of {W : World} {r1 r2 r3 : List (String × DataW Unit)} {d : DataW Unit} {x1 x2 : List UInt8} (hd : d = Lib.tabData .u64 Lib.pow10Tab)
    (h1 : laidMet Tryd.prog (("internal/strconv.uint64pow10", d) :: r1) W)
    (h2 : laidMet Tryd.prog (("strconv.ErrRange", .iface "*errors.errorString" (.ptr (.agg [.lit (.string x1)]))) :: r2) W)
    (h3 : laidMet Tryd.prog (("strconv.ErrSyntax", .iface "*errors.errorString" (.ptr (.agg [.lit (.string x2)]))) :: r3) W) : EnvT W := by
  subst hd
  refine ⟨?_, ?_, ?_⟩
  · exact Lib.tabIs_of_head (g := 2) (t := 109) (e := 54) (n := 20) (by kernel_rfl) (by kernel_rfl) Tryd.underlying109 Tryd.underlying54 (by kernel_rfl) (by kernel_rfl) h1
  · obtain ⟨a, s, hv, -⟩ := laid_sentinel (g := 5) (ti := 104) (tp := 130) (te := 132) (ts := 9) h3 (by kernel_rfl) (by kernel_rfl) Tryd.underlying104 errRowT Tryd.underlying130 Tryd.underlying132 rfl rfl Tryd.underlying9 (by kernel_rfl) (by kernel_rfl)
    exact ⟨_, _, hv⟩
  · obtain ⟨a, s, hv, -⟩ := laid_sentinel (g := 6) (ti := 104) (tp := 130) (te := 132) (ts := 9) h2 (by kernel_rfl) (by kernel_rfl) Tryd.underlying104 errRowT Tryd.underlying130 Tryd.underlying132 rfl rfl Tryd.underlying9 (by kernel_rfl) (by kernel_rfl)
    exact ⟨_, _, hv⟩

end Go.Proofs.YtpnokhhbakiiiaaDoor
