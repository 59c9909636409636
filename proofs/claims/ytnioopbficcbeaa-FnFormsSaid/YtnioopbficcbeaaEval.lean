/-
  Evaluate: what the calls return for a valid expression and values for all its variables.
-/
import Derived.Test.YtnioopbficcbeaaVals
import Derived.Test.YtnioopbficcbeaaFoldS
namespace Go.Proofs.Ytnioopbficcbeaa
open Go.RowKit

theorem vals_bd {vals : List Int} (h : vals.all isV = true) (k : Nat) : 0 ≤ vals.getD k 0 ∧ vals.getD k 0 ≤ 63 := by
  rw [List.getD_eq_getElem?_getD]
  by_cases hk : k < vals.length
  · rw [List.getElem?_eq_getElem hk]
    exact inB_true (List.all_eq_true.1 h _ (List.getElem_mem hk))
  · rw [List.getElem?_eq_none (by omega)]; simp
theorem lack_no {x : Ex} {n : Int} (h : goodE n x = true) : (flatE x).any (lackV n) = false := by
  unfold goodE at h
  rw [Bool.and_eq_true] at h
  rw [List.any_eq_false]
  intro t ht
  have := List.all_eq_true.1 h.2 t ht
  unfold lackV
  by_cases h1 : t.1 = 1
  · simp only [tOk, h1, if_true] at this
    have := inB_true (by simpa using this)
    simp [h1]; omega
  · simp [h1]

set_option maxRecDepth 20000 in
set_option maxHeartbeats 1000000 in
theorem evalI (x : Ex) (vals : List Int) (v vv : Value) (w : World) (fp fv : List Nat) (hg : goodE vals.length x = true) (hl : vals.length ≤ 29) (hlen : (flatE x).length ≤ 60) (hv : vals.all isV = true)
    (hR : R_T1 fp w [v] (flatE x)) (hV : R1 fv w [vv] vals) :
    Calls Try.prog 25 #[v, vv] w fun e w' => e = .returned (.tuple #[.int .i64 (valE vals x), .int .i64 0]) ∧ Upd [] w w' := by
  have HE := Lib.hid (eOk_of_good hg (by omega) hlen)
  have HL := Lib.hid (lack_no hg)
  have HG := Lib.hid hg
  have HOK := Lib.hid (show okE x = true by unfold goodE at hg; rw [Bool.and_eq_true] at hg; exact hg.1)
  have HB := Lib.hid (fun k => vals_bd hv k)
  have HR := Lib.hid hR
  have HV := Lib.hid hV
  have HVV := Lib.hid hv
  obtain ⟨av, cv, rfl, v1, v2, -⟩ := slF1_open hV
  unfold maxLen at v2
  have S1 := termsOk v (flatE x) w fp hR
  rw [HE.out] at S1
  have HS1 := Lib.hid S1
  clear hg hR hV hv S1
  go_enter Try.func25, Try.ntmps25
  go_wp2_with fail
  refine HS1.out.mono ?_
  rintro e w1 ⟨rfl, hu1⟩
  have S2 := areValues _ vals w1 fv ((slF_kept _ _).upd HV.out hu1 (by simp))
  rw [HVV.out] at S2
  have HS2 := Lib.hid S2
  have HU1 := Lib.hid hu1
  have S3 := covered v (flatE x) vals.length w1 fp (R_T1k.upd HR.out hu1 (by simp))
  rw [HL.out] at S3
  have HS3 := Lib.hid S3
  clear hu1 S2 S3 HS1
  go_wp2_with fail
  refine HS2.out.mono ?_
  rintro e w2 ⟨rfl, rfl⟩
  go_wp2_with fail
  refine HS3.out.mono ?_
  rintro e w2 ⟨rfl, hu2⟩
  have HU2 := Lib.hid (HU1.out.trans hu2)
  have S4 : Hid (Calls Try.prog 53 #[v, .slice av vals.length cv] w2 fun e w' => e = .returned (.int .i64 (valE vals x)) ∧ Upd [] w2 w') := Lib.hid (by
    have hR2 := R_T1k.upd HR.out HU2.out (by simp)
    have S5 := Lib.hid (treeE x w2 v fp HOK.out (by omega) hR2)
    clear hR2 hu2
    go_enter Try.func53, Try.ntmps53
    go_wp2_with fail
    refine S5.out.mono ?_
    rintro e w3 ⟨⟨vt, rfl, ft, ht, -, -⟩, hu3⟩
    have S6 := Lib.hid (valueE _ x w3 vt _ ft fv vals vals.length (Nat.le_refl _) HG.out (by omega) HB.out ht ((slF_kept _ _).upd HV.out (HU2.out.trans hu3) (by simp)))
    have HU3 := Lib.hid hu3
    clear ht hu3 S5
    go_wp2_with fail
    refine S6.out.mono ?_
    rintro e w4 ⟨rfl, n, rfl⟩
    go_wp2_with fail
    go_ret
    exact ⟨rfl, HU3.out.drewN n⟩)
  clear hu2 HS2 HS3
  go_wp2_with fail
  refine S4.out.mono ?_
  rintro e w5 ⟨rfl, hu5⟩
  have HU5 := Lib.hid (HU2.out.trans hu5)
  clear hu5 S4
  go_wp2_with fail
  go_ret2
  exact ⟨rfl, HU5.out⟩

end Go.Proofs.Ytnioopbficcbeaa
