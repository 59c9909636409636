/-
  The law FnForms: the call returns true for every input, and writes nothing that was there.
-/
import Derived.Test.YtnioopbficcbeaaDiffer
import Derived.Test.YtnioopbficcbeaaLong
import Derived.Test.YtnioopbficcbeaaPostf
import Derived.Test.YtnioopbficcbeaaFormsP
import Derived.Test.YtnioopbficcbeaaLawFnTerms
namespace Go.Proofs.Ytnioopbficcbeaa
open Go.RowKit

set_option maxRecDepth 40000 in
set_option maxHeartbeats 4000000 in
theorem lawFnForms (code : List Int) (v : Value) (fc : List Nat) (w : World) (hR : R_B fc w [v] code) (hb : bytesOk code) :
    Calls Try.prog 5 #[v] w fun e w' => e = .returned (.bool true) ∧ Upd [] w w' := by
  have S0 := Lib.hid (b10Long v code w fc hR)
  by_cases hlen : 1048576 < (code.length : Int)
  · rw [decide_eq_true hlen] at S0
    clear hR hb
    go_enter Try.func5, Try.ntmps5
    go_wp2_with fail
    refine S0.out.mono ?_
    rintro e w1 ⟨rfl, rfl⟩
    go_wp2_with fail
    go_ret
    exact ⟨rfl, Upd.refl _ _⟩
  · rw [decide_eq_false hlen] at S0
    have S1 := Lib.hid (b10Terms_draw v code w fc hR hb (by omega))
    clear hR hb hlen
    go_enter Try.func5, Try.ntmps5
    go_wp2_with fail
    refine S0.out.mono ?_
    rintro e w1 ⟨rfl, rfl⟩
    clear S0
    go_wp2_with fail
    refine S1.out.mono ?_
    rintro e w1 ⟨⟨v1, x, rfl, hgx, hlx, hn1⟩, hu1⟩
    have hokx := okE_of_good hgx
    have hex := eOk_of_good hgx (by omega) (by omega)
    have hgc := canonE_good 3 x hgx
    have hokc := okE_of_good hgc
    have hlc := canonE_len x
    have hec := eOk_of_good hgc (by omega) (by omega)
    have hid := canonE_idem 3 x hgx
    obtain ⟨a1, c1, rfl⟩ := hn1.form
    obtain ⟨f1, h1, -, -⟩ := hn1
    have S2 := canon_i (flatE x) _ w1 f1 h1
    rw [canonRes_flat hokx hex] at S2
    have HS2 := Lib.hid S2
    have S3 := fun (w' : World) (v' : Value) (f' : List Nat) (h : R_T1 f' w' [v'] (flatE (canonE x))) => canon_i (flatE (canonE x)) v' w' f' h
    rw [canonRes_flat hokc hec, hid] at S3
    have HS3 := Lib.hid S3
    have S4 := Lib.hid (fun (w' : World) (hu : Upd [] w1 w') (v' vb : Value) (f' fb : List Nat) (h : R_T1 f' w' [v'] (flatE (canonE x))) (hb : R1 fb w' [vb] [3, 2, 2]) =>
      differ x (canonE x) _ v' vb w' f1 f' fb hgx hgc (by omega) (by omega) (fun vals hl hv => (valE_canon vals 3 x hgx).symm) (R_T1k.upd h1 hu (by simp)) h hb)
    have S5 := Lib.hid (fun (w' : World) (hu : Upd [] w1 w') => postfixOf x _ w' f1 hokx hex (by omega) (R_T1k.upd h1 hu (by simp)))
    have S6 := fun (w' : World) (v' : Value) (f' : List Nat) (h : R_T1 f' w' [v'] (postE x)) => post_i (postE x) v' w' f' h
    rw [postRes_post hokx hex] at S6
    have HS6 := Lib.hid S6
    have H1 := Lib.hid h1
    have HU1 := Lib.hid hu1
    have HW1 := Lib.hid (Upd.refl [] w1)
    generalize hC : flatE (canonE x) = C at *
    generalize hX : flatE x = X at *
    have hlc' : ((C.length : Int) != (X.length : Int)) = false := by rw [hlc]; simp
    clear hlc
    clear S1 S2 S3 S6 hgx hokx hex hgc hokc hec hid h1 hu1 hC hX
    go_wp2_with fail
    refine HS2.out.mono ?_
    rintro e w2 ⟨⟨vc, rfl, hnc⟩, hu2⟩
    obtain ⟨ac, cc, rfl⟩ := hnc.form
    obtain ⟨fcc, hc, -, -⟩ := hnc
    have HC := Lib.hid hc
    have HW2 := Lib.hid hu2
    clear HS2 hc hu2 HW1
    go_wp2_with fail
    refine (HS3.out _ _ _ HC.out).mono ?_
    rintro e w3 ⟨⟨vd, rfl, hnd⟩, hu3⟩
    obtain ⟨ad, cd, rfl⟩ := hnd.form
    obtain ⟨fd, hd, -, -⟩ := hnd
    have HC3 := Lib.hid (R_T1k.upd HC.out hu3 (by simp))
    have HD := Lib.hid hd
    have HW3 := Lib.hid (HW2.out.trans hu3)
    have T1 := Lib.hid (b10Terms_eq _ _ C w3 _ _ HC3.out HD.out)
    clear HS3 hd hu3 HW2 HC
    go_wp2_with fail
    refine T1.out.mono ?_
    rintro e w4 ⟨rfl, n4, rfl⟩
    have HW4 := Lib.hid (HW3.out.drewN n4)
    have HC4 := Lib.hid (R_T1k.drewN HC3.out n4)
    clear T1 HW3 HC3 HD
    go_wp2_with fail
    obtain ⟨fb, hb5, -, -⟩ := new_lit (enc := ei) (w3.drewN n4) 2 [3, 2, 2] (by simp [maxLen])
    have hal := (Upd.refl [] (w3.drewN n4)).alloc (.cells #[ei 3, ei 2, ei 2] 2)
    have S4' := Lib.hid (S4.out _ (HW4.out.alloc (.cells #[ei 3, ei 2, ei 2] 2)) _ _ _ _ (R_T1k.upd HC4.out hal (by simp)) hb5)
    clear S4 hb5 hal
    refine S4'.out.mono ?_
    rintro e w5 ⟨⟨v5, rfl⟩, hu5⟩
    have HW5 := Lib.hid ((HW4.out.alloc _).trans hu5)
    have S5' := Lib.hid (S5.out _ HW5.out)
    clear S4' S5 hu5 HW4 HC4
    go_wp2_with fail
    refine S5'.out.mono ?_
    rintro e w6 ⟨⟨v6, rfl, hn6⟩, hu6⟩
    obtain ⟨f6, h6, -, -⟩ := hn6
    have HW6 := Lib.hid (HW5.out.trans hu6)
    have S6' := Lib.hid (HS6.out _ _ _ h6)
    clear S5' HS6 hu6 HW5 h6
    go_wp2_with fail
    refine S6'.out.mono ?_
    rintro e w7 ⟨⟨v7, rfl, hn7⟩, hu7⟩
    obtain ⟨a7, c7, rfl⟩ := hn7.form
    obtain ⟨f7, h7, -, -⟩ := hn7
    have HW7 := Lib.hid (HW6.out.trans hu7)
    have T2 := Lib.hid (b10Terms_eq _ _ X w7 _ _ h7 (R_T1k.upd H1.out HW7.out (by simp)))
    clear S6' hu7 HW6 h7
    go_wp2_with fail
    refine T2.out.mono ?_
    rintro e w8 ⟨rfl, n8, rfl⟩
    have HW8 := Lib.hid ((HU1.out.trans HW7.out).drewN n8)
    clear T2 HW7
    go_wp2_with fail
    go_ret
    exact ⟨rfl, HW8.out⟩

end Go.Proofs.Ytnioopbficcbeaa
