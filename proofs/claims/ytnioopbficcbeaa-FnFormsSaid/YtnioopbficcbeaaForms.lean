/-
  What the laws FnForms and FnTerms need: drawn expressions, expressions held against each other, postfix form.
-/
import Derived.Test.YtnioopbficcbeaaDraw
import Derived.Test.YtnioopbficcbeaaCanonV
namespace Go.Proofs.Ytnioopbficcbeaa
open Go.RowKit

def TermsOut (nv : Int) (w : World) (e : Ending) (w' : World) : Prop := (∃ (v' : Value) (x : Ex), e = .returned v' ∧ goodE nv x = true ∧ (flatE x).length ≤ 13 ∧ New R_T1 w w' v' (flatE x)) ∧ Upd [] w w'

theorem goodE_more {nv mv : Int} (h : nv ≤ mv) : ∀ x : Ex, goodE nv x = true → goodE mv x = true := by
  intro x hx
  unfold goodE at hx ⊢
  rw [Bool.and_eq_true] at hx ⊢
  refine ⟨hx.1, ?_⟩
  rw [List.all_eq_true] at hx ⊢
  intro t ht
  have := hx.2 t ht
  unfold tOk at this ⊢
  repeat' split at this
  all_goals simp_all
  have h9 := inB_true this
  exact inB_mk ⟨by omega, by omega⟩

set_option maxRecDepth 20000 in
set_option maxHeartbeats 2000000 in
theorem b10Terms_draw (v : Value) (code : List Int) (w : World) (fc : List Nat) (hR : R_B fc w [v] code) (hb : bytesOk code) (hl : code.length ≤ 1048576) :
    Calls Try.prog 17 #[v] w (TermsOut 3 w) := by
  have S1 := Lib.hid (srcFrom v code w fc hR hb hl)
  clear hR hb
  go_enter Try.func17, Try.ntmps17
  go_wp2_with fail
  refine S1.out.mono ?_
  rintro e w1 ⟨⟨p, rfl, hs1, hp⟩, hu1⟩
  have S2 := Lib.hid (srcPick 0 p 3 w1 (by omega) hs1 (by omega) (by omega))
  clear hs1 S1
  go_wp2_with fail
  refine S2.out.mono ?_
  rintro e w2 ⟨⟨x, rfl, hx0, hx1⟩, hs2, hu2⟩
  have S3 := Lib.hid (srcPick (0 + 2) p 6 w2 (by omega) hs2 (by omega) (by omega))
  have HU2 := Lib.hid (show Upd [] w w2 from hu1.fresh hu2 (fun b hb => Or.inl (by simp at hb; omega)))
  clear hs2 S2 hu1 hu2
  go_wp2_with fail
  refine S3.out.mono ?_
  rintro e w3 ⟨⟨y, rfl, hy0, hy1⟩, hs3, hu3⟩
  have S4 := Lib.hid (drawE 6 (1 + y) (1 + x) (0 + 2 + 2) p w3 (by omega) (by omega) (by omega) (by omega) (by omega) (by omega) hs3)
  have HU3 := Lib.hid (show Upd [] w w3 from HU2.out.fresh hu3 (fun b hb => Or.inl (by simp at hb; omega)))
  clear hs3 S3 hu3
  go_wp2_with fail
  refine S4.out.mono ?_
  rintro e w4 ⟨⟨v4, z, rfl, hgz, hlz, hnz⟩, hs4, hu4⟩
  have HP := Lib.hid (show TermsOut 3 w (.returned v4) w4 from ⟨⟨v4, z, rfl, goodE_more (by omega) z hgz, by omega, hnz.mono HU3.out.size⟩, HU3.out.fresh hu4 (fun b hb => Or.inl (by simp at hb; omega))⟩)
  clear hs4 hu4 hnz hgz S4
  go_wp2_with fail
  go_ret
  exact HP.out

theorem eOk_of_good {x : Ex} {nv : Int} (h : goodE nv x = true) (hn : nv ≤ 29) (hl : (flatE x).length ≤ 60) : eOk (flatE x) = true := by
  have h2 := goodE_more hn x h
  unfold goodE at h2
  rw [Bool.and_eq_true] at h2
  rw [eOk_tree x h2.1, h2.2]
  simp [hl]

set_option maxRecDepth 20000 in
set_option maxHeartbeats 2000000 in
theorem b10Terms_eq (v1 v2 : Value) (xs : List Tm) (w : World) (f1 f2 : List Nat) (h1 : R_T1 f1 w [v1] xs) (h2 : R_T1 f2 w [v2] xs) :
    Calls Try.prog 18 #[v1, v2] w fun e w' => e = .returned (.bool true) ∧ ∃ n, w' = w.drewN n := by
  obtain ⟨a1, c1, rfl, hl1, hm1, hc1⟩ := slF2_open h1
  obtain ⟨a2, c2, rfl, hl2, hm2, hc2⟩ := slF2_open h2
  unfold maxLen at hm1 hm2
  clear h1 h2
  go_enter Try.func18, Try.ntmps18
  go_wp2_with fail
  go_loopw [5] (fun i wr => ∃ k n : Nat, k ≤ xs.length ∧ i = .int .i64 k ∧ wr = w.drewN n) (fun i _ => xs.length - (intOf i).toNat)
  case atStart => exact ⟨0, 0, Nat.zero_le _, rfl, rfl⟩
  case round =>
    obtain ⟨k, n, hk, rfl, hw⟩ := hrel
    have HW := Lib.hid hw
    by_cases hlt : k < xs.length
    · obtain ⟨b1, o1, rfl, -, -, p1, p2⟩ := hc1 k hlt
      obtain ⟨b2, o2, rfl, -, -, q1, q2⟩ := hc2 k hlt
      generalize xs[k] = x at *
      obtain ⟨x1, x2⟩ := x
      have p1' : wr.cell? ⟨b1, o1 + k * 2, none⟩ = some (ei x1) := by rw [hw]; exact p1
      have p2' : wr.cell? ⟨b1, o1 + k * 2 + 1, none⟩ = some (ei x2) := by rw [hw]; exact p2
      have q1' : wr.cell? ⟨b2, o2 + k * 2, none⟩ = some (ei x1) := by rw [hw]; exact q1
      have q2' : wr.cell? ⟨b2, o2 + k * 2 + 1, none⟩ = some (ei x2) := by rw [hw]; exact q2
      clear hc1 hc2 p1 p2 q1 q2 hw
      go_wp2_with fail
      go_quiet (fail)
      go_wp2_with fail
      go_roundw
      case rel => exact ⟨k + 1, _, by omega, by go_num, by rw [HW.out, drewN_add]⟩
      case measure => simp [intOf]; omega
    · clear hc1 hc2 hw
      go_wp2_with fail
      go_ret
      exact ⟨rfl, _, HW.out⟩

end Go.Proofs.Ytnioopbficcbeaa
