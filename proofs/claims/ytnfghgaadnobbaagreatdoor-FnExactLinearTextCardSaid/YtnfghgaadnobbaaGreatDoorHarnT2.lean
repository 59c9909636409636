/-
  The laws' helper functions over slices of slices (T2): what each call returns and makes.
-/
import Derived.Test.YtnfghgaadnobbaaGreatDoorHarnT
namespace Go.Proofs.YtnfghgaadnobbaaGreatDoor
open Go.RowKit

abbrev R_T2 : Rp (List (List Tm)) := slP R_T1
theorem R_T2k : Kept R_T2 := slP_kept R_T1k
def mkF_T2 (xss : List (List Tm)) : Int := (xss.map mkF_T1).sum
def szF_T2 (xss : List (List Tm)) : Int := xss.length + (xss.map szF_T1).sum
theorem mkF_T2_nonneg (xss : List (List Tm)) : 0 ≤ mkF_T2 xss := by
  unfold mkF_T2; induction xss with
  | nil => simp
  | cons r rs ih => simp only [List.map_cons, List.sum_cons]; have := mkF_T1_nonneg r; omega
theorem szF_T2_sum (xss : List (List Tm)) : 0 ≤ (xss.map szF_T1).sum := by
  induction xss with
  | nil => simp
  | cons r rs ih => simp only [List.map_cons, List.sum_cons]; have := szF_T1_nonneg r; omega
theorem szF_T2_nonneg (xss : List (List Tm)) : 0 ≤ szF_T2 xss := by have := szF_T2_sum xss; unfold szF_T2; omega
theorem mkF_T2_le (xss : List (List Tm)) : mkF_T2 xss ≤ 16 * szF_T2 xss := by
  unfold mkF_T2 szF_T2; induction xss with
  | nil => simp
  | cons r rs ih => simp only [List.map_cons, List.sum_cons, List.length_cons]; have := mkF_T1_le r; omega
theorem mkF_T2_snoc (xss : List (List Tm)) (k : Nat) (h : k < xss.length) : mkF_T2 (xss.take (k + 1)) = mkF_T2 (xss.take k) + mkF_T1 xss[k] := by
  unfold mkF_T2; rw [List.take_succ_eq_append_getElem h, List.map_append, List.sum_append]; simp
theorem mkF_T2_take (xss : List (List Tm)) (k : Nat) : mkF_T2 (xss.take k) ≤ mkF_T2 xss := by
  have h := mkF_T2_nonneg (xss.drop k)
  conv => rhs; rw [← List.take_append_drop k xss]
  unfold mkF_T2 at *; rw [List.map_append, List.sum_append]; omega

def mkd_T2 : Int → List (List Tm) → List (List Tm)
  | _, [] => []
  | k, r :: rs => (fun (k : Int) (r : List Tm) => upT k r.length) k r :: mkd_T2 (k + mkF_T1 r) rs
@[simp] theorem mkd_T2_length (k : Int) (xss : List (List Tm)) : (mkd_T2 k xss).length = xss.length := by
  induction xss generalizing k with
  | nil => rfl
  | cons r rs ih => simp [mkd_T2, ih]
theorem mkd_T2_append (k : Int) (xs ys : List (List Tm)) : mkd_T2 k (xs ++ ys) = mkd_T2 k xs ++ mkd_T2 (k + mkF_T2 xs) ys := by
  induction xs generalizing k with
  | nil => simp [mkd_T2, mkF_T2]
  | cons r rs ih => simp only [List.cons_append, mkd_T2, ih, mkF_T2, List.map_cons, List.sum_cons, Int.add_assoc]
theorem mkd_T2_set (xss : List (List Tm)) (k0 : Int) (k : Nat) (hk : k < xss.length) :
    (mkd_T2 k0 (xss.take k) ++ xss.drop k).set k ((fun (k : Int) (r : List Tm) => upT k r.length) (k0 + mkF_T2 (xss.take k)) xss[k]) = mkd_T2 k0 (xss.take (k + 1)) ++ xss.drop (k + 1) := by
  have hl : (mkd_T2 k0 (xss.take k)).length = k := by simp; omega
  rw [List.set_append_right _ _ (by omega), hl, Nat.sub_self, List.drop_eq_getElem_cons hk, List.set_cons_zero, List.take_succ_eq_append_getElem hk, mkd_T2_append]
  simp [mkd_T2]
theorem mkd_T2_get (xss : List (List Tm)) (k0 : Int) (k : Nat) (hk : k < xss.length) :
    (mkd_T2 k0 xss)[k]'(by simpa using hk) = (fun (k : Int) (r : List Tm) => upT k r.length) (k0 + mkF_T2 (xss.take k)) xss[k] := by
  have h : (mkd_T2 k0 xss)[k]? = some ((fun (k : Int) (r : List Tm) => upT k r.length) (k0 + mkF_T2 (xss.take k)) xss[k]) := by
    conv => lhs; rw [← List.take_append_drop k xss, mkd_T2_append, List.drop_eq_getElem_cons hk, mkd_T2]
    rw [List.getElem?_append_right (by simp; omega)]
    simp [Nat.min_eq_left (Nat.le_of_lt hk)]
  exact Option.some.inj ((List.getElem?_eq_getElem _).symm.trans h)

set_option maxHeartbeats 800000 in
theorem eq_T2 (v1 v2 : Value) (xs ys : List (List Tm)) (w : World) (f1 f2 : List Nat) (h1 : R_T2 f1 w [v1] xs) (h2 : R_T2 f2 w [v2] ys) :
    Calls Tryz.prog 75 #[v1, v2] w fun e w' => e = .returned (.bool (xs == ys)) ∧ Upd [] w w' := by
  obtain ⟨a1, c1, rfl, hl1, hm1, hc1⟩ := slP_open h1
  obtain ⟨a2, c2, rfl, hl2, hm2, hc2⟩ := slP_open h2
  unfold maxLen at hm1 hm2
  clear h1 h2
  by_cases hl : xs.length = ys.length
  · have hres : (xs == ys) = (xs.drop 0 == ys.drop 0) := rfl
    have HL := Lib.hid hl
    have hle : xs.length ≤ ys.length := by omega
    have hbe : ((xs.length : Int) != (ys.length : Int)) = false := by rw [hl]; simp
    have HR := Lib.hid hres
    clear hl hres
    go_enter Tryz.func75, Tryz.ntmps75
    go_wp2
    go_loopw [5] (fun i wr => ∃ k : Nat, k ≤ xs.length ∧ i = .int .i64 k ∧ Upd [] w wr ∧ (xs.drop k == ys.drop k) = (xs == ys)) (fun i _ => xs.length - (intOf i).toNat)
    case atStart => exact ⟨0, Nat.zero_le _, rfl, Upd.refl _ _, HR.out.symm⟩
    case round =>
      obtain ⟨k, hk, rfl, hU, hF⟩ := hrel
      have HF := Lib.hid hF
      clear hF
      by_cases hlt : k < xs.length
      · have hlt2 : k < ys.length := by omega
        obtain ⟨b1, o1, u1, g1, rfl, -, hb1, p1, -, r1⟩ := hc1 k hlt
        obtain ⟨b2, o2, u2, g2, rfl, -, hb2, p2, -, r2⟩ := hc2 k hlt2
        have q1 : wr.cell? ⟨b1, o1 + k, none⟩ = some u1 := (hU.below.cell hb1).trans p1
        have q2 : wr.cell? ⟨b2, o2 + k, none⟩ = some u2 := (hU.below.cell hb2).trans p2
        have R1' := Lib.hid (R_T1k.drew (R_T1k.upd r1 hU (by simp)))
        have R2' := Lib.hid (R_T1k.drew (R_T1k.upd r2 hU (by simp)))
        have hs := drop_step xs ys k hlt hlt2
        have HS := Lib.hid hs
        clear hc1 hc2 p1 p2 hs r1 r2
        generalize xs[k] = x1 at *
        generalize ys[k] = y1 at *
        have HC := Lib.hid (eq_T1 u1 u2 x1 y1 wr.drew g1 g2 R1'.out R2'.out)
        clear R1' R2'
        obtain ⟨bb, hbb⟩ : ∃ bb, bb = (x1 == y1) := ⟨_, rfl⟩
        rw [← hbb] at HC HS
        clear hbb
        cases bb
        · go_wp2
          go_region_with (go_at_call 74; refine HC.out.mono ?_; rintro e w1 ⟨rfl, hu1⟩)
          all_goals
            have hU1 := hU.drew.trans hu1
            go_wp2_with fail
            go_ret
            exact ⟨by rw [← HF.out, HS.out]; rfl, hU1⟩
        · go_wp2
          go_region_with (go_at_call 74; refine HC.out.mono ?_; rintro e w1 ⟨rfl, hu1⟩)
          all_goals
            have hU1 := hU.drew.trans hu1
            clear hu1 hU
            go_wp2_with fail
            go_roundw
            case rel => exact ⟨k + 1, by omega, by go_num, hU1, by rw [← HF.out, HS.out]; rfl⟩
            case measure => simp [intOf]; omega
      · have hge : xs.length ≤ k := by omega
        clear hc1 hc2
        go_wp2
        go_ret
        exact ⟨by rw [← HF.out, List.drop_of_length_le hge, List.drop_of_length_le (by have := HL.out; omega)]; rfl, hU⟩
  · have hbe : ¬ ((xs.length : Int) != (ys.length : Int)) = false := by simp; omega
    have hne : (xs == ys) = false := by
      rw [beq_eq_false_iff_ne]; intro h; exact hl (by rw [h])
    have HN := Lib.hid hne
    clear hl hne
    go_enter Tryz.func75, Tryz.ntmps75
    go_wp2
    go_ret
    exact ⟨by rw [HN.out]; rfl, Upd.refl _ _⟩

end Go.Proofs.YtnfghgaadnobbaaGreatDoor
