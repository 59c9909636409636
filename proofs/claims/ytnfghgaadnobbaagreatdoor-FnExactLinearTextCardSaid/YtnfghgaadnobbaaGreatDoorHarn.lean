/-
  The laws' helper functions over lists of numbers: what each call returns and makes.
-/
import Derived.Test.YtnfghgaadnobbaaGreatDoorRows
import Derived.Test.YtnfghgaadnobbaaGreatDoorLib
import Derived.Deep.QuietTactic
import Derived.BigQuiet
namespace Go.Proofs.YtnfghgaadnobbaaGreatDoor
open Go.RowKit

abbrev ei (n : Int) : Value := .int .i64 n
abbrev R1 : Rp (List Int) := slF 1 (fun n => [ei n])
abbrev R2 : Rp (List (List Int)) := slP R1

theorem Tryz.info2 : (Tryz.prog.info? 2).map (fun i => (i.zero, i.size, i.bytes)) = some (some (.int .i64 0), 1, 8) := by kernel_rfl
theorem Tryz.info22 : (Tryz.prog.info? 22).map (fun i => (i.zero, i.size, i.bytes)) = some (some (.slice none 0 0), 1, 24) := by kernel_rfl

set_option maxHeartbeats 400000 in
theorem sz1 (v : Value) (xs : List Int) (left : Int) (w : World) (fp : List Nat) (hl : 0 ≤ left) (hl2 : left ≤ 1048576) (hR : R1 fp w [v] xs) :
    Calls Tryz.prog 9 #[v, .int .i64 left] w fun e w' => (∃ r : Int, e = .returned (.int .i64 r) ∧ (r = -1 ∨ (0 ≤ r ∧ r + xs.length = left))) ∧ w = w' := by
  obtain ⟨a, cap, rfl, h1, h2, -⟩ := slF1_open hR
  unfold maxLen at h2
  clear hR
  by_cases hlt : left - (xs.length : Int) < 0
  · go_enter Tryz.func9, Tryz.ntmps9
    go_wp2
    go_ret
    exact ⟨⟨-1, rfl, Or.inl rfl⟩, rfl⟩
  · go_enter Tryz.func9, Tryz.ntmps9
    go_wp2
    go_ret
    exact ⟨⟨left - xs.length, rfl, Or.inr ⟨by omega, by omega⟩⟩, rfl⟩

set_option maxHeartbeats 400000 in
theorem to1 (v : Value) (xs : List Int) (w : World) (fp : List Nat) (hl : xs.length ≤ 1048576) (hR : R1 fp w [v] xs) :
    Calls Tryz.prog 13 #[v] w fun e w' => (∃ v', e = .returned v' ∧ New R1 w w' v' xs) ∧ Upd [] w w' := by
  obtain ⟨i0, hi, hz0, hz1, hz2⟩ := info_parts Tryz.info2
  obtain ⟨a, cap, rfl, h1, h2, hc⟩ := slF1_open hR
  unfold maxLen at h2
  go_enter Tryz.func13, Tryz.ntmps13
  have hm1 : i0.bytes * xs.length ≤ 281474976710656 := by rw [hz2]; omega
  go_wp2_with (first
    | (at_make; refine wpList_make_full _ rfl _ _ 22 rfl w.heap.size 2 i0 (.int .i64 0) 1 Tryz.underlying22 hi hz0 hz1 .i64 .i64 _ _ xs.length rfl rfl rfl rfl hm1 (by unfold maxLen; omega) (Nat.le_refl _) ?_; intro w1 hown hgrow)
    | fail)
  rw [made_one _ rfl, fill_zero ei] at hown
  have hU : Upd [] w w1 := (Upd.refl _ _).grown hgrow (by simp)
  clear hgrow hm1
  go_loopw [4] (fun i wr => ∃ k : Nat, k ≤ xs.length ∧ i = .int .i64 k ∧ Upd [] w wr ∧
      wr.ownsRow w.heap.size 2 1 (.slice (some ⟨w.heap.size, 0, none⟩) xs.length xs.length) xs.length ((xs.take k).map ei ++ List.replicate (xs.length - k) (ei 0)))
    (fun i _ => xs.length - (intOf i).toNat)
  case atStart => exact ⟨0, Nat.zero_le _, rfl, hU, hown⟩
  case round =>
    obtain ⟨k, hk, rfl, hU, hown⟩ := hrel
    by_cases hlt : k < xs.length
    · obtain ⟨b, off, rfl, rfl, hb, hcx⟩ := hc k hlt
      have hcell : wr.cell? ⟨b, off + k, none⟩ = some (ei xs[k]) := (hU.below.cell hb).trans hcx
      have hcell2 : wr.cell? ⟨w.heap.size, k, none⟩ = some (ei 0) := by rw [hown.cellAt k (by omega), fill_at _ _ _ _ hlt]
      have hfr : wr.frozen? ⟨w.heap.size, k, none⟩ = false := hown.frozenAt k
      have hst := (hown.stored k (ei xs[k]))
      rw [set_fill _ _ _ _ hlt] at hst
      have HS := Lib.hid hst
      clear hst hown hc
      go_wp2
      go_roundw
      case rel => exact ⟨k + 1, by omega, by go_num, hU.setCell (Or.inl (Nat.le_refl _)) _, HS.out.1⟩
      case measure => simp [intOf]; omega
    · obtain rfl : k = xs.length := by omega
      clear hc
      go_wp2
      go_ret
      refine ⟨⟨_, rfl, New.ofOwns (e := 2) ?_⟩, hU⟩
      simpa using hown

set_option maxHeartbeats 400000 in
theorem eq1 (v1 v2 : Value) (xs ys : List Int) (w : World) (f1 f2 : List Nat) (h1 : R1 f1 w [v1] xs) (h2 : R1 f2 w [v2] ys) :
    Calls Tryz.prog 23 #[v1, v2] w fun e w' => e = .returned (.bool (xs == ys)) ∧ ∃ n, w' = w.drewN n := by
  obtain ⟨a1, c1, rfl, hl1, hm1, hc1⟩ := slF1_open h1
  obtain ⟨a2, c2, rfl, hl2, hm2, hc2⟩ := slF1_open h2
  unfold maxLen at hm1 hm2
  clear h1 h2
  by_cases hl : xs.length = ys.length
  · have hres : (xs == ys) = (xs.drop 0 == ys.drop 0) := rfl
    have HL := Lib.hid hl
    have hle : xs.length ≤ ys.length := by omega
    have hbe : ((xs.length : Int) != (ys.length : Int)) = false := by rw [hl]; simp
    have HR := Lib.hid hres
    clear hl hres
    go_enter Tryz.func23, Tryz.ntmps23
    go_wp2
    go_loopw [5] (fun i wr => ∃ k n : Nat, k ≤ xs.length ∧ i = .int .i64 k ∧ wr = w.drewN n ∧ (xs.drop k == ys.drop k) = (xs == ys)) (fun i _ => xs.length - (intOf i).toNat)
    case atStart => exact ⟨0, 0, Nat.zero_le _, rfl, rfl, HR.out.symm⟩
    case round =>
      obtain ⟨k, n, hk, rfl, rfl, hF⟩ := hrel
      by_cases hlt : k < xs.length
      · obtain ⟨b1, o1, rfl, -, -, hcell1⟩ := hc1 k hlt
        obtain ⟨b2, o2, rfl, -, -, hcell2⟩ := hc2 k (by omega)
        have hlt2 : k < ys.length := by omega
        have HF := Lib.hid hF
        clear hF hc1 hc2
        by_cases hx : xs[k] = ys[k]
        · have hne : (xs[k] != ys[k]) = false := by simp [hx]
          have HX := Lib.hid hx
          clear hx
          go_wp2
          go_quiet (fail)
          go_wp2
          go_roundw
          case rel => exact ⟨k+1, _, by omega, by go_num, rfl, by rw [← HF.out, drop_step xs ys k hlt hlt2]; simp [HX.out]⟩
          case measure => simp [intOf]; omega
        · have hne : (xs[k] != ys[k]) = true := by simp [hx]
          clear hx
          go_wp2
          go_quiet (fail)
          go_wp2
          go_ret
          exact ⟨by rw [← HF.out, drop_step xs ys k hlt hlt2]; simp at hne; simp [hne], _, drewN_add _ _ _⟩
      · have hge : xs.length ≤ k := by omega
        have HF := Lib.hid hF
        clear hF hc1 hc2
        go_wp2
        go_ret
        exact ⟨by rw [← HF.out, List.drop_of_length_le hge, List.drop_of_length_le (by have := HL.out; omega)]; rfl, _, rfl⟩
  · have hbe : ¬ ((xs.length : Int) != (ys.length : Int)) = false := by simp; omega
    have hne : (xs == ys) = false := by
      rw [beq_eq_false_iff_ne]; intro h; exact hl (by rw [h])
    have HN := Lib.hid hne
    clear hl hne
    go_enter Tryz.func23, Tryz.ntmps23
    go_wp2
    go_ret
    exact ⟨by rw [HN.out]; rfl, 0, rfl⟩

theorem R1k : Kept R1 := slF_kept _ _
theorem R2k : Kept R2 := slP_kept R1k

/-- the rows of a matrix, numbered through. -/
def mk2 : Int → List (List Int) → List (List Int)
  | _, [] => []
  | k, r :: rs => upFrom k r.length :: mk2 (k + r.length) rs
def tot (xss : List (List Int)) : Int := (xss.map (fun r => (r.length : Int))).sum
@[simp] theorem mk2_length (k : Int) (xss : List (List Int)) : (mk2 k xss).length = xss.length := by
  induction xss generalizing k with
  | nil => rfl
  | cons r rs ih => simp [mk2, ih]
theorem tot_nonneg (xss : List (List Int)) : 0 ≤ tot xss := by
  unfold tot; induction xss with
  | nil => simp
  | cons r rs ih => simp only [List.map_cons, List.sum_cons]; omega
theorem tot_snoc (xss : List (List Int)) (k : Nat) (h : k < xss.length) : tot (xss.take (k + 1)) = tot (xss.take k) + xss[k].length := by
  unfold tot; rw [List.take_succ_eq_append_getElem h, List.map_append, List.sum_append]; simp
theorem tot_take_le (xss : List (List Int)) (k : Nat) : tot (xss.take k) ≤ tot xss := by
  conv => rhs; rw [← List.take_append_drop k xss]
  have := tot_nonneg (xss.drop k)
  unfold tot at *; simp only [List.map_append, List.sum_append]; omega
theorem mk2_append (k : Int) (xs ys : List (List Int)) : mk2 k (xs ++ ys) = mk2 k xs ++ mk2 (k + tot xs) ys := by
  induction xs generalizing k with
  | nil => simp [mk2, tot]
  | cons r rs ih => simp only [List.cons_append, mk2, ih, tot, List.map_cons, List.sum_cons, Int.add_assoc]
theorem mk2_set (xss : List (List Int)) (k0 : Int) (k : Nat) (hk : k < xss.length) :
    (mk2 k0 (xss.take k) ++ xss.drop k).set k (upFrom (k0 + tot (xss.take k)) xss[k].length) = mk2 k0 (xss.take (k + 1)) ++ xss.drop (k + 1) := by
  have hl : (mk2 k0 (xss.take k)).length = k := by simp; omega
  rw [List.set_append_right _ _ (by omega), hl, Nat.sub_self, List.drop_eq_getElem_cons hk, List.set_cons_zero, List.take_succ_eq_append_getElem hk, mk2_append]
  simp [mk2]
theorem mk2_get (xss : List (List Int)) (k0 : Int) (k : Nat) (hk : k < xss.length) :
    (mk2 k0 xss)[k]'(by simpa using hk) = upFrom (k0 + tot (xss.take k)) xss[k].length := by
  have h : (mk2 k0 xss)[k]? = some (upFrom (k0 + tot (xss.take k)) xss[k].length) := by
    conv => lhs; rw [← List.take_append_drop k xss, mk2_append, List.drop_eq_getElem_cons hk, mk2]
    rw [List.getElem?_append_right (by simp; omega)]
    simp [Nat.min_eq_left (Nat.le_of_lt hk)]
  exact Option.some.inj ((List.getElem?_eq_getElem _).symm.trans h)

end Go.Proofs.YtnfghgaadnobbaaGreatDoor
