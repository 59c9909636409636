/-
  Lists of numbers and lists of expressions under the names that the printed texts want.
-/
import Derived.Test.YtnfghgaadnobbaaGreatDoorHarn
import Derived.Test.YtnfghgaadnobbaaGreatDoorHarnT2
namespace Go.Proofs.YtnfghgaadnobbaaGreatDoor
open Go.RowKit

abbrev R_I1 : Rp (List Int) := R1
theorem R_I1k : Kept R_I1 := R1k
def szF_I1 (x : List Int) : Int := x.length
def mkF_I1 (x : List Int) : Int := x.length
theorem szF_I1_nonneg (x : List Int) : 0 ≤ szF_I1 x := by unfold szF_I1; omega
theorem mkF_I1_nonneg (x : List Int) : 0 ≤ mkF_I1 x := by unfold mkF_I1; omega
theorem mkF_I1_le (x : List Int) : mkF_I1 x ≤ 16 * szF_I1 x := by unfold mkF_I1 szF_I1; omega
def up_I1 (k : Int) (r : List Int) : List Int := upFrom k r.length
def up_T1 (k : Int) (r : List Tm) : List Tm := upT k r.length
theorem sz_I1 (v : Value) (xs : List Int) (left : Int) (w : World) (fp : List Nat) (hl : 0 ≤ left) (hl2 : left ≤ 1048576) (hR : R_I1 fp w [v] xs) :
    Calls Tryz.prog 9 #[v, .int .i64 left] w fun e w' => (∃ r : Int, e = .returned (.int .i64 r) ∧ (r = -1 ∨ (0 ≤ r ∧ r + szF_I1 xs = left))) ∧ w = w' := sz1 v xs left w fp hl hl2 hR
theorem to_I1 (v : Value) (xs : List Int) (w : World) (fp : List Nat) (hl : szF_I1 xs ≤ 1048576) (hR : R_I1 fp w [v] xs) :
    Calls Tryz.prog 13 #[v] w fun e w' => (∃ v', e = .returned v' ∧ New R_I1 w w' v' xs) ∧ Upd [] w w' := to1 v xs w fp (by unfold szF_I1 at hl; omega) hR
theorem eq_I1 (v1 v2 : Value) (xs ys : List Int) (w : World) (f1 f2 : List Nat) (h1 : R_I1 f1 w [v1] xs) (h2 : R_I1 f2 w [v2] ys) :
    Calls Tryz.prog 23 #[v1, v2] w fun e w' => e = .returned (.bool (xs == ys)) ∧ Upd [] w w' := (eq1 v1 v2 xs ys w f1 f2 h1 h2).mono fun e w' ⟨h, hu⟩ => ⟨h, by obtain ⟨n, rfl⟩ := hu; exact (Upd.refl _ _).drewN n⟩
theorem szF_T2_snoc (xss : List (List Tm)) (k : Nat) (h : k < xss.length) : ((xss.take (k + 1)).map szF_T1).sum = ((xss.take k).map szF_T1).sum + szF_T1 xss[k] := by
  rw [List.take_succ_eq_append_getElem h, List.map_append, List.sum_append]; simp
theorem szF_T2_take (xss : List (List Tm)) (k : Nat) : ((xss.take k).map szF_T1).sum ≤ (xss.map szF_T1).sum := by
  have h := szF_T2_sum (xss.drop k)
  conv => rhs; rw [← List.take_append_drop k xss]
  rw [List.map_append, List.sum_append]; omega
theorem Tryz.infoTS : (Tryz.prog.info? 45).map (fun i => (i.zero, i.size, i.bytes)) = some (some (.slice none 0 0), 1, 24) := by kernel_rfl

set_option maxHeartbeats 400000 in
theorem sz_T2 (v : Value) (xs : List (List Tm)) (left : Int) (w : World) (fp : List Nat) (hl : 0 ≤ left) (hl2 : left ≤ 1048576) (hR : R_T2 fp w [v] xs) :
    Calls Tryz.prog 50 #[v, .int .i64 left] w fun e w' => (∃ r : Int, e = .returned (.int .i64 r) ∧ (r = -1 ∨ (0 ≤ r ∧ r + szF_T2 xs = left))) ∧ w = w' := by
  obtain ⟨a, cap, rfl, h1, h2, hc⟩ := slP_open hR
  unfold maxLen at h2
  clear hR
  by_cases hlt : left - (xs.length : Int) < 0
  · go_enter Tryz.func50, Tryz.ntmps50
    go_wp2
    go_ret
    exact ⟨⟨-1, rfl, Or.inl rfl⟩, rfl⟩
  · have hge : 0 ≤ left - (xs.length : Int) := by omega
    clear hlt
    go_enter Tryz.func50, Tryz.ntmps50
    go_wp2
    go_loop [1, 5] (fun kk i => ∃ (k : Nat) (l : Int), k ≤ xs.length ∧ i = .int .i64 k ∧ kk = .int .i64 l ∧ 0 ≤ l ∧ l + xs.length + ((xs.take k).map szF_T1).sum = left) (fun _ i => xs.length - (intOf i).toNat)
    case atStart => exact ⟨0, _, Nat.zero_le _, rfl, rfl, hge, by simp⟩
    case round =>
      obtain ⟨k, l, hk, rfl, rfl, hl0, hl1⟩ := hrel
      by_cases hlt : k < xs.length
      · obtain ⟨b, off, u, f, rfl, -, -, hcell, -, hr⟩ := hc k hlt
        have ht := szF_T2_sum (xs.take k)
        have ht2 := szF_T2_snoc xs k hlt
        have hb2 : l ≤ 1048576 := by omega
        have HT := Lib.hid ht2
        have HL := Lib.hid hl1
        clear hc ht2 hl1 ht
        go_wp2_with fail
        refine (sz_T1 u xs[k] _ _ f (by omega) (by omega) hr).mono ?_
        rintro e w1 ⟨⟨r, rfl, hr2⟩, rfl⟩
        clear hr
        rcases hr2 with rfl | ⟨hr2, hr3⟩
        · go_wp2_with fail
          go_ret
          exact ⟨⟨-1, rfl, Or.inl rfl⟩, rfl⟩
        · have H3 := Lib.hid hr3
          clear hr3
          go_wp2_with fail
          go_round
          case rel => exact ⟨k + 1, r, by omega, by go_num, rfl, hr2, by have := H3.out; have := HL.out; rw [HT.out]; omega⟩
          case measure => simp [intOf]; omega
      · obtain rfl : k = xs.length := by omega
        clear hc
        have HL := Lib.hid hl1
        clear hl1
        go_wp2
        go_ret
        exact ⟨⟨l, rfl, Or.inr ⟨hl0, by have := HL.out; rw [List.take_length] at this; unfold szF_T2; omega⟩⟩, rfl⟩

set_option maxHeartbeats 400000 in
theorem to_T2 (v : Value) (xs : List (List Tm)) (w : World) (fp : List Nat) (hl : szF_T2 xs ≤ 1048576) (hR : R_T2 fp w [v] xs) :
    Calls Tryz.prog 59 #[v] w fun e w' => (∃ v', e = .returned v' ∧ New R_T2 w w' v' xs) ∧ Upd [] w w' := by
  obtain ⟨i0, hi, hz0, hz1, hz2⟩ := info_parts Tryz.infoTS
  obtain ⟨a, cap, rfl, h1, h2, hc⟩ := slP_open hR
  unfold maxLen at h2
  have htn := szF_T2_sum xs
  unfold szF_T2 at hl
  go_enter Tryz.func59, Tryz.ntmps59
  have hm1 : i0.bytes * xs.length ≤ 281474976710656 := by rw [hz2]; omega
  go_wp2_with (first
    | (at_make; refine wpList_make_full _ rfl _ _ 46 rfl w.heap.size 45 i0 (.slice none 0 0) 1 Tryz.underlying46 hi hz0 hz1 .i64 .i64 _ _ xs.length rfl rfl rfl rfl hm1 (by unfold maxLen; omega) (Nat.le_refl _) ?_; intro w1 hown hgrow)
    | fail)
  rw [made_one _ rfl] at hown
  have hsz : w.heap.size < w1.heap.size := by
    have := hown.lt w.heap.size rfl
    omega
  have hU : Upd [] w w1 := (Upd.refl _ _).grown hgrow (by simp)
  clear hgrow hm1
  go_loopw [4] (fun i wr => ∃ (k : Nat) (us : List Value), k ≤ xs.length ∧ i = .int .i64 k ∧ Upd [] w wr ∧ w.heap.size < wr.heap.size ∧
      wr.ownsRow w.heap.size 45 1 (.slice (some ⟨w.heap.size, 0, none⟩) xs.length xs.length) xs.length (us ++ List.replicate (xs.length - k) (.slice none 0 0)) ∧
      Rows R_T1 w.heap.size [w.heap.size] wr us (xs.take k))
    (fun i _ => xs.length - (intOf i).toNat)
  case atStart => exact ⟨0, [], Nat.zero_le _, rfl, hU, hsz, by simpa using hown, Rows.nil _ _ _ _⟩
  case round =>
    obtain ⟨k, us, hk, rfl, hU, hsz, hown, hrows⟩ := hrel
    have hlu : us.length = k := by have := hrows.length; simp at this; omega
    by_cases hlt : k < xs.length
    · obtain ⟨b, off, u, f, rfl, -, hb, hcx, hf, hr⟩ := hc k hlt
      have hcell : wr.cell? ⟨b, off + k, none⟩ = some u := (hU.below.cell hb).trans hcx
      have hr' := R_T1k.upd hr hU (by simp)
      have hxl : szF_T1 xs[k] ≤ 1048576 := by
        have h1 := szF_T2_snoc xs k hlt
        have h2 := szF_T2_take xs (k + 1)
        have h3 := szF_T2_sum (xs.take k)
        omega
      clear hc hr hcx
      have HLU := Lib.hid hlu
      clear hlu
      go_wp2_with fail
      refine (to_T1 u xs[k] _ f hxl hr').mono ?_
      rintro e w2 ⟨⟨v', rfl, hn⟩, hu2⟩
      obtain ⟨a', c', rfl⟩ := hn.form
      have hown2 := hown.kept (row := none) ⟨hu2.os, hu2.tape, hu2.output, hu2.size, fun k hk _ => hu2.block k hk (by simp)⟩ (by cases hv : Value.ownBlock (.slice (some ⟨w.heap.size, 0, none⟩) xs.length xs.length) <;> simp)
      have hcell2 : w2.cell? ⟨w.heap.size, k, none⟩ = some (.slice none 0 0) := by
        rw [hown2.cellAt k (by omega), List.getElem?_append_right (by have := HLU.out; omega), HLU.out, Nat.sub_self, List.getElem?_replicate, if_pos (by omega)]
      have hfr : w2.frozen? ⟨w.heap.size, k, none⟩ = false := hown2.frozenAt k
      have hst := (hown2.stored k (.slice a' xs[k].length c')).1
      rw [List.set_append_right _ _ (by have := HLU.out; omega), HLU.out, Nat.sub_self, show xs.length - k = (xs.length - (k + 1)) + 1 from by omega, List.replicate_succ, List.set_cons_zero,
        show us ++ (.slice a' xs[k].length c') :: List.replicate (xs.length - (k + 1)) (Value.slice none 0 0) = (us ++ [(.slice a' xs[k].length c')]) ++ List.replicate (xs.length - (k + 1)) (Value.slice none 0 0) from by simp] at hst
      have hrows2 := (hrows.push R_T1k hu2 hn (by omega) (by simpa using hsz)).upd R_T1k (f := [w.heap.size]) (w1 := w2.setCell ⟨w.heap.size, k, none⟩ (.slice a' xs[k].length c')) ((Upd.refl _ _).setCell (by simp) _) (by simp)
      rw [← List.take_succ_eq_append_getElem hlt] at hrows2
      have hU2 : Upd [] w (w2.setCell ⟨w.heap.size, k, none⟩ (.slice a' xs[k].length c')) := (hU.trans hu2).setCell (by simp) _
      have hsz2 : w.heap.size < w2.heap.size := by have := hu2.size; omega
      clear hown hown2 hrows hn hu2 hU hr' hf HLU
      have HS := Lib.hid hst
      clear hst
      go_wp2_with fail
      go_roundw
      case rel => exact ⟨k + 1, us ++ [.slice a' xs[k].length c'], by omega, by go_num, hU2, by simpa using hsz2, HS.out, hrows2⟩
      case measure => simp [intOf]; omega
    · obtain rfl : k = xs.length := by omega
      clear hc
      go_wp2
      go_ret
      rw [List.take_length] at hrows
      refine ⟨⟨_, rfl, hrows.new (e := 45) (by simpa using hown) (by simp [Value.ownBlock]) (Nat.le_refl _)⟩, hU⟩

end Go.Proofs.YtnfghgaadnobbaaGreatDoor
