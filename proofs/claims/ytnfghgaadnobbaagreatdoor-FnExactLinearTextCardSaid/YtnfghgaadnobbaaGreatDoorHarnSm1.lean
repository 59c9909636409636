/-
  Slices of summands: readings, and what the laws' helper functions return and make.
-/
import Derived.Test.YtnfghgaadnobbaaGreatDoorHarnSm
import Derived.Deep.DeepCutAuto
namespace Go.Proofs.YtnfghgaadnobbaaGreatDoor
open Go.RowKit


abbrev R_Sm1 : Rp (List Sm) := slQ 5 R_Sm
theorem R_Sm1k : Kept R_Sm1 := slQ_kept R_Smk
def szF_Sm1 (xs : List Sm) : Int := xs.length + (xs.map szF_Sm).sum
def mkF_Sm1 (xs : List Sm) : Int := (xs.map mkF_Sm).sum
def Sm1Ok (xs : List Sm) : Prop := ∀ x ∈ xs, SmOk x
theorem szF_Sm1_sum (xs : List Sm) : 0 ≤ (xs.map szF_Sm).sum := by
  induction xs with
  | nil => simp
  | cons r rs ih => simp only [List.map_cons, List.sum_cons]; have := szF_Sm_nonneg r; omega
theorem szF_Sm1_nonneg (xs : List Sm) : 0 ≤ szF_Sm1 xs := by have := szF_Sm1_sum xs; unfold szF_Sm1; omega
theorem szF_Sm1_snoc (xs : List Sm) (k : Nat) (h : k < xs.length) : ((xs.take (k + 1)).map szF_Sm).sum = ((xs.take k).map szF_Sm).sum + szF_Sm xs[k] := by
  rw [List.take_succ_eq_append_getElem h, List.map_append, List.sum_append]; simp
theorem szF_Sm1_take (xs : List Sm) (k : Nat) : ((xs.take k).map szF_Sm).sum ≤ (xs.map szF_Sm).sum := by
  have h := szF_Sm1_sum (xs.drop k)
  conv => rhs; rw [← List.take_append_drop k xs]
  rw [List.map_append, List.sum_append]; omega
theorem mkF_Sm1_nonneg (xs : List Sm) : 0 ≤ mkF_Sm1 xs := by
  unfold mkF_Sm1; induction xs with
  | nil => simp
  | cons r rs ih => simp only [List.map_cons, List.sum_cons]; have := mkF_Sm_nonneg r; omega
theorem mkF_Sm1_le (xs : List Sm) : mkF_Sm1 xs ≤ 16 * szF_Sm1 xs := by
  unfold mkF_Sm1 szF_Sm1; induction xs with
  | nil => simp
  | cons r rs ih => simp only [List.map_cons, List.sum_cons, List.length_cons]; have := mkF_Sm_le r; omega
theorem mkF_Sm1_snoc (xs : List Sm) (k : Nat) (h : k < xs.length) : mkF_Sm1 (xs.take (k + 1)) = mkF_Sm1 (xs.take k) + mkF_Sm xs[k] := by
  unfold mkF_Sm1; rw [List.take_succ_eq_append_getElem h, List.map_append, List.sum_append]; simp
theorem mkF_Sm1_take (xs : List Sm) (k : Nat) : mkF_Sm1 (xs.take k) ≤ mkF_Sm1 xs := by
  have h := mkF_Sm1_nonneg (xs.drop k)
  conv => rhs; rw [← List.take_append_drop k xs]
  unfold mkF_Sm1 at *; rw [List.map_append, List.sum_append]; omega
def up_Sm (k : Int) (x : Sm) : Sm := ⟨up_I1 (k) x.sums, up_T1 (k + mkF_I1 x.sums) x.guard, mtx (k + mkF_I1 x.sums + mkF_T1 x.guard), mkd_T2 (k + mkF_I1 x.sums + mkF_T1 x.guard + 1) x.args, mkd_T2 (k + mkF_I1 x.sums + mkF_T1 x.guard + 1 + mkF_T2 x.args) x.next⟩
def mkd_Sm1 : Int → List Sm → List Sm
  | _, [] => []
  | k, r :: rs => up_Sm k r :: mkd_Sm1 (k + mkF_Sm r) rs
@[simp] theorem mkd_Sm1_length (k : Int) (xss : List Sm) : (mkd_Sm1 k xss).length = xss.length := by
  induction xss generalizing k with
  | nil => rfl
  | cons r rs ih => simp [mkd_Sm1, ih]
theorem mkd_Sm1_append (k : Int) (xs ys : List Sm) : mkd_Sm1 k (xs ++ ys) = mkd_Sm1 k xs ++ mkd_Sm1 (k + mkF_Sm1 xs) ys := by
  induction xs generalizing k with
  | nil => simp [mkd_Sm1, mkF_Sm1]
  | cons r rs ih => simp only [List.cons_append, mkd_Sm1, ih, mkF_Sm1, List.map_cons, List.sum_cons, Int.add_assoc]
theorem mkd_Sm1_set (xss : List Sm) (k0 : Int) (k : Nat) (hk : k < xss.length) :
    (mkd_Sm1 k0 (xss.take k) ++ xss.drop k).set k (up_Sm (k0 + mkF_Sm1 (xss.take k)) xss[k]) = mkd_Sm1 k0 (xss.take (k + 1)) ++ xss.drop (k + 1) := by
  have hl : (mkd_Sm1 k0 (xss.take k)).length = k := by simp; omega
  rw [List.set_append_right _ _ (by omega), hl, Nat.sub_self, List.drop_eq_getElem_cons hk, List.set_cons_zero, List.take_succ_eq_append_getElem hk, mkd_Sm1_append]
  simp [mkd_Sm1]
theorem mkd_Sm1_get (xss : List Sm) (k0 : Int) (k : Nat) (hk : k < xss.length) :
    (mkd_Sm1 k0 xss)[k]'(by simpa using hk) = up_Sm (k0 + mkF_Sm1 (xss.take k)) xss[k] := by
  have h : (mkd_Sm1 k0 xss)[k]? = some (up_Sm (k0 + mkF_Sm1 (xss.take k)) xss[k]) := by
    conv => lhs; rw [← List.take_append_drop k xss, mkd_Sm1_append, List.drop_eq_getElem_cons hk, mkd_Sm1]
    rw [List.getElem?_append_right (by simp; omega)]
    simp [Nat.min_eq_left (Nat.le_of_lt hk)]
  exact Option.some.inj ((List.getElem?_eq_getElem _).symm.trans h)

set_option maxRecDepth 20000 in
set_option maxHeartbeats 1600000 in
theorem sz_Sm1 (v : Value) (xs : List Sm) (left : Int) (w : World) (fp : List Nat) (hl : 0 ≤ left) (hl2 : left ≤ 1048576) (hR : R_Sm1 fp w [v] xs) (hS : Sm1Ok xs) :
    Calls Tryz.prog 10 #[v, .int .i64 left] w fun e w' => (∃ r : Int, e = .returned (.int .i64 r) ∧ (r = -1 ∨ (0 ≤ r ∧ r + szF_Sm1 xs = left))) ∧ Upd [] w w' := by
  obtain ⟨a, cap, rfl, h1, h2, hc⟩ := slQ_open hR
  unfold maxLen at h2
  have HS := Lib.hid hS
  have HC := Lib.hid hc
  clear hR hS hc
  by_cases hlt : left - (xs.length : Int) < 0
  · go_enter Tryz.func10, Tryz.ntmps10
    go_wp2_with fail
    go_ret
    exact ⟨⟨-1, rfl, Or.inl rfl⟩, Upd.refl _ _⟩
  · have hge : 0 ≤ left - (xs.length : Int) := by omega
    clear hlt
    go_enter Tryz.func10, Tryz.ntmps10
    go_wp2_with fail
    go_loopw [1, 5] (fun kk i wr => ∃ (k : Nat) (l : Int), k ≤ xs.length ∧ i = .int .i64 k ∧ kk = .int .i64 l ∧ 0 ≤ l ∧ l ≤ 1048576 ∧ Hid (l + xs.length + ((xs.take k).map szF_Sm).sum = left) ∧ Hid (Upd [] w wr)) (fun _ i _ => xs.length - (intOf i).toNat)
    case atStart => exact ⟨0, _, Nat.zero_le _, rfl, rfl, hge, by omega, Lib.hid (by simp), Lib.hid (Upd.refl _ _)⟩
    case round =>
      obtain ⟨wo, rfl⟩ : ∃ wo : World, wo = wr := ⟨_, rfl⟩
      obtain ⟨k, l, hk, rfl, rfl, hl0, hl9, HL, HU⟩ := hrel
      by_cases hlt : k < xs.length
      · obtain ⟨b, off, u, f, rfl, -, -, -, hcell, -, hr⟩ := HC.out k hlt
        have HR := Lib.hid (R_Smk.upd hr HU.out (by simp))
        obtain ⟨v0, v1, v3, v4, f0, f1, f3, f4, rfl, -, -, -, -, -⟩ := hr
        have p0 := HU.out.keep (hcell 0 _ rfl)
        have p1 := HU.out.keep (hcell 1 _ rfl)
        have p2 := HU.out.keep (hcell 2 _ rfl)
        have p3 := HU.out.keep (hcell 3 _ rfl)
        have p4 := HU.out.keep (hcell 4 _ rfl)
        simp only [Nat.add_zero] at p0
        have HT := Lib.hid (szF_Sm1_snoc xs k hlt)
        have HO := Lib.hid (HS.out xs[k] (List.getElem_mem hlt))
        clear hcell
        generalize hx : xs[k] = x at *
        clear hx
        have S1 := Lib.hid (sz_Sm _ x l wo f hl0 hl9 HR.out HO.out)
        have hzz := szF_Sm_nonneg x
        generalize szF_Sm x = zz at *
        go_wp2_with fail
        refine S1.out.mono ?_
        rintro e w1 ⟨⟨r, rfl, hr2⟩, hu⟩
        have HU1 := Lib.hid (HU.out.trans hu)
        clear S1 hu
        rcases hr2 with rfl | ⟨hr2, hr3⟩
        · go_wp2_with fail
          go_ret
          exact ⟨⟨-1, rfl, Or.inl rfl⟩, HU1.out⟩
        · have H3 := Lib.hid hr3
          have hr4 : r ≤ 1048576 := by omega
          clear hr3
          go_wp2_with fail
          go_roundw
          case rel => exact ⟨k + 1, r, by omega, by go_num, rfl, hr2, hr4, Lib.hid (by have := H3.out; have := HL.out; rw [HT.out]; omega), HU1⟩
          case measure => simp [intOf]; omega
      · obtain rfl : k = xs.length := by omega
        go_wp2_with fail
        go_ret
        exact ⟨⟨l, rfl, Or.inr ⟨hl0, by have := HL.out; rw [List.take_length] at this; unfold szF_Sm1; omega⟩⟩, HU.out⟩

theorem Tryz.infoSm : (Tryz.prog.info? 48).map (fun i => (i.zero, i.size, i.bytes)) = some (some (.agg #[.slice none 0 0, .slice none 0 0, .string ⟨#[]⟩, .slice none 0 0, .slice none 0 0]), 5, 112) := by kernel_rfl
set_option maxRecDepth 20000 in
set_option maxHeartbeats 2000000 in
theorem to_Sm1 (v : Value) (xs : List Sm) (w : World) (fp : List Nat) (hl : szF_Sm1 xs ≤ 1048576) (hR : R_Sm1 fp w [v] xs) :
    Calls Tryz.prog 14 #[v] w fun e w' => (∃ v', e = .returned v' ∧ New R_Sm1 w w' v' xs) ∧ Upd [] w w' := by
  obtain ⟨i0, hi, hz0, hz1, hz2⟩ := info_parts Tryz.infoSm
  obtain ⟨a, cap, rfl, h1, h2, hc⟩ := slQ_open hR
  unfold maxLen at h2
  have htn := szF_Sm1_sum xs
  unfold szF_Sm1 at hl
  have HC := Lib.hid hc
  clear hR hc
  have hm1 : i0.bytes * xs.length ≤ 281474976710656 := by rw [hz2]; omega
  go_enter Tryz.func14, Tryz.ntmps14
  go_wp2_with (first
    | (at_make; refine wpList_make_full _ rfl _ _ 28 rfl w.heap.size 48 i0 (.agg #[.slice none 0 0, .slice none 0 0, .string ⟨#[]⟩, .slice none 0 0, .slice none 0 0]) 5 Tryz.underlying28 hi hz0 hz1 .i64 .i64 _ _ xs.length rfl rfl rfl rfl hm1 (by unfold maxLen; omega) (Nat.le_refl _) ?_; intro w1 hown hgrow)
    | fail)
  have hmd := made_Q ([.slice none 0 0, .slice none 0 0, .string ⟨#[]⟩, .slice none 0 0, .slice none 0 0] : List Value) (n := 5) rfl (by decide) xs.length
  rw [hmd] at hown
  have hsz : w.heap.size < w1.heap.size := hown.lt w.heap.size rfl |>.2
  have hU : Upd [] w w1 := (Upd.refl _ _).grown hgrow (by simp)
  clear hgrow hm1 hmd
  go_loopw [4] (fun i wr => ∃ (k : Nat) (us : List (List Value)), k ≤ xs.length ∧ i = .int .i64 k ∧ Hid (Upd [] w wr) ∧ w.heap.size < wr.heap.size ∧
      Hid (wr.ownsRow w.heap.size 48 5 (.slice (some ⟨w.heap.size, 0, none⟩) xs.length xs.length) xs.length (us.flatten ++ (List.replicate (xs.length - k) ([.slice none 0 0, .slice none 0 0, .string ⟨#[]⟩, .slice none 0 0, .slice none 0 0] : List Value)).flatten)) ∧
      Hid (RowsQ 5 R_Sm w.heap.size [w.heap.size] wr us (xs.take k)))
    (fun i _ => xs.length - (intOf i).toNat)
  case atStart => exact ⟨0, [], Nat.zero_le _, rfl, Lib.hid hU, hsz, Lib.hid (by simpa using hown), Lib.hid (RowsQ.nil _ _ _ _ _)⟩
  case round =>
    clear hown hU hsz
    obtain ⟨wo, rfl⟩ : ∃ wo : World, wo = wr := ⟨_, rfl⟩
    obtain ⟨k, us, hk, rfl, HU, hsz, HO, HW⟩ := hrel
    have hlu : us.length = k := by have := HW.out.length; simp at this; omega
    by_cases hlt : k < xs.length
    · obtain ⟨b, off, u, f, rfl, -, -, -, hcell, -, hr⟩ := HC.out k hlt
      have HR := Lib.hid (R_Smk.upd hr HU.out (by simp))
      obtain ⟨v0, v1, v3, v4, f0, f1, f3, f4, rfl, -, -, -, -, -⟩ := hr
      have p0 := HU.out.keep (hcell 0 _ rfl)
      have p1 := HU.out.keep (hcell 1 _ rfl)
      have p2 := HU.out.keep (hcell 2 _ rfl)
      have p3 := HU.out.keep (hcell 3 _ rfl)
      have p4 := HU.out.keep (hcell 4 _ rfl)
      simp only [Nat.add_zero] at p0
      have hxl : szF_Sm xs[k] ≤ 1048576 := by
        have h1 := szF_Sm1_snoc xs k hlt
        have h2 := szF_Sm1_take xs (k + 1)
        have h3 := szF_Sm1_sum (xs.take k)
        omega
      have HTK := Lib.hid (List.take_succ_eq_append_getElem hlt)
      have HLU := Lib.hid hlu
      clear hcell hlu
      generalize hx : xs[k] = x at *
      clear hx
      have S1 := Lib.hid (to_Sm _ x wo f hxl HR.out)
      clear hxl
      go_wp2_with fail
      refine S1.out.mono ?_
      rintro e w2 ⟨⟨u2, rfl, hlen, hone, hnew⟩, hu2⟩
      have hown2 := ownsRow_upd HO.out hu2
      have hrep : (List.replicate (xs.length - k) ([.slice none 0 0, .slice none 0 0, .string ⟨#[]⟩, .slice none 0 0, .slice none 0 0] : List Value)).flatten.length = (xs.length - k) * 5 := by
        rw [flat_len (n := 5) (by intro y hy; rw [(List.mem_replicate.1 hy).2]; rfl)]; simp
      have hfl : us.flatten.length = k * 5 := by rw [flat_len HW.out.each, HLU.out]
      have hth : w2.there w.heap.size (k * 5) u2.toArray.size := fun j hj => by
        have hj' : j < 5 := by simpa [hlen] using hj
        refine ⟨?_, hown2.frozenAt _⟩
        rw [hown2.cellAt (k * 5 + j) (by omega), List.getElem?_eq_getElem (by rw [List.length_append, hfl, hrep]; omega)]; rfl
      have hszz : (Tryz.prog.info? 48).map (·.size) = some u2.toArray.size := by rw [Sm_size]; simp [hlen]
      have hrun := run_storeCells_cells (P := Tryz.prog) w.heap.size (k * 5) u2 0 w2 (fun j hj => by simpa using (hth j (by simpa using hj)).1) (fun j hj => by simpa using (hth j (by simpa using hj)).2) (fun v hv => (Array.all_eq_true_iff_forall_mem.1 hone) v (by simpa using hv))
      simp only [Nat.add_zero] at hrun
      have hst := ownsRow_setCells u2 (k * 5) hown2 (by rw [hlen]; omega)
      rw [show xs.length - k = (xs.length - (k + 1)) + 1 by omega, ← HLU.out, filled_set us ([.slice none 0 0, .slice none 0 0, .string ⟨#[]⟩, .slice none 0 0, .slice none 0 0] : List Value) _ 5 rfl HW.out.each u2 hlen, HLU.out] at hst
      have hw3 : Upd [w.heap.size] w2 (w2.setCells w.heap.size (k * 5) u2) := upd_setCells _ (Or.inr (by simp)) _ _ (Upd.refl _ _)
      have hrows2 := (HW.out.push R_Smk hu2 hnew hlen (by omega) (by simpa using hsz)).upd R_Smk hw3 (by simp)
      rw [← HTK.out] at hrows2
      have hU2 : Upd [] w (w2.setCells w.heap.size (k * 5) u2) := upd_setCells _ (Or.inl (Nat.le_refl _)) _ _ (HU.out.trans hu2)
      have hsz2 : w.heap.size < (w2.setCells w.heap.size (k * 5) u2).heap.size := by have := hu2.size; have := hw3.size; omega
      have HS := Lib.hid (And.intro hst (And.intro hrows2 hU2))
      clear hown2 hrep hfl hst hw3 hrows2 hU2 hnew hu2 S1 HO HW HU
      clear hth hszz hone
      go_wp2_with fail
      go_roundw
      case rel => exact ⟨k + 1, us ++ [u2], by omega, by go_num, Lib.hid HS.out.2.2, hsz2, Lib.hid HS.out.1, Lib.hid HS.out.2.1⟩
      case measure => simp [intOf]; omega
    · obtain rfl : k = xs.length := by omega
      go_wp2_with fail
      go_ret
      have hrows := HW.out
      have hown := HO.out
      rw [List.take_length] at hrows
      refine ⟨⟨_, rfl, hrows.new (e := 48) (by simpa using hown) (by simp [Value.ownBlock]) (Nat.le_refl _)⟩, HU.out⟩

set_option maxRecDepth 20000 in
set_option maxHeartbeats 2000000 in
theorem eq_Sm1 (v1 v2 : Value) (xs : List Sm) (w : World) (fp fp2 : List Nat) (h1 : R_Sm1 fp w [v1] xs) (h2 : R_Sm1 fp2 w [v2] xs) :
    Calls Tryz.prog 24 #[v1, v2] w fun e w' => e = .returned (.bool true) ∧ Upd [] w w' := by
  obtain ⟨a1, c1, rfl, hl1, hm1, hc1⟩ := slQ_open h1
  obtain ⟨a2, c2, rfl, hl2, hm2, hc2⟩ := slQ_open h2
  unfold maxLen at hm1 hm2
  have HC1 := Lib.hid hc1
  have HC2 := Lib.hid hc2
  have hbe : ((xs.length : Int) != (xs.length : Int)) = false := by simp
  clear h1 h2 hc1 hc2
  go_enter Tryz.func24, Tryz.ntmps24
  go_wp2_with fail
  go_loopw [5] (fun i wr => ∃ k : Nat, k ≤ xs.length ∧ i = .int .i64 k ∧ Hid (Upd [] w wr)) (fun i _ => xs.length - (intOf i).toNat)
  case atStart => exact ⟨0, Nat.zero_le _, rfl, Lib.hid (Upd.refl _ _)⟩
  case round =>
    obtain ⟨wo, rfl⟩ : ∃ wo : World, wo = wr := ⟨_, rfl⟩
    obtain ⟨k, hk, rfl, HU⟩ := hrel
    by_cases hlt : k < xs.length
    · obtain ⟨b1, o1, u, f, rfl, -, -, -, hcell, -, hr⟩ := HC1.out k hlt
      obtain ⟨b2, o2, u', f', rfl, -, -, -, hcell2, -, hr2⟩ := HC2.out k hlt
      have HR := Lib.hid (R_Smk.drewN (R_Smk.upd hr HU.out (by simp)))
      have HR2 := Lib.hid (R_Smk.drewN (R_Smk.upd hr2 HU.out (by simp)))
      obtain ⟨v0, v1, v3, v4, f0, f1, f3, f4, rfl, -, -, -, -, -⟩ := hr
      obtain ⟨u0, u1, u3, u4, _, _, _, _, rfl, -, -, -, -, -⟩ := hr2
      have p0 := HU.out.keep (hcell 0 _ rfl)
      have p1 := HU.out.keep (hcell 1 _ rfl)
      have p2 := HU.out.keep (hcell 2 _ rfl)
      have p3 := HU.out.keep (hcell 3 _ rfl)
      have p4 := HU.out.keep (hcell 4 _ rfl)
      have q0 := HU.out.keep (hcell2 0 _ rfl)
      have q1 := HU.out.keep (hcell2 1 _ rfl)
      have q2 := HU.out.keep (hcell2 2 _ rfl)
      have q3 := HU.out.keep (hcell2 3 _ rfl)
      have q4 := HU.out.keep (hcell2 4 _ rfl)
      simp only [Nat.add_zero] at p0 q0
      clear hcell hcell2
      generalize hx : xs[k] = x at *
      clear hx
      have S1 := Lib.hid (fun W (hu : Upd [] wo W) => eq_Sm _ _ x W f f' (R_Smk.upd (HR.out 0) hu (by simp)) (R_Smk.upd (HR2.out 0) hu (by simp)))
      clear HR HR2
      obtain ⟨t2, ht2⟩ : ∃ t, t = es x.name := ⟨_, rfl⟩
      rw [← ht2] at p2 q2 S1
      clear ht2
      go_wp2_with fail
      go_region_held3 (fun w' => w'.cell? ⟨b1, o1 + k * 5, none⟩ = some (v0) ∧ w'.cell? ⟨b1, o1 + k * 5 + 1, none⟩ = some (v1) ∧ w'.cell? ⟨b1, o1 + k * 5 + 2, none⟩ = some (t2) ∧ w'.cell? ⟨b1, o1 + k * 5 + 3, none⟩ = some (v3) ∧ w'.cell? ⟨b1, o1 + k * 5 + 4, none⟩ = some (v4) ∧ w'.cell? ⟨b2, o2 + k * 5, none⟩ = some (u0) ∧ w'.cell? ⟨b2, o2 + k * 5 + 1, none⟩ = some (u1) ∧ w'.cell? ⟨b2, o2 + k * 5 + 2, none⟩ = some (t2) ∧ w'.cell? ⟨b2, o2 + k * 5 + 3, none⟩ = some (u3) ∧ w'.cell? ⟨b2, o2 + k * 5 + 4, none⟩ = some (u4)) (go_keep) (((with_reducible refine (S1.out _ (by repeat (first | exact Upd.refl _ _ | refine Upd.drew ?_ | refine Upd.drewN ?_ _))).mono ?_); rintro e w1 ⟨rfl, hu1⟩; have a0 := hu1.keep p0; have b0 := hu1.keep q0; have a1 := hu1.keep p1; have b1 := hu1.keep q1; have a2 := hu1.keep p2; have b2 := hu1.keep q2; have a3 := hu1.keep p3; have b3 := hu1.keep q3; have a4 := hu1.keep p4; have b4 := hu1.keep q4; skip))
      all_goals
        have HU1 := Lib.hid (HU.out.drew.trans hu1)
        clear hu1 HU
        go_wp2_with fail
        go_roundw
        case rel => exact ⟨k + 1, by omega, by go_num, HU1⟩
        case measure => simp [intOf]; omega
    · have hge : xs.length ≤ k := by omega
      go_wp2_with fail
      go_ret
      exact ⟨rfl, HU.out⟩

end Go.Proofs.YtnfghgaadnobbaaGreatDoor
