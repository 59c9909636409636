/-
  The law FnTerms: the call returns true for every input, and writes nothing that was there.
-/
import Derived.Test.YtnioopbficcbeaaSubstW
import Derived.Test.YtnioopbficcbeaaFoldW
namespace Go.Proofs.Ytnioopbficcbeaa
open Go.RowKit

theorem foldRes_flat {x : Ex} (hok : okE x = true) (he : eOk (flatE x) = true) : foldRes (flatE x) = (flatE (foldE x), 0) := by
  obtain ⟨h1, h2⟩ := treeOf_ok _ he
  have := tree_inj h1 hok h2
  simp [foldRes, he, this]
theorem canonRes_flat {x : Ex} (hok : okE x = true) (he : eOk (flatE x) = true) : canonRes (flatE x) = (flatE (canonE x), 0) := by
  obtain ⟨h1, h2⟩ := treeOf_ok _ he
  have := tree_inj h1 hok h2
  simp [canonRes, he, this]
theorem okE_of_good {nv : Int} {x : Ex} (h : goodE nv x = true) : okE x = true := by
  unfold goodE at h; rw [Bool.and_eq_true] at h; exact h.1
theorem all_set {xs : List Int} {k : Nat} {y : Int} (h : xs.all isV = true) (hy : isV y = true) : (xs.set k y).all isV = true := by
  rw [List.all_eq_true] at h ⊢
  intro x hx
  rcases List.mem_or_eq_of_mem_set hx with h1 | rfl
  · exact h x h1
  · exact hy

set_option maxRecDepth 40000 in
set_option maxHeartbeats 4000000 in
theorem lawFnTerms (code more : List Int) (v vm : Value) (fc fm : List Nat) (w : World) (hR : R_B fc w [v] code) (hM : R_B fm w [vm] more) (hb : bytesOk code) (hbm : bytesOk more) :
    Calls Try.prog 6 #[v, vm] w fun e w' => e = .returned (.bool true) ∧ Upd [] w w' := by
  obtain ⟨i1, ki, kz0, kz1, kz2⟩ := info_parts Try.info2
  by_cases hlen : code.length ≤ 1048576 ∧ more.length ≤ 1048576
  · have S0 := Lib.hid (r8Long v vm code more w fc fm hR hM hlen)
    have S1 := Lib.hid (r8Terms v code w fc hR hb hlen.1)
    have HM := Lib.hid hM
    have HBM := Lib.hid hbm
    have hml := hlen.2
    clear hR hM hb hbm hlen
    go_enter Try.func6, Try.ntmps6
    go_wp2_with fail
    refine S0.out.mono ?_
    rintro e w1 ⟨rfl, rfl⟩
    clear S0
    go_wp2_with fail
    refine S1.out.mono ?_
    rintro e w1 ⟨⟨v1, v2, x, y, rfl, hgx, hgy, hlx, hly, hn1, hn2⟩, hu1⟩
    have S2 := Lib.hid (r8Values vm more w1 fm (R_Bk.upd HM.out hu1 (by simp)) HBM.out hml)
    obtain ⟨a1, c1, rfl⟩ := hn1.form
    obtain ⟨a2, c2, rfl⟩ := hn2.form
    obtain ⟨f1, h1, -, -⟩ := hn1
    obtain ⟨f2, h2, -, -⟩ := hn2
    have HU1 := Lib.hid hu1
    have H1 := Lib.hid h1
    have H2 := Lib.hid h2
    have HGX := Lib.hid hgx
    have HGY := Lib.hid hgy
    clear S1 hu1 h1 h2 hgx hgy
    go_wp2_with fail
    refine S2.out.mono ?_
    rintro e w2 ⟨⟨v3, vals, rfl, hvl, hva, hn3⟩, hu2⟩
    obtain ⟨a3, c3, rfl⟩ := hn3.form
    obtain ⟨f3, h3, -, -⟩ := hn3
    have HU2 := Lib.hid (HU1.out.trans hu2)
    have P1 := Lib.hid (R_T1k.upd H1.out hu2 (by simp))
    have P2 := Lib.hid (R_T1k.upd H2.out hu2 (by simp))
    have P3 := Lib.hid h3
    have HVA := Lib.hid hva
    have HVL := Lib.hid hvl
    have hokx := okE_of_good HGX.out
    have hoky := okE_of_good HGY.out
    have hex := eOk_of_good HGX.out (by omega) (by omega)
    have hey := eOk_of_good HGY.out (by omega) (by omega)
    have hgf := foldE_good 3 x HGX.out
    have hfl := foldE_len x
    have hvf := valE_fold vals 3 x HGX.out
    have hby := valE_bd vals 3 (fun k => vals_bd hva k) y HGY.out
    have S3 := Lib.hid (fun (w' : World) (hu : Upd [] w2 w') => evalI x vals _ _ w' f1 f3 (by rw [hvl]; exact HGX.out) (by omega) (by omega) hva (R_T1k.upd P1.out hu (by simp)) (R1k.upd P3.out hu (by simp)))
    have S4 := Lib.hid (fun (w' : World) (hu : Upd [] w2 w') => evalI y vals _ _ w' f2 f3 (by rw [hvl]; exact HGY.out) (by omega) (by omega) hva (R_T1k.upd P2.out hu (by simp)) (R1k.upd P3.out hu (by simp)))
    have S5 := fun (w' : World) (hu : Upd [] w2 w') => fold_i (flatE x) _ w' f1 (R_T1k.upd P1.out hu (by simp))
    rw [foldRes_flat hokx hex] at S5
    have HS5 := Lib.hid S5
    have S6 := fun (w' : World) (hu : Upd [] w2 w') (v6 : Value) (f6 : List Nat) (h6 : R_T1 f6 w' [v6] (flatE (foldE x))) => evalI (foldE x) vals v6 _ w' f6 f3 (by rw [hvl]; exact hgf) (by omega) (by omega) hva h6 (R1k.upd P3.out hu (by simp))
    rw [hvf] at S6
    have HS6 := Lib.hid S6
    have S7 := Lib.hid (fun (w' : World) (hu : Upd [] w2 w') => evalS x vals _ _ w' f1 f3 (by rw [hvl]; exact HGX.out) (by omega) (by omega) hva (R_T1k.upd P1.out hu (by simp)) (R1k.upd P3.out hu (by simp)))
    have S8 := Lib.hid (fun (w' : World) (hu : Upd [] w2 w') => r8At vm more 9 3 w' fm HBM.out (by omega) (by omega) (by omega) (by omega) (R_Bk.upd HM.out (HU2.out.trans hu) (by simp)))
    have S9 := Lib.hid (fun (w' : World) (hu : Upd [] w2 w') (k : Nat) (hk : k < 3) => substI x y k _ _ w' f1 f2 hex hey (by omega) (by omega) (by omega) (by omega) (R_T1k.upd P1.out hu (by simp)) (R_T1k.upd P2.out hu (by simp)))
    have S10 := fun (w' : World) (hu : Upd [] w2 w') (k : Nat) (hk : k < 3) (v6 : Value) (f6 : List Nat) (h60 : ¬ 60 < (replL k (flatE y) (flatE x)).length) (h6 : R_T1 f6 w' [v6] (replL k (flatE y) (flatE x))) =>
      evalI (subE k y x) vals v6 _ w' f6 f3 (by rw [hvl]; exact subE_good 3 k y HGY.out x HGX.out) (by omega) (by rw [flatE_sub 3 k y x HGX.out]; omega) hva (by rw [flatE_sub 3 k y x HGX.out]; exact h6) (R1k.upd P3.out hu (by simp))
    have HS10 := Lib.hid S10
    have S11 := Lib.hid (fun (w' : World) (hu : Upd [] w2 w') (k : Nat) (hk : k < 3) (v6 : Value) (f6 : List Nat) (h6 : R1 f6 w' [v6] (vals.set k (valE vals y))) =>
      evalI x (vals.set k (valE vals y)) _ v6 w' f1 f6 (by rw [List.length_set, hvl]; exact HGX.out) (by simp; omega) (by omega) (all_set hva (inB_mk hby)) (R_T1k.upd P1.out hu (by simp)) h6)
    have HEQ := Lib.hid (fun (k : Nat) (hk : k < 3) => valE_sub vals 3 k (by omega) y x HGX.out)
    generalize valE vals x = A at *
    generalize hB : valE vals y = B at *
    have HB := Lib.hid hB
    generalize hFX : (flatE x).length = X at *
    generalize hFY : (flatE y).length = Y at *
    generalize hVL : vals.length = V at *
    have HVV := Lib.hid hVL
    subst hvl
    clear S5 S6 S10 hokx hoky hex hey hgf hvf hby h3 hva hB hFX hFY hVL
    have HW2 := Lib.hid (Upd.refl [] w2)
    go_wp2_with fail
    refine (S3.out _ HW2.out).mono ?_
    rintro e w3 ⟨rfl, hu3⟩
    have HW3 := Lib.hid (HW2.out.trans hu3)
    clear S3 hu3 HW2
    go_wp2_with fail
    refine (S4.out _ HW3.out).mono ?_
    rintro e w4 ⟨rfl, hu4⟩
    have HW4 := Lib.hid (HW3.out.trans hu4)
    clear S4 hu4 HW3
    go_wp2_with fail
    refine (HS5.out _ HW4.out).mono ?_
    rintro e w5 ⟨⟨v5, rfl, hn5⟩, hu5⟩
    obtain ⟨a5, c5, rfl⟩ := hn5.form
    obtain ⟨f5, h5, -, -⟩ := hn5
    have HW5 := Lib.hid (HW4.out.trans hu5)
    have S6 := Lib.hid (HS6.out _ HW5.out _ _ h5)
    clear HS5 HS6 hu5 h5 HW4
    go_wp2_with fail
    refine S6.out.mono ?_
    rintro e w6 ⟨rfl, hu6⟩
    have HW6 := Lib.hid (HW5.out.trans hu6)
    clear S6 hu6 HW5
    go_wp2_with fail
    refine (S7.out _ HW6.out).mono ?_
    rintro e w7 ⟨rfl, rfl⟩
    clear S7
    go_wp2_with fail
    refine (S8.out _ HW6.out).mono ?_
    rintro e w7 ⟨⟨k0, rfl, hk0, hk1⟩, rfl⟩
    obtain ⟨k, rfl⟩ : ∃ k : Nat, k0 = k := ⟨k0.toNat, by omega⟩
    have hk : k < 3 := by omega
    clear S8
    go_wp2_with fail
    refine (S9.out _ HW6.out k hk).mono ?_
    rintro e w8 ⟨ho, hu8⟩
    have HW8 := Lib.hid (HW6.out.trans hu8)
    clear S9 hu8 HW6
    by_cases h60 : 60 < (replL k (flatE y) (flatE x)).length
    · rw [if_pos h60] at ho
      subst ho
      go_wp2_with fail
      go_ret
      exact ⟨rfl, HU2.out.trans HW8.out⟩
    · rw [if_neg h60] at ho
      obtain ⟨v8, rfl, hn8⟩ := ho
      obtain ⟨f8, h8, -, -⟩ := hn8
      have S10 := HS10.out _ HW8.out k hk _ _ h60 h8
      rw [HEQ.out k hk] at S10
      have HSA := Lib.hid S10
      obtain ⟨bv, ov, cv, hv, hv1, hv2, hv3, -⟩ := slF_src P3.out (by rw [HVV.out]; omega)
      simp only [Value.slice.injEq] at hv
      obtain ⟨rfl, -, rfl⟩ := hv
      unfold maxLen at hv2
      rw [HVV.out] at hv1
      clear HS10 h8 S10
      go_wp2_with fail
      refine HSA.out.mono ?_
      rintro e w9 ⟨rfl, hu9⟩
      have HW9 := Lib.hid (HW8.out.trans hu9)
      have hlit := World.ownsRow_lit (base := w9.heap.size) (e := 2) (size := 1) w9 #[] 0 (Nat.le_refl _) (by simp [maxLen]) (by simp)
      have hsz9 := HW9.out.size
      have hsrc : ∀ j u, (vals.flatMap fun n => [ei n])[j]? = some u → (w9.alloc (.cells #[] 2)).cell? ((⟨bv, ov, none⟩ : Addr).add j) = some u := by
        obtain ⟨bv', ov', cv', hv, -, -, -, g4⟩ := slF_src (R1k.upd P3.out (HW9.out.alloc (.cells #[] 2)) (by simp)) (by rw [HVV.out]; omega)
        simp only [Value.slice.injEq, Option.some.injEq, Addr.mk.injEq, and_true] at hv
        obtain ⟨⟨rfl, rfl⟩, -, rfl⟩ := hv
        exact g4
      have HSRC := Lib.hid hsrc
      have HONE := Lib.hid (show ∀ u ∈ (vals.flatMap fun n => [ei n]), u.oneCell' = true from fun u hu => by
        rw [flatMap_single, List.mem_map] at hu; obtain ⟨_, _, rfl⟩ := hu; rfl)
      have hv3' : (vals.flatMap fun n => [ei n]).length = 3 * 1 := by rw [hv3, HVV.out]
      clear HSA hu9 HW8 hsrc
      go_wp2_with (first
        | (at_builtin; refine wpList_append_tight _ rfl _ _ 34 rfl w9.heap.size 2 i1 (.int .i64 0) 1 8 Try.underlying34 ki kz0 kz1 kz2 rfl (by decide) _ _ _ rfl hlit ⟨bv, ov, none⟩ 3 c3 _ rfl hv3' HSRC.out HONE.out (by unfold maxLen; omega) (by omega) (by simp) ?_)
        | fail)
      intro v10 w10 hown10 hg10 ht10
      have hu10 : Upd [] w9 w10 := ((Upd.refl [] _).alloc _).grown hg10 (fun b hb => Or.inl ((hlit.lt b hb).1))
      have hn10 : New R1 w9 w10 v10 vals := by
        refine New.ofOwns (e := 2) (enc := ei) ?_
        rw [flatMap_single] at hown10
        rw [HVV.out]; simpa using hown10
      obtain ⟨f10, r10, o10, g10⟩ := hn10
      obtain ⟨b10, o10', c10, rfl, q1, q2, rfl, q3, q4, q5⟩ := slF1_cell r10 k (by rw [HVV.out]; exact hk)
      have q6 := o10.frozen (b := b10) (by simp) (o10' + k)
      have g10' := g10 b10 (by simp)
      rw [HVV.out] at q1 q5 r10
      have q5 := q5 B
      unfold maxLen at q2
      generalize vals[k] = z at q4
      have HW10 := Lib.hid ((HW9.out.trans hu10).setCell (p := ⟨b10, o10' + k, none⟩) (Or.inl (show w2.heap.size ≤ b10 by omega)) (ei B))
      have S12 := Lib.hid (S11.out _ HW10.out k hk _ _ q5)
      clear hown10 hg10 ht10 hu10 r10 o10 g10 q5 S11 hlit HW9 HSRC HONE
      rw [HVV.out]
      go_wp2_with fail
      refine S12.out.mono ?_
      rintro e w11 ⟨rfl, hu11⟩
      have HW11 := Lib.hid (HU2.out.trans (HW10.out.trans hu11))
      clear S12 hu11 HW10
      go_wp2_with fail
      go_ret
      exact ⟨rfl, HW11.out⟩
  · obtain ⟨a, cap, rfl, h1, h2, -⟩ := slF1_open hR
    obtain ⟨a', cap', rfl, h1', h2', -⟩ := slF1_open hM
    unfold maxLen at h2 h2'
    have S0 : Hid (Calls Try.prog 22 #[.slice a code.length cap, .slice a' more.length cap'] w fun e w' => e = .returned (.bool true) ∧ w = w') := Lib.hid (by
      clear hR hM hb hbm
      by_cases hc : code.length ≤ 1048576
      · have hm : ¬ more.length ≤ 1048576 := fun h => hlen ⟨hc, h⟩
        clear hlen
        go_enter Try.func22, Try.ntmps22
        go_wp2_with fail
        go_ret
        exact ⟨by first | (simp; omega) | simp | (simp [*]), rfl⟩
      · clear hlen
        go_enter Try.func22, Try.ntmps22
        go_wp2_with fail
        go_ret
        exact ⟨by first | (simp; omega) | simp | (simp [*]), rfl⟩)
    clear hR hM hb hbm hlen
    go_enter Try.func6, Try.ntmps6
    go_wp2_with fail
    refine S0.out.mono ?_
    rintro e w1 ⟨rfl, rfl⟩
    go_wp2_with fail
    go_ret
    exact ⟨rfl, Upd.refl _ _⟩

end Go.Proofs.Ytnioopbficcbeaa
