/-
  Canonical forms, the reference's side.
-/
import Derived.Test.YtnioopbficcbeaaCanonV
import Derived.Test.YtnioopbficcbeaaFoldS
namespace Go.Proofs.Ytnioopbficcbeaa
open Go.RowKit

theorem gt_kind {x1 x2 y1 y2 : Int} (z : Int) (h : ¬ x1 = y1) : decide ((if cmpT (x1, x2) (y1, y2) ≠ 0 then cmpT (x1, x2) (y1, y2) else z) > 0) = decide (y1 < x1) := by
  have h1 := cmpI_gt x1 y1
  have e : cmpT (x1, x2) (y1, y2) = cmpI x1 y1 := by simp only [cmpT]; rw [if_pos (h1.1.2 h)]
  rw [e, if_pos (h1.1.2 h), decide_eq_decide]; omega
theorem gt_val {x1 x2 y2 : Int} (z : Int) (h : ¬ x2 = y2) : decide ((if cmpT (x1, x2) (x1, y2) ≠ 0 then cmpT (x1, x2) (x1, y2) else z) > 0) = decide (y2 < x2) := by
  have h1 := cmpI_gt x2 y2
  have e : cmpT (x1, x2) (x1, y2) = cmpI x2 y2 := by simp [cmpT, cmpI]
  rw [e, if_pos (h1.1.2 h), decide_eq_decide]; omega

set_option maxRecDepth 20000 in
set_option maxHeartbeats 1000000 in
theorem l04Greater (v1 v2 : Value) (xs ys : List Tm) (w : World) (f1 f2 : List Nat) (h1 : R_T1 f1 w [v1] xs) (h2 : R_T1 f2 w [v2] ys) :
    Calls Try.prog 37 #[v1, v2] w fun e w' => e = .returned (.bool (gtL xs ys)) ∧ ∃ n, w' = w.drewN n := by
  obtain ⟨a1, c1, rfl, hl1, hm1, hc1⟩ := slF2_open h1
  obtain ⟨a2, c2, rfl, hl2, hm2, hc2⟩ := slF2_open h2
  unfold maxLen at hm1 hm2
  clear h1 h2
  by_cases hl : xs.length = ys.length
  · have hres : gtL xs ys = decide (cmpTL (xs.drop 0) (ys.drop 0) > 0) := by unfold gtL; rw [if_pos hl]; rfl
    have HL := Lib.hid hl
    have hbe : ((xs.length : Int) != (ys.length : Int)) = false := by rw [hl]; simp
    have HR := Lib.hid hres
    clear hl hres
    go_enter Try.func37, Try.ntmps37
    go_wp2_with fail
    go_loopw [5] (fun i wr => ∃ k n : Nat, k ≤ xs.length ∧ i = .int .i64 k ∧ wr = w.drewN n ∧ decide (cmpTL (xs.drop k) (ys.drop k) > 0) = gtL xs ys) (fun i _ => xs.length - (intOf i).toNat)
    case atStart => exact ⟨0, 0, Nat.zero_le _, rfl, rfl, HR.out.symm⟩
    case round =>
      obtain ⟨k, n, hk, rfl, hw, hF⟩ := hrel
      have HW := Lib.hid hw
      have HF := Lib.hid hF
      clear hF
      by_cases hlt : k < xs.length
      · have hlt2 : k < ys.length := by have := HL.out; omega
        obtain ⟨b1, o1, rfl, -, -, p1, p2⟩ := hc1 k hlt
        obtain ⟨b2, o2, rfl, -, -, q1, q2⟩ := hc2 k hlt2
        have hst := cmpTL_step xs ys k hlt hlt2
        have p1' : wr.cell? ⟨b1, o1 + k * 2, none⟩ = some (ei xs[k].1) := by rw [hw]; exact p1
        have p2' : wr.cell? ⟨b1, o1 + k * 2 + 1, none⟩ = some (ei xs[k].2) := by rw [hw]; exact p2
        have q1' : wr.cell? ⟨b2, o2 + k * 2, none⟩ = some (ei ys[k].1) := by rw [hw]; exact q1
        have q2' : wr.cell? ⟨b2, o2 + k * 2 + 1, none⟩ = some (ei ys[k].2) := by rw [hw]; exact q2
        have HST := Lib.hid hst
        generalize xs[k] = x at *
        generalize ys[k] = y at *
        obtain ⟨x1, x2⟩ := x
        obtain ⟨y1, y2⟩ := y
        clear hst hc1 hc2 p1 p2 q1 q2 hw
        simp only at *
        by_cases hk1 : x1 = y1
        · subst hk1
          by_cases hk2 : x2 = y2
          · subst hk2
            go_wp2_with fail
            go_quiet (fail)
            go_wp2_with fail
            go_quiet (fail)
            go_wp2_with fail
            go_roundw
            case rel => exact ⟨k + 1, _, by omega, by go_num, by rw [HW.out]; simp only [drewN_add]; rfl, by rw [← HF.out, HST.out]; simp [cmpT, cmpI]⟩
            case measure => simp [intOf]; omega
          · have hk2' : (x2 != y2) = true := by simpa using hk2
            go_wp2_with fail
            go_quiet (fail)
            go_wp2_with fail
            go_quiet (fail)
            go_wp2_with fail
            go_quiet (fail)
            go_wp2_with fail
            go_ret
            refine ⟨?_, _, by rw [HW.out]; simp only [drewN_add]; rfl⟩
            rw [← HF.out, HST.out, gt_val _ hk2]; rfl
        · have hk1' : (x1 != y1) = true := by simpa using hk1
          go_wp2_with fail
          go_quiet (fail)
          go_wp2_with fail
          go_quiet (fail)
          go_wp2_with fail
          go_ret
          refine ⟨?_, _, by rw [HW.out]; simp only [drewN_add]; rfl⟩
          rw [← HF.out, HST.out, gt_kind _ hk1]; rfl
      · have hge : xs.length ≤ k := by omega
        clear hc1 hc2 hw
        go_wp2_with fail
        go_ret
        exact ⟨by rw [← HF.out, List.drop_of_length_le hge, List.drop_of_length_le (by have := HL.out; omega)]; rfl, _, HW.out⟩
  · have hbe : ((xs.length : Int) != (ys.length : Int)) = true := by simp; omega
    have hne : gtL xs ys = decide (ys.length < xs.length) := by unfold gtL; rw [if_neg hl]
    have HN := Lib.hid hne
    clear hl hne
    go_enter Try.func37, Try.ntmps37
    go_wp2_with fail
    go_ret
    exact ⟨by rw [HN.out]; simp, 0, rfl⟩

theorem forest_len_le : ∀ xs : List Ex, xs.length ≤ (flatEs xs).length
  | [] => Nat.le_refl _
  | x :: xs => by simp only [flatEs, List.length_append, List.length_cons]; have := flatE_pos x; have := forest_len_le xs; omega

def fc (x : Ex) : List Tm := flatE (canonE x)
def cF (xs : List Ex) : List (List Tm) := (xs.map fc).reverse
@[simp] theorem cF_length (xs : List Ex) : (cF xs).length = xs.length := by simp [cF]
theorem cF_cons (x : Ex) (xs : List Ex) : cF (x :: xs) = cF xs ++ [fc x] := by simp [cF]
theorem fc_len (x : Ex) : (fc x).length = (flatE x).length := canonE_len x
theorem cF_take (x : Ex) (xs : List Ex) : (cF (x :: xs)).take xs.length = cF xs := by rw [cF_cons, List.take_append_of_le_length (by simp), List.take_of_length_le (by simp)]
theorem cF_take2 (x y : Ex) (xs : List Ex) : (cF (x :: y :: xs)).take xs.length = cF xs := by
  rw [cF_cons, cF_cons, List.append_assoc, List.take_append_of_le_length (by simp), List.take_of_length_le (by simp)]

theorem fc_two (t2 : Int) (a b : Ex) : fc (.mk (2, t2) [a, b]) = if stays (2, t2) then (2, t2) :: (fc a ++ fc b) else if gtL (fc a) (fc b) then (2, t2) :: (fc b ++ fc a) else (2, t2) :: (fc a ++ fc b) := by
  have h : canonE (.mk (2, t2) [a, b]) = .mk (2, t2) (swapE (2, t2) [canonE a, canonE b]) := rfl
  simp only [fc]
  rw [h]
  by_cases h1 : stays (2, t2) = true
  · simp [swapE, h1, flatE, flatEs]
  · by_cases h2 : gtL (flatE (canonE a)) (flatE (canonE b)) = true
    · simp [swapE, h1, h2, flatE, flatEs]
    · simp [swapE, h1, h2, flatE, flatEs]
theorem cF_second (a b : Ex) (ys : List Ex) (h : ys.length < (cF (a :: b :: ys)).length) : (cF (a :: b :: ys))[ys.length] = fc b := by
  have h9 : (cF (a :: b :: ys))[ys.length]? = some (fc b) := by
    rw [cF_cons, cF_cons, List.append_assoc, List.getElem?_append_right (by simp)]; simp
  rw [List.getElem?_eq_getElem h] at h9
  simpa using h9

def QC (e : List Tm) (k : Nat) (xs : List Ex) : Prop := okEs xs = true ∧ flatEs xs = e.drop k ∧ run 29 (e.take k) 1 = some (xs.length : Int)

/-- one element of a collected slice of slices of terms, as a source. -/
theorem acc_src {w0 w : World} {e : TypeId} {g n cap : Nat} {xs : List (List Tm)} (h : Acc R_T1 w0 e w (.slice (some ⟨g, 0, none⟩) n cap) xs) (i : Nat) (hi : i < xs.length) (hpos : 0 < xs[i].length) :
    ∃ b2 o2 c2, w.cell? ⟨g, i, none⟩ = some (.slice (some ⟨b2, o2, none⟩) xs[i].length c2) ∧ xs[i].length ≤ c2 ∧ c2 ≤ maxLen ∧ (xs[i].flatMap encT).length = xs[i].length * 2 ∧
      (∀ j u, (xs[i].flatMap encT)[j]? = some u → w.cell? ((⟨b2, o2, none⟩ : Addr).add j) = some u) ∧ ∃ f, R_T1 f w [.slice (some ⟨b2, o2, none⟩) xs[i].length c2] xs[i] := by
  obtain ⟨fp, hp, -, -⟩ := h.new
  obtain ⟨_, _, hv, -, -, hx⟩ := slP_open hp
  simp only [Value.slice.injEq] at hv
  obtain ⟨rfl, -, rfl⟩ := hv
  obtain ⟨_, _, u, f, hb, -, -, hu, -, hxR⟩ := hx i hi
  simp only [Option.some.injEq, Addr.mk.injEq, and_true] at hb
  obtain ⟨rfl, rfl⟩ := hb
  obtain ⟨b2, o2, c2, rfl, hs1, hs2, hs3, hs4⟩ := slF_src hxR hpos
  exact ⟨b2, o2, c2, by simpa using hu, hs1, hs2, hs3, hs4, f, hxR⟩

set_option maxRecDepth 20000 in
set_option maxHeartbeats 8000000 in
theorem canon_s (e : List Tm) (v : Value) (w : World) (fp : List Nat) (hR : R_T1 fp w [v] e) :
    Calls Try.prog 14 #[v] w fun r w' => (∃ v', r = .returned (.tuple #[v', .int .i64 (canonRes e).2]) ∧ New R_T1 w w' v' (canonRes e).1) ∧ Upd [] w w' := by
  obtain ⟨i0, hi, hz0, hz1, hz2⟩ := info_parts Try.infoT
  obtain ⟨j0, hj, hy0, hy1, hy2⟩ := info_parts Try.infoTS
  have hR0 := Lib.hid hR
  obtain ⟨a, cap, rfl, g1, g2, hc⟩ := slF2_open hR
  unfold maxLen at g2
  cases hb : eOk e
  · have hres : canonRes e = ([], 1) := by simp [canonRes, hb]
    have HR := Lib.hid hres
    clear hres hc
    go_enter Try.func14, Try.ntmps14
    go_wp2_with fail
    refine (l03Any _ e _ fp hR0.out).mono ?_
    rintro r w1 ⟨rfl, rfl⟩
    rw [hb]
    go_wp2_with fail
    go_ret2
    rw [HR.out]
    exact ⟨⟨_, rfl, New.nilF _ _ _ _⟩, Upd.refl _ _⟩
  · have hlen := eOk_len hb
    have HR : Hid (∀ x : Ex, okE x = true → flatE x = e → canonRes e = (flatE (canonE x), 0)) := Lib.hid (fun x h1 h2 => by
      obtain ⟨h3, h4⟩ := treeOf_ok e hb
      rw [tree_inj h1 h3 (by rw [h2, h4])]; simp [canonRes, hb])
    have HB := Lib.hid hb
    go_enter Try.func14, Try.ntmps14
    go_wp2_with fail
    refine (l03Any _ e _ fp hR0.out).mono ?_
    rintro r w1 ⟨rfl, rfl⟩
    rw [HB.out]
    clear hb
    have HQ0 : Hid (QC e e.length []) := Lib.hid ⟨rfl, by simp [flatEs], forest_start HB.out⟩
    go_wp2_with fail
    go_loopw [4, 5] (fun pv i wr => ∃ (k : Nat) (xs : List Ex) (g pcap : Nat) (q : Int), k ≤ e.length ∧ i = .int .i64 q ∧ Hid (q = (k : Int) - 1) ∧ pv = .slice (some ⟨g, 0, none⟩) xs.length pcap ∧ Upd [] w wr ∧ Acc R_T1 w 24 wr pv (cF xs) ∧ QC e k xs) (fun _ i _ => (intOf i + 1).toNat)
    case atStart => exact ⟨e.length, [], _, 0, _, Nat.le_refl _, rfl, Lib.hid rfl, rfl, (Upd.refl _ _).alloc _, Acc.lit0 _ _ _ _ (Nat.le_refl _), HQ0.out⟩
    case round =>
      clear HQ0
      obtain ⟨k, xs, g, pcap, q, hk, rfl, HQ, rfl, hU, hacc, hQC⟩ := hrel
      match k, hk, HQ, hQC with
      | 0, hk, HQ, hQC =>
        have hq : q = -1 := by have := HQ.out; omega
        subst hq
        obtain ⟨x, rfl⟩ := forest_end hQC.2.2
        have hp := HR.out x (by have := hQC.1; simpa [okEs] using this) (by have := hQC.2.1; simpa [flatEs] using this)
        obtain ⟨fpp, hpr, hpo, hpge⟩ := hacc.new
        have hN : ∃ u, wr.cell? ⟨g, 0, none⟩ = some u ∧ New R_T1 w wr u (flatE (canonE x)) ∧ 1 ≤ pcap ∧ pcap ≤ 9223372036854775807 := by
          obtain ⟨a, cap, b, off, u, f, hva, h11, h12, rfl, -, -, hcu, hsub, hr, hof, -⟩ := slP_set R_T1k hpr hpo 0 (by simp [cF])
          simp only [Value.slice.injEq, Option.some.injEq, Addr.mk.injEq, and_true] at hva
          obtain ⟨⟨rfl, rfl⟩, -, rfl⟩ := hva
          simp only [cF_length, List.length_cons, List.length_nil] at h11
          unfold maxLen at h12
          exact ⟨u, by simpa using hcu, ⟨f, by simpa [cF, fc] using hr, hof, fun b hb => hpge b (hsub b hb)⟩, by omega, by omega⟩
        obtain ⟨u, hu, hnu, hpc1, hpc2⟩ := hN
        have HP := Lib.hid hp
        have HN := Lib.hid hnu
        clear hp hnu hpr hpo hpge hacc hc hQC HQ
        simp only [List.length_cons, List.length_nil, Nat.zero_add] at *
        go_wp2_with fail
        go_ret2
        rw [HP.out]
        exact ⟨⟨_, rfl, HN.out⟩, hU⟩
      | k + 1, hk, HQ, hQC =>
        have hq : q = (k : Int) := by have := HQ.out; omega
        subst hq
        obtain ⟨b, off, rfl, -, hbl, q1, q2⟩ := hc k (by omega)
        have q1' := hU.keep q1
        have q2' := hU.keep q2
        obtain ⟨htok, hA, hlen', hok', hfl'⟩ := forest_step HB.out k (by omega) xs hQC.1 hQC.2.1 hQC.2.2
        have hxl := forest_len_le xs
        have hfl : (flatEs xs).length ≤ 60 := by rw [hQC.2.1, List.length_drop]; omega
        generalize hek : e[k] = t at *
        obtain ⟨t1, t2⟩ := t
        have HTOK := Lib.hid htok
        have HLE := Lib.hid hlen'
        have HOK := Lib.hid hok'
        have HFL := Lib.hid hfl'
        have HEK := Lib.hid hek
        have HACC := Lib.hid hacc
        have HU := Lib.hid hU
        have hsz := hU.size
        obtain ⟨-, hpc1, hpc2⟩ := hacc.cap
        unfold maxLen at hpc2
        have hlit := World.ownsRow_lit (base := wr.heap.size) (e := 48) (size := 2) (wr.alloc (.cells #[ei t1, ei t2] 48)) #[ei t1, ei t2] 1 (by simp) (by simp [maxLen]) (by simp)
        have HLIT := Lib.hid hlit
        clear hc q1 q2 hQC hlen' hok' hfl' hek hacc hU HQ htok hlit
        have hkind := tOk_kind HTOK.out
        by_cases h3 : t1 = 3
        · subst h3
          have hA1 : (arity (3, t2)).toNat = 1 := by simp [arity]
          rw [hA1] at HLE HOK HFL hA
          match xs, hA with
          | y :: ys, _ =>
          have hX : fc (.mk (3, t2) [y]) = (3, t2) :: fc y := by simp [fc, canonE, canonEs, swapE, stays, flatE, flatEs]
          have hfy : (fc y).length ≤ 60 := by rw [fc_len]; simp only [flatEs, List.length_append] at hfl; omega
          have hpy : 0 < (fc y).length := by rw [fc_len]; exact flatE_pos y
          have hgl : (cF (y :: ys))[ys.length]'(by simp) = fc y := by simp [cF_cons]
          obtain ⟨y2, o2, c2, hu2, hs1, hs2, hs3, hs4, -⟩ := acc_src HACC.out ys.length (by simp) (by rw [hgl]; exact hpy)
          rw [hgl] at hu2 hs1 hs3 hs4
          have hacc2 := (HACC.out.take ys.length (by simp)).2
          rw [cF_take] at hacc2
          obtain ⟨us, hou, hrows⟩ := hacc2
          rw [cF_length] at hou
          have HOU := Lib.hid hou
          have HRW := Lib.hid hrows
          have HX := Lib.hid hX
          have HO := Lib.hid (oneCells (fc y))
          have hup1 : Upd [] wr ((wr.alloc (.cells #[ei 3, ei t2] 48)).alloc (.cells #[ei 3, ei t2] 48)) := ((Upd.refl _ _).alloc _).alloc _
          have HS5 := Lib.hid (fun j u hj => hup1.keep (hs4 j u hj))
          have hlit : ((wr.alloc (.cells #[ei 3, ei t2] 48)).alloc (.cells #[ei 3, ei t2] 48)).ownsRow wr.heap.size 48 2 (.slice (some ⟨wr.heap.size + 1, 0, none⟩) 1 1) 1 [ei 3, ei t2] := by simpa using HLIT.out
          have hup2 := hup1.keep hu2
          have HUP1 := Lib.hid hup1
          have hgr : g < wr.heap.size := World.block_lt_of_cell? wr _ hu2
          clear hgl hou hrows hX hs4 hup1
          simp only [List.length_cons] at *
          unfold maxLen at hs2
          generalize hF : (fc y).length = F at *
          have HF := Lib.hid hF
          generalize hM : ys.length = M at *
          have HM := Lib.hid hM
          have b3 : ((3 : Int) == 3) = true := by decide
          clear hA1 hkind hM hF
          go_wp2_with (first
            | (at_builtin; refine wpList_append_tight _ rfl _ _ 24 rfl wr.heap.size 48 i0 (.agg #[.int .i64 0, .int .i64 0]) 2 16 Try.underlying24 hi hz0 hz1 hz2 rfl (by decide) _ _ _ rfl hlit ⟨y2, o2, none⟩ F c2 ((fc y).flatMap encT) rfl hs3 HS5.out HO.out ?e3 ?e4 ?e5 ?_)
            | fail)
          case e3 => unfold maxLen; omega
          case e4 => omega
          case e5 => simp; omega
          intro v3 w3 hown3 hg3 ht3
          have hnx : New R_T1 wr w3 v3 ((3, t2) :: fc y) := New.ofOwns2 (e := 48) (by simpa [HF.out, Nat.add_comm] using hown3)
          have hup3 : Upd [] wr w3 := HUP1.out.grown hg3 (fun k hk => Or.inl (by simp [Value.ownBlock] at hk; omega))
          obtain ⟨ax, cx, rfl⟩ := hnx.form
          generalize hXL : ((3, t2) :: fc y).length = XL at *
          have HNX := Lib.hid hnx
          have HUP := Lib.hid hup3
          have hou2 := ownsRow_upd HOU.out hup3
          clear hnx hup3 hown3 hg3 ht3 hup2 hu2 hs3 hlit hXL
          go_wp2_with (first
            | (at_builtin; refine wpList_append_tight _ rfl _ _ 56 rfl w.heap.size 24 j0 (.slice none 0 0) 1 24 Try.underlying56 hj hy0 hy1 hy2 rfl (by decide) _ _ _ rfl (hou2.alloc _) ⟨w3.heap.size, 0, none⟩ 1 1 [.slice ax XL cx] rfl rfl ?d13 ?d23 ?d33 ?d43 ?d53 ?_)
            | fail)
          case d13 => intro j u hj; match j, hj with | 0, hj => simp at hj; subst hj; first | (simp [Addr.add]; done) | (simp [Addr.add]; exact cell_new _ _ _ _ (by simp) _ _ rfl)
          case d23 => first | rfl | (intro u hu; simp at hu; subst hu; rfl)
          case d33 => unfold maxLen; omega
          case d43 => omega
          case d53 => have := HUP.out.size; simp at this ⊢; omega
          intro v4 w4 hown4 hg4 ht4
          have hacc4 := Acc.push R_T1k (by rw [cF_length, HM.out]; exact HOU.out) HRW.out hsz HUP.out HNX.out _ (by rw [cF_length, HM.out]; simpa using hown4) hg4 (by simpa using ht4)
          have hlt0 := HOU.out.lt
          have HU4 := Lib.hid (show Upd [] w w4 from ((HU.out.trans HUP.out).alloc _).grown hg4 (fun k hk => Or.inl (hlt0 k hk).1))
          obtain ⟨g4, pc4, hv4, -, -⟩ := World.ownsRow.form hown4 (by omega)
          subst hv4
          rw [← HX.out, ← cF_cons] at hacc4
          have HACC4 := Lib.hid hacc4
          clear hacc4 hown4 hg4 ht4 hlt0 hou2
          go_wp2_with fail
          go_roundw
          case rel => exact ⟨k, .mk (3, t2) [y] :: ys, g4, pc4, _, by omega, rfl, Lib.hid rfl, by rw [List.length_cons, HM.out], HU4.out, HACC4.out, HOK.out, HFL.out, by have h9 := HLE.out; rw [List.length_cons, HM.out]; simpa using h9⟩
          case measure => simp [intOf]
        · by_cases h2 : t1 = 2
          · subst h2
            have hA1 : (arity (2, t2)).toNat = 2 := by simp [arity]
            rw [hA1] at HLE HOK HFL hA
            have hop : 0 ≤ t2 ∧ t2 ≤ 8 := by have := HTOK.out; simp [tOk] at this; exact inB_true this
            match xs, hA with
            | a :: b :: ys, _ =>
            have hX := fc_two t2 a b
            have hfa : (fc a).length + (fc b).length ≤ 60 := by rw [fc_len, fc_len]; simp only [flatEs, List.length_append] at hfl; omega
            have hpa : 0 < (fc a).length := by rw [fc_len]; exact flatE_pos a
            have hpb : 0 < (fc b).length := by rw [fc_len]; exact flatE_pos b
            have hga : (cF (a :: b :: ys))[ys.length + 1]'(by simp) = fc a := by simp [cF_cons]
            have hgb : (cF (a :: b :: ys))[ys.length]'(by simp; omega) = fc b := cF_second a b ys (by simp; omega)
            obtain ⟨ya, oa, ca, hua, hs1a, hs2a, hs3a, hs4a, fra, hra⟩ := acc_src HACC.out (ys.length + 1) (by simp) (by rw [hga]; exact hpa)
            obtain ⟨yb, ob, cb, hub, hs1b, hs2b, hs3b, hs4b, frb, hrb⟩ := acc_src HACC.out ys.length (by simp; omega) (by rw [hgb]; exact hpb)
            rw [hga] at hua hs1a hs3a hs4a hra
            rw [hgb] at hub hs1b hs3b hs4b hrb
            have hacc2 := (HACC.out.take ys.length (by simp; omega)).2
            rw [cF_take2] at hacc2
            obtain ⟨us, hou, hrows⟩ := hacc2
            rw [cF_length] at hou
            have HOU := Lib.hid hou
            have HRW := Lib.hid hrows
            have HXX := Lib.hid hX
            have HOa := Lib.hid (oneCells (fc a))
            have HOb := Lib.hid (oneCells (fc b))
            have hup1 : Upd [] wr ((wr.alloc (.cells #[ei 2, ei t2] 48)).alloc (.cells #[ei 2, ei t2] 48)) := ((Upd.refl _ _).alloc _).alloc _
            have HSa := Lib.hid hs4a
            have HSb := Lib.hid hs4b
            have hlit : (((wr.alloc (.cells #[ei 2, ei t2] 48)).alloc (.cells #[ei 2, ei t2] 48))).ownsRow wr.heap.size 48 2 (.slice (some ⟨wr.heap.size + 1, 0, none⟩) 1 1) 1 [ei 2, ei t2] := by simpa using HLIT.out
            have hua1 := hup1.keep hua
            have hub1 := hup1.keep hub
            have HUP1 := Lib.hid hup1
            have hgr : g < wr.heap.size := World.block_lt_of_cell? wr _ hua
            have HG := Lib.hid (l04Greater _ _ (fc a) (fc b) ((wr.alloc (.cells #[ei 2, ei t2] 48)).alloc (.cells #[ei 2, ei t2] 48)) fra frb (R_T1k.upd hra hup1 (by simp)) (R_T1k.upd hrb hup1 (by simp)))
            clear hga hgb hou hrows hX hs4a hs4b hup1 hra hrb
            simp only [List.length_cons] at *
            unfold maxLen at hs2a hs2b
            generalize hFa : (fc a).length = Fa at *
            have HFa := Lib.hid hFa
            generalize hFb : (fc b).length = Fb at *
            have HFb := Lib.hid hFb
            generalize hM : ys.length = M at *
            have HM := Lib.hid hM
            have b3 : ((2 : Int) == 3) = false := by decide
            have hM2 : M + 1 < M + 1 + 1 := by omega
            clear hA1 hkind hM hFa hFb hA
            by_cases hst : stays (2, t2) = true
            · have HX := Lib.hid (show fc (.mk (2, t2) [a, b]) = (2, t2) :: (fc a ++ fc b) by rw [HXX.out, if_pos hst])
              have HUPZ := HUP1
              have HSZa := Lib.hid (fun j u hj => HUP1.out.keep (HSa.out j u hj))
              have h156 : t2 = 1 ∨ t2 = 5 ∨ t2 = 6 := by
                simp only [stays, bne_self_eq_false, Bool.false_or, Bool.or_eq_true, beq_iff_eq] at hst; omega
              clear hst
              rcases h156 with rfl | rfl | rfl
              · go_wp2_with (first
                  | (at_builtin; refine wpList_append_tight _ rfl _ _ 24 rfl wr.heap.size 48 i0 (.agg #[.int .i64 0, .int .i64 0]) 2 16 Try.underlying24 hi hz0 hz1 hz2 rfl (by decide) _ _ _ rfl hlit ⟨ya, oa, none⟩ Fa ca ((fc a).flatMap encT) rfl hs3a HSZa.out HOa.out (by unfold maxLen; omega) (by omega) (by first | (simp; omega) | omega) ?_)
                  | fail)
                intro v3 w3 hown3 hg3 ht3
                have hup3 : Upd [] wr w3 := HUPZ.out.grown hg3 (fun k hk => Or.inl (by simp [Value.ownBlock] at hk; omega))
                have hlt3 := hown3.lt
                have HSY := Lib.hid (fun j u hj => hup3.keep (HSb.out j u hj))
                have hsz3 := hup3.size
                obtain ⟨a3, c3, rfl⟩ := ownsRow_form hown3
                clear hg3 ht3 hlit
                go_wp2_with (first
                  | (at_builtin; refine wpList_append_tight _ rfl _ _ 24 rfl wr.heap.size 48 i0 (.agg #[.int .i64 0, .int .i64 0]) 2 16 Try.underlying24 hi hz0 hz1 hz2 rfl (by decide) _ _ _ rfl hown3 ⟨yb, ob, none⟩ Fb cb ((fc b).flatMap encT) rfl hs3b HSY.out HOb.out (by unfold maxLen; omega) (by omega) (by omega) ?_)
                  | fail)
                intro v5 w5 hown5 hg5 ht5
                have hnx : New R_T1 wr w5 v5 ((2, 1) :: (fc a ++ fc b)) := New.ofOwns2 (e := 48) (by simpa [HFa.out, HFb.out, Nat.add_comm, Nat.add_left_comm, Nat.add_assoc] using hown5)
                have hup5 : Upd [] wr w5 := hup3.grown hg5 (fun k hk => Or.inl (hlt3 k hk).1)
                obtain ⟨ax, cx, rfl⟩ := hnx.form
                generalize hXL : ((2, 1) :: (fc a ++ fc b)).length = XL at *
                have HNX := Lib.hid hnx
                have HUP := Lib.hid hup5
                have hou2 := ownsRow_upd HOU.out hup5
                clear hnx hup5 hup3 hown5 hown3 hg5 ht5 hXL hlt3
                go_wp2_with (first
                  | (at_builtin; refine wpList_append_tight _ rfl _ _ 56 rfl w.heap.size 24 j0 (.slice none 0 0) 1 24 Try.underlying56 hj hy0 hy1 hy2 rfl (by decide) _ _ _ rfl (hou2.alloc _) ⟨w5.heap.size, 0, none⟩ 1 1 [.slice ax XL cx] rfl rfl ?d14 ?d24 ?d34 ?d44 ?d54 ?_)
                  | fail)
                case d14 => intro j u hj; match j, hj with | 0, hj => simp at hj; subst hj; first | (simp [Addr.add]; done) | (simp [Addr.add]; exact cell_new _ _ _ _ (by simp) _ _ rfl)
                case d24 => first | rfl | (intro u hu; simp at hu; subst hu; rfl)
                case d34 => unfold maxLen; omega
                case d44 => omega
                case d54 => have := HUP.out.size; simp at this ⊢; omega
                intro v4 w4 hown4 hg4 ht4
                have hacc4 := Acc.push R_T1k (by rw [cF_length, HM.out]; exact HOU.out) HRW.out hsz HUP.out HNX.out _ (by rw [cF_length, HM.out]; simpa using hown4) hg4 (by simpa using ht4)
                have hlt0 := HOU.out.lt
                have HU4 := Lib.hid (show Upd [] w w4 from ((HU.out.trans HUP.out).alloc _).grown hg4 (fun k hk => Or.inl (hlt0 k hk).1))
                obtain ⟨g4, pc4, hv4, -, -⟩ := World.ownsRow.form hown4 (by omega)
                subst hv4
                rw [← HX.out, ← cF_cons] at hacc4
                have HACC4 := Lib.hid hacc4
                clear hacc4 hown4 hg4 ht4 hlt0 hou2
                go_wp2_with fail
                go_roundw
                case rel => exact ⟨k, .mk (2, 1) [a, b] :: ys, g4, pc4, _, by omega, rfl, Lib.hid rfl, by rw [List.length_cons, HM.out], HU4.out, HACC4.out, HOK.out, HFL.out, by have h9 := HLE.out; rw [List.length_cons, HM.out]; simpa using h9⟩
                case measure => simp [intOf]
              · go_wp2_with (first
                  | (at_builtin; refine wpList_append_tight _ rfl _ _ 24 rfl wr.heap.size 48 i0 (.agg #[.int .i64 0, .int .i64 0]) 2 16 Try.underlying24 hi hz0 hz1 hz2 rfl (by decide) _ _ _ rfl hlit ⟨ya, oa, none⟩ Fa ca ((fc a).flatMap encT) rfl hs3a HSZa.out HOa.out (by unfold maxLen; omega) (by omega) (by first | (simp; omega) | omega) ?_)
                  | fail)
                intro v3 w3 hown3 hg3 ht3
                have hup3 : Upd [] wr w3 := HUPZ.out.grown hg3 (fun k hk => Or.inl (by simp [Value.ownBlock] at hk; omega))
                have hlt3 := hown3.lt
                have HSY := Lib.hid (fun j u hj => hup3.keep (HSb.out j u hj))
                have hsz3 := hup3.size
                obtain ⟨a3, c3, rfl⟩ := ownsRow_form hown3
                clear hg3 ht3 hlit
                go_wp2_with (first
                  | (at_builtin; refine wpList_append_tight _ rfl _ _ 24 rfl wr.heap.size 48 i0 (.agg #[.int .i64 0, .int .i64 0]) 2 16 Try.underlying24 hi hz0 hz1 hz2 rfl (by decide) _ _ _ rfl hown3 ⟨yb, ob, none⟩ Fb cb ((fc b).flatMap encT) rfl hs3b HSY.out HOb.out (by unfold maxLen; omega) (by omega) (by omega) ?_)
                  | fail)
                intro v5 w5 hown5 hg5 ht5
                have hnx : New R_T1 wr w5 v5 ((2, 5) :: (fc a ++ fc b)) := New.ofOwns2 (e := 48) (by simpa [HFa.out, HFb.out, Nat.add_comm, Nat.add_left_comm, Nat.add_assoc] using hown5)
                have hup5 : Upd [] wr w5 := hup3.grown hg5 (fun k hk => Or.inl (hlt3 k hk).1)
                obtain ⟨ax, cx, rfl⟩ := hnx.form
                generalize hXL : ((2, 5) :: (fc a ++ fc b)).length = XL at *
                have HNX := Lib.hid hnx
                have HUP := Lib.hid hup5
                have hou2 := ownsRow_upd HOU.out hup5
                clear hnx hup5 hup3 hown5 hown3 hg5 ht5 hXL hlt3
                go_wp2_with (first
                  | (at_builtin; refine wpList_append_tight _ rfl _ _ 56 rfl w.heap.size 24 j0 (.slice none 0 0) 1 24 Try.underlying56 hj hy0 hy1 hy2 rfl (by decide) _ _ _ rfl (hou2.alloc _) ⟨w5.heap.size, 0, none⟩ 1 1 [.slice ax XL cx] rfl rfl ?d15 ?d25 ?d35 ?d45 ?d55 ?_)
                  | fail)
                case d15 => intro j u hj; match j, hj with | 0, hj => simp at hj; subst hj; first | (simp [Addr.add]; done) | (simp [Addr.add]; exact cell_new _ _ _ _ (by simp) _ _ rfl)
                case d25 => first | rfl | (intro u hu; simp at hu; subst hu; rfl)
                case d35 => unfold maxLen; omega
                case d45 => omega
                case d55 => have := HUP.out.size; simp at this ⊢; omega
                intro v4 w4 hown4 hg4 ht4
                have hacc4 := Acc.push R_T1k (by rw [cF_length, HM.out]; exact HOU.out) HRW.out hsz HUP.out HNX.out _ (by rw [cF_length, HM.out]; simpa using hown4) hg4 (by simpa using ht4)
                have hlt0 := HOU.out.lt
                have HU4 := Lib.hid (show Upd [] w w4 from ((HU.out.trans HUP.out).alloc _).grown hg4 (fun k hk => Or.inl (hlt0 k hk).1))
                obtain ⟨g4, pc4, hv4, -, -⟩ := World.ownsRow.form hown4 (by omega)
                subst hv4
                rw [← HX.out, ← cF_cons] at hacc4
                have HACC4 := Lib.hid hacc4
                clear hacc4 hown4 hg4 ht4 hlt0 hou2
                go_wp2_with fail
                go_roundw
                case rel => exact ⟨k, .mk (2, 5) [a, b] :: ys, g4, pc4, _, by omega, rfl, Lib.hid rfl, by rw [List.length_cons, HM.out], HU4.out, HACC4.out, HOK.out, HFL.out, by have h9 := HLE.out; rw [List.length_cons, HM.out]; simpa using h9⟩
                case measure => simp [intOf]
              · go_wp2_with (first
                  | (at_builtin; refine wpList_append_tight _ rfl _ _ 24 rfl wr.heap.size 48 i0 (.agg #[.int .i64 0, .int .i64 0]) 2 16 Try.underlying24 hi hz0 hz1 hz2 rfl (by decide) _ _ _ rfl hlit ⟨ya, oa, none⟩ Fa ca ((fc a).flatMap encT) rfl hs3a HSZa.out HOa.out (by unfold maxLen; omega) (by omega) (by first | (simp; omega) | omega) ?_)
                  | fail)
                intro v3 w3 hown3 hg3 ht3
                have hup3 : Upd [] wr w3 := HUPZ.out.grown hg3 (fun k hk => Or.inl (by simp [Value.ownBlock] at hk; omega))
                have hlt3 := hown3.lt
                have HSY := Lib.hid (fun j u hj => hup3.keep (HSb.out j u hj))
                have hsz3 := hup3.size
                obtain ⟨a3, c3, rfl⟩ := ownsRow_form hown3
                clear hg3 ht3 hlit
                go_wp2_with (first
                  | (at_builtin; refine wpList_append_tight _ rfl _ _ 24 rfl wr.heap.size 48 i0 (.agg #[.int .i64 0, .int .i64 0]) 2 16 Try.underlying24 hi hz0 hz1 hz2 rfl (by decide) _ _ _ rfl hown3 ⟨yb, ob, none⟩ Fb cb ((fc b).flatMap encT) rfl hs3b HSY.out HOb.out (by unfold maxLen; omega) (by omega) (by omega) ?_)
                  | fail)
                intro v5 w5 hown5 hg5 ht5
                have hnx : New R_T1 wr w5 v5 ((2, 6) :: (fc a ++ fc b)) := New.ofOwns2 (e := 48) (by simpa [HFa.out, HFb.out, Nat.add_comm, Nat.add_left_comm, Nat.add_assoc] using hown5)
                have hup5 : Upd [] wr w5 := hup3.grown hg5 (fun k hk => Or.inl (hlt3 k hk).1)
                obtain ⟨ax, cx, rfl⟩ := hnx.form
                generalize hXL : ((2, 6) :: (fc a ++ fc b)).length = XL at *
                have HNX := Lib.hid hnx
                have HUP := Lib.hid hup5
                have hou2 := ownsRow_upd HOU.out hup5
                clear hnx hup5 hup3 hown5 hown3 hg5 ht5 hXL hlt3
                go_wp2_with (first
                  | (at_builtin; refine wpList_append_tight _ rfl _ _ 56 rfl w.heap.size 24 j0 (.slice none 0 0) 1 24 Try.underlying56 hj hy0 hy1 hy2 rfl (by decide) _ _ _ rfl (hou2.alloc _) ⟨w5.heap.size, 0, none⟩ 1 1 [.slice ax XL cx] rfl rfl ?d16 ?d26 ?d36 ?d46 ?d56 ?_)
                  | fail)
                case d16 => intro j u hj; match j, hj with | 0, hj => simp at hj; subst hj; first | (simp [Addr.add]; done) | (simp [Addr.add]; exact cell_new _ _ _ _ (by simp) _ _ rfl)
                case d26 => first | rfl | (intro u hu; simp at hu; subst hu; rfl)
                case d36 => unfold maxLen; omega
                case d46 => omega
                case d56 => have := HUP.out.size; simp at this ⊢; omega
                intro v4 w4 hown4 hg4 ht4
                have hacc4 := Acc.push R_T1k (by rw [cF_length, HM.out]; exact HOU.out) HRW.out hsz HUP.out HNX.out _ (by rw [cF_length, HM.out]; simpa using hown4) hg4 (by simpa using ht4)
                have hlt0 := HOU.out.lt
                have HU4 := Lib.hid (show Upd [] w w4 from ((HU.out.trans HUP.out).alloc _).grown hg4 (fun k hk => Or.inl (hlt0 k hk).1))
                obtain ⟨g4, pc4, hv4, -, -⟩ := World.ownsRow.form hown4 (by omega)
                subst hv4
                rw [← HX.out, ← cF_cons] at hacc4
                have HACC4 := Lib.hid hacc4
                clear hacc4 hown4 hg4 ht4 hlt0 hou2
                go_wp2_with fail
                go_roundw
                case rel => exact ⟨k, .mk (2, 6) [a, b] :: ys, g4, pc4, _, by omega, rfl, Lib.hid rfl, by rw [List.length_cons, HM.out], HU4.out, HACC4.out, HOK.out, HFL.out, by have h9 := HLE.out; rw [List.length_cons, HM.out]; simpa using h9⟩
                case measure => simp [intOf]
            · have hst' : stays (2, t2) = false := by simpa using hst
              have hne : (t2 != 1) = true ∧ (t2 != 5) = true ∧ (t2 != 6) = true := by
                simp only [stays, bne_self_eq_false, Bool.false_or, Bool.or_eq_false_iff] at hst'
                simp only [bne, hst'.1.1, hst'.1.2, hst'.2, Bool.not_false, and_self]
              obtain ⟨n1, n5, n6⟩ := hne
              have HXY := Lib.hid (show fc (.mk (2, t2) [a, b]) = if gtL (fc a) (fc b) then (2, t2) :: (fc b ++ fc a) else (2, t2) :: (fc a ++ fc b) by rw [HXX.out, if_neg hst])
              clear hst hst'
              obtain ⟨bb, hbb⟩ : ∃ bb, bb = gtL (fc a) (fc b) := ⟨_, rfl⟩
              rw [← hbb] at HG HXY
              clear hbb
              go_wp2_with fail
              refine HG.out.mono ?_
              rintro r wz ⟨rfl, nz, hwz⟩
              have hupz : Upd [] wr wz := by rw [hwz]; exact HUP1.out.drewN nz
              have hlitz : wz.ownsRow wr.heap.size 48 2 (.slice (some ⟨wr.heap.size + 1, 0, none⟩) 1 1) 1 [ei 2, ei t2] := by rw [hwz]; exact hlit
              have HUPZ := Lib.hid hupz
              have huaz := hupz.keep hua
              have hubz := hupz.keep hub
              have HSZa := Lib.hid (fun j u hj => hupz.keep (HSa.out j u hj))
              have HSZb := Lib.hid (fun j u hj => hupz.keep (HSb.out j u hj))
              have hszz := hupz.size
              clear hwz hupz hlit HG hua1 hub1
              have hlit := hlitz
              clear hlitz
              cases bb
              · have HX := Lib.hid (show fc (.mk (2, t2) [a, b]) = (2, t2) :: (fc a ++ fc b) by rw [HXY.out]; rfl)
                go_wp2_with (first
                  | (at_builtin; refine wpList_append_tight _ rfl _ _ 24 rfl wr.heap.size 48 i0 (.agg #[.int .i64 0, .int .i64 0]) 2 16 Try.underlying24 hi hz0 hz1 hz2 rfl (by decide) _ _ _ rfl hlit ⟨ya, oa, none⟩ Fa ca ((fc a).flatMap encT) rfl hs3a HSZa.out HOa.out (by unfold maxLen; omega) (by omega) (by first | (simp; omega) | omega) ?_)
                  | fail)
                intro v3 w3 hown3 hg3 ht3
                have hup3 : Upd [] wr w3 := HUPZ.out.grown hg3 (fun k hk => Or.inl (by simp [Value.ownBlock] at hk; omega))
                have hlt3 := hown3.lt
                have HSY := Lib.hid (fun j u hj => hup3.keep (HSb.out j u hj))
                have hsz3 := hup3.size
                obtain ⟨a3, c3, rfl⟩ := ownsRow_form hown3
                clear hg3 ht3 hlit
                go_wp2_with (first
                  | (at_builtin; refine wpList_append_tight _ rfl _ _ 24 rfl wr.heap.size 48 i0 (.agg #[.int .i64 0, .int .i64 0]) 2 16 Try.underlying24 hi hz0 hz1 hz2 rfl (by decide) _ _ _ rfl hown3 ⟨yb, ob, none⟩ Fb cb ((fc b).flatMap encT) rfl hs3b HSY.out HOb.out (by unfold maxLen; omega) (by omega) (by omega) ?_)
                  | fail)
                intro v5 w5 hown5 hg5 ht5
                have hnx : New R_T1 wr w5 v5 ((2, t2) :: (fc a ++ fc b)) := New.ofOwns2 (e := 48) (by simpa [HFa.out, HFb.out, Nat.add_comm, Nat.add_left_comm, Nat.add_assoc] using hown5)
                have hup5 : Upd [] wr w5 := hup3.grown hg5 (fun k hk => Or.inl (hlt3 k hk).1)
                obtain ⟨ax, cx, rfl⟩ := hnx.form
                generalize hXL : ((2, t2) :: (fc a ++ fc b)).length = XL at *
                have HNX := Lib.hid hnx
                have HUP := Lib.hid hup5
                have hou2 := ownsRow_upd HOU.out hup5
                clear hnx hup5 hup3 hown5 hown3 hg5 ht5 hXL hlt3
                go_wp2_with (first
                  | (at_builtin; refine wpList_append_tight _ rfl _ _ 56 rfl w.heap.size 24 j0 (.slice none 0 0) 1 24 Try.underlying56 hj hy0 hy1 hy2 rfl (by decide) _ _ _ rfl (hou2.alloc _) ⟨w5.heap.size, 0, none⟩ 1 1 [.slice ax XL cx] rfl rfl ?d17 ?d27 ?d37 ?d47 ?d57 ?_)
                  | fail)
                case d17 => intro j u hj; match j, hj with | 0, hj => simp at hj; subst hj; first | (simp [Addr.add]; done) | (simp [Addr.add]; exact cell_new _ _ _ _ (by simp) _ _ rfl)
                case d27 => first | rfl | (intro u hu; simp at hu; subst hu; rfl)
                case d37 => unfold maxLen; omega
                case d47 => omega
                case d57 => have := HUP.out.size; simp at this ⊢; omega
                intro v4 w4 hown4 hg4 ht4
                have hacc4 := Acc.push R_T1k (by rw [cF_length, HM.out]; exact HOU.out) HRW.out hsz HUP.out HNX.out _ (by rw [cF_length, HM.out]; simpa using hown4) hg4 (by simpa using ht4)
                have hlt0 := HOU.out.lt
                have HU4 := Lib.hid (show Upd [] w w4 from ((HU.out.trans HUP.out).alloc _).grown hg4 (fun k hk => Or.inl (hlt0 k hk).1))
                obtain ⟨g4, pc4, hv4, -, -⟩ := World.ownsRow.form hown4 (by omega)
                subst hv4
                rw [← HX.out, ← cF_cons] at hacc4
                have HACC4 := Lib.hid hacc4
                clear hacc4 hown4 hg4 ht4 hlt0 hou2
                go_wp2_with fail
                go_roundw
                case rel => exact ⟨k, .mk (2, t2) [a, b] :: ys, g4, pc4, _, by omega, rfl, Lib.hid rfl, by rw [List.length_cons, HM.out], HU4.out, HACC4.out, HOK.out, HFL.out, by have h9 := HLE.out; rw [List.length_cons, HM.out]; simpa using h9⟩
                case measure => simp [intOf]
              · have HX := Lib.hid (show fc (.mk (2, t2) [a, b]) = (2, t2) :: (fc b ++ fc a) by rw [HXY.out]; rfl)
                go_wp2_with (first
                  | (at_builtin; refine wpList_append_tight _ rfl _ _ 24 rfl wr.heap.size 48 i0 (.agg #[.int .i64 0, .int .i64 0]) 2 16 Try.underlying24 hi hz0 hz1 hz2 rfl (by decide) _ _ _ rfl hlit ⟨yb, ob, none⟩ Fb cb ((fc b).flatMap encT) rfl hs3b HSZb.out HOb.out (by unfold maxLen; omega) (by omega) (by first | (simp; omega) | omega) ?_)
                  | fail)
                intro v3 w3 hown3 hg3 ht3
                have hup3 : Upd [] wr w3 := HUPZ.out.grown hg3 (fun k hk => Or.inl (by simp [Value.ownBlock] at hk; omega))
                have hlt3 := hown3.lt
                have HSY := Lib.hid (fun j u hj => hup3.keep (HSa.out j u hj))
                have hsz3 := hup3.size
                obtain ⟨a3, c3, rfl⟩ := ownsRow_form hown3
                clear hg3 ht3 hlit
                go_wp2_with (first
                  | (at_builtin; refine wpList_append_tight _ rfl _ _ 24 rfl wr.heap.size 48 i0 (.agg #[.int .i64 0, .int .i64 0]) 2 16 Try.underlying24 hi hz0 hz1 hz2 rfl (by decide) _ _ _ rfl hown3 ⟨ya, oa, none⟩ Fa ca ((fc a).flatMap encT) rfl hs3a HSY.out HOa.out (by unfold maxLen; omega) (by omega) (by omega) ?_)
                  | fail)
                intro v5 w5 hown5 hg5 ht5
                have hnx : New R_T1 wr w5 v5 ((2, t2) :: (fc b ++ fc a)) := New.ofOwns2 (e := 48) (by simpa [HFa.out, HFb.out, Nat.add_comm, Nat.add_left_comm, Nat.add_assoc] using hown5)
                have hup5 : Upd [] wr w5 := hup3.grown hg5 (fun k hk => Or.inl (hlt3 k hk).1)
                obtain ⟨ax, cx, rfl⟩ := hnx.form
                generalize hXL : ((2, t2) :: (fc b ++ fc a)).length = XL at *
                have HNX := Lib.hid hnx
                have HUP := Lib.hid hup5
                have hou2 := ownsRow_upd HOU.out hup5
                clear hnx hup5 hup3 hown5 hown3 hg5 ht5 hXL hlt3
                go_wp2_with (first
                  | (at_builtin; refine wpList_append_tight _ rfl _ _ 56 rfl w.heap.size 24 j0 (.slice none 0 0) 1 24 Try.underlying56 hj hy0 hy1 hy2 rfl (by decide) _ _ _ rfl (hou2.alloc _) ⟨w5.heap.size, 0, none⟩ 1 1 [.slice ax XL cx] rfl rfl ?d18 ?d28 ?d38 ?d48 ?d58 ?_)
                  | fail)
                case d18 => intro j u hj; match j, hj with | 0, hj => simp at hj; subst hj; first | (simp [Addr.add]; done) | (simp [Addr.add]; exact cell_new _ _ _ _ (by simp) _ _ rfl)
                case d28 => first | rfl | (intro u hu; simp at hu; subst hu; rfl)
                case d38 => unfold maxLen; omega
                case d48 => omega
                case d58 => have := HUP.out.size; simp at this ⊢; omega
                intro v4 w4 hown4 hg4 ht4
                have hacc4 := Acc.push R_T1k (by rw [cF_length, HM.out]; exact HOU.out) HRW.out hsz HUP.out HNX.out _ (by rw [cF_length, HM.out]; simpa using hown4) hg4 (by simpa using ht4)
                have hlt0 := HOU.out.lt
                have HU4 := Lib.hid (show Upd [] w w4 from ((HU.out.trans HUP.out).alloc _).grown hg4 (fun k hk => Or.inl (hlt0 k hk).1))
                obtain ⟨g4, pc4, hv4, -, -⟩ := World.ownsRow.form hown4 (by omega)
                subst hv4
                rw [← HX.out, ← cF_cons] at hacc4
                have HACC4 := Lib.hid hacc4
                clear hacc4 hown4 hg4 ht4 hlt0 hou2
                go_wp2_with fail
                go_roundw
                case rel => exact ⟨k, .mk (2, t2) [a, b] :: ys, g4, pc4, _, by omega, rfl, Lib.hid rfl, by rw [List.length_cons, HM.out], HU4.out, HACC4.out, HOK.out, HFL.out, by have h9 := HLE.out; rw [List.length_cons, HM.out]; simpa using h9⟩
                case measure => simp [intOf]
          · have hA0 : (arity (t1, t2)).toNat = 0 := by simp [arity, h2, h3]
            rw [hA0] at HLE HOK HFL
            have hX : fc (.mk (t1, t2) []) = [(t1, t2)] := by
              have : canonE (.mk (t1, t2) []) = .mk (t1, t2) [] := by simp [canonE, canonEs, swapE]
              simp [fc, this, flatE, flatEs]
            have HX := Lib.hid hX
            have HNX := Lib.hid (show New R_T1 wr ((wr.alloc (.cells #[ei t1, ei t2] 48)).alloc (.cells #[ei t1, ei t2] 48)) (.slice (some ⟨wr.heap.size + 1, 0, none⟩) 1 1) [(t1, t2)] from (New.ofOwns2 (e := 48) (by simpa using HLIT.out)).mono (by simp))
            have HUP := Lib.hid (show Upd [] wr ((wr.alloc (.cells #[ei t1, ei t2] 48)).alloc (.cells #[ei t1, ei t2] 48)) from ((Upd.refl _ _).alloc _).alloc _)
            have b3 : (t1 == 3) = false := by simpa using h3
            have b2 : (t1 == 2) = false := by simpa using h2
            have hacc2 := (HACC.out.take xs.length (by simp)).2
            rw [List.take_of_length_le (by simp)] at hacc2
            obtain ⟨us, hou, hrows⟩ := hacc2
            rw [cF_length] at hou
            have hou2 := ownsRow_upd hou HUP.out
            have HOU := Lib.hid hou
            have HRW := Lib.hid hrows
            generalize hM : xs.length = M at *
            have HM := Lib.hid hM
            clear hM
            clear hX hA0 h2 h3 hkind hou hrows
            go_wp2_with (first
              | (at_builtin; refine wpList_append_tight _ rfl _ _ 56 rfl w.heap.size 24 j0 (.slice none 0 0) 1 24 Try.underlying56 hj hy0 hy1 hy2 rfl (by decide) _ _ _ rfl (hou2.alloc _) ⟨wr.heap.size + 1 + 1, 0, none⟩ 1 1 [.slice (some ⟨wr.heap.size + 1, 0, none⟩) 1 1] rfl rfl ?d10 ?d20 ?d30 ?d40 ?d50 ?_)
              | fail)
            case d20 => first | rfl | (intro u hu; simp at hu; subst hu; rfl)
            case d30 => unfold maxLen; omega
            case d40 => omega
            case d50 => have := HUP.out.size; simp at this ⊢; omega
            intro v4 w4 hown4 hg4 ht4
            have hacc4 := Acc.push R_T1k (by rw [cF_length, HM.out]; exact HOU.out) HRW.out hsz HUP.out HNX.out _ (by rw [cF_length, HM.out]; simpa using hown4) hg4 (by simpa using ht4)
            have hlt0 := HOU.out.lt
            have HU4 := Lib.hid (show Upd [] w w4 from ((HU.out.trans HUP.out).alloc _).grown hg4 (fun k hk => Or.inl (hlt0 k hk).1))
            obtain ⟨g4, pc4, hv4, -, -⟩ := World.ownsRow.form hown4 (by omega)
            subst hv4
            rw [← HX.out, ← cF_cons] at hacc4
            have HACC4 := Lib.hid hacc4
            clear hacc4 hown4 hg4 ht4 hlt0 hou2
            go_wp2_with fail
            go_roundw
            case rel => exact ⟨k, .mk (t1, t2) [] :: xs, g4, pc4, _, by omega, rfl, Lib.hid rfl, by rw [List.length_cons, HM.out], HU4.out, HACC4.out, HOK.out, HFL.out, by have h9 := HLE.out; rw [List.length_cons, HM.out]; simpa using h9⟩
            case measure => simp [intOf]

end Go.Proofs.Ytnioopbficcbeaa
