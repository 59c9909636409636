/-
  FromPostfix, the reference's side.
-/
import Derived.Test.YtkcafdobiloeiaaPostW
namespace Go.Proofs.Ytkcafdobiloeiaa
open Go.RowKit

theorem postRes_long {e : List Tm} (h : 60 < e.length) : postRes e = ([], 1) := by unfold postRes; rw [if_neg (by omega)]
theorem postRes_bad {e : List Tm} (k : Nat) (hk : k < e.length) (h : tOk e[k] 29 = false) : postRes e = ([], 1) := by
  have ha : e.all (fun t => tOk t 29) = false := by rw [List.all_eq_false]; exact ⟨e[k], by simp, by simp [h]⟩
  unfold postRes
  split
  · split <;> simp [ha]
  · rfl
theorem all_take_succ {e : List Tm} {k : Nat} (hk : k < e.length) (P : Tm → Bool) (h : (e.take k).all P = true) (h2 : P e[k] = true) : (e.take (k + 1)).all P = true := by
  rw [List.take_succ_eq_append_getElem hk, List.all_append, h]; simp [h2]
theorem postRes_all {e : List Tm} {x : Ex} (h60 : e.length ≤ 60) (h : pfE e [] = some [x]) (ha : e.all (fun t => tOk t 29) = true) : postRes e = (flatE x, 0) := by
  unfold postRes; rw [if_pos h60, h]; simp [ha]

set_option maxRecDepth 20000 in
set_option maxHeartbeats 4000000 in
theorem post_s (e : List Tm) (v : Value) (w : World) (fp : List Nat) (hR : R_T1 fp w [v] e) :
    Calls Try.prog 10 #[v] w fun r w' => (∃ v', r = .returned (.tuple #[v', .int .i64 (postRes e).2]) ∧ New R_T1 w w' v' (postRes e).1) ∧ Upd [] w w' := by
  obtain ⟨i0, hi, hz0, hz1, hz2⟩ := info_parts Try.infoT
  obtain ⟨j0, hj, hy0, hy1, hy2⟩ := info_parts Try.infoTS
  obtain ⟨a, cap, rfl, g1, g2, hc⟩ := slF2_open hR
  unfold maxLen at g2
  by_cases h60 : e.length ≤ 60
  · go_enter Try.func10, Try.ntmps10
    go_wp2_with fail
    go_loopw [4, 5] (fun pv i wr => ∃ (k : Nat) (st : List Ex) (g pcap : Nat), k ≤ e.length ∧ i = .int .i64 k ∧ pv = .slice (some ⟨g, 0, none⟩) st.length pcap ∧ Upd [] w wr ∧ Acc R_T1 w 24 wr pv (st.map flatE) ∧ pfE (e.take k) [] = some st ∧ (e.take k).all (fun t => tOk t 29) = true) (fun _ i _ => e.length - (intOf i).toNat)
    case atStart => exact ⟨0, [], _, 0, Nat.zero_le _, rfl, rfl, (Upd.refl _ _).alloc _, Acc.lit0 _ _ _ _ (Nat.le_refl _), by simp [pfE], by simp⟩
    case round =>
      obtain ⟨k, st, g, pcap, hk, rfl, rfl, hU, hacc, hpf, hall⟩ := hrel
      by_cases hlt : k < e.length
      · obtain ⟨b, off, rfl, -, hbl, q1, q2⟩ := hc k hlt
        have q1' := hU.keep q1
        have q2' := hU.keep q2
        have hstep := pfE_step hlt hpf
        have hsl := pfE_len _ _ _ hpf
        have hbad := postRes_bad k hlt
        have hgood := all_take_succ hlt (fun t => tOk t 29) hall
        simp only [List.length_nil, List.length_take, Nat.zero_add] at hsl
        generalize hek : e[k] = t at *
        obtain ⟨t1, t2⟩ := t
        have hbd := arity_bd (t1, t2)
        have S1 := Lib.hid (l03Term t1 t2 29 b (off + k * 2) wr (by decide) (by decide) q1' q2')
        have S2 := Lib.hid (l03Arity t1 t2 b (off + k * 2) wr q1')
        have HST := Lib.hid hstep
        have HBAD := Lib.hid hbad
        have HGOOD := Lib.hid hgood
        have HPF := Lib.hid hpf
        clear hc q1 q2 hpf hstep hek hbad hgood hall
        go_wp2_with fail
        refine S1.out.mono ?_
        rintro r w1 ⟨rfl, rfl⟩
        obtain ⟨bb, hbb⟩ : ∃ bb, bb = tOk (t1, t2) 29 := ⟨_, rfl⟩
        rw [← hbb]
        have HBB := Lib.hid hbb
        clear S1 hbb
        cases bb
        · go_wp2_with fail
          go_ret2
          rw [HBAD.out HBB.out.symm]
          exact ⟨⟨_, rfl, New.nilF _ _ _ _⟩, hU⟩
        · go_wp2_with fail
          refine S2.out.mono ?_
          rintro r w1 ⟨rfl, rfl⟩
          clear S2
          by_cases hneg : (st.length : Int) < arity (t1, t2)
          · generalize arity (t1, t2) = A at *
            go_wp2_with fail
            go_ret2
            have hp := HST.out
            rw [if_pos hneg] at hp
            rw [postRes_none _ hp]
            exact ⟨⟨_, rfl, New.nilF _ _ _ _⟩, hU⟩
          · obtain ⟨A, hA⟩ : ∃ A : Nat, arity (t1, t2) = A := ⟨(arity (t1, t2)).toNat, by omega⟩
            rw [hA] at hbd hneg HST ⊢
            rw [if_neg hneg, Int.toNat_natCast] at HST
            have hAL : A ≤ st.length := by omega
            clear hA hneg
            have hfl : (flatEs st).length ≤ 60 := by
              have := (pfE_ok _ _ _ rfl HPF.out).2.2
              simp only [flatEs, List.length_nil, List.length_take] at this; omega
            have hL0 : (st.map flatE).length = st.length := by simp
            have hmap : ∀ q (h : q < st.length), (st.map flatE)[q]'(by simpa using h) = flatE st[q] := by simp
            have HMAP := Lib.hid hmap
            obtain ⟨N, hN⟩ : ∃ N, st.length = N + A := ⟨st.length - A, by omega⟩
            have HL := Lib.hid hN
            have HL0 := Lib.hid hL0
            rw [hN] at hsl HST hAL ⊢
            rw [Nat.add_sub_cancel] at HST
            have hdl : (st.drop N).length = A := by rw [List.length_drop]; omega
            have hfd : (flatEs (st.drop N)).length ≤ 60 := by
              have : flatEs st = flatEs (st.take N) ++ flatEs (st.drop N) := by rw [← flatEs_append, List.take_append_drop]
              rw [this, List.length_append] at hfl; omega
            have hn1 : (((N + A : Nat) : Int) - (A : Int)) = (N : Int) := by omega
            have HDL := Lib.hid hdl
            have HACC := Lib.hid hacc
            have hlit : (wr.alloc (.cells #[ei t1, ei t2] 56)).ownsRow wr.heap.size 56 2 (.slice (some ⟨wr.heap.size, 0, none⟩) 1 1) ((t1, t2) :: flatEs ((st.drop N).take 0)).length (((t1, t2) :: flatEs ((st.drop N).take 0)).flatMap encT) := by
              simpa [flatEs] using World.ownsRow_lit (base := wr.heap.size) (e := 56) (size := 2) wr #[ei t1, ei t2] 1 (Nat.le_refl _) (by simp [maxLen]) (by simp)
            have HLIT := Lib.hid hlit
            clear hN hL0 hmap hdl hlit hacc hfl
            go_wp2_with fail
            obtain ⟨wo, hwo⟩ : ∃ wo : World, wo = wr := ⟨_, rfl⟩
            subst hwo
            go_loopw [8, 9] (fun xv jv wi => ∃ q : Nat, q ≤ A ∧ jv = .int .i64 ((N + q : Nat) : Int) ∧ Upd [] wo wi ∧ wi.ownsRow wo.heap.size 56 2 xv ((t1, t2) :: flatEs ((st.drop N).take q)).length (((t1, t2) :: flatEs ((st.drop N).take q)).flatMap encT)) (fun _ jv _ => N + A - (intOf jv).toNat)
            case atStart => exact ⟨0, Nat.zero_le _, by simp, (Upd.refl _ _).alloc _, HLIT.out⟩
            case round =>
              obtain ⟨q, hq, rfl, hUi, hown⟩ := hrel
              by_cases hqA : q < A
              · have hlen := HL.out
                have hL0 := HL0.out
                obtain ⟨fpp, hpr, -, -⟩ := (HACC.out.upd R_T1k hUi).new
                obtain ⟨_, _, hv, hc1, hc2, hx⟩ := slP_open hpr
                simp only [Value.slice.injEq] at hv
                obtain ⟨rfl, -, rfl⟩ := hv
                obtain ⟨_, _, u, f, hb, -, -, hu, -, hxR⟩ := hx (N + q) (by omega)
                simp only [Option.some.injEq, Addr.mk.injEq, and_true] at hb
                obtain ⟨rfl, rfl⟩ := hb
                rw [HMAP.out (N + q) (by omega)] at hxR
                have hpos := flatE_pos st[N + q]
                obtain ⟨b2, o2, c2, rfl, hs1, hs2, hs3, hs4⟩ := slF_src hxR (by omega)
                have hdq := HDL.out
                have hts : flatEs ((st.drop N).take (q + 1)) = flatEs ((st.drop N).take q) ++ flatE st[N + q] := by
                  rw [flatEs_take _ _ (by omega)]; simp
                have hle := flatEs_take_le (st.drop N) (q + 1)
                rw [hts, List.length_append] at hle
                have hNL : N + q < st.length := by omega
                clear hx
                generalize st[N + q] = y at *
                have HTS := Lib.hid hts
                have HS4 := Lib.hid hs4
                rw [Nat.zero_add] at hu
                have hsz := hUi.size
                have hone : ∀ u ∈ (flatE y).flatMap encT, u.oneCell' = true := by
                  intro u hu
                  obtain ⟨t, -, ht⟩ := List.mem_flatMap.1 hu
                  simp at ht
                  rcases ht with rfl | rfl <;> rfl
                have HO := Lib.hid hone
                unfold maxLen at hs2
                generalize hF : (flatE y).length = F at *
                have HF := Lib.hid hF
                clear hts hs4 hxR hpr hlen hL0 hdq hone hF
                go_wp2_with (first
                  | (at_builtin; refine wpList_append_tight _ rfl _ _ 24 rfl wo.heap.size 56 i0 (.agg #[.int .i64 0, .int .i64 0]) 2 16 Try.underlying24 hi hz0 hz1 hz2 rfl (by decide) _ _ _ rfl hown ⟨b2, o2, none⟩ F c2 ((flatE y).flatMap encT) rfl hs3 HS4.out HO.out ?c3 ?c4 ?c5 ?_)
                  | fail)
                case c3 => simp only [List.length_cons]; unfold maxLen; omega
                case c4 => simp only [List.length_cons]; omega
                case c5 => omega
                intro v4 w4 hown4 hg4 ht4
                have hlt0 := hown.lt
                have hU4 : Upd [] wo w4 := hUi.grown hg4 (fun k hk => Or.inl (hlt0 k hk).1)
                have hown5 : w4.ownsRow wo.heap.size 56 2 v4 ((t1, t2) :: flatEs ((st.drop N).take (q + 1))).length (((t1, t2) :: flatEs ((st.drop N).take (q + 1))).flatMap encT) := by
                  rw [HTS.out]
                  simp only [List.length_cons, List.length_append, List.flatMap_cons, List.flatMap_append, HF.out] at hown4 ⊢
                  rw [show (flatEs (List.take q (List.drop N st))).length + F + 1 = (flatEs (List.take q (List.drop N st))).length + 1 + F from by omega, ← List.append_assoc]
                  exact hown4
                clear hown4 hg4 ht4 hown hUi hlt0 hu
                go_wp2_with fail
                go_roundw
                case rel => exact ⟨q + 1, by omega, by go_num, hU4, hown5⟩
                case measure => simp [intOf]; omega
              · obtain rfl : q = A := by omega
                rw [show (st.drop N).take q = st.drop N from List.take_of_length_le (by have := HDL.out; omega)] at hown
                have hlen := HL.out
                have hge : st.length ≤ N + q := by omega
                have hNs : N ≤ st.length := by omega
                obtain ⟨-, hpc, hpm⟩ := HACC.out.cap
                unfold maxLen at hpm
                obtain ⟨ax, cx, rfl⟩ := ownsRow_form hown
                have hnx : New R_T1 wo wr (.slice ax ((t1, t2) :: flatEs (st.drop N)).length cx) (flatE (.mk (t1, t2) (st.drop N))) := New.ofOwns2 (e := 56) hown
                have hacc2 := (HACC.out.take N (by simp; omega)).2
                rw [← List.map_take] at hacc2
                have htl : ((st.take N).map flatE).length = N := by simp; omega
                obtain ⟨us, hou, hrows⟩ := hacc2
                rw [htl] at hou
                have hou2 := ownsRow_upd hou hUi
                have hsz := hU.size
                have hszi := hUi.size
                have HNX := Lib.hid hnx
                have HOU := Lib.hid hou
                have HRW := Lib.hid hrows
                have HTL := Lib.hid htl
                generalize ((t1, t2) :: flatEs (st.drop N)).length = X at *
                clear hlen hown hnx hou hrows htl
                go_wp2_with (first
                  | (at_builtin; refine wpList_append_tight _ rfl _ _ 48 rfl w.heap.size 24 j0 (.slice none 0 0) 1 24 Try.underlying48 hj hy0 hy1 hy2 rfl (by decide) _ _ _ rfl (hou2.alloc _) ⟨wr.heap.size, 0, none⟩ 1 1 [.slice ax X cx] rfl rfl ?d1 ?d2 ?d3 ?d4 ?d5 ?_)
                  | fail)
                case d1 => intro j u hj; match j, hj with | 0, hj => simp at hj; subst hj; simp [Addr.add]
                case d2 => intro u hu; simp at hu; subst hu; rfl
                case d3 => unfold maxLen; omega
                case d4 => omega
                case d5 => simp; omega
                intro v4 w4 hown4 hg4 ht4
                have hacc4 := Acc.push R_T1k (by rw [HTL.out]; exact HOU.out) HRW.out hsz hUi HNX.out _ (by rw [HTL.out]; simpa using hown4) hg4 (by simpa using ht4)
                have hlt0 := HOU.out.lt
                have HU4 := Lib.hid (show Upd [] w w4 from ((hU.trans hUi).alloc _).grown hg4 (fun k hk => Or.inl (hlt0 k hk).1))
                obtain ⟨g4, pc4, hv4, -, -⟩ := World.ownsRow.form hown4 (by omega)
                subst hv4
                rw [show (st.take N).map flatE ++ [flatE (Ex.mk (t1, t2) (st.drop N))] = (st.take N ++ [Ex.mk (t1, t2) (st.drop N)]).map flatE from by simp] at hacc4
                have HACC4 := Lib.hid hacc4
                have hl4 : (st.take N ++ [Ex.mk (t1, t2) (st.drop N)]).length = N + 1 := by simp; omega
                have HL4 := Lib.hid hl4
                clear hacc4 hown4 hg4 ht4 hlt0 hou2 hU hUi hl4
                go_wp2_with fail
                go_roundw
                case rel => exact ⟨k + 1, _, g4, pc4, by omega, by go_num, by rw [HL4.out], HU4.out, HACC4.out, HST.out, HGOOD.out HBB.out.symm⟩
                case measure => simp [intOf]; omega
      · obtain rfl : e.length = k := by omega
        rw [List.take_length] at hpf hall
        by_cases h1 : st.length = 1
        · obtain ⟨x, rfl⟩ : ∃ x, st = [x] := by
            match st, h1 with
            | [x], _ => exact ⟨x, rfl⟩
          have hp := postRes_all h60 hpf hall
          obtain ⟨fpp, hpr, hpo, hpge⟩ := hacc.new
          obtain ⟨_, _, hv, hc1, hc2, hx⟩ := slP_open hpr
          simp only [Value.slice.injEq] at hv
          obtain ⟨rfl, -, rfl⟩ := hv
          have hN : ∃ u, wr.cell? ⟨g, 0, none⟩ = some u ∧ New R_T1 w wr u (flatE x) := by
            obtain ⟨a, cap, b, off, u, f, hva, -, -, rfl, -, -, hcu, hsub, hr, hof, -⟩ := slP_set R_T1k hpr hpo 0 (by simp)
            simp only [Value.slice.injEq, Option.some.injEq, Addr.mk.injEq, and_true] at hva
            obtain ⟨⟨rfl, rfl⟩, -⟩ := hva
            exact ⟨u, by simpa using hcu, f, by simpa using hr, hof, fun b hb => hpge b (hsub b hb)⟩
          obtain ⟨u, hu, hnu⟩ := hN
          have HP := Lib.hid hp
          have HN := Lib.hid hnu
          clear hp hnu hpf hall hpr hpo hpge hx hacc hc h1
          simp only [List.length_cons, List.length_nil, List.length_map, Nat.zero_add] at *
          go_wp2_with fail
          go_ret2
          rw [HP.out]
          exact ⟨⟨_, rfl, HN.out⟩, hU⟩
        · have hp := postRes_many hpf h1
          have HP := Lib.hid hp
          have hne : ¬ ((st.length : Int) = 1) := by omega
          clear hp hpf hall hc hacc
          go_wp2_with fail
          go_ret2
          rw [HP.out]
          exact ⟨⟨_, rfl, New.nilF _ _ _ _⟩, hU⟩
  · have h60' : 60 < e.length := by omega
    go_enter Try.func10, Try.ntmps10
    go_wp2_with fail
    go_ret2
    rw [postRes_long h60']
    exact ⟨⟨_, rfl, New.nilF _ _ _ _⟩, Upd.refl _ _⟩

theorem post_b (e : List Tm) : mkF_T1 (postRes e).1 ≤ 300 := by
  unfold postRes
  split
  · split
    · rename_i h60 _ x h
      have h3 := (pfE_ok e [] [x] rfl h).2.2
      simp [flatEs] at h3
      split
      · unfold mkF_T1; simp only; omega
      · simp [mkF_T1]
    · simp [mkF_T1]
  · simp [mkF_T1]

end Go.Proofs.Ytkcafdobiloeiaa
