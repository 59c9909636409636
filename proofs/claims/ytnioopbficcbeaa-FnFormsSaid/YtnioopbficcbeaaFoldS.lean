/-
  Folding, the reference's side.
-/
import Derived.Test.YtnioopbficcbeaaFoldW
import Derived.Deep.RegionHeld3
namespace Go.Proofs.Ytnioopbficcbeaa
open Go.RowKit

theorem oneCells (ts : List Tm) : ∀ u ∈ ts.flatMap encT, u.oneCell' = true := by
  intro u hu
  obtain ⟨t, -, ht⟩ := List.mem_flatMap.1 hu
  simp at ht
  rcases ht with rfl | rfl <;> rfl

set_option maxRecDepth 20000 in
set_option maxHeartbeats 4000000 in
theorem foldS (n : Nat) : ∀ (x : Ex) (w : World) (b off cap : Nat) (fp : List Nat), (flatE x).length ≤ n → (flatE x).length ≤ 60 → goodE 29 x = true → R_T1 fp w [.slice (some ⟨b, off, none⟩) (flatE x).length cap] (flatE x) →
    Calls Try.prog 30 #[.slice (some ⟨b, off, none⟩) (flatE x).length cap] w fun r w' => (∃ v', r = .returned v' ∧ New R_T1 w w' v' (flatE (foldE x))) ∧ Upd [] w w' := by
  induction n with
  | zero => intro x w b off cap fp hn; have := flatE_pos x; omega
  | succ n ih =>
    intro x w b off cap fp hn h60 hg hR
    obtain ⟨i0, hi, hz0, hz1, hz2⟩ := info_parts Try.infoT
    obtain ⟨⟨t1, t2⟩, args⟩ := x
    have HR0 := Lib.hid hR
    obtain ⟨_, _, hv, g1, g2, hc⟩ := slF2_open hR
    simp only [Value.slice.injEq] at hv
    obtain ⟨rfl, -, rfl⟩ := hv
    obtain ⟨_, _, hb, -, hbl, q1, q2⟩ := hc 0 (by simp [flatE])
    simp only [Option.some.injEq, Addr.mk.injEq, and_true] at hb
    obtain ⟨rfl, rfl⟩ := hb
    rw [Nat.zero_mul, Nat.add_zero] at q1 q2
    simp only [flatE, List.getElem_cons_zero] at q1 q2
    have hg0 := hg
    rw [goodE_mk] at hg
    simp only [Bool.and_eq_true, decide_eq_true_eq] at hg
    obtain ⟨⟨hlen, hok⟩, hgs⟩ := hg
    unfold maxLen at g2
    have S1 := Lib.hid (l03Arity t1 t2 b off w q1)
    have HIH := Lib.hid ih
    have hpos : 1 ≤ (flatE (.mk (t1, t2) args)).length := flatE_pos _
    clear hc ih hR hg0
    by_cases hz : arity (t1, t2) = 0
    · have hnil : args = [] := List.eq_nil_of_length_eq_zero (by omega)
      subst hnil
      have S2 := Lib.hid (l03Own (flatE (.mk (t1, t2) [])) b off cap w fp (by simp [flatE]) (by omega) HR0.out)
      have hres : foldE (.mk (t1, t2) []) = .mk (t1, t2) [] := by simp [foldE]
      rw [hres]
      generalize flatE (.mk (t1, t2) []) = e at *
      clear hlen hok hgs hres HR0
      go_enter Try.func30, Try.ntmps30
      go_wp2_with fail
      refine S1.out.mono ?_
      rintro r w1 ⟨rfl, rfl⟩
      rw [hz]
      clear hz S1
      go_wp2_with fail
      refine S2.out.mono ?_
      rintro r w2 ⟨⟨v2, rfl, hn2⟩, hu2⟩
      have HN := Lib.hid hn2
      have HU := Lib.hid hu2
      clear hn2 hu2 S2
      go_wp2_with fail
      go_ret
      exact ⟨⟨_, rfl, HN.out⟩, HU.out⟩
    · rcases tOk_kind hok with h | h | h | h
      · subst h; simp [arity] at hz
      · subst h; simp [arity] at hz
      · subst h
        have hop : 0 ≤ t2 ∧ t2 ≤ 8 := by simp [tOk] at hok; exact inB_true hok
        simp [arity] at hlen
        match args, hlen with
        | [y, x], _ =>
        have hel : (flatE (.mk (2, t2) [y, x])).length = 1 + (flatE y).length + (flatE x).length := by simp [flatE, flatEs]; omega
        have hdr : (flatE (.mk (2, t2) [y, x])).drop 1 = flatE y ++ flatE x := by simp [flatE, flatEs]
        have hsub : ((flatE (.mk (2, t2) [y, x])).take (1 + (flatE y).length)).drop 1 = flatE y := by
          rw [List.drop_take, Nat.add_sub_cancel_left, hdr, List.take_left]
        have hsub2 : ((flatE (.mk (2, t2) [y, x])).take (1 + (flatE y).length + (flatE x).length)).drop (1 + (flatE y).length) = flatE x := by
          rw [← hel, List.take_length, ← List.drop_drop, hdr, List.drop_left]
        rw [goodEs_cons, goodEs_cons, Bool.and_eq_true, Bool.and_eq_true] at hgs
        have hy1 := flatE_pos y
        have hx1 := flatE_pos x
        have hoky : okE y = true := by have := hgs.1; unfold goodE at this; rw [Bool.and_eq_true] at this; exact this.1
        have S2 := Lib.hid (l03End y (flatE (.mk (2, t2) [y, x])) (flatE x) 1 _ w fp hoky (by omega) hdr HR0.out)
        obtain ⟨f9, hs9, -⟩ := slF_sub (n := 2) (by intro x; rfl) HR0.out 1 (1 + (flatE y).length) (by omega) (by omega)
        rw [hsub, Nat.add_sub_cancel_left] at hs9
        obtain ⟨f8, hs8, -⟩ := slF_sub (n := 2) (by intro x; rfl) HR0.out (1 + (flatE y).length) (1 + (flatE y).length + (flatE x).length) (by omega) (by omega)
        rw [hsub2, Nat.add_sub_cancel_left] at hs8
        have S3 := Lib.hid (HIH.out y w b (off + 1 * 2) (cap - 1) f9 (by omega) (by omega) hgs.1 hs9)
        have S4 := Lib.hid (fun (w' : World) (h : Upd [] w w') => HIH.out x w' b (off + (1 + (flatE y).length) * 2) (cap - (1 + (flatE y).length)) f8 (by omega) (by omega) hgs.2.1 (R_T1k.upd hs8 h (by simp)))
        have hgy := foldE_good 29 y hgs.1
        have hgx := foldE_good 29 x hgs.2.1
        have hfold : foldE (.mk (2, t2) [y, x]) = if isNum (foldE y) && isNum (foldE x) then .mk (0, valE [] (.mk (2, t2) [foldE y, foldE x])) [] else .mk (2, t2) [foldE y, foldE x] := by
          rw [foldE, if_neg (by simp)]; simp [foldEs]
        have hlf := foldE_len y
        have hlx := foldE_len x
        have har : arity (2, t2) = 2 := by simp [arity]
        rw [har] at S1
        have hEY : 1 + (flatE y).length + (flatE x).length ≤ (flatE (.mk (2, t2) [y, x])).length := by omega
        have hEY1 : (flatE (.mk (2, t2) [y, x])).length = (1 + (flatE y).length) + (flatE x).length := by omega
        have hEY2 : (1 : Int) + (flatE y).length ≤ cap := by omega
        have hEY3 : ((1 : Int) + (flatE y).length) < cap := by omega
        generalize foldE y = z at *
        generalize foldE x = z' at *
        generalize hE : (flatE (.mk (2, t2) [y, x])).length = E at *
        generalize hY : (flatE y).length = Y at *
        generalize hX : (flatE x).length = X at *
        have HF := Lib.hid hfold
        have HGY := Lib.hid hgy
        have HGX := Lib.hid hgx
        subst hEY1
        clear hel hdr hsub hsub2 hgs hoky hs9 hs8 hgy hgx hfold har hz hok HIH hE hY hX
        go_enter Try.func30, Try.ntmps30
        go_wp2_with fail
        refine S1.out.mono ?_
        rintro r w1 ⟨rfl, rfl⟩
        clear S1
        go_wp2_with fail
        refine S2.out.mono ?_
        rintro r w1 ⟨rfl, rfl⟩
        clear S2
        go_wp2_with fail
        refine S3.out.mono ?_
        rintro r w2 ⟨⟨v2, rfl, hn2⟩, hu2⟩
        obtain ⟨f2, h2, -, -⟩ := hn2
        obtain ⟨⟨k1, k2⟩, zs⟩ := z
        obtain ⟨b2, o2, c2, rfl, hs1, hs2, hs3, hs4⟩ := slF_src h2 (flatE_pos _)
        have hd12 : w2.cell? ⟨b2, o2, none⟩ = some (ei k1) ∧ w2.cell? ⟨b2, o2 + 1, none⟩ = some (ei k2) := by
          have e0 := hs4 0 (ei k1) (by simp [flatE])
          have e1 := hs4 1 (ei k2) (by simp [flatE])
          rw [addr_add] at e0 e1
          exact ⟨by simpa using e0, e1⟩
        obtain ⟨d1, d2⟩ := hd12
        have q1' := hu2.keep q1
        have q2' := hu2.keep q2
        have hz1' := flatE_pos (.mk (k1, k2) zs)
        have HS4 := Lib.hid hs4
        have HO := Lib.hid (oneCells (flatE (.mk (k1, k2) zs)))
        have HU := Lib.hid hu2
        have S5 := Lib.hid (S4.out w2 hu2)
        have hsz := hu2.size
        unfold maxLen at hs2
        clear S3 S4 h2 hs4 q1 q2 hu2
        generalize hL : (flatE (.mk (k1, k2) zs)).length = L at *
        have HL := Lib.hid hL
        clear hL
        go_wp2_with fail
        refine S5.out.mono ?_
        rintro r w3 ⟨⟨v3, rfl, hn3⟩, hu3⟩
        obtain ⟨f3, h3, -, -⟩ := hn3
        obtain ⟨⟨l1, l2⟩, ws⟩ := z'
        obtain ⟨b3, o3, c3, rfl, hs1', hs2', hs3', hs4'⟩ := slF_src h3 (flatE_pos _)
        have hd12 : w3.cell? ⟨b3, o3, none⟩ = some (ei l1) ∧ w3.cell? ⟨b3, o3 + 1, none⟩ = some (ei l2) := by
          have e0 := hs4' 0 (ei l1) (by simp [flatE])
          have e1 := hs4' 1 (ei l2) (by simp [flatE])
          rw [addr_add] at e0 e1
          exact ⟨by simpa using e0, e1⟩
        obtain ⟨e1, e2⟩ := hd12
        have q1 := hu3.keep q1'
        have q2 := hu3.keep q2'
        have m1 := hu3.keep d1
        have m2 := hu3.keep d2
        have hw1' := flatE_pos (.mk (l1, l2) ws)
        have HS4' := Lib.hid hs4'
        have HS5 := Lib.hid (fun j u hj => hu3.keep (HS4.out j u hj))
        have HO' := Lib.hid (oneCells (flatE (.mk (l1, l2) ws)))
        have HU3 := Lib.hid (HU.out.trans hu3)
        have hsz3 := hu3.size
        have HD := Lib.hid (show (flatE (Ex.mk (2, t2) [.mk (k1, k2) zs, .mk (l1, l2) ws])) = (2, t2) :: (flatE (.mk (k1, k2) zs) ++ flatE (.mk (l1, l2) ws)) by simp [flatE, flatEs])
        unfold maxLen at hs2'
        clear S5 h3 hs4' q1' q2' d1 d2 hu3
        generalize hL' : (flatE (.mk (l1, l2) ws)).length = L' at *
        have HL' := Lib.hid hL'
        clear hL'
        by_cases hk : k1 = 0 ∧ l1 = 0
        · obtain ⟨rfl, rfl⟩ := hk
          have hb1 : 0 ≤ k2 ∧ k2 ≤ 63 := by
            obtain ⟨m, hm, h⟩ := isNum_good HGY.out (by simp [isNum])
            simp only [Ex.mk.injEq, Prod.mk.injEq, true_and] at hm
            rw [hm.1]; exact h
          have hb2 : 0 ≤ l2 ∧ l2 ≤ 63 := by
            obtain ⟨m, hm, h⟩ := isNum_good HGX.out (by simp [isNum])
            simp only [Ex.mk.injEq, Prod.mk.injEq, true_and] at hm
            rw [hm.1]; exact h
          have hres : flatE (foldE (.mk (2, t2) [y, x])) = [(0, opV t2 k2 l2)] := by
            obtain ⟨m, hm, -⟩ := isNum_good HGY.out (by simp [isNum])
            obtain ⟨m', hm', -⟩ := isNum_good HGX.out (by simp [isNum])
            simp only [Ex.mk.injEq, Prod.mk.injEq, true_and] at hm hm'
            obtain ⟨rfl, rfl⟩ := hm
            obtain ⟨rfl, rfl⟩ := hm'
            rw [HF.out, if_pos (by simp [isNum])]
            simp [flatE, flatEs, valE, valEs]
          have HRES := Lib.hid hres
          have HLIT := Lib.hid (fun (w : World) (q : Int) => World.ownsRow_lit (base := w.heap.size) (e := 48) (size := 2) w #[ei 0, ei q] 1 (Nat.le_refl _) (by simp [maxLen]) (by simp))
          have S6 := Lib.hid (fun w => operateS t2 k2 l2 w hop hb1 hb2)
          clear hres
          generalize opV t2 k2 l2 = q at *
          have p1 : 0 < L := by omega
          have p2 : 0 < L' := by omega
          have p3 : 0 < 1 + Y + X := by omega
          have p4 : (0 : Int) < (L : Int) := by omega
          have p5 : (0 : Int) < (L' : Int) := by omega
          have p6 : (0 : Int) < 1 + (Y : Int) + (X : Int) := by omega
          go_wp2_with fail
          go_region_held3 (fun w' => w'.cell? ⟨b, off + 1, none⟩ = some (ei t2) ∧ w'.cell? ⟨b2, o2 + 1, none⟩ = some (ei k2) ∧ w'.cell? ⟨b3, o3 + 1, none⟩ = some (ei l2)) (go_keep)
            (first | (go_at_call 64; refine (S6.out _).mono ?_; rintro r w4 ⟨rfl, rfl⟩))
          go_wp2_with fail
          go_ret
          refine ⟨⟨_, rfl, ?_⟩, HU3.out.drew.alloc _⟩
          rw [HRES.out]
          exact (New.ofOwns2 (e := 48) (by simpa using (HLIT.out w3 q).drew)).mono (by omega)
        · have hres : flatE (foldE (.mk (2, t2) [y, x])) = (2, t2) :: (flatE (.mk (k1, k2) zs) ++ flatE (.mk (l1, l2) ws)) := by
            rw [HF.out, if_neg (by simp only [isNum, Bool.and_eq_true, beq_iff_eq]; exact hk), HD.out]
          have HRES := Lib.hid hres
          have hlit := World.ownsRow_lit (base := w.heap.size) (e := 48) (size := 2) w3 #[ei 2, ei t2] 1 (by omega) (by simp [maxLen]) (by simp)
          have HS6 := Lib.hid (fun j u hj => ((Upd.refl [] w3).alloc (.cells #[ei 2, ei t2] 48)).keep (HS5.out j u hj))
          have HS7 := Lib.hid (fun (w' : World) (h : Upd [] w3 w') j u hj => h.keep (HS4'.out j u hj))
          have hhk : (k1 = 0 ∧ ¬ l1 = 0) ∨ ¬ k1 = 0 := by omega
          clear hres hk
          have hmain : ∀ (v4 : Value) (w4 : World), w4.ownsRow w.heap.size 48 2 v4 (1 + L) (#[ei 2, ei t2].toList ++ (flatE (.mk (k1, k2) zs)).flatMap encT) → (w3.alloc (.cells #[ei 2, ei t2] 48)).grownBy w4 (Value.ownBlock (.slice (some ⟨w3.heap.size, 0, none⟩) 1 1)) → Upd [] w3 w4 := by
            intro v4 w4 hown4 hg4
            exact ((Upd.refl [] w3).alloc _).grown hg4 (fun k hk => Or.inl (by simp [Value.ownBlock] at hk; omega))
          have HM := Lib.hid hmain
          clear hmain
          generalize flatE (.mk (k1, k2) zs) = FK at *
          generalize flatE (.mk (l1, l2) ws) = FL at *
          rcases hhk with ⟨rfl, hk2⟩ | hk1
          all_goals
            go_wp2_with (first
              | (at_builtin; refine wpList_append_tight _ rfl _ _ 24 rfl w.heap.size 48 i0 (.agg #[.int .i64 0, .int .i64 0]) 2 16 Try.underlying24 hi hz0 hz1 hz2 rfl (by decide) _ _ _ rfl hlit ⟨b2, o2, none⟩ L c2 _ rfl hs3 HS6.out HO.out (by unfold maxLen; omega) (by omega) (by simp; omega) ?_)
              | fail)
            intro v4 w4 hown4 hg4 ht4
            have hu4 := HM.out v4 w4 (by simpa using hown4) hg4
            have hlt4 := hown4.lt
            have HS8 := Lib.hid (HS7.out w4 hu4)
            have HU4 := Lib.hid (HU3.out.trans hu4)
            have hsz4 := hu4.size
            obtain ⟨a4, cc4, rfl⟩ := ownsRow_form hown4
            clear hg4 ht4 hu4 hlit
            go_wp2_with (first
              | (at_builtin; refine wpList_append_tight _ rfl _ _ 24 rfl w.heap.size 48 i0 (.agg #[.int .i64 0, .int .i64 0]) 2 16 Try.underlying24 hi hz0 hz1 hz2 rfl (by decide) _ _ _ rfl hown4 ⟨b3, o3, none⟩ L' c3 _ rfl hs3' HS8.out HO'.out (by unfold maxLen; omega) (by omega) (by omega) ?_)
              | fail)
            intro v5 w5 hown5 hg5 ht5
            have HN := Lib.hid (show New R_T1 w w5 v5 ((2, t2) :: (FK ++ FL)) from New.ofOwns2 (e := 48) (by simpa [HL.out, HL'.out, Nat.add_comm, Nat.add_left_comm, Nat.add_assoc] using hown5))
            have HU5 := Lib.hid (HU4.out.grown hg5 (fun k hk => Or.inl (hlt4 k hk).1))
            clear hown5 hg5 ht5 hown4 hlt4
            go_wp2_with fail
            go_ret
            refine ⟨⟨_, rfl, ?_⟩, HU5.out⟩
            rw [HRES.out]; exact HN.out
      · subst h
        simp [arity] at hlen
        match args, hlen with
        | [y], _ =>
        have hel : (flatE (.mk (3, t2) [y])).length = 1 + (flatE y).length := by simp [flatE, flatEs]; omega
        have hdr : (flatE (.mk (3, t2) [y])).drop 1 = flatE y ++ [] := by simp [flatE, flatEs]
        have hsub : ((flatE (.mk (3, t2) [y])).take (1 + (flatE y).length)).drop 1 = flatE y := by
          rw [← hel, List.take_length, hdr, List.append_nil]
        rw [goodEs_cons, Bool.and_eq_true] at hgs
        have hy1 := flatE_pos y
        have hoky : okE y = true := by have := hgs.1; unfold goodE at this; rw [Bool.and_eq_true] at this; exact this.1
        have S2 := Lib.hid (l03End y (flatE (.mk (3, t2) [y])) [] 1 _ w fp hoky (by omega) hdr HR0.out)
        obtain ⟨f9, hs9, -⟩ := slF_sub (n := 2) (by intro x; rfl) HR0.out 1 (1 + (flatE y).length) (by omega) (by omega)
        rw [hsub, Nat.add_sub_cancel_left] at hs9
        have S3 := Lib.hid (HIH.out y w b (off + 1 * 2) (cap - 1) f9 (by omega) (by omega) hgs.1 hs9)
        have hgy := foldE_good 29 y hgs.1
        have hfold : foldE (.mk (3, t2) [y]) = if isNum (foldE y) = true then .mk (0, valE [] (.mk (3, t2) [foldE y])) [] else .mk (3, t2) [foldE y] := by
          rw [foldE, if_neg (by simp)]; simp [foldEs]
        have hlf := foldE_len y
        have har : arity (3, t2) = 1 := by simp [arity]
        rw [har] at S1
        have hEY : 1 + (flatE y).length ≤ (flatE (.mk (3, t2) [y])).length := by omega
        have hEY2 : (1 : Int) + (flatE y).length ≤ cap := by omega
        generalize foldE y = z at *
        generalize hE : (flatE (.mk (3, t2) [y])).length = E at *
        generalize hY : (flatE y).length = Y at *
        have HF := Lib.hid hfold
        have HGY := Lib.hid hgy
        clear hel hdr hsub hgs hoky hs9 hgy hfold har hz hok HIH hE hY
        go_enter Try.func30, Try.ntmps30
        go_wp2_with fail
        refine S1.out.mono ?_
        rintro r w1 ⟨rfl, rfl⟩
        clear S1
        go_wp2_with fail
        refine S2.out.mono ?_
        rintro r w1 ⟨rfl, rfl⟩
        clear S2
        go_wp2_with fail
        refine S3.out.mono ?_
        rintro r w2 ⟨⟨v2, rfl, hn2⟩, hu2⟩
        obtain ⟨f2, h2, ho2, hge2⟩ := hn2
        obtain ⟨⟨k1, k2⟩, zs⟩ := z
        obtain ⟨b2, o2, c2, rfl, hs1, hs2, hs3, hs4⟩ := slF_src h2 (flatE_pos _)
        obtain ⟨_, _, hv, -, -, hc2⟩ := slF2_open h2
        simp only [Value.slice.injEq] at hv
        obtain ⟨rfl, -, rfl⟩ := hv
        obtain ⟨_, _, hb, -, -, d1, d2⟩ := hc2 0 (flatE_pos _)
        simp only [Option.some.injEq, Addr.mk.injEq, and_true] at hb
        obtain ⟨rfl, rfl⟩ := hb
        simp only [flatE, List.getElem_cons_zero, Nat.zero_mul, Nat.add_zero] at d1 d2
        have q1' := hu2.keep q1
        have q2' := hu2.keep q2
        have hz1' := flatE_pos (.mk (k1, k2) zs)
        have HS4 := Lib.hid hs4
        have HO := Lib.hid (oneCells (flatE (.mk (k1, k2) zs)))
        have HU := Lib.hid hu2
        have HD := Lib.hid (show (flatE (Ex.mk (3, t2) [.mk (k1, k2) zs])) = (3, t2) :: flatE (.mk (k1, k2) zs) by simp [flatE, flatEs])
        have hsz := hu2.size
        unfold maxLen at hs2
        clear S3 h2 ho2 hge2 hs4 hc2 q1 q2 hu2
        generalize hL : (flatE (.mk (k1, k2) zs)).length = L at *
        have HL := Lib.hid hL
        clear hL
        by_cases hk : k1 = 0
        · subst hk
          have hres : flatE (foldE (.mk (3, t2) [y])) = [(0, truthV (k2 == 0))] := by
            obtain ⟨m, hm, -⟩ := isNum_good HGY.out (by simp [isNum])
            simp only [Ex.mk.injEq, Prod.mk.injEq, true_and] at hm
            obtain ⟨rfl, rfl⟩ := hm
            rw [HF.out, if_pos (by simp [isNum])]
            simp [flatE, flatEs, valE, valEs]
          have HRES := Lib.hid hres
          have HLIT := Lib.hid (fun (w : World) (q : Int) => World.ownsRow_lit (base := w.heap.size) (e := 48) (size := 2) w #[ei 0, ei q] 1 (Nat.le_refl _) (by simp [maxLen]) (by simp))
          clear hres
          go_wp2_with fail
          refine (truthS _ _).mono ?_
          rintro r w3 ⟨rfl, rfl⟩
          generalize truthV (k2 == 0) = q at *
          go_wp2_with fail
          go_ret
          refine ⟨⟨_, rfl, ?_⟩, HU.out.alloc _⟩
          rw [HRES.out]
          exact (New.ofOwns2 (e := 48) (by simpa using HLIT.out w2 q)).mono hsz
        · have hres : flatE (foldE (.mk (3, t2) [y])) = (3, t2) :: flatE (.mk (k1, k2) zs) := by
            rw [HF.out, if_neg (by simp [isNum, hk]), HD.out]
          have HRES := Lib.hid hres
          have hlit := World.ownsRow_lit (base := w.heap.size) (e := 48) (size := 2) w2 #[ei 3, ei t2] 1 hsz (by simp [maxLen]) (by simp)
          have HS5 := Lib.hid (fun j u hj => ((Upd.refl [] w2).alloc (.cells #[ei 3, ei t2] 48)).keep (HS4.out j u hj))
          clear hres
          go_wp2_with (first
            | (at_builtin; refine wpList_append_tight _ rfl _ _ 24 rfl w.heap.size 48 i0 (.agg #[.int .i64 0, .int .i64 0]) 2 16 Try.underlying24 hi hz0 hz1 hz2 rfl (by decide) _ _ _ rfl hlit ⟨b2, o2, none⟩ L c2 ((flatE (.mk (k1, k2) zs)).flatMap encT) rfl hs3 HS5.out HO.out ?c3 ?c4 ?c5 ?_)
            | fail)
          case c3 => unfold maxLen; omega
          case c4 => omega
          case c5 => simp; omega
          intro v4 w4 hown4 hg4 ht4
          have HN := Lib.hid (show New R_T1 w w4 v4 ((3, t2) :: flatE (.mk (k1, k2) zs)) from New.ofOwns2 (e := 48) (by simpa [HL.out, Nat.add_comm] using hown4))
          have hlt4 := hlit.lt
          have HU4 := Lib.hid (show Upd [] w w4 from (HU.out.alloc _).grown hg4 (fun k hk => Or.inl (hlt4 k hk).1))
          clear hown4 hg4 ht4 hlit hlt4
          go_wp2_with fail
          go_ret
          refine ⟨⟨_, rfl, ?_⟩, HU4.out⟩
          rw [HRES.out]; exact HN.out

set_option maxRecDepth 20000 in
set_option maxHeartbeats 1000000 in
theorem fold_s (e : List Tm) (v : Value) (w : World) (fp : List Nat) (hR : R_T1 fp w [v] e) :
    Calls Try.prog 8 #[v] w fun r w' => (∃ v', r = .returned (.tuple #[v', .int .i64 (foldRes e).2]) ∧ New R_T1 w w' v' (foldRes e).1) ∧ Upd [] w w' := by
  have hR0 := Lib.hid hR
  cases hb : eOk e
  · obtain ⟨a, cap, rfl, g1, g2, -⟩ := slF2_open hR
    unfold maxLen at g2
    have hres : foldRes e = ([], 1) := by simp [foldRes, hb]
    have HR := Lib.hid hres
    clear hres
    go_enter Try.func8, Try.ntmps8
    go_wp2_with fail
    refine (l03Any _ e _ fp hR0.out).mono ?_
    rintro r w1 ⟨rfl, rfl⟩
    rw [hb]
    go_wp2_with fail
    go_ret2
    rw [HR.out]
    exact ⟨⟨_, rfl, New.nilF _ _ _ _⟩, Upd.refl _ _⟩
  · have hres : foldRes e = (flatE (foldE (treeOf e hb)), 0) := by simp [foldRes, hb]
    obtain ⟨hok, hfl⟩ := treeOf_ok e hb
    have hlen := eOk_len hb
    have hgood := eOk_good hb _ hok hfl
    obtain ⟨b, off, cap, rfl, -⟩ := slF_src hR (by omega)
    have HR := Lib.hid hres
    have HB := Lib.hid hb
    generalize treeOf e hb = x at *
    have S2 := foldS _ x w b off cap fp (Nat.le_refl _) (by rw [hfl]; omega) hgood (by rw [hfl]; exact hR0.out)
    rw [hfl] at S2
    have HS2 := Lib.hid S2
    clear hres hok hfl hgood S2 hR
    go_enter Try.func8, Try.ntmps8
    go_wp2_with fail
    refine (l03Any _ e _ fp hR0.out).mono ?_
    rintro r w1 ⟨rfl, rfl⟩
    rw [HB.out]
    clear hb
    go_wp2_with fail
    refine HS2.out.mono ?_
    rintro r w2 ⟨⟨v2, rfl, hn2⟩, hu2⟩
    have HN := Lib.hid hn2
    have HU := Lib.hid hu2
    clear hn2 hu2
    go_wp2_with fail
    go_ret2
    rw [HR.out]
    exact ⟨⟨_, rfl, HN.out⟩, HU.out⟩

theorem fold_b (e : List Tm) : mkF_T1 (foldRes e).1 ≤ 300 := by
  unfold foldRes
  split
  · rename_i h
    obtain ⟨-, hfl⟩ := treeOf_ok e h
    have hlen := eOk_len h
    have := foldE_len (treeOf e h)
    rw [hfl] at this
    unfold mkF_T1; simp only; omega
  · simp [mkF_T1]

end Go.Proofs.Ytnioopbficcbeaa
