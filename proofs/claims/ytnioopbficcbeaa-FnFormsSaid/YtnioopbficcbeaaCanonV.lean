/-
  Canonical forms, the program's side.
-/
import Derived.Test.YtnioopbficcbeaaCanonW
namespace Go.Proofs.Ytnioopbficcbeaa
open Go.RowKit

/-- two elements of a collected row change places. -/
theorem Got.swap {α : Type} {R : Rp α} (K : Kept R) {base : Nat} {G : Nat → Prop} {e : TypeId} {w w1 : World} {g cap : Nat} {x y : α} {u0 u1 : Value} (h : Got R base G e w (.slice (some ⟨g, 0, none⟩) 2 cap) [x, y])
    (hus : w.ownsRow base e 1 (.slice (some ⟨g, 0, none⟩) 2 cap) 2 [u0, u1]) (h1 : w1.ownsRow base e 1 (.slice (some ⟨g, 0, none⟩) 2 cap) 2 [u1, u0]) (hu : Upd [g] w w1) :
    Got R base G e w1 (.slice (some ⟨g, 0, none⟩) 2 cap) [y, x] := by
  obtain ⟨us, fps, q1, q2, q3, q4⟩ := h
  have hsame : us = [u0, u1] := by
    rcases q1.2 with ⟨h0, -⟩ | ⟨b, c, cur, hv, -, hh, -, -, -, r4⟩
    · cases h0
    · cases hv
      rcases hus.2 with ⟨h0, -⟩ | ⟨b', c', cur', hv', -, hh', -, -, -, r4'⟩
      · cases h0
      · cases hv'
        rw [hh] at hh'; cases hh'
        simp only [List.length_cons, List.length_nil] at r4
        rw [← r4, ← r4']
  subst hsame
  match fps, q2 with
  | [f0, f1], _ =>
    have hd : ∀ b ∈ f0 ++ f1, b ∉ [g] := fun b hb hm => by
      have := (q3 b (by simpa using hb)).1
      simp at hm; subst hm; simp [Value.ownBlock] at this
    refine ⟨[u1, u0], [f1, f0], h1, rfl, fun b hb => q3 b (by simp at hb ⊢; exact hb.symm), fun i hi u f hu' hf => ?_⟩
    match i, hi with
    | 0, _ =>
      simp at hu' hf; subst hu' hf
      exact K.upd (q4 1 (by simp) u1 f1 rfl rfl) hu (fun b hb => hd b (by simp [hb]))
    | 1, _ =>
      simp at hu' hf; subst hu' hf
      exact K.upd (q4 0 (by simp) u0 f0 rfl rfl) hu (fun b hb => hd b (by simp [hb]))

theorem gtL_or (a b : List Tm) : gtL a b = decide (0 < orV (cmpI a.length b.length) (cmpTL a b)) := by
  have h := cmpI_gt (a.length : Int) (b.length : Int)
  unfold gtL orV
  by_cases hl : a.length = b.length
  · have h0 : cmpI (a.length : Int) (b.length : Int) = 0 := by omega
    simp [hl, cmpI]
  · have h0 : cmpI (a.length : Int) (b.length : Int) ≠ 0 := by omega
    rw [if_neg hl, if_pos h0, decide_eq_decide]; omega
theorem orV_bd {x y : Int} (h1 : -1 ≤ x ∧ x ≤ 1) (h2 : -1 ≤ y ∧ y ≤ 1) : -1 ≤ orV x y ∧ orV x y ≤ 1 := by unfold orV; split <;> omega

def Cano (x : Ex) (w : World) (fp : List Nat) (e : Ending) (w' : World) : Prop := Fo w fp (canonE x) e w'

set_option maxRecDepth 20000 in
set_option maxHeartbeats 4000000 in
theorem canonLoop (n : Nat) (t1 t2 : Int) (args : List Ex) (w : World) (b0 : Nat) (fa : List Nat) (hn : (flatEs args).length ≤ n) (h100 : (flatEs args).length ≤ 100) (hl2 : args.length ≤ 2)
    (ih : ∀ (x : Ex) (w : World) (v : Value) (fp : List Nat), (flatE x).length ≤ n → (flatE x).length ≤ 100 → goodE 29 x = true → R_E fp w [v] x → Calls Try.prog 38 #[v] w (Cano x w fp))
    (hg : goodE 29 (.mk (t1, t2) args) = true) (hR : R_E (b0 :: fa) w [.pointer (some ⟨b0, 0, none⟩)] (.mk (t1, t2) args)) :
    Calls Try.prog 38 #[.pointer (some ⟨b0, 0, none⟩)] w (Cano (.mk (t1, t2) args) w (b0 :: fa)) := by
  obtain ⟨i0, hi, hz0, hz1, hz2⟩ := info_parts Try.infoE
  have HR0 := Lib.hid hR
  obtain ⟨_, s, _, hv, hfp, c0, c1, c2, hargs⟩ := R_E_open hR
  cases hv
  simp only [List.cons.injEq, true_and] at hfp
  subst hfp
  obtain ⟨a, cap, rfl, h1, h2, hc⟩ := slP_open hargs
  have hlta := (slP_kept R_Ek).lt hargs
  unfold maxLen at h2
  have hg0 := hg
  rw [goodE_mk] at hg
  simp only [Bool.and_eq_true, decide_eq_true_eq] at hg
  obtain ⟨⟨hlen, hok⟩, hgs⟩ := hg
  have HIH := Lib.hid ih
  have HG0 := Lib.hid hg0
  have HGS := Lib.hid hgs
  have HLT := Lib.hid hlta
  have HLEN := Lib.hid hlen
  have HOK := Lib.hid hok
  have hltb : b0 < w.heap.size := World.block_lt_of_cell? w _ c0
  clear ih hR hg0 hgs hok hargs hlta hlen
  have hst : Upd [] w (w.alloc (.cells #[ei t1, ei t2, .slice none 0 0] 70)) := (Upd.refl _ _).alloc _
  have hst1 := own_new w #[ei t1, ei t2, .slice none 0 0] 70
  have HST := Lib.hid (And.intro hst hst1)
  have HG := Lib.hid (show ∀ b ∈ b0 :: fa, b < w.heap.size from fun b hb => by
    rcases List.mem_cons.1 hb with rfl | hb
    · exact hltb
    · exact HLT.out b hb)
  have hft : ∀ k, (hk : k < args.length) → canonEs (args.take (k + 1)) = canonEs (args.take k) ++ [canonE args[k]] := by
    intro k hk; rw [canonEs_map, canonEs_map, List.take_succ_eq_append_getElem hk, List.map_append]; rfl
  have HFT := Lib.hid hft
  clear hst hst1 hft
  go_enter Try.func38, Try.ntmps38
  go_wp2_with fail
  go_loopw [19] (fun i wr => ∃ (k : Nat) (vo : Value), k ≤ args.length ∧ i = .int .i64 k ∧ Upd [] w wr ∧ wr.cell? ⟨w.heap.size, 0, none⟩ = some (ei t1) ∧ wr.cell? ⟨w.heap.size, 1, none⟩ = some (ei t2) ∧
      wr.cell? ⟨w.heap.size, 2, none⟩ = some vo ∧ Own [w.heap.size] wr ∧ Got R_E (w.heap.size + 1) (fun b => b ∈ b0 :: fa ∨ w.heap.size + 1 ≤ b) 51 wr vo (canonEs (args.take k)))
    (fun i _ => args.length - (intOf i).toNat)
  case atStart => exact ⟨0, _, Nat.zero_le _, rfl, HST.out.1, by simp, by simp, by simp, HST.out.2, Got.nil _ _ _ _ _⟩
  case round =>
    clear HST
    obtain ⟨k, vo, hk, rfl, hU, d0, d1, d2, hown0, hgot⟩ := hrel
    by_cases hlt : k < args.length
    · obtain ⟨b, off, u, f, rfl, hbm, hbl, hcell, hsub, hr⟩ := hc k hlt
      have hcell' := hU.keep hcell
      have hr' := R_Ek.upd hr hU (by simp)
      have hgk : goodE 29 args[k] = true := by
        have := HGS.out; rw [goodEs_all, List.all_eq_true] at this; exact this _ (by simp)
      have hlk : (flatE args[k]).length ≤ (flatEs args).length := flatE_arg_le' args k hlt
      have hts := HFT.out k hlt
      have S2 := HIH.out args[k] wr.drew u f (by omega) (by omega) hgk (R_Ek.drew hr')
      unfold Cano at S2
      have HTS := Lib.hid hts
      have HSUB := Lib.hid hsub
      generalize canonE args[k] = y at *
      have HS2 := Lib.hid S2
      have hsz := hU.size
      have hN0 : w.heap.size < wr.heap.size := World.block_lt_of_cell? wr _ d0
      have HOB := Lib.hid (show ∀ b, vo.ownBlock = some b → w.heap.size + 1 ≤ b ∧ b < wr.heap.size from fun b hb => by
        obtain ⟨us', h9⟩ := hgot.own; exact h9.lt b hb)
      have hlk2 : (canonEs (args.take k)).length ≤ 2 := by rw [canonEs_map, List.length_map, List.length_take]; omega
      have HGOT := Lib.hid hgot
      have HU := Lib.hid hU
      have HOWN := Lib.hid hown0
      have hfz : wr.frozen? ⟨w.heap.size, 2, none⟩ = false := hown0.frozen (by simp) _
      generalize hLN : (canonEs (args.take k)).length = LN at *
      have HLN := Lib.hid hLN
      obtain ⟨us, hou⟩ := HGOT.out.own
      rw [HLN.out] at hou
      have HOU := Lib.hid hou
      clear hcell hr hr' hgk hlk hts hc hsub S2 hgot hU hown0 hLN hou
      go_wp2_with fail
      go_region_law ((first
        | (refine step_call (by rfl) 38 #[u] (by go_simp) ?_; refine HS2.out.mono ?_; rintro e w3 ⟨⟨v3, fp3, rfl, hR3, hfp3⟩, hu3⟩; obtain ⟨⟨⟨k1, k2⟩, ys⟩, hy⟩ : ∃ z : Ex, y = z := ⟨_, rfl⟩; rw [hy] at hR3; obtain ⟨pb, ps, pf, rfl, rfl, e0, -, -, -⟩ := R_E_open hR3; have hu13 : Upd [] wr w3 := (Upd.refl [] wr).drew.trans hu3; have d2' := hu13.keep d2; have hfz3 : w3.frozen? ⟨w.heap.size, 2, none⟩ = false := (HOWN.out.upd hu13 (by simp)).frozen (by simp) _; have hou3 := ownsRow_upd HOU.out hu13; have hN3 : w.heap.size < w3.heap.size := Nat.lt_of_lt_of_le hN0 hu13.size; refine ⟨_, rfl, ?_⟩)
        | (refine step_append_lies _ (by rfl) _ _ 66 (by rfl) (w.heap.size + 1) 51 i0 (.pointer none) 1 8 Try.underlying66 hi hz0 hz1 hz2 rfl (by decide) vo LN us (by rfl) (hou3.alloc _) ⟨w3.heap.size, 0, none⟩ 1 1 [.pointer (some ⟨pb, 0, none⟩)] (by rfl) (by rfl) (by intro j u hj; match j, hj with | 0, hj => simp at hj; subst hj; simp [Addr.add]) (by simp [Value.oneCell']) (by decide) (by unfold maxLen; omega) (by omega) (by have := hu13.size; simp; omega) (w3.heap.size + 1) (by simp) ?_; intro g gcap w4 hown4 hg4 hat4 hlt4; have hvo : some w.heap.size ≠ vo.ownBlock := (fun h => by have := HOB.out _ h.symm; omega); have hsz3 := hu13.size; have f2 : w4.cell? ⟨w.heap.size, 2, none⟩ = some vo := ((hg4.cell_far _ (by simp; omega) hvo).trans (((Upd.refl [] w3).alloc _).keep d2')); have hfz4 : w4.frozen? ⟨w.heap.size, 2, none⟩ = false := (hg4.frozen_far ⟨w.heap.size, 2, none⟩ (by simp; omega) hvo).trans (((HOWN.out.upd hu13 (by simp)).upd ((Upd.refl [] w3).alloc _) (by simp)).frozen (by simp) _))))
      all_goals
        rw [hy] at HTS
        have hgot3 := HGOT.out.upd R_Ek hu13 (by simp)
        have hgb : ∀ b ∈ pb :: pf, vo.ownBlock ≠ some b ∧ (b ∈ b0 :: fa ∨ w.heap.size + 1 ≤ b) := by
          intro b hb
          rcases hfp3 b hb with h | h
          · have hm : b ∈ b0 :: fa := List.mem_cons_of_mem _ (HSUB.out b h)
            exact ⟨fun he => by have := HOB.out b he; have := HG.out b hm; omega, Or.inl hm⟩
          · have h' : wr.heap.size ≤ b := by simpa using h
            exact ⟨fun he => by have := HOB.out b he; omega, Or.inr (by omega)⟩
        have hgot4 := hgot3.push R_Ek (by rw [HLN.out]; exact hou3) hR3 hgb _ (by rw [HLN.out]; exact hown4) hg4 (by
          intro b hb
          simp only [Value.ownBlock, Option.some.injEq] at hb
          subst hb
          rcases hat4 with h | h
          · exact Or.inl h
          · right; simp; omega)
        have hu4 : Upd vo.ownBlock.toList w3 w4 := ((Upd.refl _ _).alloc _).grown hg4 (fun k hk => Or.inr (by simp [hk]))
        have hNob : w.heap.size ∉ vo.ownBlock.toList := fun hm => by have := HOB.out _ (by simpa using hm); omega
        have hU4 : Upd [] w w4 := (HU.out.trans hu13).fresh hu4 (fun b hb => Or.inl (by have := HOB.out b (by simpa using hb); omega))
        have hbN : w4.heap[w.heap.size]? = w3.heap[w.heap.size]? := hu4.block _ hN3 hNob
        have f0 : w4.cell? ⟨w.heap.size, 0, none⟩ = some (ei t1) := (World.cell?_of_block (w := w3) hbN).trans (hu13.keep d0)
        have f1 : w4.cell? ⟨w.heap.size, 1, none⟩ = some (ei t2) := (World.cell?_of_block (w := w3) hbN).trans (hu13.keep d1)
        have hown5 : Own [w.heap.size] w4 := (HOWN.out.upd hu13 (by simp)).frame (by intro b hb; obtain rfl : b = w.heap.size := (by simpa using hb); exact hbN)
        have hNG : ∀ b ∈ [w.heap.size], b < w.heap.size + 1 ∧ ¬ (b ∈ b0 :: fa ∨ w.heap.size + 1 ≤ b) := by
          intro b hb
          obtain rfl : b = w.heap.size := by simpa using hb
          refine ⟨by omega, fun hG => ?_⟩
          rcases hG with h | h
          · have := HG.out _ h; omega
          · omega
        have hus4 : Upd [w.heap.size] w4 (w4.setCell ⟨w.heap.size, 2, none⟩ (.slice (some ⟨g, 0, none⟩) (LN + 1) gcap)) := (Upd.refl _ _).setCell (by simp) _
        have hgot5 := hgot4.upd R_Ek hus4 hNG
        rw [← HTS.out] at hgot5
        have HP := Lib.hid (And.intro hgot5 (And.intro (hU4.setCell (p := ⟨w.heap.size, 2, none⟩) (Or.inl (Nat.le_refl _)) (.slice (some ⟨g, 0, none⟩) (LN + 1) gcap)) (hown5.setCell ⟨w.heap.size, 2, none⟩ (.slice (some ⟨g, 0, none⟩) (LN + 1) gcap))))
        clear hgot5 hgot4 hgot3 hus4 hNG hown5 hbN hNob hu4 hU4 hg4 hat4 hown4 hgb hfz4 hfz3 d2' e0 hu3 hu13 hR3 hfp3 hou3
        go_wp2_with fail
        go_roundw
        case rel =>
          refine ⟨k + 1, .slice (some ⟨g, 0, none⟩) (LN + 1) gcap, by omega, by go_num, HP.out.2.1, ?_, ?_, ?_, HP.out.2.2, HP.out.1⟩
          · exact (World.cell?_setCell_other _ _ _ _ (by simp)).trans f0
          · exact (World.cell?_setCell_other _ _ _ _ (by simp)).trans f1
          · exact World.cell?_setCell_same _ _ _ f2
        case measure => simp [intOf]; omega
    · obtain rfl : k = args.length := by omega
      rw [List.take_length] at hgot
      have hfin : ∀ (w' : World) (vv : Value) (bs : List Ex), w.heap.size ≤ w'.heap.size → w'.cell? ⟨w.heap.size, 0, none⟩ = some (ei t1) → w'.cell? ⟨w.heap.size, 1, none⟩ = some (ei t2) → w'.cell? ⟨w.heap.size, 2, none⟩ = some vv →
          Got R_E (w.heap.size + 1) (fun b => b ∈ b0 :: fa ∨ w.heap.size + 1 ≤ b) 51 w' vv bs → swapE (t1, t2) (canonEs args) = bs → Upd [] w w' →
          Cano (.mk (t1, t2) args) w (b0 :: fa) (.returned (.pointer (some ⟨w.heap.size, 0, none⟩))) w' := by
        intro w' vv bs _ e0 e1 e2 hgt hsw hu
        obtain ⟨fs, hsl, hfs⟩ := hgt.slP
        refine ⟨⟨_, w.heap.size :: fs, rfl, ?_, ?_⟩, hu⟩
        · rw [canonE, hsw]; exact R_E_mk (t := (t1, t2)) e0 e1 e2 hsl
        · intro b hb
          rcases List.mem_cons.1 hb with rfl | hb
          · exact Or.inr (Nat.le_refl _)
          · rcases hfs b hb with h | h | h
            · exact Or.inr (by omega)
            · exact Or.inl h
            · exact Or.inr (by omega)
      have HFIN := Lib.hid hfin
      have HGOT := Lib.hid hgot
      have HU := Lib.hid hU
      have x0 := hU.keep c0
      have x1 := hU.keep c1
      have hsz := hU.size
      have hb0r : b0 < wr.heap.size := Nat.lt_of_lt_of_le hltb hsz
      clear hfin hgot hU hc hown0 HFT
      by_cases ht1 : t1 = 2
      · subst ht1
        have hl2' : args.length = 2 := by have := HLEN.out; simp [arity] at this; omega
        match args, hl2' with
        | [x, y], _ =>
        have hcs : canonEs [x, y] = [canonE x, canonE y] := rfl
        have hlx := canonE_len x
        have hly := canonE_len y
        simp only [flatEs, List.length_append, List.append_nil] at hn h100
        rw [hcs] at HGOT HFIN
        have hop : 0 ≤ t2 ∧ t2 ≤ 8 := by have := HOK.out; simp [tOk] at this; exact inB_true this
        have hstay : stays (2, t2) = ([1, 5, 6] : List Int).contains t2 := by
          simp only [stays, bne_self_eq_false, Bool.false_or, List.contains_cons, List.contains_nil, Bool.or_false]
          cases (t2 == 1) <;> cases (t2 == 5) <;> cases (t2 == 6) <;> rfl
        have hsw : swapE (2, t2) [canonE x, canonE y] = if stays (2, t2) then [canonE x, canonE y] else if gtL (flatE (canonE x)) (flatE (canonE y)) then [canonE y, canonE x] else [canonE x, canonE y] := by
          simp [swapE]
        have HSW := Lib.hid hsw
        have HSTAY := Lib.hid hstay
        obtain ⟨us, hou⟩ := HGOT.out.own
        obtain ⟨g, gcap, rfl, -, -⟩ := hou.form (by simp)
        obtain ⟨u0, u1, rfl⟩ : ∃ u0 u1, us = [u0, u1] := by
          match us, hou.1 with
          | [u0, u1], _ => exact ⟨u0, u1, rfl⟩
        have hcont := containsI (.slice (some ⟨wr.heap.size, 0, none⟩) 3 3) [1, 5, 6] t2 (wr.alloc (.cells #[ei 1, ei 5, ei 6] 2))
        obtain ⟨fl, hfl, -⟩ := new_lit (enc := fun n => ei n) wr 2 [1, 5, 6] (by simp [maxLen])
        have S1 := Lib.hid (hcont fl hfl)
        have HOU := Lib.hid hou
        clear hcs hsw hstay hcont hfl hou
        simp only [List.length_cons, List.length_nil, Nat.zero_add, Nat.reduceAdd] at *
        go_wp2_with fail
        refine S1.out.mono ?_
        rintro e w5 ⟨rfl, rfl⟩
        obtain ⟨bb, hbb⟩ : ∃ bb, bb = ([1, 5, 6] : List Int).contains t2 := ⟨_, rfl⟩
        rw [← hbb] at HSTAY ⊢
        clear S1 hbb
        have hu5 : Upd [] wr (wr.alloc (.cells #[ei 1, ei 5, ei 6] 2)) := (Upd.refl _ _).alloc _
        have hgot5 := HGOT.out.upd R_Ek hu5 (by simp)
        have hou5 := ownsRow_upd HOU.out hu5
        have HU5 := Lib.hid (HU.out.trans hu5)
        have e0 := hu5.keep d0
        have e1 := hu5.keep d1
        have e2 := hu5.keep d2
        have HGOT5 := Lib.hid hgot5
        have HOU5 := Lib.hid hou5
        have hsz5 : w.heap.size + 1 ≤ (wr.alloc (.cells #[ei 1, ei 5, ei 6] 2)).heap.size := by
          have := World.block_lt_of_cell? wr _ d0; simp; omega
        have HB5 := Lib.hid (HOU5.out.lt g (by simp [Value.ownBlock]))
        generalize (wr.alloc (.cells #[ei 1, ei 5, ei 6] 2)) = w5 at *
        clear hgot5 hou5 hu5 d0 d1 d2 x0 x1 hsz
        cases bb
        · have hst : stays (2, t2) = false := HSTAY.out
          have hsw2 : swapE (2, t2) [canonE x, canonE y] = if gtL (flatE (canonE x)) (flatE (canonE y)) then [canonE y, canonE x] else [canonE x, canonE y] := by rw [HSW.out, hst]; rfl
          have HSW2 := Lib.hid hsw2
          obtain ⟨fs, hsl, -⟩ := HGOT5.out.slP
          obtain ⟨_, _, hv, -, hgm, hx⟩ := slP_open hsl
          simp only [Value.slice.injEq] at hv
          obtain ⟨rfl, -, rfl⟩ := hv
          obtain ⟨_, _, v0, f0, hb, -, -, k0, -, hr0⟩ := hx 0 (by simp)
          simp only [Option.some.injEq, Addr.mk.injEq, and_true] at hb
          obtain ⟨rfl, rfl⟩ := hb
          obtain ⟨_, _, v1, f1, hb, -, -, k1, -, hr1⟩ := hx 1 (by simp)
          simp only [Option.some.injEq, Addr.mk.injEq, and_true] at hb
          obtain ⟨rfl, rfl⟩ := hb
          have m0 := HOU5.out.cellAt 0 (by simp)
          have m1 := HOU5.out.cellAt 1 (by simp)
          simp only [List.getElem_cons_zero, List.getElem_cons_succ, Nat.add_zero, Nat.zero_add] at k0 k1 hr0 hr1 m0 m1
          rw [k0] at m0; rw [k1] at m1
          simp at m0 m1
          subst m0 m1
          obtain ⟨p0, rfl⟩ := R_E_form hr0
          obtain ⟨p1, rfl⟩ := R_E_form hr1
          have hl0 : (flatE (canonE x)).length ≤ 100 := by rw [canonE_len]; omega
          have hl1 : (flatE (canonE y)).length ≤ 100 := by rw [canonE_len]; omega
          have HGL := Lib.hid (gtL_or (flatE (canonE x)) (flatE (canonE y)))
          have L1 := Lib.hid (listE (canonE x) w5.drew _ f0 (by omega) (R_Ek.drew hr0))
          have L2 := Lib.hid (fun (w' : World) (h : Upd [] w5 w') => listE (canonE y) w' _ f1 (by omega) (R_Ek.upd hr1 h (by simp)))
          generalize canonE x = cx at *
          generalize canonE y = cy at *
          unfold maxLen at hgm
          clear hst hsw2 hsl hx hr0 hr1 hlx hly
          go_wp2_with fail
          go_region_held3 (fun w' => w'.cell? ⟨w.heap.size, 2, none⟩ = some (.slice (some ⟨g, 0, none⟩) 2 gcap) ∧ w'.cell? ⟨g, 0, none⟩ = some (.pointer (some ⟨p0, 0, none⟩)) ∧ w'.cell? ⟨g, 1, none⟩ = some (.pointer (some ⟨p1, 0, none⟩))) (go_keep)
            (first | (go_at_call 35; (with_reducible refine L1.out.mono ?_); rintro e w6 ⟨⟨v6, rfl, hn6⟩, hu6⟩; have hu56 := (Upd.refl [] w5).drew.trans hu6; have r0 := hu56.keep e2; have r1 := hu56.keep k0; have r2 := hu56.keep k1)
                   | (go_at_call 35; (with_reducible refine (L2.out w6 hu56).mono ?_); rintro e w7 ⟨⟨v7, rfl, hn7⟩, hu7⟩; have hu57 := hu56.trans hu7; have s0 := hu57.keep e2; have s1 := hu57.keep k0; have s2 := hu57.keep k1))
          obtain ⟨a6, c6, rfl⟩ := hn6.form
          obtain ⟨a7, c7, rfl⟩ := hn7.form
          obtain ⟨f6, hn6, -, -⟩ := hn6
          obtain ⟨f7, hn7, -, -⟩ := hn7
          have hn6' := R_T1k.upd hn6 hu7 (by simp)
          have S3 := Lib.hid (compareFuncT _ _ _ _ w7 _ _ hn6' hn7)
          have hbx := cmpTL_bd (flatE cx) (flatE cy)
          have hby := (cmpI_gt ((flatE cx).length : Int) ((flatE cy).length : Int)).2.2.2
          have S4 := Lib.hid (fun w => compareInt ((flatE cx).length : Int) ((flatE cy).length : Int) w)
          have hbo := orV_bd hby hbx
          have HU57 := Lib.hid hu57
          have HGL2 := Lib.hid (show gtL (flatE cx) (flatE cy) = decide (0 < orV (cmpI (flatE cx).length (flatE cy).length) (cmpTL (flatE cx) (flatE cy))) from HGL.out)
          generalize cmpI ((flatE cx).length : Int) ((flatE cy).length : Int) = X at *
          generalize cmpTL (flatE cx) (flatE cy) = Y at *
          have S5 := Lib.hid (fun (B : Nat) (w : World) h0 h1 => orI B 0 2 X Y w h0 h1)
          generalize orV X Y = Z at *
          generalize (flatE cx).length = LX at *
          generalize (flatE cy).length = LY at *
          clear hn6 hn7 hn6' hu6 hu7 hu56 hu57 r0 r1 r2 L1 L2 k0 k1 e2 HGL
          go_wp2_with fail
          refine (S4.out _).mono ?_
          rintro e w8 ⟨rfl, rfl⟩
          go_wp2_with fail
          refine S3.out.mono ?_
          rintro e w8 ⟨rfl, hu8⟩
          clear S3 S4
          have t0 := hu8.keep s0
          have t1 := hu8.keep s1
          have t2' := hu8.keep s2
          have HU58 := Lib.hid (HU57.out.trans hu8)
          clear s0 s1 s2 hu8
          go_wp2_with fail
          refine (S5.out _ _ (by simp) (by simp)).mono ?_
          rintro e w9 ⟨rfl, rfl⟩
          clear S5
          have HU59 := Lib.hid (HU58.out.alloc (.cells #[ei X, ei Y] 3))
          have n0 := HU59.out.keep e0
          have n1 := HU59.out.keep e1
          have hg5 := HGOT5.out.upd R_Ek HU59.out (by simp)
          have ho5 := ownsRow_upd HOU5.out HU59.out
          have m2 := ((Upd.refl [] w8).alloc (.cells #[ei X, ei Y] 3)).keep t0
          have hsz9 := HU59.out.size
          generalize (w8.alloc (.cells #[ei X, ei Y] 3)) = w9 at *
          have HG9 := Lib.hid hg5
          have HO9 := Lib.hid ho5
          clear hg5 ho5 t0 t1 t2' e0 e1
          by_cases hz : 0 < Z
          · have S6 := Lib.hid (reverse2 g gcap _ _ _ _ w9 p0 p1 rfl rfl HO9.out)
            have hsw3 : swapE (2, t2) [cx, cy] = [cy, cx] := by rw [HSW2.out, HGL2.out, decide_eq_true hz]; rfl
            have HS3 := Lib.hid hsw3
            clear hsw3
            go_wp2_with fail
            refine S6.out.mono ?_
            rintro e w10 ⟨rfl, ho10, hu10⟩
            have hg10 := Got.swap R_Ek HG9.out HO9.out ho10 hu10
            have hne : ∀ o, (⟨w.heap.size, o, none⟩ : Addr).block ∉ [g] := fun o hm => by have := HB5.out; simp at hm; omega
            have hlw : w.heap.size < w9.heap.size := by omega
            have hbk := hu10.block w.heap.size hlw (by have := HB5.out; simp; omega)
            have q0 := (World.cell?_of_block (a := ⟨w.heap.size, 0, none⟩) hbk).trans n0
            have q1 := (World.cell?_of_block (a := ⟨w.heap.size, 1, none⟩) hbk).trans n1
            have q2 := (World.cell?_of_block (a := ⟨w.heap.size, 2, none⟩) hbk).trans m2
            have hu0 : Upd [] w w10 := (HU5.out.trans HU59.out).fresh hu10 (fun b hb => Or.inl (by have := HB5.out; simp at hb; omega))
            have HF := Lib.hid (HFIN.out w10 _ _ hu0.size q0 q1 q2 hg10 HS3.out hu0)
            clear hg10 hbk q0 q1 q2 hu0 hu10 ho10 hne S6
            go_wp2_with fail
            go_ret
            exact HF.out
          · have hsw3 : swapE (2, t2) [cx, cy] = [cx, cy] := by rw [HSW2.out, HGL2.out, decide_eq_false hz]; rfl
            have hu0 : Upd [] w w9 := HU5.out.trans HU59.out
            have HF := Lib.hid (HFIN.out w9 _ _ hu0.size n0 n1 m2 HG9.out hsw3 hu0)
            clear hsw3 hu0
            go_wp2_with fail
            go_ret
            exact HF.out
        · have hst : stays (2, t2) = true := HSTAY.out
          have HF := Lib.hid (HFIN.out w5 _ _ (by have := HU5.out.size; omega) e0 e1 e2 HGOT5.out (by rw [HSW.out, hst]; rfl) HU5.out)
          clear hst
          go_wp2_with fail
          go_ret
          exact HF.out
      · have hst : stays (t1, t2) = true := by simp [stays, ht1]
        have hsw : swapE (t1, t2) (canonEs args) = canonEs args := by simp [swapE, hst]
        have HF := Lib.hid (HFIN.out wr vo _ hsz d0 d1 d2 HGOT.out hsw HU.out)
        have hb1 : (t1 != 2) = true := by simpa using ht1
        clear hst hsw
        go_wp2_with fail
        go_ret
        exact HF.out

theorem canonI (n : Nat) : ∀ (x : Ex) (w : World) (v : Value) (fp : List Nat), (flatE x).length ≤ n → (flatE x).length ≤ 100 → goodE 29 x = true → R_E fp w [v] x → Calls Try.prog 38 #[v] w (Cano x w fp) := by
  induction n with
  | zero => intro x w v fp hn; have := flatE_pos x; omega
  | succ n ih =>
    intro x w v fp hn h100 hg hR
    obtain ⟨⟨t1, t2⟩, args⟩ := x
    obtain ⟨b0, s, fa, rfl, rfl, -, -, -, -⟩ := R_E_open hR
    simp only [flatE, List.length_cons] at hn h100
    have hl2 : args.length ≤ 2 := by
      have hg' := hg
      rw [goodE_mk] at hg'
      simp only [Bool.and_eq_true, decide_eq_true_eq] at hg'
      have := arity_bd (t1, t2); omega
    exact canonLoop n t1 t2 args w b0 fa (by omega) (by omega) hl2 ih hg hR

set_option maxRecDepth 20000 in
set_option maxHeartbeats 1000000 in
theorem canon_i (e : List Tm) (v : Value) (w : World) (fp : List Nat) (hR : R_T1 fp w [v] e) :
    Calls Try.prog 15 #[v] w fun r w' => (∃ v', r = .returned (.tuple #[v', .int .i64 (canonRes e).2]) ∧ New R_T1 w w' v' (canonRes e).1) ∧ Upd [] w w' := by
  have hR0 := Lib.hid hR
  obtain ⟨a, cap, rfl, g1, g2, -⟩ := slF2_open hR
  unfold maxLen at g2
  cases hb : eOk e
  · have hres : canonRes e = ([], 1) := by simp [canonRes, hb]
    have HR := Lib.hid hres
    clear hres
    go_enter Try.func15, Try.ntmps15
    go_wp2_with fail
    refine (termsOk _ e _ fp hR0.out).mono ?_
    rintro r w1 ⟨rfl, hu⟩
    rw [hb]
    go_wp2_with fail
    go_ret2
    rw [HR.out]
    exact ⟨⟨_, rfl, New.nilF _ _ _ _⟩, hu⟩
  · have hres : canonRes e = (flatE (canonE (treeOf e hb)), 0) := by simp [canonRes, hb]
    obtain ⟨hok, hfl⟩ := treeOf_ok e hb
    have hlen := eOk_len hb
    have hgood := eOk_good hb _ hok hfl
    have HR := Lib.hid hres
    have HB := Lib.hid hb
    generalize treeOf e hb = x at *
    have HOK := Lib.hid hok
    have HFL := Lib.hid hfl
    have HGD := Lib.hid hgood
    clear hres hok hfl hgood
    go_enter Try.func15, Try.ntmps15
    go_wp2_with fail
    refine (termsOk _ e _ fp hR0.out).mono ?_
    rintro r w1 ⟨rfl, hu⟩
    rw [HB.out]
    clear hb
    go_wp2_with fail
    refine (treeE x _ _ fp HOK.out (by rw [HFL.out]; omega) (by rw [HFL.out]; exact R_T1k.upd hR0.out hu (by simp))).mono ?_
    rintro r w2 ⟨⟨vt, rfl, ft, ht, -, -⟩, hu2⟩
    have hU := hu.trans hu2
    have S2 := Lib.hid (canonI _ x w2 vt ft (Nat.le_refl _) (by rw [HFL.out]; omega) HGD.out ht)
    clear hu hu2 ht
    go_wp2_with fail
    refine S2.out.mono ?_
    rintro r w3 ⟨⟨v3, f3, rfl, h3, -⟩, hu3⟩
    have hU3 := hU.trans hu3
    have hl3 := canonE_len x
    rw [HFL.out] at hl3
    have S3 := Lib.hid (listE (canonE x) w3 v3 f3 (by omega) h3)
    clear hu3 hU h3 hl3 S2
    go_wp2_with fail
    refine S3.out.mono ?_
    rintro r w4 ⟨⟨v4, rfl, h4⟩, hu4⟩
    have HN := Lib.hid (h4.mono (w0 := w) hU3.size)
    have HU4 := Lib.hid (hU3.trans hu4)
    clear hu4 h4 hU3 S3
    go_wp2_with fail
    go_ret2
    rw [HR.out]
    exact ⟨⟨_, rfl, HN.out⟩, HU4.out⟩

theorem canon_b (e : List Tm) : mkF_T1 (canonRes e).1 ≤ 300 := by
  unfold canonRes
  split
  · rename_i h
    obtain ⟨-, hfl⟩ := treeOf_ok e h
    have hlen := eOk_len h
    have := canonE_len (treeOf e h)
    rw [hfl] at this
    unfold mkF_T1; simp only; omega
  · simp [mkF_T1]

end Go.Proofs.Ytnioopbficcbeaa
