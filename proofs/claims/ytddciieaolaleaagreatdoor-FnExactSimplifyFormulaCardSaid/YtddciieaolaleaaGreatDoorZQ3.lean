/-
  Texts joined in one file: SimA, SimQ, SimR, ForS, ForT, SimD, SimH, SimJ, ForV, ForU, EncW, EncX, ForE, ForW, SimF, LawSimplifyFormula, OpenF, LabZ.
-/
import Derived.Test.YtddciieaolaleaaGreatDoorZQ1
import Derived.Test.YtddciieaolaleaaGreatDoorZQ2
import Derived.Deep.AppendLies
import Derived.Deep.QuietTactic
import Derived.BigQuiet
import Derived.Deep.DeepCutAuto
import Derived.Deep.RegionHeld3
import Derived.Lib.AppendStr
import Derived.Lib.SmallJoins
import Derived.Deep.Strs
import Derived.Lib.LaidTab
import Derived.Stop.LaidErr
import Derived.HandedShaped
import Derived.Handed
import Derived.Shelf.Vars
/-
  Formulas simplified: what the program's call returns. (Printed by tools/gensiml.py.)
-/
namespace Go.Proofs.YtddciieaolaleaaGreatDoor
open Go.RowKit

set_option maxRecDepth 20000 in
set_option maxHeartbeats 4000000 in
theorem simpAILoop (n : Nat) (t1 t2 : Int) (t3 : List UInt8) (t4 : Bool) (args : List (Tr Nd)) (w : World) (b0 : Nat) (fa : List Nat) (hn : (flatTs args).length ≤ n) (h100 : (flatTs args).length ≤ 900) (hl2 : args.length ≤ 2)
    (ih : ∀ (x : Tr Nd) (w : World) (v : Value) (fp : List Nat), (flatT x).length ≤ n → (flatT x).length ≤ 900 → okT arN x = true → (∀ n ∈ flatT x, fxN n) → R_X fp w [v] x → Calls Tryz.prog 48 #[v] w (FoX w fp (simpA x)))
    (hok : okT arN (.mk ⟨t1, t2, t3, t4⟩ args) = true) (hfx : ∀ n ∈ flatT (.mk ⟨t1, t2, t3, t4⟩ args), fxN n) (hR : R_X (b0 :: fa) w [.pointer (some ⟨b0, 0, none⟩)] (.mk ⟨t1, t2, t3, t4⟩ args)) :
    Calls Tryz.prog 48 #[.pointer (some ⟨b0, 0, none⟩)] w (FoX w (b0 :: fa) (simpA (.mk ⟨t1, t2, t3, t4⟩ args))) := by
  obtain ⟨i0, hi, hz0, hz1, hz2⟩ := info_parts Tryz.infoX
  have HR0X := Lib.hid hR
  have HFX := Lib.hid hfx
  clear hfx
  obtain ⟨_, s, _, hv, hfp, c0, c1, c2, c3, c4, hargs⟩ := R_X_open hR
  cases hv
  simp only [List.cons.injEq, true_and] at hfp
  subst hfp
  obtain ⟨a, cap, rfl, h1, h2, hc⟩ := slP_open hargs
  have hlta := (slP_kept R_Xk).lt hargs
  unfold maxLen at h2
  simp only [okT, Bool.and_eq_true, decide_eq_true_eq] at hok
  have HIH := Lib.hid ih
  have HOKS := Lib.hid hok.2
  have HLEN := Lib.hid hok.1
  have HLT := Lib.hid hlta
  have hltb : b0 < w.heap.size := World.block_lt_of_cell? w _ c0
  clear ih hR hok hargs hlta
  have hst : Upd [] w (w.alloc (.cells #[ei t1, ei t2, es t3, .bool t4, .slice none 0 0] 87)) := (Upd.refl _ _).alloc _
  have hst1 := own_new w #[ei t1, ei t2, es t3, .bool t4, .slice none 0 0] 87
  have HST := Lib.hid (And.intro hst hst1)
  have HG := Lib.hid (show ∀ b ∈ b0 :: fa, b < w.heap.size from fun b hb => by
    rcases List.mem_cons.1 hb with rfl | hb
    · exact hltb
    · exact HLT.out b hb)
  have hft : ∀ k, (hk : k < args.length) → simpAs (args.take (k + 1)) = simpAs (args.take k) ++ [simpA args[k]] := by
    intro k hk; rw [simpAs_map, simpAs_map, List.take_succ_eq_append_getElem hk, List.map_append]; rfl
  have HFT := Lib.hid hft
  clear hst hst1 hft
  simp only at c0 c1 c2 c3
  go_enter Tryz.func48, Tryz.ntmps48
  go_wp2_with fail
  go_loopw [19] (fun i wr => ∃ (k : Nat) (vo : Value), k ≤ args.length ∧ i = .int .i64 k ∧ Upd [] w wr ∧ wr.cell? ⟨w.heap.size, 0, none⟩ = some (ei t1) ∧ wr.cell? ⟨w.heap.size, 1, none⟩ = some (ei t2) ∧ wr.cell? ⟨w.heap.size, 2, none⟩ = some (es t3) ∧ wr.cell? ⟨w.heap.size, 3, none⟩ = some (.bool t4) ∧
      wr.cell? ⟨w.heap.size, 4, none⟩ = some vo ∧ Own [w.heap.size] wr ∧ Got R_X (w.heap.size + 1) (fun b => b ∈ b0 :: fa ∨ w.heap.size + 1 ≤ b) 59 wr vo (simpAs (args.take k)))
    (fun i _ => args.length - (intOf i).toNat)
  case atStart => exact ⟨0, _, Nat.zero_le _, rfl, HST.out.1, by simp, by simp, by simp, by simp, by simp, HST.out.2, Got.nil _ _ _ _ _⟩
  case round =>
    clear HST
    obtain ⟨k, vo, hk, rfl, hU, d0, d1, d2, d3, d4, hown0, hgot⟩ := hrel
    by_cases hlt : k < args.length
    · obtain ⟨b, off, u, f, rfl, hbm, hbl, hcell, hsub, hr⟩ := hc k hlt
      have hcell' := hU.keep hcell
      have hr' := R_Xk.upd hr hU (by simp)
      have hgk : okT arN args[k] = true := by
        have := HOKS.out; rw [okTs_all, List.all_eq_true] at this; exact this _ (by simp)
      have hlk : (flatT args[k]).length ≤ (flatTs args).length := flatT_arg_le args k hlt
      have hts := HFT.out k hlt
      have S2 := HIH.out args[k] wr.drew u f (by omega) (by omega) hgk (fun n hn => HFX.out n (by rw [flatT]; exact List.mem_cons_of_mem _ (flatTs_mem (List.getElem_mem hlt) n hn))) (R_Xk.drew hr')
      unfold FoX at S2
      have HTS := Lib.hid hts
      have HSUB := Lib.hid hsub
      generalize simpA args[k] = y at *
      have HS2 := Lib.hid S2
      have hsz := hU.size
      have hN0 : w.heap.size < wr.heap.size := World.block_lt_of_cell? wr _ d0
      have HOB := Lib.hid (show ∀ b, vo.ownBlock = some b → w.heap.size + 1 ≤ b ∧ b < wr.heap.size from fun b hb => by
        obtain ⟨us', h9⟩ := hgot.own; exact h9.lt b hb)
      have hlk2 : (simpAs (args.take k)).length ≤ 2 := by rw [simpAs_map, List.length_map, List.length_take]; omega
      have HGOT := Lib.hid hgot
      have HU := Lib.hid hU
      have HOWN := Lib.hid hown0
      have hfz : wr.frozen? ⟨w.heap.size, 4, none⟩ = false := hown0.frozen (by simp) _
      generalize hLN : (simpAs (args.take k)).length = LN at *
      have HLN := Lib.hid hLN
      obtain ⟨us, hou⟩ := HGOT.out.own
      rw [HLN.out] at hou
      have HOU := Lib.hid hou
      clear hcell hr hr' hgk hlk hts hc hsub S2 hgot hU hown0 hLN hou
      go_wp2_with fail
      go_region_law ((first
        | (refine step_call (by rfl) 48 #[u] (by go_simp) ?_; refine HS2.out.mono ?_; rintro e w3 ⟨⟨v3, fp3, rfl, hR3, hfp3⟩, hu3⟩; obtain ⟨pb, rfl⟩ := R_T_form hR3; have hu13 : Upd [] wr w3 := (Upd.refl [] wr).drew.trans hu3; have d4' := hu13.keep d4; have hfz3 : w3.frozen? ⟨w.heap.size, 4, none⟩ = false := (HOWN.out.upd hu13 (by simp)).frozen (by simp) _; have hou3 := ownsRow_upd HOU.out hu13; have hN3 : w.heap.size < w3.heap.size := Nat.lt_of_lt_of_le hN0 hu13.size; refine ⟨_, rfl, ?_⟩)
        | (refine step_append_lies _ (by rfl) _ _ 85 (by rfl) (w.heap.size + 1) 59 i0 (.pointer none) 1 8 Tryz.underlying85 hi hz0 hz1 hz2 rfl (by decide) vo LN us (by rfl) (hou3.alloc _) ⟨w3.heap.size, 0, none⟩ 1 1 [.pointer (some ⟨pb, 0, none⟩)] (by rfl) (by rfl) (by intro j u hj; match j, hj with | 0, hj => simp at hj; subst hj; simp [Addr.add]) (by simp [Value.oneCell']) (by decide) (by unfold maxLen; omega) (by omega) (by have := hu13.size; simp; omega) (w3.heap.size + 1) (by simp) ?_; intro g gcap w4 hown4 hg4 hat4 hlt4; have hvo : some w.heap.size ≠ vo.ownBlock := (fun h => by have := HOB.out _ h.symm; omega); have hsz3 := hu13.size; have f4 : w4.cell? ⟨w.heap.size, 4, none⟩ = some vo := ((hg4.cell_far _ (by simp; omega) hvo).trans (((Upd.refl [] w3).alloc _).keep d4')); have hfz4 : w4.frozen? ⟨w.heap.size, 4, none⟩ = false := (by rw [hg4.frozen_far _ (by simp; omega) hvo]; exact (((HOWN.out.upd hu13 (by simp)).upd ((Upd.refl [] w3).alloc _) (by simp)).frozen (by simp) _)))))
      all_goals
        have hgot3 := HGOT.out.upd R_Xk hu13 (by simp)
        have hgb : ∀ b ∈ fp3, vo.ownBlock ≠ some b ∧ (b ∈ b0 :: fa ∨ w.heap.size + 1 ≤ b) := by
          intro b hb
          rcases hfp3 b hb with h | h
          · have hm : b ∈ b0 :: fa := List.mem_cons_of_mem _ (HSUB.out b h)
            exact ⟨fun he => by have := HOB.out b he; have := HG.out b hm; omega, Or.inl hm⟩
          · have h' : wr.heap.size ≤ b := by simpa using h
            exact ⟨fun he => by have := HOB.out b he; omega, Or.inr (by omega)⟩
        have hgot4 := hgot3.push R_Xk (by rw [HLN.out]; exact hou3) hR3 hgb _ (by rw [HLN.out]; exact hown4) hg4 (by
          intro b hb
          simp only [Value.ownBlock, Option.some.injEq] at hb
          subst hb
          rcases hat4 with h | h
          · exact Or.inl h
          · right; simp; omega)
        have hu4 : Upd vo.ownBlock.toList w3 w4 := ((Upd.refl _ _).alloc _).grown hg4 (fun k hk => Or.inr (by simp [hk]))
        have hNob : w.heap.size ∉ vo.ownBlock.toList := fun hm => by have := HOB.out _ (by simpa using hm); omega
        have hU4 : Upd [] w w4 := (HU.out.trans hu13).fresh hu4 (fun b hb => Or.inl (by have := HOB.out b (by simpa using hb); omega))
        have hbN : w4.heap[w.heap.size]? = w3.heap[w.heap.size]? := hu4.block _ hN3 hNob
        have f0 : w4.cell? ⟨w.heap.size, 0, none⟩ = some (ei t1) := (World.cell?_of_block (w := w3) hbN).trans (hu13.keep d0)
        have f1 : w4.cell? ⟨w.heap.size, 1, none⟩ = some (ei t2) := (World.cell?_of_block (w := w3) hbN).trans (hu13.keep d1)
        have f2 : w4.cell? ⟨w.heap.size, 2, none⟩ = some (es t3) := (World.cell?_of_block (w := w3) hbN).trans (hu13.keep d2)
        have f3 : w4.cell? ⟨w.heap.size, 3, none⟩ = some (.bool t4) := (World.cell?_of_block (w := w3) hbN).trans (hu13.keep d3)
        have hown5 : Own [w.heap.size] w4 := (HOWN.out.upd hu13 (by simp)).frame (by intro b hb; obtain rfl : b = w.heap.size := (by simpa using hb); exact hbN)
        have hNG : ∀ b ∈ [w.heap.size], b < w.heap.size + 1 ∧ ¬ (b ∈ b0 :: fa ∨ w.heap.size + 1 ≤ b) := by
          intro b hb
          obtain rfl : b = w.heap.size := by simpa using hb
          refine ⟨by omega, fun hG => ?_⟩
          rcases hG with h | h
          · have := HG.out _ h; omega
          · omega
        have hus4 : Upd [w.heap.size] w4 (w4.setCell ⟨w.heap.size, 4, none⟩ (.slice (some ⟨g, 0, none⟩) (LN + 1) gcap)) := (Upd.refl _ _).setCell (by simp) _
        have hgot5 := hgot4.upd R_Xk hus4 hNG
        rw [← HTS.out] at hgot5
        have HP := Lib.hid (And.intro hgot5 (And.intro (hU4.setCell (p := ⟨w.heap.size, 4, none⟩) (Or.inl (Nat.le_refl _)) (.slice (some ⟨g, 0, none⟩) (LN + 1) gcap)) (hown5.setCell ⟨w.heap.size, 4, none⟩ (.slice (some ⟨g, 0, none⟩) (LN + 1) gcap))))
        clear hgot5 hgot4 hgot3 hus4 hNG hown5 hbN hNob hu4 hU4 hg4 hat4 hown4 hgb hfz4 hfz3 d4' hu3 hu13 hR3 hfp3 hou3
        go_wp2_with fail
        go_roundw
        case rel =>
          refine ⟨k + 1, .slice (some ⟨g, 0, none⟩) (LN + 1) gcap, by omega, by go_num, HP.out.2.1, ?_, ?_, ?_, ?_, ?_, HP.out.2.2, HP.out.1⟩
          · exact (World.cell?_setCell_other _ _ _ _ (by simp)).trans f0
          · exact (World.cell?_setCell_other _ _ _ _ (by simp)).trans f1
          · exact (World.cell?_setCell_other _ _ _ _ (by simp)).trans f2
          · exact (World.cell?_setCell_other _ _ _ _ (by simp)).trans f3
          · exact World.cell?_setCell_same _ _ _ f4
        case measure => simp [intOf]; omega
    · obtain rfl : k = args.length := by omega
      rw [List.take_length] at hgot
      obtain ⟨fs, hsl, hfs⟩ := hgot.slP
      have hnode := R_X_mk (t := ⟨t1, t2, t3, t4⟩) d0 d1 d2 d3 d4 hsl
      have hfsub : ∀ b ∈ w.heap.size :: fs, b ∈ b0 :: fa ∨ w.heap.size ≤ b := by
        intro b hb
        rcases List.mem_cons.1 hb with rfl | hb
        · exact Or.inr (Nat.le_refl _)
        · rcases hfs b hb with h | h | h
          · exact Or.inr (by omega)
          · exact Or.inl h
          · exact Or.inr (by omega)
      have HND := Lib.hid (And.intro hnode hfsub)
      have HU := Lib.hid hU
      have hsz := hU.size
      have hlm : ((simpAs args).length : Int) = arN ⟨t1, t2, t3, t4⟩ := by rw [simpAs_map, List.length_map]; exact HLEN.out
      have hfxa : ∀ n ∈ flatT (.mk ⟨t1, t2, t3, t4⟩ (simpAs args)), fxN n := by
        intro n hn
        rw [flatT] at hn
        rcases List.mem_cons.1 hn with rfl | hn
        · exact HFX.out _ (by simp [flatT])
        · exact (simpAs_good args HOKS.out (fun n hn => HFX.out n (by rw [flatT]; exact List.mem_cons_of_mem _ hn))).2.1 n hn
      obtain ⟨p1, -, p3⟩ := simpAs_good args HOKS.out (fun n hn => HFX.out n (by rw [flatT]; exact List.mem_cons_of_mem _ hn))
      have HE := Lib.hid (show simpA (.mk ⟨t1, t2, t3, t4⟩ args) = finA ⟨t1, t2, t3, t4⟩ (simpAs args) by rw [simpA])
      have FX := Lib.hid (isFixI t1 t2 t3 t4 wr)
      have HUK := Lib.hid (fun W (hu : Upd [] wr W) => R_Xk.upd hnode hu (by simp))
      have x0 := hU.keep c0
      have x1 := hU.keep c1
      have x2 := hU.keep c2
      have x3 := hU.keep c3
      cases hfix : fixF t1 with
      | false =>
        rw [hfix] at FX
        have HN := Lib.hid (fun W (hu : Upd [] wr W) => simpNodeI ⟨t1, t2, t3, t4⟩ (simpAs args) W _ _ hlm (by rw [flatT, List.length_cons]; omega) (HUK.out W hu))
        have HE2 := Lib.hid (show finA ⟨t1, t2, t3, t4⟩ (simpAs args) = nodeX ⟨t1, t2, t3, t4⟩ (simpAs args) by unfold finA; rw [if_pos (show fixF (⟨t1, t2, t3, t4⟩ : Nd).kd = false from hfix)])
        clear hgot hsl hfs hnode hfsub hc hown0 HFT hU hlm p1 p3 hfxa HUK hfix
        go_wp2_with fail
        refine FX.out.mono ?_
        rintro e w1 ⟨rfl, hu1⟩
        have HU1 := Lib.hid hu1
        have T1 := Lib.hid (HN.out w1 hu1)
        clear FX HN hu1
        go_wp2_with fail
        refine T1.out.mono ?_
        rintro e w2 ⟨⟨v', fp', rfl, hr, hs⟩, hu⟩
        have H1 := Lib.hid (And.intro hr (And.intro hs hu))
        obtain ⟨pb, rfl⟩ := R_T_form hr
        clear T1 hr hs hu
        go_wp2_with fail
        go_ret
        refine ⟨⟨_, fp', rfl, by rw [HE.out, HE2.out]; exact H1.out.1, fun b hb => ?_⟩, HU.out.trans (HU1.out.trans H1.out.2.2)⟩
        rcases H1.out.2.1 b hb with h | h
        · exact HND.out.2 b h
        · have := HU1.out.size; exact Or.inr (by omega)
      | true =>
        rw [hfix] at FX
        have h78 := fix_two hfix
        have hone : (args.length : Int) = 1 := by rw [HLEN.out]; exact arN_one (Or.inr (Or.inr h78))
        obtain ⟨y, rfl⟩ : ∃ y, args = [y] := by
          match args, hone with
          | [y], _ => exact ⟨y, rfl⟩
        obtain ⟨bo, hbo⟩ : ∃ bo, bo = simpA y := ⟨_, rfl⟩
        have hsa : simpAs [y] = [bo] := by rw [hbo]; rfl
        rw [hsa] at hsl hnode p1 p3 hfxa hlm HUK
        have HE := Lib.hid (show simpA (.mk ⟨t1, t2, t3, t4⟩ [y]) = finA ⟨t1, t2, t3, t4⟩ [bo] by rw [HE.out, hsa])
        have HEF := Lib.hid (show finA ⟨t1, t2, t3, t4⟩ [bo] = if kdT bo = 6 ∧ vrT bo = t2 then leafX (if t1 = 7 then 1 else 0) else if usesF (flatT (.mk ⟨t1, t2, t3, t4⟩ [bo])) then .mk ⟨t1, t2, t3, t4⟩ [bo] else bo by
          unfold finA; rw [if_neg (show ¬ fixF (⟨t1, t2, t3, t4⟩ : Nd).kd = false by rw [show fixF (⟨t1, t2, t3, t4⟩ : Nd).kd = true from hfix]; simp)]; rfl)
        obtain ⟨oa, ocap, rfl, og1, og2, hoc⟩ := slP_open hsl
        obtain ⟨ba, o2, u0, f0, rfl, hbam, -, q0, s0, r0⟩ := hoc 0 (by simp)
        unfold maxLen at og2
        have q0 : wr.cell? ⟨ba, o2, none⟩ = some u0 := q0
        have r0 : R_X f0 wr [u0] bo := r0
        have HR0 := Lib.hid (fun W (hu : Upd [] wr W) => R_Xk.upd r0 hu (by simp))
        have HS0 := Lib.hid (show ∀ b ∈ f0, b ∈ b0 :: fa ∨ w.heap.size ≤ b from fun b hb => HND.out.2 b (List.mem_cons_of_mem _ (s0 b hb)))
        have hokm : okT arN (.mk ⟨t1, t2, t3, t4⟩ [bo]) = true := by simp only [okT, p1, Bool.and_true, decide_eq_true_eq]; exact hlm
        have hlm2 : (flatT (.mk ⟨t1, t2, t3, t4⟩ [bo])).length ≤ 1000 := by rw [flatT, List.length_cons]; omega
        have HLI := Lib.hid (fun W (hu : Upd [] wr W) => listX (.mk ⟨t1, t2, t3, t4⟩ [bo]) W _ _ (by omega) (HUK.out W hu))
        have HUS := Lib.hid (fun W v fp (h : R_F1 fp W [v] (flatT (.mk ⟨t1, t2, t3, t4⟩ [bo]))) => usesI v _ W fp h (by omega) (flatT_pos _) (shape_tree hokm))
        have HX7 := Lib.hid (fun W (hu : Upd [] wr W) => isX (.mk ⟨t1, t2, t3, t4⟩ [y]) 7 W _ _ (R_Xk.upd HR0X.out (HU.out.trans hu) (by simp)))
        have HB6 := Lib.hid (fun W (hu : Upd [] wr W) n' => Calls.quiet_of_same (n := n') ((isX bo 6 (W.drewN n') u0 f0 (R_Xk.upd r0 (hu.drewN n') (by simp))).mono (fun e w' h => ⟨h.1, h.2.symm⟩)))
        obtain ⟨⟨k1, k2, k3, k4⟩, bargs⟩ := bo
        obtain ⟨pb, ps, pf, rfl, -, z0, z1, -⟩ := R_X_open r0
        simp only at z0 z1
        have HEK := Lib.hid (And.intro (show kdT (.mk ⟨k1, k2, k3, k4⟩ bargs) = k1 from rfl) (show vrT (.mk ⟨k1, k2, k3, k4⟩ bargs) = k2 from rfl))
        rw [HEK.out.1] at HB6
        rw [HEK.out.1, HEK.out.2] at HEF
        rw [show kdT (Tr.mk (⟨t1, t2, t3, t4⟩ : Nd) [y]) = t1 from rfl] at HX7
        generalize usesF (flatT (.mk ⟨t1, t2, t3, t4⟩ [.mk ⟨k1, k2, k3, k4⟩ bargs])) = us at *
        generalize finA ⟨t1, t2, t3, t4⟩ [.mk ⟨k1, k2, k3, k4⟩ bargs] = FA at *
        clear hgot hsl hfs hnode hfsub hc hown0 HFT hU hlm p1 p3 hfxa hoc r0 s0 hokm hlm2 hsa hbo hfix
        go_wp2_with fail
        refine FX.out.mono ?_
        rintro e w1 ⟨rfl, hu1⟩
        have HU1 := Lib.hid hu1
        have d4' := hu1.keep d4
        have q0' := hu1.keep q0
        have z0' := hu1.keep z0
        have z1' := hu1.keep z1
        have x1' := hu1.keep x1
        have B6 := Lib.hid (fun n' => HB6.out w1 hu1 n')
        clear FX hu1 d0 d1 d2 d3 d4 q0 z0 z1 x0 x1 x2 x3 HB6 c0 c1 c2 c3 c4
        go_wp2_with fail
        by_cases hk6 : k1 = 6
        · subst hk6
          by_cases hv2 : k2 = t2
          · subst hv2
            have HE3 := Lib.hid (show FA = leafX (if t1 = 7 then 1 else 0) by rw [HEF.out, if_pos ⟨rfl, rfl⟩])
            go_quiet ((go_at_call 81; with_reducible exact B6.out _))
            have X7 := Lib.hid (HX7.out (w1.drewN nq) (HU1.out.drewN nq))
            have HUQ := Lib.hid (HU.out.trans (HU1.out.drewN nq))
            generalize w1.drewN nq = wq at *
            clear B6 HX7 HLI HUS d4' q0' z0' z1' x1'
            have HBD := Lib.hid (show ∀ b ∈ [wq.heap.size], b ∈ b0 :: fa ∨ w.heap.size ≤ b from fun b hb => Or.inr (by have h9 := List.mem_singleton.1 hb; have := HUQ.out.size; omega))
            have HLF := Lib.hid (fun (W : World) (k : Int) => show R_X [W.heap.size] (W.alloc (.cells #[ei k, ei 0, es [], .bool false, .slice none 0 0] 87)) [.pointer (some ⟨W.heap.size, 0, none⟩)] (leafX k) from R_X_mk (by simp) (by simp) (by simp) (by simp) (by simp) (slP_nilv _ _))
            by_cases h7 : t1 = 7
            · subst h7
              go_wp2_with fail
              refine X7.out.mono ?_
              rintro e w2 ⟨rfl, rfl⟩
              go_wp2_with fail
              go_ret
              exact ⟨⟨_, [wq.heap.size], rfl, by rw [HE.out, HE3.out]; exact HLF.out wq 1, HBD.out⟩, HUQ.out.alloc _⟩
            · have hb7 : (t1 == 7) = false := by simpa using h7
              rw [hb7] at X7
              have HE4 := Lib.hid (show (if t1 = 7 then (1 : Int) else 0) = 0 by rw [if_neg h7])
              go_wp2_with fail
              refine X7.out.mono ?_
              rintro e w2 ⟨rfl, rfl⟩
              go_wp2_with fail
              go_ret
              exact ⟨⟨_, [wq.heap.size], rfl, by rw [HE.out, HE3.out, HE4.out]; exact HLF.out wq 0, HBD.out⟩, HUQ.out.alloc _⟩
          · have hvb : (k2 == t2) = false := by simpa using hv2
            have HE3 := Lib.hid (show FA = if us then .mk ⟨t1, t2, t3, t4⟩ [.mk ⟨6, k2, k3, k4⟩ bargs] else .mk ⟨6, k2, k3, k4⟩ bargs by rw [HEF.out, if_neg (fun h => hv2 h.2)])
            clear hv2
            go_quiet ((go_at_call 81; with_reducible exact B6.out _))
            have HUQ0 := Lib.hid (HU1.out.drewN nq)
            have L1 := Lib.hid (HLI.out (w1.drewN nq) HUQ0.out)
            clear B6 HX7 HLI d4' q0' z0' z1' x1'
            go_wp2_with fail
            refine L1.out.mono ?_
            rintro e w2 ⟨⟨v2, rfl, g2', r2, -, -⟩, hu2⟩
            have HU2 := Lib.hid (HUQ0.out.trans hu2)
            have U1 := Lib.hid (HUS.out w2 v2 g2' r2)
            obtain ⟨a2, c2', rfl, -, -, -⟩ := slF4_open r2
            clear L1 r2 hu2 HUS
            go_wp2_with fail
            refine U1.out.mono ?_
            rintro e w3 ⟨rfl, hu3⟩
            have HU3 := Lib.hid (HU2.out.trans hu3)
            clear U1 hu3
            cases us with
            | true =>
              go_wp2_with fail
              go_ret
              exact ⟨⟨_, _, rfl, by rw [HE.out, HE3.out]; exact HUK.out w3 HU3.out, HND.out.2⟩, HU.out.trans HU3.out⟩
            | false =>
              go_wp2_with fail
              go_ret
              exact ⟨⟨_, f0, rfl, by rw [HE.out, HE3.out]; exact HR0.out w3 HU3.out, HS0.out⟩, HU.out.trans HU3.out⟩
        · have hkb : (k1 == 6) = false := by simpa using hk6
          have HE3 := Lib.hid (show FA = if us then .mk ⟨t1, t2, t3, t4⟩ [.mk ⟨k1, k2, k3, k4⟩ bargs] else .mk ⟨k1, k2, k3, k4⟩ bargs by rw [HEF.out, if_neg (fun h => hk6 h.1)])
          clear hk6
          rw [hkb] at B6
          go_quiet ((go_at_call 81; with_reducible exact B6.out _))
          have HUQ0 := Lib.hid (HU1.out.drewN nq)
          have L1 := Lib.hid (HLI.out (w1.drewN nq) HUQ0.out)
          clear B6 HX7 HLI d4' q0' z0' z1' x1'
          go_wp2_with fail
          refine L1.out.mono ?_
          rintro e w2 ⟨⟨v2, rfl, g2', r2, -, -⟩, hu2⟩
          have HU2 := Lib.hid (HUQ0.out.trans hu2)
          have U1 := Lib.hid (HUS.out w2 v2 g2' r2)
          obtain ⟨a2, c2', rfl, -, -, -⟩ := slF4_open r2
          clear L1 r2 hu2 HUS
          go_wp2_with fail
          refine U1.out.mono ?_
          rintro e w3 ⟨rfl, hu3⟩
          have HU3 := Lib.hid (HU2.out.trans hu3)
          clear U1 hu3
          cases us with
          | true =>
            go_wp2_with fail
            go_ret
            exact ⟨⟨_, _, rfl, by rw [HE.out, HE3.out]; exact HUK.out w3 HU3.out, HND.out.2⟩, HU.out.trans HU3.out⟩
          | false =>
            go_wp2_with fail
            go_ret
            exact ⟨⟨_, f0, rfl, by rw [HE.out, HE3.out]; exact HR0.out w3 HU3.out, HS0.out⟩, HU.out.trans HU3.out⟩

set_option maxRecDepth 20000 in
theorem simpAI (n : Nat) : ∀ (x : Tr Nd) (w : World) (v : Value) (fp : List Nat), (flatT x).length ≤ n → (flatT x).length ≤ 900 → okT arN x = true → (∀ n ∈ flatT x, fxN n) → R_X fp w [v] x → Calls Tryz.prog 48 #[v] w (FoX w fp (simpA x)) := by
  induction n with
  | zero => intro x w v fp hn; have := flatT_pos x; omega
  | succ n ih =>
    intro x w v fp hn h100 hok hfx hR
    obtain ⟨⟨t1, t2, t3, t4⟩, args⟩ := x
    obtain ⟨b0, s, fa, rfl, rfl, -⟩ := R_X_open hR
    simp only [flatT, List.length_cons] at hn h100
    have hl2 : args.length ≤ 2 := by
      have h' := hok
      simp only [okT, Bool.and_eq_true, decide_eq_true_eq] at h'
      have h9 : (args.length : Int) = arI t1 := h'.1
      have := arI_in t1; omega
    exact simpAILoop n t1 t2 t3 t4 args w b0 fa (by omega) (by omega) hl2 ih hok hfx hR

end Go.Proofs.YtddciieaolaleaaGreatDoor

/-
  Formulas simplified, plainly: the reference's lists are the trees' nodes.
-/
namespace Go.Proofs.YtddciieaolaleaaGreatDoor
open Go.RowKit

end Go.Proofs.YtddciieaolaleaaGreatDoor

/-
  Formulas simplified: what the reference's small calls return.
-/
namespace Go.Proofs.YtddciieaolaleaaGreatDoor
open Go.RowKit

/-- a list of nodes and its own memory. -/
def R_O : Rp (List Nd) := fun fp w cs x => R_F1 fp w cs x ∧ Own fp w
theorem R_Ok : Kept R_O := ⟨fun h => R_F1k.lt h.1, fun h hs hb => ⟨R_F1k.frame h.1 hs hb, h.2.frame hb⟩⟩
def JoP (w : World) (fa fb : List Nat) (l : List Nd) (e : Ending) (w' : World) : Prop := (∃ v' fp', e = .returned v' ∧ R_O fp' w' [v'] l ∧ ∀ b ∈ fp', b ∈ fa ∨ b ∈ fb ∨ w.heap.size ≤ b) ∧ Upd [] w w'
theorem one_nd : ∀ (n : Nd), ∀ u ∈ [ei n.kd, ei n.vr, es n.lb, .bool n.nt], u.oneCell' = true := by
  intro n u hu
  simp at hu
  rcases hu with rfl | rfl | rfl | rfl <;> rfl
theorem one_nds (l : List Nd) : ∀ u ∈ l.flatMap encN, u.oneCell' = true := by
  intro u hu
  obtain ⟨n, -, h⟩ := List.mem_flatMap.1 hu
  exact one_nd n u h

end Go.Proofs.YtddciieaolaleaaGreatDoor

/-
  The reference's checks of nodes and of a formula's shape: what the calls return.
-/
namespace Go.Proofs.YtddciieaolaleaaGreatDoor
open Go.RowKit

set_option maxRecDepth 20000 in
set_option maxHeartbeats 800000 in
theorem arityS (a : Int) (w : World) : Calls Tryz.prog 33 #[ei a] w fun e w' => e = .returned (.int .i64 (arS a)) ∧ w = w' := by
  by_cases h0 : a = 0
  · have HI := Lib.hid (show arS a = 0 by subst h0; rfl)
    have b0 : (a == 0) = true := by simpa using h0
    clear h0
    go_enter Tryz.func33, Tryz.ntmps33
    go_wp2_with fail
    go_ret
    exact ⟨by rw [HI.out]; rfl, rfl⟩
  · have b0 : (a == 0) = false := by simpa using h0
    by_cases h1 : a = 1
    · have HI := Lib.hid (show arS a = 0 by subst h1; rfl)
      have b1 : (a == 1) = true := by simpa using h1
      clear h1 h0
      go_enter Tryz.func33, Tryz.ntmps33
      go_wp2_with fail
      go_ret
      exact ⟨by rw [HI.out]; rfl, rfl⟩
    · have b1 : (a == 1) = false := by simpa using h1
      by_cases h6 : a = 6
      · have HI := Lib.hid (show arS a = 0 by subst h6; rfl)
        have b6 : (a == 6) = true := by simpa using h6
        clear h6 h0 h1
        go_enter Tryz.func33, Tryz.ntmps33
        go_wp2_with fail
        go_ret
        exact ⟨by rw [HI.out]; rfl, rfl⟩
      · have b6 : (a == 6) = false := by simpa using h6
        by_cases h2 : a = 2
        · have HI := Lib.hid (show arS a = 2 by subst h2; rfl)
          have b2 : (a == 2) = true := by simpa using h2
          clear h2 h0 h1 h6
          go_enter Tryz.func33, Tryz.ntmps33
          go_wp2_with fail
          go_ret
          exact ⟨by rw [HI.out]; rfl, rfl⟩
        · have b2 : (a == 2) = false := by simpa using h2
          by_cases h3 : a = 3
          · have HI := Lib.hid (show arS a = 2 by subst h3; rfl)
            have b3 : (a == 3) = true := by simpa using h3
            clear h3 h0 h1 h6 h2
            go_enter Tryz.func33, Tryz.ntmps33
            go_wp2_with fail
            go_ret
            exact ⟨by rw [HI.out]; rfl, rfl⟩
          · have b3 : (a == 3) = false := by simpa using h3
            have HI := Lib.hid (show arS a = 1 by unfold arS; rw [if_neg (by omega), if_neg (by omega)])
            clear h0 h1 h6 h2 h3
            go_enter Tryz.func33, Tryz.ntmps33
            go_wp2_with fail
            go_ret
            exact ⟨by rw [HI.out]; rfl, rfl⟩

set_option maxRecDepth 20000 in
set_option maxHeartbeats 800000 in
theorem fixS (b o : Nat) (a : Int) (w : World) (hc : w.cell? ⟨b, o, none⟩ = some (ei a)) : Calls Tryz.prog 70 #[.pointer (some ⟨b, o, none⟩)] w fun e w' => e = .returned (.bool (fixF a)) ∧ w = w' := by
  by_cases h7 : a = 7
  · have HI := Lib.hid (show fixF a = true by subst h7; rfl)
    have b7 : (a == 7) = true := by simpa using h7
    clear h7
    go_enter Tryz.func70, Tryz.ntmps70
    go_wp2_with fail
    go_ret
    exact ⟨by rw [HI.out]; rfl, rfl⟩
  · have b7 : (a == 7) = false := by simpa using h7
    have HI := Lib.hid (show fixF a = (a == 8) by unfold fixF; rw [b7]; rfl)
    clear h7
    generalize hq : (a == 8) = q at *
    go_enter Tryz.func70, Tryz.ntmps70
    go_wp2_with fail
    go_ret
    exact ⟨by rw [HI.out]; rfl, rfl⟩

set_option maxRecDepth 20000 in
set_option maxHeartbeats 2000000 in
theorem patS (s : List UInt8) (w : World) (hl : s.length ≤ 2000000) : Calls Tryz.prog 51 #[es s] w fun e w' => e = .returned (.bool (patF s)) ∧ Upd [] w w' := by
  have S1 := Lib.hid (labelS s w hl)
  have HP := Lib.hid (show patF s = (s == [] || isLab s || (s.getLast? == some 42 && actF s.dropLast)) from rfl)
  by_cases h0 : s = []
  · subst h0
    have HR := Lib.hid (show patF [] = true from rfl)
    clear S1 HP
    go_enter Tryz.func51, Tryz.ntmps51
    go_wp2_with fail
    go_ret
    exact ⟨by rw [HR.out]; rfl, Upd.refl _ _⟩
  · have b0 : (s == ([] : List UInt8)) = false := by simpa using h0
    cases hlab : isLab s with
    | true =>
      rw [hlab] at S1
      have HR := Lib.hid (show patF s = true by rw [HP.out, hlab]; simp)
      clear HP hlab h0
      go_enter Tryz.func51, Tryz.ntmps51
      go_wp2_with fail
      refine S1.out.mono ?_
      rintro e w1 ⟨rfl, hu⟩
      have HU := Lib.hid hu
      clear S1 hu
      go_wp2_with fail
      go_ret
      exact ⟨by rw [HR.out]; rfl, HU.out⟩
    | false =>
      rw [hlab] at S1
      obtain ⟨l, x, rfl⟩ : ∃ l x, s = l ++ [x] := by
        rcases List.eq_nil_or_concat s with h | ⟨l, x, h⟩
        · exact absurd h h0
        · exact ⟨l, x, by rw [h]; simp⟩
      have HR := Lib.hid (show patF (l ++ [x]) = (x == 42 && actF l) by rw [HP.out, hlab, b0]; simp)
      have hlen : (l ++ [x]).length = l.length + 1 := by simp
      have hll : l.length ≤ 2000000 := by rw [hlen] at hl; omega
      have S2 := Lib.hid (fun W => actionS l W hll)
      have hext := extract_list (l ++ [x]) 0 l.length
      have e1 : ((l ++ [x]).drop 0).take (l.length - 0) = l := by simp
      rw [e1] at hext
      have hix : (⟨(l ++ [x]).toArray⟩ : ByteArray)[l.length]'(by simp [ByteArray.size]) = x := by simp [ByteArray.getElem_eq_getElem_data]
      have hm1 : ((l.length : Int) + 1) - 1 = (l.length : Int) := by omega
      have hm4 : (l.length : Int) ≤ (l.length : Int) + 1 := by omega
      have hzz : l.length < (l ++ [x]).length := by omega
      clear HP hlab h0 e1
      obtain ⟨S, hS⟩ : ∃ S, S = l ++ [x] := ⟨_, rfl⟩
      have hix2 : ∃ hh, (⟨S.toArray⟩ : ByteArray)[l.length]'hh = x := by subst hS; exact ⟨_, hix⟩
      rw [← hS] at S1 HR hlen hext b0 hzz hl
      rw [← hS]
      clear hix hS
      obtain ⟨hh, hix⟩ := hix2
      by_cases hx : x = 42
      · have bx : ((x.toNat : Int) == 42) = true := by rw [hx]; rfl
        have HR2 := Lib.hid (show patF S = actF l by rw [HR.out, hx]; simp)
        clear HR hx
        generalize actF l = q at *
        go_enter Tryz.func51, Tryz.ntmps51
        go_wp2_with fail
        refine S1.out.mono ?_
        rintro e w1 ⟨rfl, hu⟩
        have HU := Lib.hid hu
        clear S1 hu
        go_wp2_with fail
        refine (S2.out _).mono ?_
        rintro e w2 ⟨rfl, rfl⟩
        clear S2
        go_wp2_with fail
        go_ret
        exact ⟨by rw [HR2.out]; rfl, HU.out⟩
      · have bx : ((x.toNat : Int) == 42) = false := by
          simp; intro h; apply hx; exact UInt8.toNat_inj.1 (by rw [show (42 : UInt8).toNat = 42 from rfl]; omega)
        have HR2 := Lib.hid (show patF S = false by rw [HR.out]; simp [hx])
        clear HR hx S2
        go_enter Tryz.func51, Tryz.ntmps51
        go_wp2_with fail
        refine S1.out.mono ?_
        rintro e w1 ⟨rfl, hu⟩
        have HU := Lib.hid hu
        clear S1 hu
        go_wp2_with fail
        go_ret
        exact ⟨by rw [HR2.out]; rfl, HU.out⟩

set_option maxRecDepth 20000 in
set_option maxHeartbeats 2000000 in
theorem endS (v : Value) (f : List Nd) (i : Nat) (w : World) (fp : List Nat) (hR : R_F1 fp w [v] f) (hlen : f.length ≤ 2000000) (hi : i < f.length) (hs : ∃ q : Int, 1 ≤ q ∧ shapeF arS q (f.drop i) = true) :
    Calls Tryz.prog 77 #[v, .int .i64 i] w fun e w' => e = .returned (.int .i64 ((i + endF arS 1 (f.drop i) : Nat) : Int)) ∧ w = w' := by
  obtain ⟨a, cap, rfl, h1, h2, hc⟩ := slF4_open hR
  unfold maxLen at h2
  have HC := Lib.hid hc
  have HQ := Lib.hid hs
  clear hR hc hs
  go_enter Tryz.func77, Tryz.ntmps77
  go_wp2_with fail
  go_loop [1, 5] (fun kv mv => ∃ (k : Nat) (m : Int), k ≤ f.length ∧ kv = .int .i64 k ∧ mv = .int .i64 m ∧ 0 ≤ m ∧ m ≤ 1 + 2 * k ∧ Hid (∃ q : Int, m ≤ q ∧ shapeF arS q (f.drop k) = true) ∧ Hid (k + endF arS m (f.drop k) = i + endF arS 1 (f.drop i))) (fun kv _ => f.length - (intOf kv).toNat)
  case atStart => exact ⟨i, 1, by omega, rfl, rfl, by omega, by omega, Lib.hid (by obtain ⟨q, h, h'⟩ := HQ.out; exact ⟨q, h, h'⟩), Lib.hid rfl⟩
  case round =>
    clear HQ
    obtain ⟨k, m, hk, rfl, rfl, hm0, hm1, HS, HE⟩ := hrel
    by_cases hz : m = 0
    · subst hz
      have HR := Lib.hid (show k = i + endF arS 1 (f.drop i) by
        rw [← HE.out]
        cases f.drop k with
        | nil => rfl
        | cons n l => simp [endF])
      clear HS HE
      go_wp2_with fail
      go_ret
      exact ⟨by rw [HR.out]; rfl, rfl⟩
    · have hlt : k < f.length := by
        rcases Nat.lt_or_ge k f.length with h | h
        · exact h
        · exfalso
          obtain ⟨q, g1, g2⟩ := HS.out
          rw [List.drop_of_length_le h, shapeF] at g2
          simp at g2; omega
      obtain ⟨b1, o1, rfl, -, -, p1, p2, p3, p4⟩ := HC.out k hlt
      have S1 := Lib.hid (fun W => arityS f[k].kd W)
      have har := arS_in f[k].kd
      have HS2 := Lib.hid (show ∃ q : Int, m + arS f[k].kd - 1 ≤ q ∧ shapeF arS q (f.drop (k + 1)) = true from by
        obtain ⟨q, g1, g2⟩ := HS.out
        rw [List.drop_eq_getElem_cons hlt] at g2
        exact ⟨q + arS f[k].kd - 1, by omega, (shape_step g2).2⟩)
      have HE2 := Lib.hid (show k + 1 + endF arS (m + arS f[k].kd - 1) (f.drop (k + 1)) = i + endF arS 1 (f.drop i) by
        rw [← HE.out, List.drop_eq_getElem_cons hlt, endF, if_neg (by omega)]; omega)
      have hmp : 0 < m := by omega
      clear HS HE hz
      generalize arS f[k].kd = ar at *
      generalize f[k] = x at *
      obtain ⟨x1, x2, x3, x4⟩ := x
      simp only at p1 p2 p3 p4 S1
      go_wp2_with fail
      refine (S1.out _).mono ?_
      rintro e w1 ⟨rfl, rfl⟩
      clear S1 p1 p2 p3 p4
      obtain ⟨m2, hm2⟩ : ∃ m2 : Int, m2 = m + ar - 1 := ⟨_, rfl⟩
      have hm3 : m + (ar - 1) = m2 := by omega
      rw [← hm2] at HS2 HE2
      have hm4 : 0 ≤ m2 := by omega
      have hm5 : m2 ≤ 1 + 2 * (k + 1) := by omega
      clear hm2
      go_wp2_with fail
      go_round
      case rel => exact ⟨k + 1, m2, by omega, by go_num, rfl, hm4, by omega, HS2, HE2⟩
      case measure => simp [intOf]; omega

end Go.Proofs.YtddciieaolaleaaGreatDoor

/-
  The reference's check of a formula: what the calls return.
-/
namespace Go.Proofs.YtddciieaolaleaaGreatDoor
open Go.RowKit

theorem shapeS_ar : ∀ (l : List Nd) (m : Int), shapeS m l = true → shapeF arS m l = true
  | [], m, h => h
  | n :: l, m, h => by
    rw [shapeS] at h
    split at h
    · cases h
    · next h1 =>
      split at h
      · cases h
      · rw [shapeF, if_neg (fun e => h1 (Or.inl e))]
        exact shapeS_ar l _ h

set_option maxRecDepth 20000 in
set_option maxHeartbeats 4000000 in
theorem bindS (v : Value) (f : List Nd) (k : Nat) (w : World) (fp : List Nat) (hR : R_F1 fp w [v] f) (hlen : f.length ≤ 2000000) (hk : k < f.length) (hs : shapeF arS 1 f = true) :
    Calls Tryz.prog 71 #[v, .int .i64 k] w fun e w' => e = .returned (.int .i64 (bindF arS f k k)) ∧ Upd [] w w' := by
  have HR := Lib.hid hR
  have HSH := Lib.hid (shape_drop arS_in f 1 (by omega) hs)
  obtain ⟨a, cap, rfl, h1, h2, hc⟩ := slF4_open hR
  unfold maxLen at h2
  obtain ⟨b1, o1, rfl, -, -, hcs⟩ := hc 0 (by omega)
  have HC := Lib.hid (fun i (hi : i < f.length) => show w.cell? ⟨b1, o1 + i * 4, none⟩ = some (ei f[i].kd) ∧ w.cell? ⟨b1, o1 + i * 4 + 1, none⟩ = some (ei f[i].vr) from by
    obtain ⟨b, o, hbo, -, -, q⟩ := hc i hi
    cases hbo
    exact ⟨q.1, q.2.1⟩)
  clear hR hc hcs hs
  go_enter Tryz.func71, Tryz.ntmps71
  go_wp2_with fail
  go_loopw [5] (fun zv wr => ∃ z : Int, zv = .int .i64 z ∧ -1 ≤ z ∧ z < k ∧ Hid (bindF arS f k (z + 1).toNat = bindF arS f k k) ∧ Hid (Upd [] w wr)) (fun zv _ => (intOf zv + 1).toNat)
  case atStart => exact ⟨(k : Int) - 1, rfl, by omega, by omega, Lib.hid (by congr 1; omega), Lib.hid (Upd.refl _ _)⟩
  case round =>
    obtain ⟨wo, rfl⟩ : ∃ wo : World, wo = wr := ⟨_, rfl⟩
    obtain ⟨z, rfl, hz1, hzk, HB, HU⟩ := hrel
    by_cases hz : z < 0
    · obtain rfl : z = -1 := by omega
      have HE := Lib.hid (show bindF arS f k k = -1 by rw [← HB.out]; rfl)
      clear HB hz
      go_wp2_with fail
      go_ret
      exact ⟨by rw [HE.out]; rfl, HU.out⟩
    · obtain ⟨j, rfl⟩ : ∃ j : Nat, z = j := ⟨z.toNat, by omega⟩
      have hjf : j < f.length := by omega
      obtain ⟨p1, p2⟩ := HC.out j hjf
      obtain ⟨-, p5⟩ := HC.out k hk
      have q1 := HU.out.keep p1
      have q2 := HU.out.keep p2
      have q5 := HU.out.keep p5
      have gj : f.getD j nd0 = f[j] := by rw [List.getD_eq_getElem?_getD, List.getElem?_eq_getElem hjf]; rfl
      have gk : f.getD k nd0 = f[k] := by rw [List.getD_eq_getElem?_getD, List.getElem?_eq_getElem hk]; rfl
      have HB2 := Lib.hid (show bindF arS f k k = if fixF f[j].kd && (f[j].vr == f[k].vr) && decide (k < j + endF arS 1 (f.drop j)) then (j : Int) else bindF arS f k j by
        rw [← HB.out, show ((j : Int) + 1).toNat = j + 1 by omega, bindF]
        unfold bndP
        rw [gj, gk])
      have SE := Lib.hid (fun n : Nat => (endS _ f j (wo.drewN n) fp (R_F1k.upd HR.out (HU.out.drewN n) (by simp)) hlen hjf (by obtain ⟨q, g1, -, g3⟩ := HSH.out j hjf; exact ⟨q, g1, g3⟩)).mono (fun e w' h => (⟨h.1, n, h.2.symm⟩ : _ ∧ ∃ m, w' = wo.drewN m)))
      have SF := Lib.hid (fun n : Nat => (fixS b1 (o1 + j * 4) f[j].kd (wo.drewN n) (((Upd.refl [] wo).drewN n).keep q1)).mono (fun e w' h => (⟨h.1, n, h.2.symm⟩ : _ ∧ ∃ m, w' = wo.drewN m)))
      have HJ := Lib.hid (show ((j : Int) - 1 + 1).toNat = j by omega)
      have jl : (j : Int) < f.length := by omega
      have kl : (k : Int) < f.length := by omega
      have j0 : 0 ≤ (j : Int) := by omega
      clear gj gk HB hz p1 p2 p5
      generalize endF arS 1 (f.drop j) = en at *
      generalize f[k].vr = y2 at *
      generalize f[j].vr = x2 at *
      generalize f[j].kd = x1 at *
      cases hfx : fixF x1 with
      | false =>
        rw [hfx] at SF
        have HE := Lib.hid (show bindF arS f k j = bindF arS f k k by rw [HB2.out, hfx]; simp)
        clear HB2 hfx SE
        go_upto_region 4 with (fail)
        go_quiet ((go_at_call 70; exact SF.out _))
        have HU9 := Lib.hid (HU.out.drewN nq)
        clear HU SF q1 q2 q5
        go_wp2_with fail
        go_roundw
        case rel => exact ⟨(j : Int) - 1, rfl, by omega, by omega, Lib.hid (by rw [HJ.out]; exact HE.out), HU9⟩
        case measure => simp [intOf]
      | true =>
        rw [hfx] at SF
        cases heq : (x2 == y2) with
        | false =>
          have HE := Lib.hid (show bindF arS f k j = bindF arS f k k by rw [HB2.out, hfx, heq]; simp)
          clear HB2 hfx SE
          go_upto_region 4 with (fail)
          go_quiet ((go_at_call 70; exact SF.out _))
          have HU9 := Lib.hid (HU.out.drewN nq)
          clear HU SF q1 q2 q5
          go_wp2_with fail
          go_roundw
          case rel => exact ⟨(j : Int) - 1, rfl, by omega, by omega, Lib.hid (by rw [HJ.out]; exact HE.out), HU9⟩
          case measure => simp [intOf]
        | true =>
          by_cases hen : k < j + en
          · have HE := Lib.hid (show bindF arS f k k = (j : Int) by rw [HB2.out, hfx, heq, decide_eq_true hen]; rfl)
            have heni : (k : Int) < ((j + en : Nat) : Int) := by omega
            generalize ((j + en : Nat) : Int) = zz at *
            clear HB2 hfx hen
            go_upto_region 4 with (fail)
            go_quiet (first | (go_at_call 70; exact SF.out _) | (go_at_call 77; exact SE.out _))
            have HU9 := Lib.hid (HU.out.drewN nq)
            clear HU SF SE q1 q2 q5
            go_wp2_with fail
            go_ret
            exact ⟨by rw [HE.out]; rfl, HU9.out⟩
          · have hend := decide_eq_false hen
            have HE := Lib.hid (show bindF arS f k j = bindF arS f k k by rw [HB2.out, hfx, heq, hend]; simp)
            have heni : ¬ (k : Int) < ((j + en : Nat) : Int) := by omega
            generalize ((j + en : Nat) : Int) = zz at *
            clear HB2 hfx hen hend
            go_upto_region 4 with (fail)
            go_quiet (first | (go_at_call 70; exact SF.out _) | (go_at_call 77; exact SE.out _))
            have HU9 := Lib.hid (HU.out.drewN nq)
            clear HU SF SE q1 q2 q5
            go_wp2_with fail
            go_roundw
            case rel => exact ⟨(j : Int) - 1, rfl, by omega, by omega, Lib.hid (by rw [HJ.out]; exact HE.out), HU9⟩
            case measure => simp [intOf]

end Go.Proofs.YtddciieaolaleaaGreatDoor

/-
  Formulas with fixed points simplified: the reference's small calls.
-/
namespace Go.Proofs.YtddciieaolaleaaGreatDoor
open Go.RowKit

set_option maxRecDepth 20000 in
set_option maxHeartbeats 1000000 in
theorem same9S (v1 v2 : Value) (xs ys : List Nd) (w : World) (f1 f2 : List Nat) (h1 : R_F1 f1 w [v1] xs) (h2 : R_F1 f2 w [v2] ys) :
    Calls Tryz.prog 95 #[v1, v2] w fun e w' => e = .returned (.bool (xs == ys)) ∧ ∃ n, w' = w.drewN n := by
  obtain ⟨a1, c1, rfl, hl1, hm1, hc1⟩ := slF4_open h1
  obtain ⟨a2, c2, rfl, hl2, hm2, hc2⟩ := slF4_open h2
  unfold maxLen at hm1 hm2
  clear h1 h2
  by_cases hlen : xs.length = ys.length
  · have hbe : ((xs.length : Int) != (ys.length : Int)) = false := by simp [hlen]
    have HL := Lib.hid hlen
    have HC1 := Lib.hid hc1
    have HC2 := Lib.hid hc2
    clear hlen hc1 hc2
    go_enter Tryz.func95, Tryz.ntmps95
    go_wp2_with fail
    go_loopw [5] (fun i wr => ∃ k : Nat, k ≤ xs.length ∧ i = .int .i64 k ∧ Hid ((xs.drop k == ys.drop k) = (xs == ys)) ∧ ∃ n, wr = w.drewN n) (fun i _ => xs.length - (intOf i).toNat)
    case atStart => exact ⟨0, Nat.zero_le _, rfl, Lib.hid rfl, 0, rfl⟩
    case round =>
      obtain ⟨k, hk, rfl, HF, n, rfl⟩ := hrel
      by_cases hlt : k < xs.length
      · have hlt2 : k < ys.length := by have := HL.out; omega
        obtain ⟨b1, o1, rfl, -, hb1, p1, p2, p3, p4⟩ := HC1.out k hlt
        obtain ⟨b2, o2, rfl, -, hb2, p5, p6, p7, p8⟩ := HC2.out k hlt2
        have HF2 := Lib.hid ((drop_eqN xs ys k hlt hlt2).symm.trans HF.out)
        clear HF
        generalize xs[k] = x at *
        generalize ys[k] = y at *
        obtain ⟨x1, x2, x3, x4⟩ := x
        obtain ⟨y1, y2, y3, y4⟩ := y
        simp only at p1 p2 p3 p4 p5 p6 p7 p8
        have hne := fun W => neqN x1 x2 y1 y2 x3 y3 x4 y4 W
        have hgd := ndGuard
        cases hq : ((⟨x1, x2, x3, x4⟩ : Nd) == ⟨y1, y2, y3, y4⟩) with
        | false =>
          rw [hq] at hne HF2
          clear hq
          go_wp2_with fail
          go_quiet (fail)
          clear hne hgd
          go_wp2_with fail
          go_ret
          exact ⟨by rw [← HF2.out]; rfl, _, by rw [drewN_add]⟩
        | true =>
          rw [hq] at hne HF2
          clear hq
          go_wp2_with fail
          go_quiet (fail)
          clear hne hgd
          go_wp2_with fail
          go_roundw
          case rel => exact ⟨k + 1, by omega, by go_num, Lib.hid (by rw [← HF2.out]; rfl), _, rfl⟩
          case measure => simp [intOf]; omega
      · have hd : (xs == ys) = true := by
          rw [← HF.out, List.drop_of_length_le (by omega), List.drop_of_length_le (by have := HL.out; omega)]; rfl
        have HD := Lib.hid hd
        clear HF hd
        go_wp2_with fail
        go_ret
        exact ⟨by rw [HD.out]; rfl, n, rfl⟩
  · have hbe : ((xs.length : Int) != (ys.length : Int)) = true := by simpa using fun h => hlen (by omega)
    have HD := Lib.hid (show (xs == ys) = false by
      rw [beq_eq_false_iff_ne]; intro h; exact hlen (by rw [h]))
    clear hlen hc1 hc2
    go_enter Tryz.func95, Tryz.ntmps95
    go_wp2_with fail
    go_ret
    exact ⟨by rw [HD.out]; rfl, 0, rfl⟩

set_option maxRecDepth 20000 in
set_option maxHeartbeats 4000000 in
theorem needsS (v : Value) (f : List Nd) (w : World) (fp : List Nat) (hR : R_F1 fp w [v] f) (hlen : f.length ≤ 1000000) (h1 : 1 ≤ f.length) (hs : shapeF arI 1 f = true) (hk : ∀ n ∈ f, inB n.kd 0 8 = true) :
    Calls Tryz.prog 79 #[v, .int .i64 0, .int .i64 0] w fun e w' => e = .returned (.bool (usesF f)) ∧ Upd [] w w' := by
  have hsS : shapeF arS 1 f = true := by rw [shape_same f 1 hk]; exact hs
  have HE := Lib.hid (show Calls Tryz.prog 77 #[v, .int .i64 ((0 : Nat) : Int)] w fun e w' => e = .returned (.int .i64 (f.length : Int)) ∧ w = w' from by
    have := endS v f 0 w fp hR (by omega) (by omega) ⟨1, by omega, by simpa using hsS⟩
    rw [List.drop_zero, end_whole (fun k => (arS_in k).1) f 1 (by omega) hsS, Nat.zero_add] at this
    exact this)
  have HB := Lib.hid (fun W (hu : Upd [] w W) k (h : k < f.length) => bindS v f k W fp (R_F1k.upd hR hu (by simp)) (by omega) h hsS)
  have HBE := Lib.hid (fun k i => bindF_same f hk k i)
  obtain ⟨a, cap, rfl, g1, g2, hc⟩ := slF4_open hR
  unfold maxLen at g2
  have HC := Lib.hid hc
  have HF := Lib.hid (useF_eq f)
  have HB2 := Lib.hid (fun i => (bindF_ge arI f i i))
  generalize usesF f = Z at *
  clear hR hc hs hsS hk
  go_enter Tryz.func79, Tryz.ntmps79
  go_wp2_with fail
  refine HE.out.mono ?_
  rintro e w0 ⟨rfl, rfl⟩
  clear HE
  go_wp2_with fail
  go_loopw [8] (fun iv wr => ∃ k : Nat, 1 ≤ k ∧ k ≤ f.length ∧ iv = .int .i64 k ∧ Hid (allF (useP f) k (f.length - k) = allF (useP f) 1 (f.length - 1)) ∧ Hid (Upd [] w wr)) (fun iv _ => f.length - (intOf iv).toNat)
  case atStart => exact ⟨1, Nat.le_refl _, h1, rfl, Lib.hid rfl, Lib.hid (Upd.refl _ _)⟩
  case round =>
    obtain ⟨k, hk1, hk, rfl, HA, HU1⟩ := hrel
    by_cases hlt : k < f.length
    · obtain ⟨b1, o1, rfl, -, -, p1, p2, p3, p4⟩ := HC.out k hlt
      have p1 := HU1.out.keep p1
      have hA := HA.out
      rw [allF_step (useP f) k f.length hlt] at hA
      have hg : f.getD k nd0 = f[k] := by rw [List.getD_eq_getElem?_getD, List.getElem?_eq_getElem hlt]; rfl
      have B1 := Lib.hid (HB.out wr HU1.out k hlt)
      rw [HBE.out] at B1
      have hbb := HB2.out k
      have hp : useP f k = !(f[k].kd == 6 && bindF arI f k k == 0) := by unfold useP; rw [hg]
      rw [hp] at hA
      generalize bindF arI f k k = B at *
      generalize f[k].kd = K at *
      have HA2 := Lib.hid hA
      clear hA hg hp p2 p3 p4 HA
      by_cases hK : K = 6
      · subst hK
        by_cases hB : B = 0
        · subst hB
          have HE2 := Lib.hid (show Z = true by rw [HF.out, ← HA2.out]; rfl)
          go_wp2_with fail
          refine B1.out.mono ?_
          rintro e w2 ⟨rfl, hu2⟩
          have HU2 := Lib.hid (HU1.out.trans hu2)
          clear B1 hu2
          go_wp2_with fail
          go_ret
          exact ⟨by rw [HE2.out]; rfl, HU2.out⟩
        · have hb0 : (B == 0) = false := by simpa using hB
          have HA3 := Lib.hid (show allF (useP f) (k + 1) (f.length - (k + 1)) = allF (useP f) 1 (f.length - 1) by rw [← HA2.out, hb0]; rfl)
          clear HA2 hB
          go_wp2_with fail
          refine B1.out.mono ?_
          rintro e w2 ⟨rfl, hu2⟩
          have HU2 := Lib.hid (HU1.out.trans hu2)
          clear B1 hu2
          go_wp2_with fail
          go_roundw
          case rel => exact ⟨k + 1, by omega, by omega, by go_num, HA3, HU2⟩
          case measure => simp [intOf]; omega
      · have hk0 : (K == 6) = false := by simpa using hK
        have HA3 := Lib.hid (show allF (useP f) (k + 1) (f.length - (k + 1)) = allF (useP f) 1 (f.length - 1) by rw [← HA2.out, hk0]; rfl)
        clear HA2 hK B1
        go_wp2_with fail
        go_roundw
        case rel => exact ⟨k + 1, by omega, by omega, by go_num, HA3, HU1⟩
        case measure => simp [intOf]; omega
    · obtain rfl : k = f.length := by omega
      have HE2 := Lib.hid (show Z = false by rw [HF.out, ← HA.out, Nat.sub_self]; rfl)
      clear HA
      go_wp2_with fail
      go_ret
      exact ⟨by rw [HE2.out]; rfl, HU1.out⟩

end Go.Proofs.YtddciieaolaleaaGreatDoor

/-
  Formulas with fixed points simplified: the reference's node of two parts. (Printed by tools/gensimh.py.)
-/
namespace Go.Proofs.YtddciieaolaleaaGreatDoor
open Go.RowKit

def twoL (t : Nd) (z o : Int) (a b : List Nd) : List Nd :=
  if (a.getD 0 nd0).kd == z || (b.getD 0 nd0).kd == z then [⟨z, 0, [], false⟩] else if (a.getD 0 nd0).kd == o then b else if (b.getD 0 nd0).kd == o || a == b then a else t :: (a ++ b)
theorem nd_newX (W : World) (t : Nd) (B : Nat) (hB : W.heap.size = B) : R_O [B] (W.alloc (.cells #[ei t.kd, ei t.vr, es t.lb, .bool t.nt] 54)) [.slice (some ⟨B, 0, none⟩) 1 1] [t] := by
  subst hB
  refine ⟨⟨_, rfl, some ⟨W.heap.size, 0, none⟩, 1, rfl, Nat.le_refl _, by simp [maxLen], by simp, Or.inr ⟨W.heap.size, 0, rfl, rfl, by simp, fun j u hj => ?_⟩⟩, own_new _ _ _⟩
  rw [Nat.zero_add]
  exact cell_new W _ _ _ rfl j u (by simpa using hj)

set_option maxRecDepth 20000 in
set_option maxHeartbeats 4000000 in
theorem two2S (t2 : Int) (t3 : List UInt8) (t4 : Bool) (a b : List Nd) (w : World) (va vb : Value) (fa fb : List Nat) (ha : R_O fa w [va] a) (hb : R_O fb w [vb] b) (h1a : 1 ≤ a.length) (h1b : 1 ≤ b.length) (hla : a.length ≤ 1000) (hlb : b.length ≤ 1000) :
    Calls Tryz.prog 78 #[.agg #[ei 2, ei t2, es t3, .bool t4], va, vb] w (JoP w fa fb (twoL ⟨2, t2, t3, t4⟩ 1 0 a b)) := by
  obtain ⟨i0, hi, hz0, hz1, hz2⟩ := info_parts Tryz.infoNd
  obtain ⟨wA, hwA⟩ : ∃ wA, wA = w.alloc (.cells #[ei 2, ei t2, es t3, .bool t4] 54) := ⟨_, rfl⟩
  have uA : Upd [] w wA := by rw [hwA]; exact (Upd.refl _ _).alloc _
  obtain ⟨TN, hTN⟩ : ∃ TN, TN = w.heap.size := ⟨_, rfl⟩
  have e0 : wA.cell? ⟨TN, 0, none⟩ = some (ei 2) := by rw [hwA]; exact cell_new _ _ _ _ hTN.symm 0 _ rfl
  have e1 : wA.cell? ⟨TN, 1, none⟩ = some (ei t2) := by rw [hwA]; exact cell_new _ _ _ _ hTN.symm 1 _ rfl
  have e2 : wA.cell? ⟨TN, 2, none⟩ = some (es t3) := by rw [hwA]; exact cell_new _ _ _ _ hTN.symm 2 _ rfl
  have e3 : wA.cell? ⟨TN, 3, none⟩ = some (.bool t4) := by rw [hwA]; exact cell_new _ _ _ _ hTN.symm 3 _ rfl
  have HA := Lib.hid (fun W (hu : Upd [] wA W) => R_Ok.upd ha (uA.trans hu) (by simp))
  have HB := Lib.hid (fun W (hu : Upd [] wA W) => R_Ok.upd hb (uA.trans hu) (by simp))
  have UA := Lib.hid uA
  have SM := Lib.hid (same9S va vb a b wA fa fb (HA.out wA (Upd.refl _ _)).1 (HB.out wA (Upd.refl _ _)).1)
  obtain ⟨b2, o2, c2, rfl, hs1, hs2, hs3, hs4⟩ := slF_src ha.1 (by omega)
  obtain ⟨b3, o3, c3, rfl, hs1', hs2', hs3', hs4'⟩ := slF_src hb.1 (by omega)
  obtain ⟨_, _, hv, -, -, hca⟩ := slF4_open ha.1
  simp only [Value.slice.injEq] at hv
  obtain ⟨rfl, -, rfl⟩ := hv
  obtain ⟨_, _, hv, -, -, hcb⟩ := slF4_open hb.1
  simp only [Value.slice.injEq] at hv
  obtain ⟨rfl, -, rfl⟩ := hv
  obtain ⟨_, _, hv, -, -, qa, -⟩ := hca 0 (by omega)
  simp only [Option.some.injEq, Addr.mk.injEq, and_true] at hv
  obtain ⟨rfl, rfl⟩ := hv
  obtain ⟨_, _, hv, -, -, qb, -⟩ := hcb 0 (by omega)
  simp only [Option.some.injEq, Addr.mk.injEq, and_true] at hv
  obtain ⟨rfl, rfl⟩ := hv
  rw [Nat.zero_mul, Nat.add_zero] at qa qb
  have qa := uA.keep qa
  have qb := uA.keep qb
  have ga : a.getD 0 nd0 = a[0] := by rw [List.getD_eq_getElem?_getD, List.getElem?_eq_getElem (by omega)]; rfl
  have gb : b.getD 0 nd0 = b[0] := by rw [List.getD_eq_getElem?_getD, List.getElem?_eq_getElem (by omega)]; rfl
  unfold maxLen at hs2 hs2'
  obtain ⟨q5, h5⟩ : ∃ q, q = (a == b) := ⟨_, rfl⟩
  have HJ := Lib.hid (show twoL ⟨2, t2, t3, t4⟩ 1 0 a b = if (a[0].kd == 1) || (b[0].kd == 1) then [⟨1, 0, [], false⟩] else if a[0].kd == 0 then b else if b[0].kd == 0 || q5 then a else ⟨2, t2, t3, t4⟩ :: (a ++ b) by rw [h5, ← ga, ← gb]; rfl)
  rw [← h5] at SM
  generalize a[0].kd = ka at *
  generalize b[0].kd = kb at *
  have HF1 := Lib.hid hs4
  have HF2 := Lib.hid hs4'
  have HN1 := Lib.hid hs3
  have HN2 := Lib.hid hs3'
  generalize twoL ⟨2, t2, t3, t4⟩ 1 0 a b = Z at *
  have i1 : (0 : Int) < (a.length : Int) := by omega
  have i2 : (0 : Int) < (b.length : Int) := by omega
  clear h5 ha hb hs3 hs3' hs4 hs4' hca hcb ga gb uA
  go_enter Tryz.func78, Tryz.ntmps78
  go_upto_region 1 with (fail)
  rw [← hwA, ← hTN]
  clear hwA hTN
  by_cases ka1 : ka = 1
  · subst ka1
    have HE := Lib.hid (show Z = [⟨1, 0, [], false⟩] by rw [HJ.out]; rfl)
    clear HJ
    have HL := Lib.hid (nd_newX wA ⟨1, 0, [], false⟩ wA.heap.size rfl)
    have hsz := UA.out.size
    go_wp2_with fail
    go_ret
    exact ⟨⟨_, [wA.heap.size], rfl, by rw [HE.out]; exact HL.out, fun b hb => Or.inr (Or.inr (by have h9 := List.mem_singleton.1 hb; omega))⟩, UA.out.alloc _⟩
  have ba1 : (ka == 1) = false := by simpa using ka1
  by_cases kb1 : kb = 1
  · subst kb1
    have HE := Lib.hid (show Z = [⟨1, 0, [], false⟩] by rw [HJ.out, ba1]; rfl)
    clear HJ ka1
    have HL := Lib.hid (nd_newX wA ⟨1, 0, [], false⟩ wA.heap.size rfl)
    have hsz := UA.out.size
    go_wp2_with fail
    go_ret
    exact ⟨⟨_, [wA.heap.size], rfl, by rw [HE.out]; exact HL.out, fun b hb => Or.inr (Or.inr (by have h9 := List.mem_singleton.1 hb; omega))⟩, UA.out.alloc _⟩
  have bb1 : (kb == 1) = false := by simpa using kb1
  by_cases ka2 : ka = 0
  · subst ka2
    have HE := Lib.hid (show Z = b by rw [HJ.out, bb1]; rfl)
    clear HJ ka1 kb1
    go_wp2_with fail
    go_ret
    exact ⟨⟨_, fb, rfl, by rw [HE.out]; exact HB.out _ (Upd.refl _ _), fun b hb => Or.inr (Or.inl hb)⟩, UA.out⟩
  have ba2 : (ka == 0) = false := by simpa using ka2
  by_cases kb2 : kb = 0
  · subst kb2
    have HE := Lib.hid (show Z = a by rw [HJ.out, ba1, ba2]; rfl)
    clear HJ ka1 kb1 ka2
    go_wp2_with fail
    go_ret
    exact ⟨⟨_, fa, rfl, by rw [HE.out]; exact HA.out _ (Upd.refl _ _), fun b hb => Or.inl hb⟩, UA.out⟩
  have bb2 : (kb == 0) = false := by simpa using kb2
  rw [ba1, bb1, ba2, bb2] at HJ
  clear ka1 kb1 ka2 kb2
  go_wp2_with fail
  refine SM.out.mono ?_
  rintro e w1 ⟨rfl, n1, rfl⟩
  clear SM
  cases q5 with
  | true =>
    have HE := Lib.hid (show Z = a by rw [HJ.out]; rfl)
    clear HJ
    go_wp2_with fail
    go_ret
    exact ⟨⟨_, fa, rfl, by rw [HE.out]; exact HA.out _ ((Upd.refl [] wA).drewN _), fun b hb => Or.inl hb⟩, UA.out.drewN _⟩
  | false =>
    have HE := Lib.hid (show Z = ⟨2, t2, t3, t4⟩ :: (a ++ b) by rw [HJ.out]; rfl)
    clear HJ
    obtain ⟨wx, hwx⟩ : ∃ wx, wx = wA.drewN n1 := ⟨_, rfl⟩
    have hux : Upd [] wA wx := by rw [hwx]; exact (Upd.refl [] wA).drewN _
    have e0 := hux.keep e0
    have e1 := hux.keep e1
    have e2 := hux.keep e2
    have e3 := hux.keep e3
    have hlit := World.ownsRow_lit (base := w.heap.size) (e := 54) (size := 4) wx #[ei 2, ei t2, es t3, .bool t4] 1 (Nat.le_trans UA.out.size hux.size) (by simp [maxLen]) (by simp)
    have X1 := Lib.hid (fun j u hj => ((Upd.refl [] wx).alloc (.cells #[ei 2, ei t2, es t3, .bool t4] 54)).keep ((UA.out.trans hux).keep (HF1.out j u hj)))
    have HUX := Lib.hid (UA.out.trans hux)
    have hszx := HUX.out.size
    rw [← hwx]
    clear hwx hux
    go_wp2_with (first
      | (at_builtin; refine wpList_append_tight _ rfl _ _ 31 rfl w.heap.size 54 i0 (.agg #[.int .i64 0, .int .i64 0, .string ⟨#[]⟩, .bool false]) 4 40 Tryz.underlying31 hi hz0 hz1 hz2 rfl (by decide) _ _ _ rfl hlit ⟨b2, o2, none⟩ a.length c2 _ rfl HN1.out X1.out (one_nds a) (by unfold maxLen; omega) (by omega) (by simp; omega) ?_)
      | fail)
    intro v4 w4 hown4 hg4 ht4
    have hu4 : Upd [] wx w4 := ((Upd.refl [] wx).alloc _).grown hg4 (fun k hk => Or.inl (by simp [Value.ownBlock] at hk; omega))
    have hlt4 := hown4.lt
    have X2 := Lib.hid (fun j u hj => hu4.keep (HUX.out.keep (HF2.out j u hj)))
    have HU4 := Lib.hid (HUX.out.trans hu4)
    have hsz4 := hu4.size
    obtain ⟨a4, cc4, rfl⟩ := ownsRow_form hown4
    clear hg4 ht4 hu4 hlit
    go_wp2_with (first
      | (at_builtin; refine wpList_append_tight _ rfl _ _ 31 rfl w.heap.size 54 i0 (.agg #[.int .i64 0, .int .i64 0, .string ⟨#[]⟩, .bool false]) 4 40 Tryz.underlying31 hi hz0 hz1 hz2 rfl (by decide) _ _ _ rfl hown4 ⟨b3, o3, none⟩ b.length c3 _ rfl HN2.out X2.out (one_nds b) (by unfold maxLen; omega) (by omega) (by omega) ?_)
      | fail)
    intro v5 w5 hown5 hg5 ht5
    obtain ⟨fp5, g1, g2, g3, -⟩ := Flat.ofOwns hown5
    have HN := Lib.hid (show R_O fp5 w5 [v5] (⟨2, t2, t3, t4⟩ :: (a ++ b)) ∧ ∀ b ∈ fp5, w.heap.size ≤ b from ⟨⟨⟨v5, rfl, by
      have e1 : 1 + a.length + b.length = ((⟨2, t2, t3, t4⟩ : Nd) :: (a ++ b)).length := by simp; omega
      rw [← e1]
      simpa using g1⟩, g2⟩, g3⟩)
    have HU5 := Lib.hid (HU4.out.grown hg5 (fun k hk => Or.inl (hlt4 k hk).1))
    obtain ⟨a5, cc5, rfl⟩ := ownsRow_form hown5
    clear hown5 hg5 ht5 hown4 hlt4 g1 g2 g3
    go_wp2_with fail
    go_ret
    exact ⟨⟨_, fp5, rfl, by rw [HE.out]; exact HN.out.1, fun b hb => Or.inr (Or.inr (HN.out.2 b hb))⟩, HU5.out⟩

set_option maxRecDepth 20000 in
set_option maxHeartbeats 4000000 in
theorem two3S (t2 : Int) (t3 : List UInt8) (t4 : Bool) (a b : List Nd) (w : World) (va vb : Value) (fa fb : List Nat) (ha : R_O fa w [va] a) (hb : R_O fb w [vb] b) (h1a : 1 ≤ a.length) (h1b : 1 ≤ b.length) (hla : a.length ≤ 1000) (hlb : b.length ≤ 1000) :
    Calls Tryz.prog 78 #[.agg #[ei 3, ei t2, es t3, .bool t4], va, vb] w (JoP w fa fb (twoL ⟨3, t2, t3, t4⟩ 0 1 a b)) := by
  obtain ⟨i0, hi, hz0, hz1, hz2⟩ := info_parts Tryz.infoNd
  obtain ⟨wA, hwA⟩ : ∃ wA, wA = w.alloc (.cells #[ei 3, ei t2, es t3, .bool t4] 54) := ⟨_, rfl⟩
  have uA : Upd [] w wA := by rw [hwA]; exact (Upd.refl _ _).alloc _
  obtain ⟨TN, hTN⟩ : ∃ TN, TN = w.heap.size := ⟨_, rfl⟩
  have e0 : wA.cell? ⟨TN, 0, none⟩ = some (ei 3) := by rw [hwA]; exact cell_new _ _ _ _ hTN.symm 0 _ rfl
  have e1 : wA.cell? ⟨TN, 1, none⟩ = some (ei t2) := by rw [hwA]; exact cell_new _ _ _ _ hTN.symm 1 _ rfl
  have e2 : wA.cell? ⟨TN, 2, none⟩ = some (es t3) := by rw [hwA]; exact cell_new _ _ _ _ hTN.symm 2 _ rfl
  have e3 : wA.cell? ⟨TN, 3, none⟩ = some (.bool t4) := by rw [hwA]; exact cell_new _ _ _ _ hTN.symm 3 _ rfl
  have HA := Lib.hid (fun W (hu : Upd [] wA W) => R_Ok.upd ha (uA.trans hu) (by simp))
  have HB := Lib.hid (fun W (hu : Upd [] wA W) => R_Ok.upd hb (uA.trans hu) (by simp))
  have UA := Lib.hid uA
  have SM := Lib.hid (same9S va vb a b wA fa fb (HA.out wA (Upd.refl _ _)).1 (HB.out wA (Upd.refl _ _)).1)
  obtain ⟨b2, o2, c2, rfl, hs1, hs2, hs3, hs4⟩ := slF_src ha.1 (by omega)
  obtain ⟨b3, o3, c3, rfl, hs1', hs2', hs3', hs4'⟩ := slF_src hb.1 (by omega)
  obtain ⟨_, _, hv, -, -, hca⟩ := slF4_open ha.1
  simp only [Value.slice.injEq] at hv
  obtain ⟨rfl, -, rfl⟩ := hv
  obtain ⟨_, _, hv, -, -, hcb⟩ := slF4_open hb.1
  simp only [Value.slice.injEq] at hv
  obtain ⟨rfl, -, rfl⟩ := hv
  obtain ⟨_, _, hv, -, -, qa, -⟩ := hca 0 (by omega)
  simp only [Option.some.injEq, Addr.mk.injEq, and_true] at hv
  obtain ⟨rfl, rfl⟩ := hv
  obtain ⟨_, _, hv, -, -, qb, -⟩ := hcb 0 (by omega)
  simp only [Option.some.injEq, Addr.mk.injEq, and_true] at hv
  obtain ⟨rfl, rfl⟩ := hv
  rw [Nat.zero_mul, Nat.add_zero] at qa qb
  have qa := uA.keep qa
  have qb := uA.keep qb
  have ga : a.getD 0 nd0 = a[0] := by rw [List.getD_eq_getElem?_getD, List.getElem?_eq_getElem (by omega)]; rfl
  have gb : b.getD 0 nd0 = b[0] := by rw [List.getD_eq_getElem?_getD, List.getElem?_eq_getElem (by omega)]; rfl
  unfold maxLen at hs2 hs2'
  obtain ⟨q5, h5⟩ : ∃ q, q = (a == b) := ⟨_, rfl⟩
  have HJ := Lib.hid (show twoL ⟨3, t2, t3, t4⟩ 0 1 a b = if (a[0].kd == 0) || (b[0].kd == 0) then [⟨0, 0, [], false⟩] else if a[0].kd == 1 then b else if b[0].kd == 1 || q5 then a else ⟨3, t2, t3, t4⟩ :: (a ++ b) by rw [h5, ← ga, ← gb]; rfl)
  rw [← h5] at SM
  generalize a[0].kd = ka at *
  generalize b[0].kd = kb at *
  have HF1 := Lib.hid hs4
  have HF2 := Lib.hid hs4'
  have HN1 := Lib.hid hs3
  have HN2 := Lib.hid hs3'
  generalize twoL ⟨3, t2, t3, t4⟩ 0 1 a b = Z at *
  have i1 : (0 : Int) < (a.length : Int) := by omega
  have i2 : (0 : Int) < (b.length : Int) := by omega
  clear h5 ha hb hs3 hs3' hs4 hs4' hca hcb ga gb uA
  go_enter Tryz.func78, Tryz.ntmps78
  go_upto_region 1 with (fail)
  rw [← hwA, ← hTN]
  clear hwA hTN
  by_cases ka1 : ka = 0
  · subst ka1
    have HE := Lib.hid (show Z = [⟨0, 0, [], false⟩] by rw [HJ.out]; rfl)
    clear HJ
    have HL := Lib.hid (nd_newX wA ⟨0, 0, [], false⟩ wA.heap.size rfl)
    have hsz := UA.out.size
    go_wp2_with fail
    go_ret
    exact ⟨⟨_, [wA.heap.size], rfl, by rw [HE.out]; exact HL.out, fun b hb => Or.inr (Or.inr (by have h9 := List.mem_singleton.1 hb; omega))⟩, UA.out.alloc _⟩
  have ba1 : (ka == 0) = false := by simpa using ka1
  by_cases kb1 : kb = 0
  · subst kb1
    have HE := Lib.hid (show Z = [⟨0, 0, [], false⟩] by rw [HJ.out, ba1]; rfl)
    clear HJ ka1
    have HL := Lib.hid (nd_newX wA ⟨0, 0, [], false⟩ wA.heap.size rfl)
    have hsz := UA.out.size
    go_wp2_with fail
    go_ret
    exact ⟨⟨_, [wA.heap.size], rfl, by rw [HE.out]; exact HL.out, fun b hb => Or.inr (Or.inr (by have h9 := List.mem_singleton.1 hb; omega))⟩, UA.out.alloc _⟩
  have bb1 : (kb == 0) = false := by simpa using kb1
  by_cases ka2 : ka = 1
  · subst ka2
    have HE := Lib.hid (show Z = b by rw [HJ.out, bb1]; rfl)
    clear HJ ka1 kb1
    go_wp2_with fail
    go_ret
    exact ⟨⟨_, fb, rfl, by rw [HE.out]; exact HB.out _ (Upd.refl _ _), fun b hb => Or.inr (Or.inl hb)⟩, UA.out⟩
  have ba2 : (ka == 1) = false := by simpa using ka2
  by_cases kb2 : kb = 1
  · subst kb2
    have HE := Lib.hid (show Z = a by rw [HJ.out, ba1, ba2]; rfl)
    clear HJ ka1 kb1 ka2
    go_wp2_with fail
    go_ret
    exact ⟨⟨_, fa, rfl, by rw [HE.out]; exact HA.out _ (Upd.refl _ _), fun b hb => Or.inl hb⟩, UA.out⟩
  have bb2 : (kb == 1) = false := by simpa using kb2
  rw [ba1, bb1, ba2, bb2] at HJ
  clear ka1 kb1 ka2 kb2
  go_wp2_with fail
  refine SM.out.mono ?_
  rintro e w1 ⟨rfl, n1, rfl⟩
  clear SM
  cases q5 with
  | true =>
    have HE := Lib.hid (show Z = a by rw [HJ.out]; rfl)
    clear HJ
    go_wp2_with fail
    go_ret
    exact ⟨⟨_, fa, rfl, by rw [HE.out]; exact HA.out _ ((Upd.refl [] wA).drewN _), fun b hb => Or.inl hb⟩, UA.out.drewN _⟩
  | false =>
    have HE := Lib.hid (show Z = ⟨3, t2, t3, t4⟩ :: (a ++ b) by rw [HJ.out]; rfl)
    clear HJ
    obtain ⟨wx, hwx⟩ : ∃ wx, wx = wA.drewN n1 := ⟨_, rfl⟩
    have hux : Upd [] wA wx := by rw [hwx]; exact (Upd.refl [] wA).drewN _
    have e0 := hux.keep e0
    have e1 := hux.keep e1
    have e2 := hux.keep e2
    have e3 := hux.keep e3
    have hlit := World.ownsRow_lit (base := w.heap.size) (e := 54) (size := 4) wx #[ei 3, ei t2, es t3, .bool t4] 1 (Nat.le_trans UA.out.size hux.size) (by simp [maxLen]) (by simp)
    have X1 := Lib.hid (fun j u hj => ((Upd.refl [] wx).alloc (.cells #[ei 3, ei t2, es t3, .bool t4] 54)).keep ((UA.out.trans hux).keep (HF1.out j u hj)))
    have HUX := Lib.hid (UA.out.trans hux)
    have hszx := HUX.out.size
    rw [← hwx]
    clear hwx hux
    go_wp2_with (first
      | (at_builtin; refine wpList_append_tight _ rfl _ _ 31 rfl w.heap.size 54 i0 (.agg #[.int .i64 0, .int .i64 0, .string ⟨#[]⟩, .bool false]) 4 40 Tryz.underlying31 hi hz0 hz1 hz2 rfl (by decide) _ _ _ rfl hlit ⟨b2, o2, none⟩ a.length c2 _ rfl HN1.out X1.out (one_nds a) (by unfold maxLen; omega) (by omega) (by simp; omega) ?_)
      | fail)
    intro v4 w4 hown4 hg4 ht4
    have hu4 : Upd [] wx w4 := ((Upd.refl [] wx).alloc _).grown hg4 (fun k hk => Or.inl (by simp [Value.ownBlock] at hk; omega))
    have hlt4 := hown4.lt
    have X2 := Lib.hid (fun j u hj => hu4.keep (HUX.out.keep (HF2.out j u hj)))
    have HU4 := Lib.hid (HUX.out.trans hu4)
    have hsz4 := hu4.size
    obtain ⟨a4, cc4, rfl⟩ := ownsRow_form hown4
    clear hg4 ht4 hu4 hlit
    go_wp2_with (first
      | (at_builtin; refine wpList_append_tight _ rfl _ _ 31 rfl w.heap.size 54 i0 (.agg #[.int .i64 0, .int .i64 0, .string ⟨#[]⟩, .bool false]) 4 40 Tryz.underlying31 hi hz0 hz1 hz2 rfl (by decide) _ _ _ rfl hown4 ⟨b3, o3, none⟩ b.length c3 _ rfl HN2.out X2.out (one_nds b) (by unfold maxLen; omega) (by omega) (by omega) ?_)
      | fail)
    intro v5 w5 hown5 hg5 ht5
    obtain ⟨fp5, g1, g2, g3, -⟩ := Flat.ofOwns hown5
    have HN := Lib.hid (show R_O fp5 w5 [v5] (⟨3, t2, t3, t4⟩ :: (a ++ b)) ∧ ∀ b ∈ fp5, w.heap.size ≤ b from ⟨⟨⟨v5, rfl, by
      have e1 : 1 + a.length + b.length = ((⟨3, t2, t3, t4⟩ : Nd) :: (a ++ b)).length := by simp; omega
      rw [← e1]
      simpa using g1⟩, g2⟩, g3⟩)
    have HU5 := Lib.hid (HU4.out.grown hg5 (fun k hk => Or.inl (hlt4 k hk).1))
    obtain ⟨a5, cc5, rfl⟩ := ownsRow_form hown5
    clear hown5 hg5 ht5 hown4 hlt4 g1 g2 g3
    go_wp2_with fail
    go_ret
    exact ⟨⟨_, fp5, rfl, by rw [HE.out]; exact HN.out.1, fun b hb => Or.inr (Or.inr (HN.out.2 b hb))⟩, HU5.out⟩

end Go.Proofs.YtddciieaolaleaaGreatDoor

/-
  Formulas with fixed points simplified: the reference's l19Simple. (Printed by tools/gensimj.py.)
-/
namespace Go.Proofs.YtddciieaolaleaaGreatDoor
open Go.RowKit

theorem kd_first (a : Tr Nd) : ((flatT a).getD 0 nd0).kd = kdT a ∧ ((flatT a).getD 0 nd0).vr = vrT a := by cases a; exact ⟨rfl, rfl⟩
theorem flat_get (a : Tr Nd) (h : 0 < (flatT a).length) : (flatT a)[0].kd = kdT a ∧ (flatT a)[0].vr = vrT a := by
  obtain ⟨n, bs⟩ := a
  simp only [flatT, List.getElem_cons_zero]
  exact ⟨rfl, rfl⟩
theorem two_flat {t : Nd} {a b : Tr Nd} {z o : Int} (hz : z = 0 ∨ z = 1) (ha : okT arN a = true) (hb : okT arN b = true) (hqa : ∀ n ∈ flatT a, fxN n) (hqb : ∀ n ∈ flatT b, fxN n) :
    flatT (pairX z o t a b) = twoL t z o (flatT a) (flatT b) := by
  rw [pair_two hz ha hb hqa hqb, twoL, (kd_first a).1, (kd_first b).1]
theorem fxN_in {n : Nd} (h : fxN n) : inB n.kd 0 8 = true := inB_mk h.1

def SiP (w : World) (l : List Nd) (e : Ending) (w' : World) : Prop := (∃ v' fp', e = .returned v' ∧ R_O fp' w' [v'] l ∧ ∀ c ∈ fp', w.heap.size ≤ c) ∧ Upd [] w w'

set_option maxRecDepth 20000 in
set_option maxHeartbeats 1000000 in
theorem simpleS (n : Nat) : ∀ (x : Tr Nd) (w : World) (b off cap : Nat) (fp : List Nat), (flatT x).length ≤ n → (flatT x).length ≤ 100 → okT arN x = true → (∀ t ∈ flatT x, fxN t) → R_F1 fp w [.slice (some ⟨b, off, none⟩) (flatT x).length cap] (flatT x) →
    Calls Tryz.prog 47 #[.slice (some ⟨b, off, none⟩) (flatT x).length cap] w (SiP w (flatT (simpA x))) := by
  induction n with
  | zero => intro x w b off cap fp hn; have := flatT_pos x; omega
  | succ n ih =>
    intro x w b off cap fp hn h100 hok hfx hR
    obtain ⟨i0, hi, hz0, hz1, hz2⟩ := info_parts Tryz.infoNd
    obtain ⟨⟨t1, t2, t3, t4⟩, args⟩ := x
    have HRX := Lib.hid (fun W (hu : Upd [] w W) => R_F1k.upd hR hu (by simp))
    obtain ⟨_, _, hv, hcap1, hcap2, hc⟩ := slF4_open hR
    simp only [Value.slice.injEq] at hv
    obtain ⟨rfl, -, rfl⟩ := hv
    obtain ⟨_, _, hv, -, -, p1, p2, p3, p4⟩ := hc 0 (flatT_pos _)
    simp only [Option.some.injEq, Addr.mk.injEq, and_true] at hv
    obtain ⟨rfl, rfl⟩ := hv
    simp only [flatT, List.getElem_cons_zero, Nat.zero_mul, Nat.add_zero] at p1 p2 p3 p4
    unfold maxLen at hcap2
    have hok0 := hok
    simp only [okT, Bool.and_eq_true, decide_eq_true_eq] at hok
    have hlen : (args.length : Int) = arI t1 := hok.1
    have hft := hfx ⟨t1, t2, t3, t4⟩ (by simp [flatT])
    have hk8 : 0 ≤ t1 ∧ t1 ≤ 8 := hft.1
    have hfa : ∀ t ∈ flatTs args, fxN t := fun t ht => hfx t (by rw [flatT]; exact List.mem_cons_of_mem _ ht)
    have har : arS t1 = arI t1 := ar_same (inB_mk hk8)
    have AR := Lib.hid (fun W => arityS t1 W)
    rw [har] at AR
    have HOK := Lib.hid hok.2
    have HFA := Lib.hid hfa
    have HIH := Lib.hid ih
    obtain ⟨wA, hwA⟩ : ∃ wA, wA = w.alloc (.cells #[ei t1, ei t2, es t3, .bool t4] 54) := ⟨_, rfl⟩
    have uA : Upd [] w wA := by rw [hwA]; exact (Upd.refl _ _).alloc _
    obtain ⟨TN, hTN⟩ : ∃ TN, TN = w.heap.size := ⟨_, rfl⟩
    have e0 : wA.cell? ⟨TN, 0, none⟩ = some (ei t1) := by rw [hwA]; exact cell_new _ _ _ _ hTN.symm 0 _ rfl
    have e1 : wA.cell? ⟨TN, 1, none⟩ = some (ei t2) := by rw [hwA]; exact cell_new _ _ _ _ hTN.symm 1 _ rfl
    have e2 : wA.cell? ⟨TN, 2, none⟩ = some (es t3) := by rw [hwA]; exact cell_new _ _ _ _ hTN.symm 2 _ rfl
    have e3 : wA.cell? ⟨TN, 3, none⟩ = some (.bool t4) := by rw [hwA]; exact cell_new _ _ _ _ hTN.symm 3 _ rfl
    have UA := Lib.hid uA
    have hszA := uA.size
    have HSA := Lib.hid (show simpA (.mk ⟨t1, t2, t3, t4⟩ args) = finA ⟨t1, t2, t3, t4⟩ (simpAs args) by rw [simpA])
    have hpos := flatT_pos (Tr.mk (⟨t1, t2, t3, t4⟩ : Nd) args)
    have hposI : (0 : Int) < ((flatT (Tr.mk (⟨t1, t2, t3, t4⟩ : Nd) args)).length : Int) := by omega
    clear hc ih hR hok hfx hfa uA har
    have hmid : ∀ y zs, args = y :: zs → Calls Tryz.prog 77 #[.slice (some ⟨b, off, none⟩) (flatT (Tr.mk (⟨t1, t2, t3, t4⟩ : Nd) args)).length cap, .int .i64 1] wA fun e w' => e = .returned (.int .i64 ((1 + (flatT y).length : Nat) : Int)) ∧ wA = w' := by
      intro y zs hargs
      have hd : (flatT (Tr.mk (⟨t1, t2, t3, t4⟩ : Nd) args)).drop 1 = flatT y ++ flatTs zs := by rw [hargs]; rfl
      have hlt : 1 < (flatT (Tr.mk (⟨t1, t2, t3, t4⟩ : Nd) args)).length := by rw [hargs]; simp only [flatT, flatTs, List.length_cons, List.length_append]; have := flatT_pos y; omega
      have hin : ∀ m ∈ flatT y ++ flatTs zs, inB m.kd 0 8 = true := fun m hm => fxN_in (HFA.out m (by rw [hargs]; exact hm))
      have hsh : shapeF arS ((args.length : Nat) : Int) (flatT y ++ flatTs zs) = true := by
        rw [shape_same _ _ hin]
        have h9 := (shape_trees _ args [] 0 (Nat.le_refl _) HOK.out (by omega)).1
        rw [List.append_nil, hargs] at h9
        rw [hargs, ← Int.zero_add (((y :: zs).length : Nat) : Int)]
        have e9 : flatTs (y :: zs) = flatT y ++ flatTs zs := rfl
        rw [← e9, h9]; rfl
      have h1 := endS _ _ 1 wA fp (HRX.out wA UA.out) (by omega) hlt ⟨((args.length : Nat) : Int), by rw [hargs]; simp only [List.length_cons]; omega, by rw [hd]; exact hsh⟩
      have hoky : okT arN y = true := by have := HOK.out; rw [hargs] at this; simp only [okTs, Bool.and_eq_true] at this; exact this.1
      rw [hd, endF_same _ _ hin, end_tree hoky] at h1
      exact h1
    have HMID := Lib.hid hmid
    clear hmid
    by_cases hz : arI t1 = 0
    · have hargs : args = [] := List.eq_nil_of_length_eq_zero (by omega)
      subst hargs
      have h016 : t1 = 0 ∨ t1 = 1 ∨ t1 = 6 := by
        unfold arI at hz
        split at hz
        · omega
        · split at hz
          · omega
          · omega
      have HE := Lib.hid (show flatT (simpA (.mk ⟨t1, t2, t3, t4⟩ [])) = [⟨t1, t2, t3, t4⟩] by
        rw [HSA.out]
        have hff : fixF t1 = false := by unfold fixF; simp; omega
        simp only [finA, hff, if_true, simpAs, nodeX, show ¬ t1 = 2 by omega, show ¬ t1 = 3 by omega, show ¬ t1 = 4 by omega, show ¬ t1 = 5 by omega, if_false, false_and, flatT, flatTs])
      rw [hz] at AR
      have HN := Lib.hid (nd_newX wA ⟨t1, t2, t3, t4⟩ wA.heap.size rfl)
      clear h016 hz hlen HIH HOK HFA hft hok0 HMID
      go_enter Tryz.func47, Tryz.ntmps47
      go_upto_region 2 with (fail)
      rw [← hwA, ← hTN]
      clear hwA hTN
      go_wp2_with fail
      refine (AR.out _).mono ?_
      rintro e w2 ⟨rfl, rfl⟩
      go_wp2_with fail
      go_ret
      exact ⟨⟨_, [wA.heap.size], rfl, by rw [HE.out]; exact HN.out, fun c hc => by have h9 := List.mem_singleton.1 hc; omega⟩, UA.out.alloc _⟩
    have hai := arI_in t1
    have hzb : (arI t1 == 0) = false := by simpa using hz
    obtain ⟨y, zs, hargs⟩ : ∃ y zs, args = y :: zs := by
      match args, hlen with
      | y :: zs, _ => exact ⟨y, zs, rfl⟩
      | [], hl => simp at hl; omega
    have hM := Lib.hid (HMID.out y zs hargs)
    have hLN : (flatT (Tr.mk (⟨t1, t2, t3, t4⟩ : Nd) args)).length = 1 + (flatT y).length + (flatTs zs).length := by rw [hargs]; simp only [flatT, flatTs, List.length_cons, List.length_append]; omega
    have hoky : okT arN y = true ∧ okTs arN zs = true := by have := HOK.out; rw [hargs] at this; simpa [okTs] using this
    have hfy : ∀ t ∈ flatT y, fxN t := fun t ht => HFA.out t (by rw [hargs]; exact List.mem_append_left _ ht)
    have hfz : ∀ t ∈ flatTs zs, fxN t := fun t ht => HFA.out t (by rw [hargs]; exact List.mem_append_right _ ht)
    obtain ⟨fy, hys, -⟩ := slF_sub (n := 4) (by intro x; rfl) (HRX.out wA UA.out) 1 (1 + (flatT y).length) (by omega) (by omega)
    have htk : ((flatT (Tr.mk (⟨t1, t2, t3, t4⟩ : Nd) args)).take (1 + (flatT y).length)).drop 1 = flatT y := by
      rw [hargs, Nat.add_comm]; simp [flatT, flatTs]
    rw [htk, Nat.add_sub_cancel_left, Nat.one_mul] at hys
    have SY := Lib.hid (HIH.out y wA b (off + 4) (cap - 1) fy (by omega) (by omega) hoky.1 hfy hys)
    obtain ⟨gy1, gy2, gy3⟩ := simpA_good y hoky.1 hfy
    have hpy := flatT_pos y
    have hpsy := flatT_pos (simpA y)
    generalize hLNN : (flatT (Tr.mk (⟨t1, t2, t3, t4⟩ : Nd) args)).length = LN at *
    generalize hLY : (flatT y).length = LY at *
    have s1 : (1 : Int) ≤ 1 + (LY : Int) := by omega
    have s2 : 1 + (LY : Int) ≤ (cap : Int) := by omega
    have s3 : (0 : Int) ≤ 1 + (LY : Int) := by omega
    have s4 : 1 + (LY : Int) ≤ (LN : Int) := by omega
    by_cases h2 : arI t1 = 2
    · skip
      obtain ⟨z, rfl⟩ : ∃ z, zs = [z] := by
        have hl9 := hlen
        rw [hargs, h2] at hl9
        simp only [List.length_cons] at hl9
        match zs, hl9 with
        | [z], _ => exact ⟨z, rfl⟩
        | [], h => simp at h
        | _ :: _ :: _, h => simp at h; omega
      subst hargs
      have h23 : t1 = 2 ∨ t1 = 3 := by
        unfold arI at h2
        split at h2
        · assumption
        · split at h2
          · omega
          · omega
      rw [h2] at AR
      have hokz : okT arN z = true := by simpa [okTs] using hoky.2
      have hfz2 : ∀ t ∈ flatT z, fxN t := fun t ht => hfz t (by simp [flatTs, ht])
      have hlz : (flatTs [z]).length = (flatT z).length := by simp [flatTs]
      have hpz := flatT_pos z
      have hpsz := flatT_pos (simpA z)
      obtain ⟨gz1, gz2, gz3⟩ := simpA_good z hokz hfz2
      obtain ⟨fz, hzs, -⟩ := slF_sub (n := 4) (by intro x; rfl) (HRX.out wA UA.out) (1 + LY) LN (by omega) (by rw [hLNN]; omega)
      have htz : ((flatT (Tr.mk (⟨t1, t2, t3, t4⟩ : Nd) [y, z])).take LN).drop (1 + LY) = flatT z := by
        rw [← hLNN, List.take_length, ← hLY, Nat.add_comm]; simp [flatT, flatTs]
      have hlz2 : LN - (1 + LY) = (flatT z).length := by omega
      rw [htz, hlz2] at hzs
      have SZ := Lib.hid (fun W (hu : Upd [] wA W) => HIH.out z W b (off + (1 + LY) * 4) (cap - (1 + LY)) fz (by omega) (by omega) hokz hfz2 (R_F1k.upd hzs hu (by simp)))
      rw [← hlz2] at SZ
      have hcl : 1 + LY < cap := by omega
      have HSB := Lib.hid (show simpA (.mk ⟨t1, t2, t3, t4⟩ [y, z]) = nodeX ⟨t1, t2, t3, t4⟩ [simpA y, simpA z] by
        rw [HSA.out]
        have hff : fixF t1 = false := by unfold fixF; rcases h23 with rfl | rfl <;> rfl
        simp only [finA, hff, if_true, simpAs])
      have HTW := Lib.hid (fun z' o' (hz' : z' = 0 ∨ z' = 1) => two_flat (t := ⟨t1, t2, t3, t4⟩) (o := o') hz' gy1 gz1 gy2 gz2)
      have hlb : (flatT (simpA y)).length ≤ 100 ∧ (flatT (simpA z)).length ≤ 100 := by omega
      have hwz : (LN : Int) - (1 + (LY : Int)) = ((flatT z).length : Int) := by omega
      clear HSA HIH HMID HOK HFA hft hok0 hz hzb h2 hys htk gy1 gy2 gy3 hfy hfz hoky hlen gz1 gz2 gz3 hfz2 hokz hzs htz hLN hLNN hLY hlz hlz2
      go_enter Tryz.func47, Tryz.ntmps47
      go_upto_region 2 with (fail)
      rw [← hwA, ← hTN]
      clear hwA hTN
      go_wp2_with fail
      refine (AR.out _).mono ?_
      rintro e w2 ⟨rfl, rfl⟩
      go_wp2_with fail
      (with_reducible refine hM.out.mono ?_)
      rintro e w2 ⟨rfl, rfl⟩
      clear hM
      go_wp2_with fail
      (with_reducible refine SY.out.mono ?_)
      rintro e w3 ⟨⟨va, fa, rfl, ra, ga⟩, hu3⟩
      have U3 := Lib.hid (UA.out.trans hu3)
      have HRA := Lib.hid (fun W (hu : Upd [] w3 W) => R_Ok.upd ra hu (by simp))
      have HGA := Lib.hid (show ∀ c ∈ fa, w.heap.size ≤ c from fun c hc => Nat.le_trans hszA (ga c hc))
      have e0 := hu3.keep e0
      have e1 := hu3.keep e1
      have e2 := hu3.keep e2
      have e3 := hu3.keep e3
      have hsz3 := hu3.size
      clear ra ga SY
      have hup := Lib.hid hu3
      obtain ⟨xa, xc, rfl, -, -, -⟩ := slF4_open (HRA.out w3 (Upd.refl _ _)).1
      clear hu3
      go_wp2_with fail
      refine (AR.out _).mono ?_
      rintro e w4 ⟨rfl, rfl⟩
      clear AR
      have ht1 : (1 + (LY : Int)).toNat = 1 + LY := by omega
      have hce : ¬ (cap = 1 + LY) := by omega
      rcases h23 with rfl | rfl
      · have TW := Lib.hid (fun W (hu : Upd [] w3 W) vb fb (rb : R_O fb W [vb] (flatT (simpA z))) => two2S t2 t3 t4 (flatT (simpA y)) (flatT (simpA z)) W _ vb fa fb (HRA.out W hu) rb (by omega) (by omega) (by omega) (by omega))
        have HE := Lib.hid (show flatT (simpA (.mk ⟨2, t2, t3, t4⟩ [y, z])) = twoL ⟨2, t2, t3, t4⟩ 1 0 (flatT (simpA y)) (flatT (simpA z)) by
          rw [HSB.out, show nodeX ⟨2, t2, t3, t4⟩ [simpA y, simpA z] = pairX 1 0 ⟨2, t2, t3, t4⟩ (simpA y) (simpA z) by simp [nodeX]]
          exact HTW.out 1 0 (by decide))
        clear HSB HTW hpos hposI
        go_wp2_with fail
        go_region_held3 (fun w' => w'.cell? ⟨TN, 0, none⟩ = some (ei 2) ∧ w'.cell? ⟨TN, 1, none⟩ = some (ei t2) ∧ w'.cell? ⟨TN, 2, none⟩ = some (es t3) ∧ w'.cell? ⟨TN, 3, none⟩ = some (.bool t4)) (go_keep)
          (first
            | (go_at_call 47; (with_reducible refine (SZ.out _ hup.out.drew).mono ?_); rintro e w5 ⟨⟨vb, fb, rfl, rb, gb⟩, hu5⟩; have hV5 : Upd [] w3 w5 := (Upd.refl [] w3).drew.trans hu5; have x0 := hV5.keep e0; have x1 := hV5.keep e1; have x2 := hV5.keep e2; have x3 := hV5.keep e3)
            | (go_at_call 78; (with_reducible refine (TW.out w5 hV5 vb fb rb).mono ?_); rintro e w6 ⟨⟨v6, fp6, rfl, r6, g6⟩, hu6⟩; have hV6 := hV5.trans hu6; have y0 := hV6.keep e0; have y1 := hV6.keep e1; have y2 := hV6.keep e2; have y3 := hV6.keep e3))
        have HFI := Lib.hid (And.intro r6 (show ∀ c ∈ fp6, w.heap.size ≤ c from fun c hc => by
          rcases g6 c hc with h | h | h
          · exact HGA.out c h
          · have h9 := gb c h
            have h8 : w3.heap.size ≤ c := h9
            omega
          · have := hV5.size; omega))
        have U6 := Lib.hid (U3.out.trans hV6)
        obtain ⟨za, zc, rfl, -, -, -⟩ := slF4_open r6.1
        generalize (twoL ⟨2, t2, t3, t4⟩ 1 0 (flatT (simpA y)) (flatT (simpA z))).length = ZL at *
        clear x0 x1 x2 x3 y0 y1 y2 y3 rb r6 g6 gb hu5 hu6 hV5 hV6 e0 e1 e2 e3 TW SZ
        go_wp2_with fail
        go_ret
        exact ⟨⟨_, fp6, rfl, by rw [HE.out]; exact HFI.out.1, HFI.out.2⟩, U6.out⟩
      · have TW := Lib.hid (fun W (hu : Upd [] w3 W) vb fb (rb : R_O fb W [vb] (flatT (simpA z))) => two3S t2 t3 t4 (flatT (simpA y)) (flatT (simpA z)) W _ vb fa fb (HRA.out W hu) rb (by omega) (by omega) (by omega) (by omega))
        have HE := Lib.hid (show flatT (simpA (.mk ⟨3, t2, t3, t4⟩ [y, z])) = twoL ⟨3, t2, t3, t4⟩ 0 1 (flatT (simpA y)) (flatT (simpA z)) by
          rw [HSB.out, show nodeX ⟨3, t2, t3, t4⟩ [simpA y, simpA z] = pairX 0 1 ⟨3, t2, t3, t4⟩ (simpA y) (simpA z) by simp [nodeX]]
          exact HTW.out 0 1 (by decide))
        clear HSB HTW hpos hposI
        go_wp2_with fail
        go_region_held3 (fun w' => w'.cell? ⟨TN, 0, none⟩ = some (ei 3) ∧ w'.cell? ⟨TN, 1, none⟩ = some (ei t2) ∧ w'.cell? ⟨TN, 2, none⟩ = some (es t3) ∧ w'.cell? ⟨TN, 3, none⟩ = some (.bool t4)) (go_keep)
          (first
            | (go_at_call 47; (with_reducible refine (SZ.out _ hup.out.drew).mono ?_); rintro e w5 ⟨⟨vb, fb, rfl, rb, gb⟩, hu5⟩; have hV5 : Upd [] w3 w5 := (Upd.refl [] w3).drew.trans hu5; have x0 := hV5.keep e0; have x1 := hV5.keep e1; have x2 := hV5.keep e2; have x3 := hV5.keep e3)
            | (go_at_call 78; (with_reducible refine (TW.out w5 hV5 vb fb rb).mono ?_); rintro e w6 ⟨⟨v6, fp6, rfl, r6, g6⟩, hu6⟩; have hV6 := hV5.trans hu6; have y0 := hV6.keep e0; have y1 := hV6.keep e1; have y2 := hV6.keep e2; have y3 := hV6.keep e3))
        have HFI := Lib.hid (And.intro r6 (show ∀ c ∈ fp6, w.heap.size ≤ c from fun c hc => by
          rcases g6 c hc with h | h | h
          · exact HGA.out c h
          · have h9 := gb c h
            have h8 : w3.heap.size ≤ c := h9
            omega
          · have := hV5.size; omega))
        have U6 := Lib.hid (U3.out.trans hV6)
        obtain ⟨za, zc, rfl, -, -, -⟩ := slF4_open r6.1
        generalize (twoL ⟨3, t2, t3, t4⟩ 0 1 (flatT (simpA y)) (flatT (simpA z))).length = ZL at *
        clear x0 x1 x2 x3 y0 y1 y2 y3 rb r6 g6 gb hu5 hu6 hV5 hV6 e0 e1 e2 e3 TW SZ
        go_wp2_with fail
        go_ret
        exact ⟨⟨_, fp6, rfl, by rw [HE.out]; exact HFI.out.1, HFI.out.2⟩, U6.out⟩
    · have h1 : arI t1 = 1 := by omega
      obtain rfl : zs = [] := by
        have hl9 := hlen
        rw [hargs, h1] at hl9
        exact List.eq_nil_of_length_eq_zero (by simp only [List.length_cons] at hl9; omega)
      subst hargs
      have h4578 : t1 = 4 ∨ t1 = 5 ∨ t1 = 7 ∨ t1 = 8 := by
        unfold arI at h1
        split at h1
        · omega
        · split at h1
          · assumption
          · omega
      rw [h1] at AR
      have HB2 := Lib.hid (And.intro gy1 (And.intro gy2 gy3))
      have HSB := Lib.hid (show simpA (.mk ⟨t1, t2, t3, t4⟩ [y]) = finA ⟨t1, t2, t3, t4⟩ [simpA y] by rw [HSA.out]; rfl)
      clear HSA HIH HMID HOK HFA hft hok0 hz hzb h2 hys htk gy1 gy2 gy3 hfy hfz hoky hlen hLN hLNN hLY
      go_enter Tryz.func47, Tryz.ntmps47
      go_upto_region 2 with (fail)
      rw [← hwA, ← hTN]
      clear hwA hTN
      go_wp2_with fail
      refine (AR.out _).mono ?_
      rintro e w2 ⟨rfl, rfl⟩
      go_wp2_with fail
      (with_reducible refine hM.out.mono ?_)
      rintro e w2 ⟨rfl, rfl⟩
      clear hM
      go_wp2_with fail
      (with_reducible refine SY.out.mono ?_)
      rintro e w3 ⟨⟨va, fa, rfl, ra, ga⟩, hu3⟩
      have U3 := Lib.hid (UA.out.trans hu3)
      have HRA := Lib.hid (fun W (hu : Upd [] w3 W) => R_Ok.upd ra hu (by simp))
      have HGA := Lib.hid (show ∀ c ∈ fa, w.heap.size ≤ c from fun c hc => Nat.le_trans hszA (ga c hc))
      have e0 := hu3.keep e0
      have e1 := hu3.keep e1
      have e2 := hu3.keep e2
      have e3 := hu3.keep e3
      have hsz3 := hu3.size
      obtain ⟨b2, o2, c2, rfl, hs1, hs2, hs3, hs4⟩ := slF_src ra.1 (by omega)
      unfold maxLen at hs2
      obtain ⟨_, _, hv, -, -, hca⟩ := slF4_open ra.1
      simp only [Value.slice.injEq] at hv
      obtain ⟨rfl, -, rfl⟩ := hv
      obtain ⟨_, _, hv, -, -, qa, qv, -⟩ := hca 0 (by omega)
      simp only [Option.some.injEq, Addr.mk.injEq, and_true] at hv
      obtain ⟨rfl, rfl⟩ := hv
      rw [Nat.zero_mul, Nat.add_zero] at qa qv
      rw [(flat_get (simpA y) (by omega)).1] at qa
      rw [(flat_get (simpA y) (by omega)).2] at qv
      have hlit := World.ownsRow_lit (base := w.heap.size) (e := 54) (size := 4) w3 #[ei t1, ei t2, es t3, .bool t4] 1 (Nat.le_trans hszA hsz3) (by simp [maxLen]) (by simp)
      have X1 := Lib.hid (fun j u hj => ((Upd.refl [] w3).alloc (.cells #[ei t1, ei t2, es t3, .bool t4] 54)).keep (hs4 j u hj))
      have HN1 := Lib.hid hs3
      have hlb : (flatT (simpA y)).length ≤ 100 := by have := HB2.out.2.2; omega
      have hok1 : okT arN (.mk ⟨t1, t2, t3, t4⟩ [simpA y]) = true := by simp only [okT, okTs, HB2.out.1, Bool.and_true, decide_eq_true_eq]; exact h1.symm
      have HIN := Lib.hid (show ∀ m ∈ flatT (.mk ⟨t1, t2, t3, t4⟩ [simpA y]), inB m.kd 0 8 = true from fun m hm => by
        simp only [flatT, flatTs, List.append_nil, List.mem_cons] at hm
        rcases hm with rfl | hm
        · exact inB_mk hk8
        · exact fxN_in (HB2.out.2.1 m hm))
      have HFL := Lib.hid (show flatT (.mk ⟨t1, t2, t3, t4⟩ [simpA y]) = ⟨t1, t2, t3, t4⟩ :: flatT (simpA y) by simp [flatT, flatTs])
      have HO1 := Lib.hid hok1
      clear ra ga hu3 SY hs3 hs4 hca hok1
      go_wp2_with fail
      refine (AR.out _).mono ?_
      rintro e w4 ⟨rfl, rfl⟩
      clear AR
      go_wp2_with (first
        | (at_builtin; refine wpList_append_tight _ rfl _ _ 31 rfl w.heap.size 54 i0 (.agg #[.int .i64 0, .int .i64 0, .string ⟨#[]⟩, .bool false]) 4 40 Tryz.underlying31 hi hz0 hz1 hz2 rfl (by decide) _ _ _ rfl hlit ⟨b2, o2, none⟩ (flatT (simpA y)).length c2 _ rfl HN1.out X1.out (one_nds _) (by unfold maxLen; omega) (by omega) (by simp; omega) ?_)
        | fail)
      intro v5 w5 hown5 hg5 ht5
      have hu5 : Upd [] w3 w5 := ((Upd.refl [] w3).alloc _).grown hg5 (fun k hk => Or.inl (by simp [Value.ownBlock] at hk; omega))
      obtain ⟨fp5, g1, g2, g3, -⟩ := Flat.ofOwns hown5
      have HN := Lib.hid (show R_O fp5 w5 [v5] (flatT (.mk ⟨t1, t2, t3, t4⟩ [simpA y])) ∧ ∀ c ∈ fp5, w.heap.size ≤ c from ⟨⟨⟨v5, rfl, by
        rw [HFL.out, show ((⟨t1, t2, t3, t4⟩ : Nd) :: flatT (simpA y)).length = 1 + (flatT (simpA y)).length by simp; omega]
        simpa using g1⟩, g2⟩, g3⟩)
      have U5 := Lib.hid (U3.out.trans hu5)
      have HRA5 := Lib.hid (HRA.out w5 hu5)
      obtain ⟨a5, cc5, rfl⟩ := ownsRow_form hown5
      have qa := hu5.keep qa
      have qv := hu5.keep qv
      have e0 := hu5.keep e0
      have e1 := hu5.keep e1
      have hsz5 := U5.out.size
      have HLF := Lib.hid (fun (W : World) (k : Int) => nd_newX W ⟨k, 0, [], false⟩ W.heap.size rfl)
      have hps : (0 : Int) < ((flatT (simpA y)).length : Int) := by omega
      have hVB := HB2.out
      generalize hbo : simpA y = bo at *
      have HBO := Lib.hid hbo
      clear hown5 hg5 ht5 hlit g1 g2 g3 hu5 X1 HN1 hbo HRA
      rcases h4578 with rfl | rfl | h78
      · by_cases hk : kdT bo = 1
        · have HE := Lib.hid (show flatT (finA ⟨4, t2, t3, t4⟩ [bo]) = [⟨1, 0, [], false⟩] by
            rw [show finA ⟨4, t2, t3, t4⟩ [bo] = bo by simp [finA, fixF, nodeX, hk]]
            exact leaf_fx hVB.1 hVB.2.1 (by decide) hk)
          rw [hk] at qa
          clear hVB hk
          go_wp2_with fail
          go_ret
          exact ⟨⟨_, [w5.heap.size], rfl, by rw [HSB.out, HE.out]; exact HLF.out w5 1, fun c hc => by have h9 := List.mem_singleton.1 hc; omega⟩, U5.out.alloc _⟩
        · have hkb : (kdT bo == 1) = false := by simpa using hk
          have HE := Lib.hid (show finA ⟨4, t2, t3, t4⟩ [bo] = .mk ⟨4, t2, t3, t4⟩ [bo] by simp [finA, fixF, nodeX, hk])
          generalize kdT bo = kb at *
          clear hVB hk
          go_wp2_with fail
          go_ret
          exact ⟨⟨_, fp5, rfl, by rw [HSB.out, HE.out]; exact HN.out.1, HN.out.2⟩, U5.out⟩
      · by_cases hk : kdT bo = 0
        · have HE := Lib.hid (show flatT (finA ⟨5, t2, t3, t4⟩ [bo]) = [⟨0, 0, [], false⟩] by
            rw [show finA ⟨5, t2, t3, t4⟩ [bo] = bo by simp [finA, fixF, nodeX, hk]]
            exact leaf_fx hVB.1 hVB.2.1 (by decide) hk)
          rw [hk] at qa
          clear hVB hk
          go_wp2_with fail
          go_ret
          exact ⟨⟨_, [w5.heap.size], rfl, by rw [HSB.out, HE.out]; exact HLF.out w5 0, fun c hc => by have h9 := List.mem_singleton.1 hc; omega⟩, U5.out.alloc _⟩
        · have hkb : (kdT bo == 0) = false := by simpa using hk
          have HE := Lib.hid (show finA ⟨5, t2, t3, t4⟩ [bo] = .mk ⟨5, t2, t3, t4⟩ [bo] by simp [finA, fixF, nodeX, hk])
          generalize kdT bo = kb at *
          clear hVB hk
          go_wp2_with fail
          go_ret
          exact ⟨⟨_, fp5, rfl, by rw [HSB.out, HE.out]; exact HN.out.1, HN.out.2⟩, U5.out⟩
      · have hff : fixF t1 = true := by unfold fixF; rcases h78 with rfl | rfl <;> rfl
        have HEF := Lib.hid (show finA ⟨t1, t2, t3, t4⟩ [bo] = if kdT bo = 6 ∧ vrT bo = t2 then leafX (if t1 = 7 then 1 else 0) else if usesF (flatT (.mk ⟨t1, t2, t3, t4⟩ [bo])) then .mk ⟨t1, t2, t3, t4⟩ [bo] else bo by
          unfold finA; rw [if_neg (show ¬ fixF (⟨t1, t2, t3, t4⟩ : Nd).kd = false by rw [show fixF (⟨t1, t2, t3, t4⟩ : Nd).kd = true from hff]; simp)]; rfl)
        have hb4 : (t1 == 4) = false := by simp; omega
        have hb5 : (t1 == 5) = false := by simp; omega
        have hln : (flatT (.mk ⟨t1, t2, t3, t4⟩ [bo])).length = 1 + (flatT bo).length := by rw [HFL.out, List.length_cons]; omega
        have ND := Lib.hid (fun W (hu : Upd [] w5 W) => needsS _ _ W fp5 (R_F1k.upd HN.out.1.1 hu (by simp)) (by omega) (by omega) (shape_tree HO1.out) HIN.out)
        generalize usesF (flatT (.mk ⟨t1, t2, t3, t4⟩ [bo])) = us at *
        clear hVB hff hln
        by_cases hk6 : kdT bo = 6
        · rw [hk6] at qa
          by_cases hv2 : vrT bo = t2
          · rw [hv2] at qv
            have HE3 := Lib.hid (show finA ⟨t1, t2, t3, t4⟩ [bo] = leafX (if t1 = 7 then 1 else 0) by rw [HEF.out, if_pos ⟨hk6, hv2⟩])
            clear hk6 hv2 ND
            go_wp2_with fail
            go_quiet (fail)
            have UQ := Lib.hid (U5.out.drewN nq)
            have e0 := ((Upd.refl [] w5).drewN nq).keep e0
            generalize w5.drewN nq = wq at *
            have hszq := UQ.out.size
            rcases h78 with rfl | rfl
            · go_wp2_with fail
              go_ret
              exact ⟨⟨_, [wq.heap.size], rfl, by rw [HSB.out, HE3.out]; exact HLF.out wq 1, fun c hc => by have h9 := List.mem_singleton.1 hc; omega⟩, UQ.out.alloc _⟩
            · go_wp2_with fail
              go_ret
              exact ⟨⟨_, [wq.heap.size], rfl, by rw [HSB.out, HE3.out]; exact HLF.out wq 0, fun c hc => by have h9 := List.mem_singleton.1 hc; omega⟩, UQ.out.alloc _⟩
          · have hvb : (vrT bo == t2) = false := by simpa using hv2
            have HE3 := Lib.hid (show finA ⟨t1, t2, t3, t4⟩ [bo] = if us then .mk ⟨t1, t2, t3, t4⟩ [bo] else bo by rw [HEF.out, if_neg (fun h => hv2 h.2)])
            generalize vrT bo = vb at *
            clear hk6 hv2 HEF
            go_wp2_with fail
            go_quiet (fail)
            have UQ := Lib.hid (U5.out.drewN nq)
            have N1 := Lib.hid (ND.out (w5.drewN nq) ((Upd.refl [] w5).drewN nq))
            have HQ := Lib.hid (fun W (hu : Upd [] (w5.drewN nq) W) => And.intro (R_Ok.upd HN.out.1 (((Upd.refl [] w5).drewN nq).trans hu) (by simp)) (R_Ok.upd HRA5.out (((Upd.refl [] w5).drewN nq).trans hu) (by simp)))
            generalize w5.drewN nq = wq at *
            clear ND
            go_wp2_with fail
            refine N1.out.mono ?_
            rintro e w6 ⟨rfl, hu6⟩
            have U6 := Lib.hid (UQ.out.trans hu6)
            have HQ6 := Lib.hid (HQ.out w6 hu6)
            clear N1 hu6 HQ
            cases us with
            | true =>
              go_wp2_with fail
              go_ret
              exact ⟨⟨_, fp5, rfl, by rw [HSB.out, HE3.out]; exact HQ6.out.1, HN.out.2⟩, U6.out⟩
            | false =>
              go_wp2_with fail
              go_ret
              exact ⟨⟨_, fa, rfl, by rw [HSB.out, HE3.out]; exact HQ6.out.2, HGA.out⟩, U6.out⟩
        · have hkb : (kdT bo == 6) = false := by simpa using hk6
          have HE3 := Lib.hid (show finA ⟨t1, t2, t3, t4⟩ [bo] = if us then .mk ⟨t1, t2, t3, t4⟩ [bo] else bo by rw [HEF.out, if_neg (fun h => hk6 h.1)])
          generalize kdT bo = kb at *
          clear hk6 HEF
          go_wp2_with fail
          go_quiet (fail)
          have UQ := Lib.hid (U5.out.drewN nq)
          have N1 := Lib.hid (ND.out (w5.drewN nq) ((Upd.refl [] w5).drewN nq))
          have HQ := Lib.hid (fun W (hu : Upd [] (w5.drewN nq) W) => And.intro (R_Ok.upd HN.out.1 (((Upd.refl [] w5).drewN nq).trans hu) (by simp)) (R_Ok.upd HRA5.out (((Upd.refl [] w5).drewN nq).trans hu) (by simp)))
          generalize w5.drewN nq = wq at *
          clear ND
          go_wp2_with fail
          refine N1.out.mono ?_
          rintro e w6 ⟨rfl, hu6⟩
          have U6 := Lib.hid (UQ.out.trans hu6)
          have HQ6 := Lib.hid (HQ.out w6 hu6)
          clear N1 hu6 HQ
          cases us with
          | true =>
            go_wp2_with fail
            go_ret
            exact ⟨⟨_, fp5, rfl, by rw [HSB.out, HE3.out]; exact HQ6.out.1, HN.out.2⟩, U6.out⟩
          | false =>
            go_wp2_with fail
            go_ret
            exact ⟨⟨_, fa, rfl, by rw [HSB.out, HE3.out]; exact HQ6.out.2, HGA.out⟩, U6.out⟩

end Go.Proofs.YtddciieaolaleaaGreatDoor

/-
  The program's check of a formula: what the call returns.
-/
namespace Go.Proofs.YtddciieaolaleaaGreatDoor
open Go.RowKit

theorem frm_step (f : List Nd) (k : Nat) (h : k < f.length) : allF (ndkI f) k (f.length - k) = (ndkI f k && allF (ndkI f) (k + 1) (f.length - (k + 1))) := allF_step (ndkI f) k f.length h

set_option maxRecDepth 20000 in
set_option maxHeartbeats 4000000 in
theorem validFI (v : Value) (f : List Nd) (w : World) (fp : List Nat) (hR : R_F1 fp w [v] f) (hlen : f.length ≤ 2000000) (hl : ∀ n ∈ f, n.lb.length ≤ 2000000) (he : Env w) :
    Calls Tryz.prog 45 #[v] w fun e w' => e = .returned (.bool (frmOk f)) ∧ Upd [] w w' := by
  have HR := Lib.hid hR
  obtain ⟨a, cap, rfl, h1, h2, hc⟩ := slF4_open hR
  unfold maxLen at h2
  have HC := Lib.hid hc
  have HL := Lib.hid hl
  have HE := Lib.hid he
  have HOK := Lib.hid (show frmOk f = (inB f.length 1 30 && shapeF arI 1 f && allF (ndkI f) 0 f.length) from rfl)
  have S1 := Lib.hid (fun W : World => within (f.length : Int) 1 30 W)
  have S2 := Lib.hid (fun W (hu : Upd [] w W) => shapeI _ f W fp (R_F1k.upd HR.out hu (by simp)) hlen)
  clear hR hc hl he
  cases hin : inB (f.length : Int) 1 30 with
  | false =>
    rw [hin] at S1
    have HF := Lib.hid (show frmOk f = false by rw [HOK.out, hin]; rfl)
    clear hin HOK S2
    go_enter Tryz.func45, Tryz.ntmps45
    go_wp2_with fail
    refine (S1.out _).mono ?_
    rintro e w1 ⟨rfl, rfl⟩
    clear S1
    go_wp2_with fail
    go_ret
    exact ⟨by rw [HF.out]; rfl, Upd.refl _ _⟩
  | true =>
    rw [hin] at S1 HOK
    clear hin
    cases hsh : shapeF arI 1 f with
    | false =>
      rw [hsh] at S2
      have HF := Lib.hid (show frmOk f = false by rw [HOK.out, hsh]; rfl)
      clear hsh HOK
      go_enter Tryz.func45, Tryz.ntmps45
      go_wp2_with fail
      refine (S1.out _).mono ?_
      rintro e w1 ⟨rfl, rfl⟩
      have T2 := Lib.hid (S2.out _ (Upd.refl _ _))
      clear S1 S2
      go_wp2_with fail
      refine T2.out.mono ?_
      rintro e w1 ⟨rfl, hu⟩
      have HU := Lib.hid hu
      clear T2 hu
      go_wp2_with fail
      go_ret
      exact ⟨by rw [HF.out]; rfl, HU.out⟩
    | true =>
      rw [hsh] at S2 HOK
      have HSH := Lib.hid hsh
      have HF := Lib.hid (show frmOk f = allF (ndkI f) 0 f.length by rw [HOK.out]; rfl)
      clear hsh HOK
      go_enter Tryz.func45, Tryz.ntmps45
      go_wp2_with fail
      refine (S1.out _).mono ?_
      rintro e w1 ⟨rfl, rfl⟩
      have T2 := Lib.hid (S2.out _ (Upd.refl _ _))
      clear S1 S2
      go_wp2_with fail
      refine T2.out.mono ?_
      rintro e w1 ⟨rfl, hu⟩
      have HU := Lib.hid hu
      clear T2 hu
      go_wp2_with fail
      go_loopw [16] (fun iv wr => ∃ k : Nat, k ≤ f.length ∧ iv = .int .i64 k ∧ Hid (allF (ndkI f) k (f.length - k) = frmOk f) ∧ Hid (Upd [] w wr)) (fun iv _ => f.length - (intOf iv).toNat)
      case atStart => exact ⟨0, Nat.zero_le _, rfl, Lib.hid (by rw [HF.out]; rfl), HU⟩
      case round =>
        clear HU HF
        obtain ⟨wo, rfl⟩ : ∃ wo : World, wo = wr := ⟨_, rfl⟩
        obtain ⟨k, hk, rfl, HA, HU⟩ := hrel
        by_cases hlt : k < f.length
        · obtain ⟨b1, o1, rfl, -, -, p1, p2, p3, p4⟩ := HC.out k hlt
          have q1 := HU.out.keep p1
          have q2 := HU.out.keep p2
          have q3 := HU.out.keep p3
          have q4 := HU.out.keep p4
          have gk : f.getD k nd0 = f[k] := by rw [List.getD_eq_getElem?_getD, List.getElem?_eq_getElem hlt]; rfl
          have hcl := HL.out f[k] (List.getElem_mem hlt)
          have HN := Lib.hid (show frmOk f = (inB f[k].kd 0 8 && fieldsF f[k] && boundF f[k] && !(f[k].kd == 6 && decide (bindF arI f k k < 0)) && allF (ndkI f) (k + 1) (f.length - (k + 1))) by
            rw [← HA.out, frm_step f k hlt]
            unfold ndkI varP
            rw [gk])
          have SB := Lib.hid (fun W (hu : Upd [] wo W) => bindI _ f k W fp (R_F1k.upd HR.out (HU.out.trans hu) (by simp)) hlen hlt HSH.out)
          have EW := Lib.hid (fun W (hu : Upd [] wo W) => HE.out.upd (HU.out.trans hu))
          clear p1 p2 p3 p4 HA gk
          generalize bindF arI f k k = B at *
          generalize f[k] = x at *
          obtain ⟨x1, x2, x3, x4⟩ := x
          simp only at q1 q2 q3 q4 HN hcl
          have SW := Lib.hid (fun W : World => within x1 0 8 W)
          have SF := Lib.hid (fun W (hu : Upd [] wo W) => fieldsI x1 x2 x3 x4 W hcl (EW.out W hu))
          have SO := Lib.hid (fun W : World => boundI x1 x2 x3 x4 W)
          obtain ⟨wA, hwA⟩ : ∃ wA, wA = wo.alloc (.cells #[ei x1, ei x2, es x3, .bool x4] 54) := ⟨_, rfl⟩
          have uA : Upd [] wo wA := by rw [hwA]; exact (Upd.refl _ _).alloc _
          have HX := Lib.hid (fun W (hu : Upd [] wA W) => show W.cell? ⟨wo.heap.size, 0, none⟩ = some (ei x1) ∧ W.cell? ⟨wo.heap.size, 1, none⟩ = some (ei x2) ∧ W.cell? ⟨wo.heap.size, 2, none⟩ = some (es x3) ∧ W.cell? ⟨wo.heap.size, 3, none⟩ = some (.bool x4) from by
            rw [hwA] at hu
            exact ⟨hu.keep (cell_new wo _ _ _ rfl 0 _ rfl), hu.keep (cell_new wo _ _ _ rfl 1 _ rfl), hu.keep (cell_new wo _ _ _ rfl 2 _ rfl), hu.keep (cell_new wo _ _ _ rfl 3 _ rfl)⟩)
          have UA := Lib.hid uA
          obtain ⟨y0, y1, y2, y3⟩ := HX.out wA (Upd.refl _ _)
          clear uA EW
          obtain ⟨TT, hTT⟩ : ∃ TT, TT = wo.heap.size := ⟨_, rfl⟩
          rw [← hTT] at HX y0 y1 y2 y3
          go_upto_region 6 with (fail)
          rw [← hwA, ← hTT]
          clear hwA hTT
          cases hw1 : inB x1 0 8 with
          | false =>
            rw [hw1] at SW
            have HZ := Lib.hid (show frmOk f = false by rw [HN.out, hw1]; simp)
            clear HN hw1 SF SO SB
            go_wp2_with fail
            refine (SW.out _).mono ?_
            rintro e w1 ⟨rfl, rfl⟩
            clear SW
            go_wp2_with fail
            go_ret
            exact ⟨by rw [HZ.out]; rfl, HU.out.trans UA.out⟩
          | true =>
            rw [hw1] at SW HN
            clear hw1
            have TF := Lib.hid (SF.out wA UA.out)
            clear SF
            cases hw2 : fieldsF ⟨x1, x2, x3, x4⟩ with
            | false =>
              rw [hw2] at TF
              have HZ := Lib.hid (show frmOk f = false by rw [HN.out, hw2]; simp)
              clear HN hw2 SO SB
              go_wp2_with fail
              refine (SW.out _).mono ?_
              rintro e w1 ⟨rfl, rfl⟩
              clear SW
              go_wp2_with fail
              refine TF.out.mono ?_
              rintro e w1 ⟨rfl, hu1⟩
              have HU1 := Lib.hid ((HU.out.trans UA.out).trans hu1)
              clear TF hu1
              go_wp2_with fail
              go_ret
              exact ⟨by rw [HZ.out]; rfl, HU1.out⟩
            | true =>
              rw [hw2] at TF HN
              clear hw2
              cases hw3 : boundF ⟨x1, x2, x3, x4⟩ with
              | false =>
                rw [hw3] at SO
                have HZ := Lib.hid (show frmOk f = false by rw [HN.out, hw3]; simp)
                clear HN hw3 SB
                go_wp2_with fail
                refine (SW.out _).mono ?_
                rintro e w1 ⟨rfl, rfl⟩
                clear SW
                go_wp2_with fail
                refine TF.out.mono ?_
                rintro e w1 ⟨rfl, hu1⟩
                obtain ⟨y0, y1, y2, y3⟩ := HX.out w1 hu1
                have HU1 := Lib.hid ((HU.out.trans UA.out).trans hu1)
                clear TF hu1
                go_wp2_with fail
                refine (SO.out _).mono ?_
                rintro e w2 ⟨rfl, hu2⟩
                have HU2 := Lib.hid (HU1.out.trans hu2)
                clear SO hu2
                go_wp2_with fail
                go_ret
                exact ⟨by rw [HZ.out]; rfl, HU2.out⟩
              | true =>
                rw [hw3] at SO HN
                clear hw3
                by_cases h6 : x1 = 6
                · have b6 : (x1 == 6) = true := by simpa using h6
                  have HN2 := Lib.hid (show frmOk f = (!decide (B < 0) && allF (ndkI f) (k + 1) (f.length - (k + 1))) by rw [HN.out, b6]; simp)
                  clear HN h6
                  by_cases hB : B < 0
                  · have HZ := Lib.hid (show frmOk f = false by rw [HN2.out, decide_eq_true hB]; rfl)
                    clear HN2
                    go_wp2_with fail
                    refine (SW.out _).mono ?_
                    rintro e w1 ⟨rfl, rfl⟩
                    clear SW
                    go_wp2_with fail
                    refine TF.out.mono ?_
                    rintro e w1 ⟨rfl, hu1⟩
                    obtain ⟨y0, y1, y2, y3⟩ := HX.out w1 hu1
                    have HV1 := Lib.hid (UA.out.trans hu1)
                    have HX1 := Lib.hid hu1
                    clear TF hu1
                    go_wp2_with fail
                    refine (SO.out _).mono ?_
                    rintro e w2 ⟨rfl, hu2⟩
                    obtain ⟨y0, y1, y2, y3⟩ := HX.out w2 (HX1.out.trans hu2)
                    have HV2 := Lib.hid (HV1.out.trans hu2)
                    have TB := Lib.hid (SB.out w2 HV2.out)
                    clear SO SB hu2
                    go_wp2_with fail
                    refine TB.out.mono ?_
                    rintro e w3 ⟨rfl, hu3⟩
                    have HU3 := Lib.hid (HU.out.trans (HV2.out.trans hu3))
                    clear TB hu3
                    go_wp2_with fail
                    go_ret
                    exact ⟨by rw [HZ.out]; rfl, HU3.out⟩
                  · have HA2 := Lib.hid (show allF (ndkI f) (k + 1) (f.length - (k + 1)) = frmOk f by rw [HN2.out, decide_eq_false hB]; rfl)
                    clear HN2
                    go_wp2_with fail
                    refine (SW.out _).mono ?_
                    rintro e w1 ⟨rfl, rfl⟩
                    clear SW
                    go_wp2_with fail
                    refine TF.out.mono ?_
                    rintro e w1 ⟨rfl, hu1⟩
                    obtain ⟨y0, y1, y2, y3⟩ := HX.out w1 hu1
                    have HV1 := Lib.hid (UA.out.trans hu1)
                    have HX1 := Lib.hid hu1
                    clear TF hu1
                    go_wp2_with fail
                    refine (SO.out _).mono ?_
                    rintro e w2 ⟨rfl, hu2⟩
                    obtain ⟨y0, y1, y2, y3⟩ := HX.out w2 (HX1.out.trans hu2)
                    have HV2 := Lib.hid (HV1.out.trans hu2)
                    have TB := Lib.hid (SB.out w2 HV2.out)
                    clear SO SB hu2
                    go_wp2_with fail
                    refine TB.out.mono ?_
                    rintro e w3 ⟨rfl, hu3⟩
                    have HU3 := Lib.hid (HU.out.trans (HV2.out.trans hu3))
                    clear TB hu3
                    go_wp2_with fail
                    go_roundw
                    case rel => exact ⟨k + 1, by omega, by go_num, HA2, HU3⟩
                    case measure => simp [intOf]; omega
                · have b6 : (x1 == 6) = false := by simpa using h6
                  have HA2 := Lib.hid (show allF (ndkI f) (k + 1) (f.length - (k + 1)) = frmOk f by rw [HN.out, b6]; simp)
                  clear HN h6 SB
                  go_wp2_with fail
                  refine (SW.out _).mono ?_
                  rintro e w1 ⟨rfl, rfl⟩
                  clear SW
                  go_wp2_with fail
                  refine TF.out.mono ?_
                  rintro e w1 ⟨rfl, hu1⟩
                  obtain ⟨y0, y1, y2, y3⟩ := HX.out w1 hu1
                  have HV1 := Lib.hid (UA.out.trans hu1)
                  have HX1 := Lib.hid hu1
                  clear TF hu1
                  go_wp2_with fail
                  refine (SO.out _).mono ?_
                  rintro e w2 ⟨rfl, hu2⟩
                  obtain ⟨y0, y1, y2, y3⟩ := HX.out w2 (HX1.out.trans hu2)
                  have HU3 := Lib.hid (HU.out.trans (HV1.out.trans hu2))
                  clear SO hu2
                  go_wp2_with fail
                  go_roundw
                  case rel => exact ⟨k + 1, by omega, by go_num, HA2, HU3⟩
                  case measure => simp [intOf]; omega
        · obtain rfl : k = f.length := by omega
          have HZ := Lib.hid (show frmOk f = true by rw [← HA.out]; exact allF_end _ _)
          clear HA
          go_wp2_with fail
          go_ret
          exact ⟨by rw [HZ.out]; rfl, HU.out⟩

end Go.Proofs.YtddciieaolaleaaGreatDoor

/-
  The reference's check of a formula's shape and of a whole formula: what the calls return.
-/
namespace Go.Proofs.YtddciieaolaleaaGreatDoor
open Go.RowKit

set_option maxRecDepth 20000 in
set_option maxHeartbeats 4000000 in
theorem shapeCS (v : Value) (f : List Nd) (w : World) (fp : List Nat) (hR : R_F1 fp w [v] f) (hlen : f.length ≤ 2000000) (hl : ∀ n ∈ f, n.lb.length ≤ 2000000) :
    Calls Tryz.prog 61 #[v, .int .i64 30, .int .i64 8] w fun e w' => e = .returned (.bool (inB f.length 1 30 && shapeS 1 f)) ∧ Upd [] w w' := by
  obtain ⟨a, cap, rfl, h1, h2, hc⟩ := slF4_open hR
  unfold maxLen at h2
  have HC := Lib.hid hc
  have HL := Lib.hid hl
  clear hR hc hl
  by_cases hlt1 : f.length < 1
  · have HR := Lib.hid (show (inB (f.length : Int) 1 30 && shapeS 1 f) = false by rw [inB_no (by omega)]; rfl)
    have g1 : (f.length : Int) < 1 := by omega
    clear hlt1
    go_enter Tryz.func61, Tryz.ntmps61
    go_wp2_with fail
    go_ret
    exact ⟨by rw [HR.out]; rfl, Upd.refl _ _⟩
  · have g1 : ¬ (f.length : Int) < 1 := by omega
    by_cases hgt : 30 < f.length
    · have HR := Lib.hid (show (inB (f.length : Int) 1 30 && shapeS 1 f) = false by rw [inB_no (by omega)]; rfl)
      have g2 : (30 : Int) < (f.length : Int) := by omega
      clear hlt1 hgt
      go_enter Tryz.func61, Tryz.ntmps61
      go_wp2_with fail
      go_ret
      exact ⟨by rw [HR.out]; rfl, Upd.refl _ _⟩
    · have HR := Lib.hid (show (inB (f.length : Int) 1 30 && shapeS 1 f) = shapeS 1 f by rw [inB_mk (by omega)]; rfl)
      have g2 : ¬ (30 : Int) < (f.length : Int) := by omega
      clear hlt1 hgt
      go_enter Tryz.func61, Tryz.ntmps61
      go_wp2_with fail
      go_loopw [7, 8] (fun mv iv wr => ∃ (k : Nat) (m : Int), k ≤ f.length ∧ iv = .int .i64 k ∧ mv = .int .i64 m ∧ 0 ≤ m ∧ m ≤ 1 + 2 * k ∧ Hid (shapeS m (f.drop k) = shapeS 1 f) ∧ Hid (Upd [] w wr)) (fun _ iv _ => f.length - (intOf iv).toNat)
      case atStart => exact ⟨0, 1, Nat.zero_le _, rfl, rfl, by omega, by omega, Lib.hid rfl, Lib.hid (Upd.refl _ _)⟩
      case round =>
        obtain ⟨wo, rfl⟩ : ∃ wo : World, wo = wr := ⟨_, rfl⟩
        obtain ⟨k, m, hk, rfl, rfl, hm0, hm1, HS, HU⟩ := hrel
        by_cases hlt : k < f.length
        · obtain ⟨b1, o1, rfl, -, -, p1, p2, p3, p4⟩ := HC.out k hlt
          have q1 := HU.out.keep p1
          have q3 := HU.out.keep p3
          have q4 := HU.out.keep p4
          have hcl := HL.out f[k] (List.getElem_mem hlt)
          have hS := HS.out
          rw [List.drop_eq_getElem_cons hlt, shapeS] at hS
          have hkl : (k : Int) < (f.length : Int) := by omega
          have har := arS_in f[k].kd
          have S2 := Lib.hid (fun W : World => arityS f[k].kd W)
          have hff : fieldsF f[k] = if modF f[k].kd then patF f[k].lb else f[k].lb == [] && !f[k].nt := rfl
          rw [hff] at hS
          generalize hdd : f.drop (k + 1) = dd at *
          have HDD := Lib.hid hdd
          clear p1 p2 p3 p4 HS hff hdd
          generalize arS f[k].kd = ar at *
          generalize f[k] = x at *
          obtain ⟨x1, x2, x3, x4⟩ := x
          simp only at q1 q3 q4 S2 hS hcl
          have S1 := Lib.hid (fun W : World => l00In x1 0 8 W)
          have S3 := Lib.hid (fun W : World => patS x3 W hcl)
          by_cases hz : m = 0
          · rw [if_pos (Or.inl hz)] at hS
            have HZ := Lib.hid hS
            have bz : (m == 0) = true := by simpa using hz
            clear hS hz S1 S2 S3 har
            go_wp2_with fail
            go_ret
            exact ⟨by rw [HR.out, ← HZ.out]; rfl, HU.out⟩
          · have bz : (m == 0) = false := by simpa using hz
            cases hin : inB x1 0 8 with
            | false =>
              rw [if_pos (Or.inr hin)] at hS
              rw [hin] at S1
              have HZ := Lib.hid hS
              clear hS hz hin S2 S3 har
              go_wp2_with fail
              refine (S1.out _).mono ?_
              rintro e w1 ⟨rfl, rfl⟩
              clear S1
              go_wp2_with fail
              go_ret
              exact ⟨by rw [HR.out, ← HZ.out]; rfl, HU.out⟩
            | true =>
              rw [if_neg (by intro h; rcases h with h | h; exact hz h; rw [hin] at h; cases h)] at hS
              rw [hin] at S1
              have HZ := Lib.hid hS
              have hmz : m ≠ 0 := hz
              obtain ⟨m2, hm2⟩ : ∃ m2 : Int, m2 = m + ar - 1 := ⟨_, rfl⟩
              have hm3 : m + (ar - 1) = m2 := by omega
              rw [← hm2] at HZ
              have hm4 : 0 ≤ m2 := by omega
              have hm5 : m2 ≤ 1 + 2 * (k + 1) := by omega
              clear hS hz hin hm2
              go_wp2_with fail
              refine (S1.out _).mono ?_
              rintro e w1 ⟨rfl, rfl⟩
              clear S1
              go_wp2_with fail
              refine (S2.out _).mono ?_
              rintro e w1 ⟨rfl, rfl⟩
              clear S2
              go_upto_region 10 with (fail)
              go_cut [9] (fun s9 wx => s9 = .bool (modF x1) ∧ wx = wo)
              case first =>
                by_cases h4 : x1 = 4
                · have HM := Lib.hid (show modF x1 = true by rw [h4]; rfl)
                  have b4 : (x1 == 4) = true := by simpa using h4
                  clear h4
                  go_wp2_with fail
                  go_meet
                  exact ⟨by rw [HM.out], rfl⟩
                · have b4 : (x1 == 4) = false := by simpa using h4
                  have HM := Lib.hid (show modF x1 = (x1 == 5) by unfold modF; rw [b4]; rfl)
                  clear h4
                  generalize hq : (x1 == 5) = q at *
                  go_wp2_with fail
                  go_meet
                  exact ⟨by rw [HM.out], rfl⟩
              case rest =>
                obtain ⟨rfl, rfl⟩ := hcut
                cases hmod : modF x1 with
                | true =>
                  rw [hmod] at HZ
                  clear hmod
                  cases hp : patF x3 with
                  | false =>
                    rw [hp] at S3
                    have HY := Lib.hid (show shapeS 1 f = false by rw [← HZ.out, hp]; rfl)
                    clear HZ hp
                    go_wp2_with fail
                    refine (S3.out _).mono ?_
                    rintro e w2 ⟨rfl, hu2⟩
                    have HU2 := Lib.hid (HU.out.trans hu2)
                    clear S3 hu2
                    go_wp2_with fail
                    go_ret
                    exact ⟨by rw [HR.out, HY.out]; rfl, HU2.out⟩
                  | true =>
                    rw [hp] at S3
                    have HY := Lib.hid (show shapeS m2 dd = shapeS 1 f by rw [← HZ.out, hp]; rfl)
                    clear HZ hp
                    go_wp2_with fail
                    refine (S3.out _).mono ?_
                    rintro e w2 ⟨rfl, hu2⟩
                    have HU2 := Lib.hid (HU.out.trans hu2)
                    clear S3 hu2
                    go_wp2_with fail
                    go_roundw
                    case rel => exact ⟨k + 1, m2, by omega, by go_num, rfl, hm4, by omega, Lib.hid (by rw [HDD.out]; exact HY.out), HU2⟩
                    case measure => simp [intOf]; omega
                | false =>
                  rw [hmod] at HZ
                  clear hmod S3
                  by_cases h0 : x3 = []
                  · subst h0
                    cases x4 with
                    | true =>
                      have HY := Lib.hid (show shapeS 1 f = false by rw [← HZ.out]; rfl)
                      clear HZ
                      go_wp2_with fail
                      go_ret
                      exact ⟨by rw [HR.out, HY.out]; rfl, HU.out⟩
                    | false =>
                      have HY := Lib.hid (show shapeS m2 dd = shapeS 1 f by rw [← HZ.out]; rfl)
                      clear HZ
                      go_wp2_with fail
                      go_roundw
                      case rel => exact ⟨k + 1, m2, by omega, by go_num, rfl, hm4, by omega, Lib.hid (by rw [HDD.out]; exact HY.out), HU⟩
                      case measure => simp [intOf]; omega
                  · have b0 : (x3 == ([] : List UInt8)) = false := by simpa using h0
                    have b0' : (x3 != ([] : List UInt8)) = true := by simpa using h0
                    have HY := Lib.hid (show shapeS 1 f = false by rw [← HZ.out, b0]; rfl)
                    clear HZ h0
                    go_wp2_with fail
                    go_ret
                    exact ⟨by rw [HR.out, HY.out]; rfl, HU.out⟩
        · obtain rfl : k = f.length := by omega
          have HZ := Lib.hid (show (m == 0) = shapeS 1 f by rw [← HS.out, List.drop_length]; rfl)
          clear HS
          generalize hq : (m == 0) = q at *
          go_wp2_with fail
          go_ret
          exact ⟨by rw [HR.out, ← HZ.out]; rfl, HU.out⟩

end Go.Proofs.YtddciieaolaleaaGreatDoor

/-
  The writer of images: what its calls leave.
-/
namespace Go.Proofs.YtddciieaolaleaaGreatDoor
open Go.RowKit

/-- nothing older than base is written. -/
def Fresh (base : Nat) (w w' : World) : Prop := ∀ w0 : World, w0.heap.size ≤ base → Upd [] w0 w → Upd [] w0 w'
theorem Fresh.refl (base : Nat) (w : World) : Fresh base w w := fun _ _ h => h
theorem Fresh.trans {base : Nat} {w w1 w2 : World} (h : Fresh base w w1) (k : Fresh base w1 w2) : Fresh base w w2 := fun w0 h0 hu => k w0 h0 (h w0 h0 hu)
theorem Fresh.of {base : Nat} {w w1 : World} (h : Upd [] w w1) : Fresh base w w1 := fun _ _ hu => hu.trans h

end Go.Proofs.YtddciieaolaleaaGreatDoor

/-
  Texts and whole images written, by the program and by the reference.
-/
namespace Go.Proofs.YtddciieaolaleaaGreatDoor
open Go.RowKit

end Go.Proofs.YtddciieaolaleaaGreatDoor

/-
  The image of a formula: what the program's call returns.
-/
namespace Go.Proofs.YtddciieaolaleaaGreatDoor
open Go.RowKit

/-- a node's four cells in a block of their own. -/
def NdAt (Q : Nat) (W : World) (n : Nd) : Prop := W.heap[Q]? = some (.cells #[ei n.kd, ei n.vr, es n.lb, .bool n.nt] 54 (0, 0))
theorem NdAt.upd {Q : Nat} {w w1 : World} {n : Nd} (h : NdAt Q w n) {f : List Nat} (hu : Upd f w w1) (hf : Q ∉ f) : NdAt Q w1 n := by
  unfold NdAt at *
  rw [hu.block Q (Array.getElem?_eq_some_iff.1 h).1 hf]; exact h
end Go.Proofs.YtddciieaolaleaaGreatDoor

/-
  The reference's check of a whole formula, and its image: what the calls return.
-/
namespace Go.Proofs.YtddciieaolaleaaGreatDoor
open Go.RowKit

theorem frmS_step (f : List Nd) (k : Nat) (h : k < f.length) : allF (ndkS f) k (f.length - k) = (ndkS f k && allF (ndkS f) (k + 1) (f.length - (k + 1))) := allF_step (ndkS f) k f.length h

set_option maxRecDepth 20000 in
set_option maxHeartbeats 4000000 in
theorem isFS (v : Value) (f : List Nd) (w : World) (fp : List Nat) (hR : R_F1 fp w [v] f) (hlen : f.length ≤ 2000000) (hl : ∀ n ∈ f, n.lb.length ≤ 2000000) :
    Calls Tryz.prog 43 #[v] w fun e w' => e = .returned (.bool (frmOk f)) ∧ Upd [] w w' := by
  rw [← frmOk_same]
  have HR := Lib.hid hR
  have S1 := Lib.hid (shapeCS v f w fp hR hlen hl)
  obtain ⟨a, cap, rfl, h1, h2, hc⟩ := slF4_open hR
  unfold maxLen at h2
  have HC := Lib.hid hc
  have HOK := Lib.hid (show frmOkS f = ((inB f.length 1 30 && shapeS 1 f) && allF (ndkS f) 0 f.length) from rfl)
  clear hR hc hl
  cases hsh : (inB (f.length : Int) 1 30 && shapeS 1 f) with
  | false =>
    rw [hsh] at S1
    have HF := Lib.hid (show frmOkS f = false by rw [HOK.out, hsh]; rfl)
    clear hsh HOK
    go_enter Tryz.func43, Tryz.ntmps43
    go_wp2_with fail
    refine S1.out.mono ?_
    rintro e w1 ⟨rfl, hu⟩
    have HU := Lib.hid hu
    clear S1 hu
    go_wp2_with fail
    go_ret
    exact ⟨by rw [HF.out]; rfl, HU.out⟩
  | true =>
    rw [hsh] at S1 HOK
    have HSH := Lib.hid (show shapeF arS 1 f = true from by
      simp only [Bool.and_eq_true] at hsh
      exact shapeS_ar f 1 hsh.2)
    have HF := Lib.hid (show frmOkS f = allF (ndkS f) 0 f.length by rw [HOK.out]; rfl)
    clear hsh HOK
    go_enter Tryz.func43, Tryz.ntmps43
    go_wp2_with fail
    refine S1.out.mono ?_
    rintro e w1 ⟨rfl, hu⟩
    have HU := Lib.hid hu
    clear S1 hu
    go_wp2_with fail
    go_loopw [3] (fun iv wr => ∃ k : Nat, k ≤ f.length ∧ iv = .int .i64 k ∧ Hid (allF (ndkS f) k (f.length - k) = frmOkS f) ∧ Hid (Upd [] w wr)) (fun iv _ => f.length - (intOf iv).toNat)
    case atStart => exact ⟨0, Nat.zero_le _, rfl, Lib.hid (by rw [HF.out]; rfl), HU⟩
    case round =>
      clear HU HF
      obtain ⟨wo, rfl⟩ : ∃ wo : World, wo = wr := ⟨_, rfl⟩
      obtain ⟨k, hk, rfl, HA, HU⟩ := hrel
      by_cases hlt : k < f.length
      · obtain ⟨b1, o1, rfl, -, -, p1, p2, -, -⟩ := HC.out k hlt
        have q1 := HU.out.keep p1
        have q2 := HU.out.keep p2
        have gk : f.getD k nd0 = f[k] := by rw [List.getD_eq_getElem?_getD, List.getElem?_eq_getElem hlt]; rfl
        have HN := Lib.hid (show frmOkS f = ((if fixF f[k].kd || f[k].kd == 6 then inB f[k].vr 0 2 else f[k].vr == 0) && !(f[k].kd == 6 && decide (bindF arS f k k < 0)) && allF (ndkS f) (k + 1) (f.length - (k + 1))) by
          rw [← HA.out, frmS_step f k hlt]
          unfold ndkS varP boundF
          rw [gk])
        have SB := Lib.hid (bindS _ f k wo fp (R_F1k.upd HR.out HU.out (by simp)) hlen hlt HSH.out)
        have SF := Lib.hid (fixS b1 (o1 + k * 4) f[k].kd wo q1)
        have hkl : (k : Int) < (f.length : Int) := by omega
        have H67 := Lib.hid (show fixF f[k].kd = true → (f[k].kd == 6) = false from fun h => by
          unfold fixF at h
          simp at h
          simp; omega)
        clear p1 p2 HA gk
        generalize bindF arS f k k = B at *
        generalize f[k].kd = x1 at *
        generalize f[k].vr = x2 at *
        have SW := Lib.hid (fun W : World => l00In x2 0 2 W)
        cases hfx : fixF x1 with
        | true =>
          rw [hfx] at SF HN
          have b6 := H67.out hfx
          have HN2 := Lib.hid (show frmOkS f = (inB x2 0 2 && allF (ndkS f) (k + 1) (f.length - (k + 1))) by rw [HN.out, b6]; simp)
          clear HN hfx H67 SB
          cases hin : inB x2 0 2 with
          | false =>
            rw [hin] at SW
            have HZ := Lib.hid (show frmOkS f = false by rw [HN2.out, hin]; rfl)
            clear HN2 hin
            go_wp2_with fail
            refine SF.out.mono ?_
            rintro e w1 ⟨rfl, rfl⟩
            clear SF
            go_wp2_with fail
            refine (SW.out _).mono ?_
            rintro e w1 ⟨rfl, rfl⟩
            clear SW
            go_wp2_with fail
            go_ret
            exact ⟨by rw [HZ.out]; rfl, HU.out⟩
          | true =>
            rw [hin] at SW
            have HZ := Lib.hid (show allF (ndkS f) (k + 1) (f.length - (k + 1)) = frmOkS f by rw [HN2.out, hin]; rfl)
            clear HN2 hin
            go_wp2_with fail
            refine SF.out.mono ?_
            rintro e w1 ⟨rfl, rfl⟩
            clear SF
            go_wp2_with fail
            refine (SW.out _).mono ?_
            rintro e w1 ⟨rfl, rfl⟩
            clear SW
            go_wp2_with fail
            go_roundw
            case rel => exact ⟨k + 1, by omega, by go_num, HZ, HU⟩
            case measure => simp [intOf]; omega
        | false =>
          rw [hfx] at SF HN
          clear hfx H67
          by_cases h6 : x1 = 6
          · have b6 : (x1 == 6) = true := by simpa using h6
            have HN2 := Lib.hid (show frmOkS f = (inB x2 0 2 && !decide (B < 0) && allF (ndkS f) (k + 1) (f.length - (k + 1))) by rw [HN.out, b6]; simp)
            clear HN h6
            cases hin : inB x2 0 2 with
            | false =>
              rw [hin] at SW
              have HZ := Lib.hid (show frmOkS f = false by rw [HN2.out, hin]; rfl)
              clear HN2 hin SB
              go_wp2_with fail
              refine SF.out.mono ?_
              rintro e w1 ⟨rfl, rfl⟩
              clear SF
              go_wp2_with fail
              refine (SW.out _).mono ?_
              rintro e w1 ⟨rfl, rfl⟩
              clear SW
              go_wp2_with fail
              go_ret
              exact ⟨by rw [HZ.out]; rfl, HU.out⟩
            | true =>
              rw [hin] at SW
              by_cases hB : B < 0
              · have HZ := Lib.hid (show frmOkS f = false by rw [HN2.out, hin, decide_eq_true hB]; rfl)
                clear HN2 hin
                go_wp2_with fail
                refine SF.out.mono ?_
                rintro e w1 ⟨rfl, rfl⟩
                clear SF
                go_wp2_with fail
                refine (SW.out _).mono ?_
                rintro e w1 ⟨rfl, rfl⟩
                clear SW
                go_wp2_with fail
                refine SB.out.mono ?_
                rintro e w1 ⟨rfl, hu1⟩
                have HU1 := Lib.hid (HU.out.trans hu1)
                clear SB hu1
                go_wp2_with fail
                go_ret
                exact ⟨by rw [HZ.out]; rfl, HU1.out⟩
              · have HZ := Lib.hid (show allF (ndkS f) (k + 1) (f.length - (k + 1)) = frmOkS f by rw [HN2.out, hin, decide_eq_false hB]; rfl)
                clear HN2 hin
                go_wp2_with fail
                refine SF.out.mono ?_
                rintro e w1 ⟨rfl, rfl⟩
                clear SF
                go_wp2_with fail
                refine (SW.out _).mono ?_
                rintro e w1 ⟨rfl, rfl⟩
                clear SW
                go_wp2_with fail
                refine SB.out.mono ?_
                rintro e w1 ⟨rfl, hu1⟩
                have HU1 := Lib.hid (HU.out.trans hu1)
                clear SB hu1
                go_wp2_with fail
                go_roundw
                case rel => exact ⟨k + 1, by omega, by go_num, HZ, HU1⟩
                case measure => simp [intOf]; omega
          · have b6 : (x1 == 6) = false := by simpa using h6
            have HN2 := Lib.hid (show frmOkS f = ((x2 == 0) && allF (ndkS f) (k + 1) (f.length - (k + 1))) by rw [HN.out, b6]; simp)
            clear HN h6 SB SW
            by_cases h0 : x2 = 0
            · have b0 : (x2 != 0) = false := by simpa using h0
              have HZ := Lib.hid (show allF (ndkS f) (k + 1) (f.length - (k + 1)) = frmOkS f by rw [HN2.out, h0]; rfl)
              clear HN2 h0
              go_wp2_with fail
              refine SF.out.mono ?_
              rintro e w1 ⟨rfl, rfl⟩
              clear SF
              go_wp2_with fail
              go_roundw
              case rel => exact ⟨k + 1, by omega, by go_num, HZ, HU⟩
              case measure => simp [intOf]; omega
            · have b0 : (x2 != 0) = true := by simpa using h0
              have HZ := Lib.hid (show frmOkS f = false by rw [HN2.out, beq_eq_false_iff_ne.2 h0]; rfl)
              clear HN2 h0
              go_wp2_with fail
              refine SF.out.mono ?_
              rintro e w1 ⟨rfl, rfl⟩
              clear SF
              go_wp2_with fail
              go_ret
              exact ⟨by rw [HZ.out]; rfl, HU.out⟩
      · obtain rfl : k = f.length := by omega
        have HZ := Lib.hid (show frmOkS f = true by rw [← HA.out]; exact allF_end _ _)
        clear HA
        go_wp2_with fail
        go_ret
        exact ⟨by rw [HZ.out]; rfl, HU.out⟩

end Go.Proofs.YtddciieaolaleaaGreatDoor

/-
  SimplifyFormula: what the program's call and the reference's call return.
-/
namespace Go.Proofs.YtddciieaolaleaaGreatDoor
open Go.RowKit

/-- what SimplifyFormula returns. -/
def sfF (f : List Nd) : List Nd × Int := if frmOk f then (((forestT arN f).map fun x => flatT (simpA x)).headD [], 0) else ([], 1)
theorem frm_fx {f : List Nd} (h : frmOk f = true) : ∀ n ∈ f, fxN n := by
  intro n hn
  refine ⟨((frm_parts h).2 n hn).1, fun h01 => ?_⟩
  unfold frmOk at h
  simp only [Bool.and_eq_true] at h
  obtain ⟨⟨h1, -⟩, h3⟩ := h
  obtain ⟨i, hi, rfl⟩ := List.getElem_of_mem hn
  have h4 := allF_at h3 i (by omega) (by omega)
  have hg : f.getD i nd0 = f[i] := by rw [List.getD_eq_getElem?_getD, List.getElem?_eq_getElem hi]; rfl
  unfold ndkI at h4
  rw [hg] at h4
  simp only [Bool.and_eq_true] at h4
  obtain ⟨⟨⟨-, k2⟩, k3⟩, -⟩ := h4
  have hm : modF f[i].kd = false := by unfold modF; simp; omega
  have hx : (fixF f[i].kd || f[i].kd == 6) = false := by unfold fixF; simp; omega
  unfold fieldsF at k2
  unfold boundF at k3
  rw [hm] at k2
  rw [hx] at k3
  simp at k2 k3
  exact ⟨k3, k2.1, k2.2⟩
theorem frm_tree2 {f : List Nd} (h : frmOk f = true) : ∃ x : Tr Nd, forestT arN f = [x] ∧ okT arN x = true ∧ flatT x = f := by
  refine forestT_one arN_nonneg ?_
  rw [shapeG_F]; exact (shape_of h).1
theorem sfF_small (f : List Nd) (_ : f.length ≤ 2000000) : (sfF f).1.length ≤ 2000000 := by
  unfold sfF
  cases hok : frmOk f with
  | false => simp
  | true =>
    obtain ⟨x, hx, ho, hfx⟩ := frm_tree2 hok
    have := (simpA_good x ho (by rw [hfx]; exact frm_fx hok)).2.2
    have h2 := (shape_of hok).2.1
    rw [hx]
    simp only [if_true, List.map_cons, List.headD_cons]
    rw [hfx] at this
    omega

set_option maxRecDepth 20000 in
set_option maxHeartbeats 4000000 in
theorem sfI (v : Value) (f : List Nd) (w : World) (fp : List Nat) (hR : R_F1 fp w [v] f) (hlen : f.length ≤ 2000000) (hl : ∀ n ∈ f, n.lb.length ≤ 2000000) (he : Env w) :
    Calls Tryz.prog 22 #[v] w fun e w' => (∃ v', e = .returned (.tuple #[v', .int .i64 (sfF f).2]) ∧ New R_F1 w w' v' (sfF f).1) ∧ Upd [] w w' := by
  have S1 := Lib.hid (validFI v f w fp hR hlen hl he)
  have HR := Lib.hid (fun W (hu : Upd [] w W) => R_F1k.upd hR hu (by simp))
  clear hR hl he
  cases hok : frmOk f with
  | false =>
    rw [hok] at S1
    have HE := Lib.hid (show sfF f = ([], 1) by unfold sfF; rw [hok]; rfl)
    rw [HE.out]
    clear hok HR HE
    go_enter Tryz.func22, Tryz.ntmps22
    go_wp2_with fail
    refine S1.out.mono ?_
    rintro e w1 ⟨rfl, hu⟩
    have HU := Lib.hid hu
    clear S1 hu
    go_wp2_with fail
    go_ret2
    exact ⟨⟨_, rfl, New.nilF _ _ _ _⟩, HU.out⟩
  | true =>
    obtain ⟨x, hx, hokx, hfx0⟩ := frm_tree2 hok
    have hln := (shape_of hok).2.1
    have hfx : ∀ n ∈ flatT x, fxN n := by rw [hfx0]; exact frm_fx hok
    rw [hok] at S1
    have HE := Lib.hid (show sfF f = (flatT (simpA x), 0) by unfold sfF; rw [hok, hx]; rfl)
    rw [HE.out]
    have hsl := (simpA_good x hokx hfx).2.2
    rw [hfx0] at hsl
    have S2 := Lib.hid (fun W (hu : Upd [] w W) => formOf x W v fp hokx (by rw [hfx0]; omega) (by rw [hfx0]; exact HR.out W hu))
    have S3 := Lib.hid (fun W v' fp' (hr : R_X fp' W [v'] x) => simpAI _ x W v' fp' (Nat.le_refl _) (by rw [hfx0]; omega) hokx hfx hr)
    have S4 := Lib.hid (fun W v' fp' (hr : R_X fp' W [v'] (simpA x)) => listX (simpA x) W v' fp' (by omega) hr)
    clear hok hx hokx hfx hfx0 HR HE hsl
    go_enter Tryz.func22, Tryz.ntmps22
    go_wp2_with fail
    refine S1.out.mono ?_
    rintro e w1 ⟨rfl, hu⟩
    have T2 := Lib.hid (S2.out w1 hu)
    have HU := Lib.hid hu
    clear S1 S2 hu
    go_wp2_with fail
    refine T2.out.mono ?_
    rintro e w2 ⟨⟨v', rfl, fp', hr, -, -⟩, hu2⟩
    have T3 := Lib.hid (S3.out w2 v' fp' hr)
    have HU2 := Lib.hid (HU.out.trans hu2)
    obtain ⟨pb, rfl⟩ := R_T_form hr
    clear T2 S3 hu2 hr HU
    go_wp2_with fail
    refine T3.out.mono ?_
    rintro e w3 ⟨⟨v3, fp3, rfl, hr3, -⟩, hu3⟩
    have T4 := Lib.hid (S4.out w3 v3 fp3 hr3)
    have HU3 := Lib.hid (HU2.out.trans hu3)
    obtain ⟨pb3, rfl⟩ := R_T_form hr3
    clear T3 S4 hu3 hr3 HU2
    go_wp2_with fail
    refine T4.out.mono ?_
    rintro e w4 ⟨⟨v4, rfl, hn4⟩, hu4⟩
    have HU4 := Lib.hid (HU3.out.trans hu4)
    have HN := Lib.hid (hn4.mono (w0 := w) HU3.out.size)
    obtain ⟨a4, c4, rfl⟩ := New.form hn4
    clear T4 hu4 hn4 HU3
    go_wp2_with fail
    go_ret2
    exact ⟨⟨_, rfl, HN.out⟩, HU4.out⟩

set_option maxRecDepth 20000 in
set_option maxHeartbeats 4000000 in
theorem sfS (v : Value) (f : List Nd) (w : World) (fp : List Nat) (hR : R_F1 fp w [v] f) (hlen : f.length ≤ 2000000) (hl : ∀ n ∈ f, n.lb.length ≤ 2000000) :
    Calls Tryz.prog 21 #[v] w fun e w' => (∃ v', e = .returned (.tuple #[v', .int .i64 (sfF f).2]) ∧ ∃ fp', R_F1 fp' w' [v'] (sfF f).1 ∧ ∀ b ∈ fp', w.heap.size ≤ b) ∧ Upd [] w w' := by
  have S1 := Lib.hid (isFS v f w fp hR hlen hl)
  cases hok : frmOk f with
  | false =>
    rw [hok] at S1
    have HE := Lib.hid (show sfF f = ([], 1) by unfold sfF; rw [hok]; rfl)
    rw [HE.out]
    clear hok HE hR hl
    go_enter Tryz.func21, Tryz.ntmps21
    go_wp2_with fail
    refine S1.out.mono ?_
    rintro e w1 ⟨rfl, hu⟩
    have HU := Lib.hid hu
    clear S1 hu
    go_wp2_with fail
    go_ret2
    obtain ⟨f9, g1, -, g3⟩ := New.nilF 4 (fun t : Nd => [ei t.kd, ei t.vr, es t.lb, .bool t.nt]) w w1
    exact ⟨⟨_, rfl, f9, g1, g3⟩, HU.out⟩
  | true =>
    obtain ⟨x, hx, hokx, hfx0⟩ := frm_tree2 hok
    have hln := (shape_of hok).2.1
    have hfx : ∀ n ∈ flatT x, fxN n := by rw [hfx0]; exact frm_fx hok
    have HE := Lib.hid (show sfF f = (flatT (simpA x), 0) by unfold sfF; rw [hok, hx]; rfl)
    rw [HE.out]
    rw [hok] at S1
    have HR2 := Lib.hid (fun W (hu : Upd [] w W) => R_F1k.upd hR hu (by simp))
    have h1f := (shape_of hok).2.2
    obtain ⟨b, off, cap, rfl, -, -, -, -⟩ := slF_src hR (by omega)
    have S2 := Lib.hid (fun W (hu : Upd [] w W) => simpleS _ x W b off cap fp (Nat.le_refl _) (by rw [hfx0]; omega) hokx hfx (by rw [hfx0]; exact HR2.out W hu))
    rw [hfx0] at S2
    clear hok hx hokx hfx hfx0 HE hR hl HR2
    go_enter Tryz.func21, Tryz.ntmps21
    go_wp2_with fail
    refine S1.out.mono ?_
    rintro e w1 ⟨rfl, hu⟩
    have T2 := Lib.hid (S2.out w1 hu)
    have HU := Lib.hid hu
    have hsz1 := hu.size
    clear S1 S2 hu
    go_wp2_with fail
    refine T2.out.mono ?_
    rintro e w2 ⟨⟨v', fp', rfl, hr, hg⟩, hu2⟩
    have HF := Lib.hid (And.intro hr.1 (show ∀ c ∈ fp', w.heap.size ≤ c from fun c hc => Nat.le_trans hsz1 (hg c hc)))
    have HU2 := Lib.hid (HU.out.trans hu2)
    obtain ⟨za, zc, rfl, -, -, -⟩ := slF4_open hr.1
    generalize (flatT (simpA x)).length = ZL at *
    clear T2 hr hg hu2
    go_wp2_with fail
    go_ret2
    exact ⟨⟨_, rfl, fp', HF.out.1, HF.out.2⟩, HU2.out⟩

end Go.Proofs.YtddciieaolaleaaGreatDoor

/-
  The law FnExactSimplifyFormula: the call returns true for every input, and writes nothing that was there.
-/
namespace Go.Proofs.YtddciieaolaleaaGreatDoor
open Go.RowKit Go.ChangeShapes

set_option maxRecDepth 20000 in
set_option maxHeartbeats 4000000 in
theorem lawSimplifyFormula (v : Value) (f : List Nd) (w : World) (fp : List Nat) (hR : R_F1 fp w [v] f) (hS : ndsOk f) (hE : Env w) :
    Calls Tryz.prog 6 #[v] w fun e w' => e = .returned (.bool true) ∧ Upd [] w w' := by
  have HRX := Lib.hid (fun W (hu : Upd [] w W) => R_F1k.upd hR hu (by simp))
  have HE := Lib.hid hE
  have S1 := Lib.hid (sz_F1 v f 1048576 w fp (by omega) (by omega) hR hS)
  obtain ⟨a, cap, rfl, h1, h2, -⟩ := slF4_open hR
  unfold maxLen at h2
  clear hR hS hE
  go_enter Tryz.func6, Tryz.ntmps6
  go_wp2_with fail
  refine S1.out.mono ?_
  rintro e w1 ⟨⟨r, rfl, hr⟩, hu1⟩
  have HU1 := Lib.hid hu1
  rcases hr with rfl | ⟨hr0, hr1⟩
  · clear S1 hu1
    go_wp2_with fail
    go_ret
    exact ⟨rfl, HU1.out⟩
  · have hsz : szF_F1 f ≤ 1048576 := by omega
    have htot := totS_nonneg (f.map Nd.lb)
    have hb : ∀ n ∈ f, n.lb.length ≤ 2000000 := by
      intro n hn
      have h1 := totS_mem (f.map Nd.lb) n.lb (List.mem_map.2 ⟨n, hn, rfl⟩)
      unfold szF_F1 at hsz
      omega
    have hlen : f.length ≤ 2000000 := by unfold szF_F1 at hsz; omega
    have hmf0 := mkF_F1_nonneg f
    have hmf : 1 + mkF_F1 f ≤ 4611686018427387904 := by unfold mkF_F1; omega
    have HSZ := Lib.hid hsz
    have HB := Lib.hid hb
    have HR0 := Lib.hid hr1
    have SI := Lib.hid (fun W v gp h he => sfI v f W gp h hlen HB.out he)
    have SS := Lib.hid (fun W v gp h => sfS v f W gp h hlen HB.out)
    have hsm := sfF_small f hlen
    generalize sfF f = D at *
    obtain ⟨x, code⟩ := D
    simp only at SI SS hsm
    have hcc : ((code : Int) != (code : Int)) = false := by simp
    have hmk0 := mkF_F1_nonneg x
    have hmk : 1 + mkF_F1 x ≤ 4611686018427387904 := by unfold mkF_F1; omega
    have S2 := Lib.hid (to_F1 _ f w1 _ hsz (HRX.out w1 hu1))
    clear S1 hu1 hr1 hsz hb htot hsm
    go_wp2_with fail
    refine S2.out.mono ?_
    rintro e w2 ⟨⟨v', rfl, gp, r1, -, -⟩, hu2⟩
    have S3 := Lib.hid (SS.out w2 v' gp r1)
    have HU2 := Lib.hid (HU1.out.trans hu2)
    obtain ⟨a2, c2, rfl, -, -, -⟩ := slF4_open r1
    clear S2 r1 hu2 SS
    go_wp2_with fail
    refine S3.out.mono ?_
    rintro e w3 ⟨⟨va, rfl, fa, ra, ga⟩, hu3⟩
    have HU3 := Lib.hid (HU2.out.trans hu3)
    have la := R_F1k.lt ra
    have HLA := Lib.hid la
    have HA := Lib.hid (fun W f (hu : Upd f w3 W) (hf : ∀ b ∈ f, w3.heap.size ≤ b) => R_F1k.upd ra hu (fun b hb hm => by have := la b hb; have := hf b hm; omega))
    obtain ⟨xa, xc, rfl, -, -, -⟩ := slF4_open ra
    have S4 := Lib.hid (to_F1 _ f w3 _ HSZ.out (HRX.out w3 HU3.out))
    have HU2' := Lib.hid HU3.out
    clear S3 ra hu3 HU2 la ga
    go_wp2_with fail
    refine S4.out.mono ?_
    rintro e w4 ⟨⟨vx, rfl, fx, rx, ox, gx⟩, hu4⟩
    have HU4 := Lib.hid (HU3.out.trans hu4)
    have H34 := Lib.hid hu4
    have HXX := Lib.hid (And.intro rx ox)
    have HGX := Lib.hid gx
    have lx := R_F1k.lt rx
    have HLX := Lib.hid lx
    have S5 := Lib.hid (SI.out w4 vx fx rx (HE.out.upd HU4.out))
    obtain ⟨ya, yc, rfl, -, -, -⟩ := slF4_open rx
    have HU4' := Lib.hid HU4.out
    have H34' := Lib.hid H34.out
    clear S4 rx ox gx lx hu4 HU3
    go_wp2_with fail
    refine S5.out.mono ?_
    rintro e w5 ⟨⟨vb, rfl, fb, rb, ob, gb⟩, hu5⟩
    have HU5 := Lib.hid (HU4.out.trans hu5)
    have H35 := Lib.hid (H34.out.trans hu5)
    have H45 := Lib.hid hu5
    have HBB := Lib.hid (And.intro rb ob)
    have HGB := Lib.hid gb
    have S6 := Lib.hid (eq_F1 _ _ x w5 fb fa rb (HA.out w5 [] H35.out (by simp)))
    obtain ⟨za, zc, rfl, -, -, -⟩ := slF4_open rb
    clear S5 rb ob gb hu5 HU4 H34
    go_wp2_with fail
    refine S6.out.mono ?_
    rintro e w6 ⟨rfl, hu6⟩
    have HU6 := Lib.hid (HU5.out.trans hu6)
    have H56 := Lib.hid hu6
    have S7 := Lib.hid (to_F1 _ f w6 _ HSZ.out (HRX.out w6 HU6.out))
    clear S6 hu6 HU5
    go_wp2_with fail
    refine S7.out.mono ?_
    rintro e w7 ⟨⟨vt, rfl, ft, rt, -, -⟩, hu7⟩
    have HU7 := Lib.hid (HU6.out.trans hu7)
    have H57 := Lib.hid (H56.out.trans hu7)
    have S8 := Lib.hid (eq_F1 _ _ f w7 fx ft (R_F1k.upd HXX.out.1 (H45.out.trans H57.out) (by simp)) rt)
    obtain ⟨ta, tc, rfl, -, -, -⟩ := slF4_open rt
    clear S7 rt hu7 HU6 H56
    go_wp2_with fail
    refine S8.out.mono ?_
    rintro e w8 ⟨rfl, hu8⟩
    have HU8 := Lib.hid (HU7.out.trans hu8)
    have H58 := Lib.hid (H57.out.trans hu8)
    have H48 := Lib.hid (H45.out.trans H58.out)
    have S9 := Lib.hid (mark_F1 _ f 1 w8 fx (by omega) hmf (R_F1k.upd HXX.out.1 H48.out (by simp)) (HXX.out.2.upd H48.out (by simp)))
    have hgf : ¬ 1 + mkF_F1 f < 0 := by omega
    generalize 1 + mkF_F1 f = Mf at *
    clear S8 hu8 HU7 H57
    go_wp2_with fail
    refine S9.out.mono ?_
    rintro e w9 ⟨rfl, -, -, hu9⟩
    have HU9 := Lib.hid (HU8.out.fresh hu9 (fun b h => Or.inl (by have := HGX.out b h; have := HU2'.out.size; omega)))
    have H39 := Lib.hid (show Upd fx w3 w9 from ((H35.out.trans H58.out).mono (by simp)).trans hu9)
    have nfb : ∀ b ∈ fb, b ∉ fx := fun b h h2 => by have := HLX.out b h2; have := HGB.out b h; omega
    have B9 := R_F1k.upd HBB.out.1 ((H58.out.mono (by simp)).trans hu9) nfb
    have O9 := HBB.out.2.upd ((H58.out.mono (by simp)).trans hu9) nfb
    have S10 := Lib.hid (eq_F1 _ _ x w9 fb fa B9 (HA.out w9 fx H39.out HGX.out))
    have HB9 := Lib.hid (And.intro B9 O9)
    clear S9 hu9 B9 O9 nfb HU8 HXX HBB H58 H48 H45 H35
    go_wp2_with fail
    refine S10.out.mono ?_
    rintro e w10 ⟨rfl, hu10⟩
    have HU10 := Lib.hid (HU9.out.trans hu10)
    have H310 := Lib.hid (H39.out.trans (hu10.mono (by simp)))
    have S11 := Lib.hid (mark_F1 _ x 1 w10 fb (by omega) hmk (R_F1k.upd HB9.out.1 hu10 (by simp)) (HB9.out.2.upd hu10 (by simp)))
    clear S10 hu10 HU9 H39 HB9
    go_wp2_with fail
    refine S11.out.mono ?_
    rintro e w11 ⟨rfl, r11, -, hu11⟩
    have HU11 := Lib.hid (HU10.out.fresh hu11 (fun b h => Or.inl (by have := HGB.out b h; have := HU4'.out.size; omega)))
    have H311 := Lib.hid (show Upd (fx ++ fb) w3 w11 from (H310.out.mono (by simp; intro b hb; exact Or.inl hb)).trans (hu11.mono (by simp; intro b hb; exact Or.inr hb)))
    have T4 := Lib.hid (fun W (hu : Upd [] w11 W) => held_F1 _ x 1 W fb (by omega) hmk (R_F1k.upd r11 hu (by simp)))
    have T4' := Lib.hid (T4.out w11 (Upd.refl _ _))
    have hne : ((1 + mkF_F1 x) != (1 + mkF_F1 x)) = false := by simp
    have hge : ¬ 1 + mkF_F1 x < 0 := by omega
    generalize 1 + mkF_F1 x = Mk at *
    clear S11 r11 hu11 HU10 H310
    go_wp2_with fail
    refine T4'.out.mono ?_
    rintro e w12 ⟨rfl, hu12⟩
    have HU12 := Lib.hid (HU11.out.trans hu12)
    have H1112 := Lib.hid hu12
    have S12 := Lib.hid (to_F1 _ f w12 _ HSZ.out (HRX.out w12 HU12.out))
    clear T4' hu12 HU11
    go_wp2_with fail
    refine S12.out.mono ?_
    rintro e w13 ⟨⟨vt, rfl, ft, rt, -, -⟩, hu13⟩
    have HU13 := Lib.hid (HU12.out.trans hu13)
    have H1113 := Lib.hid (H1112.out.trans hu13)
    have S13 := Lib.hid (SI.out w13 vt ft rt (HE.out.upd HU13.out))
    obtain ⟨ta, tc, rfl, -, -, -⟩ := slF4_open rt
    clear S12 rt hu13 HU12 H1112 SI
    go_wp2_with fail
    refine S13.out.mono ?_
    rintro e w14 ⟨⟨vc, rfl, fc, rc, -, -⟩, hu14⟩
    have HU14 := Lib.hid (HU13.out.trans hu14)
    have H1114 := Lib.hid (H1113.out.trans hu14)
    have S14 := Lib.hid (eq_F1 _ _ x w14 fc fa rc (HA.out w14 (fx ++ fb) (H311.out.trans (H1114.out.mono (by simp))) (fun b hb => by
      rcases List.mem_append.1 hb with h | h
      · exact HGX.out b h
      · have := HGB.out b h; have := H34'.out.size; omega)))
    obtain ⟨ca, cc, rfl, -, -, -⟩ := slF4_open rc
    clear S13 rc hu14 HU13 H1113
    go_wp2_with fail
    refine S14.out.mono ?_
    rintro e w15 ⟨rfl, hu15⟩
    have HU15 := Lib.hid (HU14.out.trans hu15)
    have S15 := Lib.hid (T4.out w15 (H1114.out.trans hu15))
    clear S14 T4 hu15 HU14 H1114 H311 HA
    go_wp2_with fail
    refine S15.out.mono ?_
    rintro e w16 ⟨rfl, hu16⟩
    have HU16 := Lib.hid (HU15.out.trans hu16)
    clear S15 hu16
    go_wp2_with fail
    go_ret
    exact ⟨rfl, HU16.out⟩

end Go.Proofs.YtddciieaolaleaaGreatDoor

/-
  The form's reading of lists of nodes.
-/
namespace Go.Proofs.YtddciieaolaleaaGreatDoor
open Go.RowKit Go.ChangeShapes Go.WideShapes Go.Deep

theorem cells4 {w : World} {a : Addr} {cs : List Value} (h : w.cells? 0 a 4 = some cs) : ∃ c0 c1 c2 c3, cs = [c0, c1, c2, c3] ∧ w.cell? a = some c0 ∧ w.cell? (a.add 1) = some c1 ∧ w.cell? (a.add 2) = some c2 ∧ w.cell? (a.add 3) = some c3 := by
  rw [World.cells?, if_pos (Nat.zero_le _), show List.range 4 = [0, 1, 2, 3] from rfl] at h
  simp only [List.mapM_cons, List.mapM_nil, Addr.add, if_true] at h
  cases h0 : w.cell? a with
  | none => simp [h0] at h
  | some c0 =>
    cases h1 : w.cell? (a.add 1) with
    | none => simp [Addr.add] at h1; simp [h0, h1] at h
    | some c1 =>
      cases h2 : w.cell? (a.add 2) with
      | none => simp [Addr.add] at h1 h2; simp [h0, h1, h2] at h
      | some c2 =>
        cases h3 : w.cell? (a.add 3) with
        | none => simp [Addr.add] at h1 h2 h3; simp [h0, h1, h2, h3] at h
        | some c3 =>
          refine ⟨c0, c1, c2, c3, ?_, rfl, rfl, rfl, rfl⟩
          simp [Addr.add] at h1 h2 h3
          simpa [h0, h1, h2, h3] using h.symm

/-- slices of structs of four plain fields. -/
theorem opens_slF4 {α : Type} {P : Program} {t e : TypeId} {e1 e2 e3 e4 : α → Value} {φ : α → Prop} (ht : P.underlying t = some (.slice e)) (hc : P.cellsOf e = 4)
    (h : ∀ {H : Type} {enc : TypeId × Value → H} {w : World} {fuel : Nat} {u v z y : Value} {x : DataW H × List MemPlace}, DataW.trod enc P w 0 (fun _ => true) true fuel e [u, v, z, y] = some x → ∃ a, u = e1 a ∧ v = e2 a ∧ z = e3 a ∧ y = e4 a ∧ φ a) :
    Opens P t (slF 4 (fun x => [e1 x, e2 x, e3 x, e4 x])) (fun xs => ∀ x ∈ xs, φ x) := by
  intro H enc w fuel cs x hx
  rcases open_slice ht hx with ⟨rfl, -⟩ | ⟨a, len, cap, m, n, D, Pl, rfl, -, hl, hm, hmm, -, hel⟩
  · exact ⟨[], [], ⟨_, rfl, flat_nil w 4⟩, by simp⟩
  · have hlm : len ≤ m := by subst hmm; simpa using hl
    rw [hc] at hel
    obtain ⟨l, hll, hlq⟩ := list_choice (fun i (y : α) => w.cell? (a.add (i * 4)) = some (e1 y) ∧ w.cell? ((a.add (i * 4)).add 1) = some (e2 y) ∧ w.cell? ((a.add (i * 4)).add 2) = some (e3 y) ∧ w.cell? ((a.add (i * 4)).add 3) = some (e4 y) ∧ φ y) len (fun i hi => by
      obtain ⟨cs', h1, h2⟩ := hel i (by omega)
      obtain ⟨c0, c1, c2, c3, rfl, g0, g1, g2, g3⟩ := cells4 h1
      obtain ⟨y, rfl, rfl, rfl, rfl, hy⟩ := h h2
      exact ⟨y, g0, g1, g2, g3, hy⟩)
    by_cases h0 : len = 0
    · subst h0
      obtain rfl : l = [] := List.eq_nil_of_length_eq_zero hll
      exact ⟨[], [], ⟨_, rfl, some a, cap, rfl, hl, hm, by simp, Or.inl ⟨rfl, rfl⟩⟩, by simp⟩
    · have hc0 := (hlq 0 l[0] (by simp)).1
      have hs : a.spot = none := by simpa [Addr.add] using World.cell?_spot hc0
      obtain ⟨b, off, spot⟩ := a
      simp at hs
      subst hs
      refine ⟨l, [b], ⟨_, rfl, some ⟨b, off, none⟩, cap, by rw [hll], by omega, hm, by rw [flatMap_four_length], Or.inr ⟨b, off, rfl, rfl, ?_, fun j u hu => ?_⟩⟩, fun x hx => ?_⟩
      · exact World.block_lt_of_cell? w ⟨b, off, none⟩ (by simpa [Addr.add] using hc0)
      · have hj : j < l.length * 4 := by rw [← flatMap_four_length e1 e2 e3 e4]; exact (List.getElem?_eq_some_iff.1 hu).1
        have hi : j / 4 < l.length := by omega
        obtain ⟨g1, g2, g3, g4⟩ := flatMap_four_get e1 e2 e3 e4 l (j / 4) hi
        obtain ⟨q1, q2, q3, q4, -⟩ := hlq (j / 4) l[j / 4] (by simp)
        have ha : (⟨b, off, none⟩ : Addr).add (j / 4 * 4) = ⟨b, off + j / 4 * 4, none⟩ := by simp only [Addr.add]; split <;> simp_all
        rw [ha] at q1 q2 q3 q4
        have hmod : j % 4 = 0 ∨ j % 4 = 1 ∨ j % 4 = 2 ∨ j % 4 = 3 := by omega
        rcases hmod with hmod | hmod | hmod | hmod
        · have e : j / 4 * 4 = j := by omega
          rw [e] at g1 q1
          rw [g1] at hu; cases hu; exact q1
        · have e : j / 4 * 4 + 1 = j := by omega
          rw [e] at g2
          rw [g2] at hu; cases hu
          simp [Addr.add] at q2
          rw [show off + j = off + j / 4 * 4 + 1 from by omega]; exact q2
        · have e : j / 4 * 4 + 2 = j := by omega
          rw [e] at g3
          rw [g3] at hu; cases hu
          simp [Addr.add] at q3
          rw [show off + j = off + j / 4 * 4 + 2 from by omega]; exact q3
        · have e : j / 4 * 4 + 3 = j := by omega
          rw [e] at g4
          rw [g4] at hu; cases hu
          simp [Addr.add] at q4
          rw [show off + j = off + j / 4 * 4 + 3 from by omega]; exact q4
      · obtain ⟨i, hi, rfl⟩ := List.mem_iff_getElem.1 hx
        exact (hlq i _ (by simp)).2.2.2.2

theorem opens_F1 : Opens Tryz.prog 29 R_F1 (fun xs => ∀ x ∈ xs, x.lb.length ≤ maxLen) :=
  opens_slF4 Tryz.underlying29 (by kernel_rfl) (by
    intro H enc w fuel u v z y x hx
    obtain ⟨y0, y1, y2, y3, n, -, -, h0, h1, h2, h3⟩ := Go.Joins.trod_struct4 Tryz.underlying51 hx
    obtain ⟨a, e0, -, -⟩ := DataW.trod_int Tryz.underlying2 h0
    obtain ⟨b, e1, -, -⟩ := DataW.trod_int Tryz.underlying2 h1
    obtain ⟨s, e2, -, hs⟩ := DataW.trod_string Tryz.underlying9 h2
    obtain ⟨d, e3, -⟩ := DataW.trod_bool Tryz.underlying4 h3
    have c1 : Tryz.prog.cellsOf 2 = 1 := by kernel_rfl
    have c2 : Tryz.prog.cellsOf 9 = 1 := by kernel_rfl
    have c3 : Tryz.prog.cellsOf 4 = 1 := by kernel_rfl
    simp [c1, c2, c3] at e0 e1 e2 e3
    exact ⟨⟨a, b, s.data.toList, d⟩, e0, e1, e2, e3, hs⟩)

theorem nds_of {xs : List Nd} (h : ∀ x ∈ xs, x.lb.length ≤ maxLen) : ndsOk xs := fun n hn => by
  have := h n hn
  simp only [maxLen] at this
  omega

end Go.Proofs.YtddciieaolaleaaGreatDoor

/-
  What the listed variables and the world's shape give the walks of labels.
-/
namespace Go.Proofs.YtddciieaolaleaaGreatDoor
open Go.RowKit Go.ChangeShapes

theorem errStar : "*" ++ "errors.errorString" = "*errors.errorString" := by decide
theorem errRow (u : TypeId) (h : Tryz.prog.typeName? 3 u = some "*errors.errorString") : u = 179 :=
  typeName_ptr_named (nm := "errors.errorString") (by rw [errStar]; kernel_rfl) (by kernel_rfl) (by decide) u (by rw [errStar]; exact h)

theorem env_of {W : World} {r1 r2 r3 : List (String × DataW Unit)} {d : DataW Unit} {x1 x2 : List UInt8} (hd : d = Lib.tabData .u64 Lib.pow10Tab)
    (h1 : laidMet Tryz.prog (("internal/strconv.uint64pow10", d) :: r1) W)
    (h2 : laidMet Tryz.prog (("strconv.ErrRange", .iface "*errors.errorString" (.ptr (.agg [.lit (.string x1)]))) :: r2) W)
    (h3 : laidMet Tryz.prog (("strconv.ErrSyntax", .iface "*errors.errorString" (.ptr (.agg [.lit (.string x2)]))) :: r3) W)
    (hs : W.ShapedOpen Tryz.prog) : Env W := by
  subst hd
  refine ⟨?_, ?_, ?_, ?_⟩
  · exact cell_of_shapedOpen_int (g := 1) (zero := #[.int .i64 0]) (t := 3) hs (of_decide_eq_true (by kernel_rfl)) (by kernel_rfl) rfl (by kernel_rfl) (by kernel_rfl) Tryz.underlying3
  · exact Lib.tabIs_of_head (g := 0) (t := 130) (e := 120) (n := 20) (by kernel_rfl) (by kernel_rfl) Tryz.underlying130 Tryz.underlying120 (by kernel_rfl) (by kernel_rfl) h1
  · obtain ⟨a, s, hv, -⟩ := laid_sentinel (g := 4) (ti := 138) (tp := 179) (te := 181) (ts := 9) h3 (by kernel_rfl) (by kernel_rfl) Tryz.underlying138 errRow Tryz.underlying179 Tryz.underlying181 rfl rfl Tryz.underlying9 (by kernel_rfl) (by kernel_rfl)
    exact ⟨_, _, hv⟩
  · obtain ⟨a, s, hv, -⟩ := laid_sentinel (g := 5) (ti := 138) (tp := 179) (te := 181) (ts := 9) h2 (by kernel_rfl) (by kernel_rfl) Tryz.underlying138 errRow Tryz.underlying179 Tryz.underlying181 rfl rfl Tryz.underlying9 (by kernel_rfl) (by kernel_rfl)
    exact ⟨_, _, hv⟩

/-- the wrap with a condition on the world, the world's shape kept. -/
theorem handed_and_shaped {H : Type} {enc : TypeId × Value → H} {a : Assume} {C : Checked} {os : Os} {f : FuncId} {fn : Func} {s : ChangeSpec} {conds : List PathCond} {apart fresh handsOn twice : Bool} {X : World → Array Value → Prop}
    (hX : ∀ (w w' : World) (args : Array Value), w.heap = w'.heap → X w args → X w' args)
    (own : ownKnob C.prog.godebug = none) (started : os.Started) (noInit : C.prog.inits.idxOf? f = none) (hfn : C.prog.funcs[f]? = some fn)
    (witness : ∃ (w : World) (tape : Tape) (i : Input), w.os = os ∧ (w.forCall tape i).Shaped C.prog ∧ i.vars = [] ∧ Input.okWide C.prog (w.forCall tape i) .any w.heap.size f i ∧
      ((s.pre enc C.prog fn conds apart (w.forCall tape i).memory i.args ∧ X (w.forCall tape i).memory i.args) ∧ sizedMet enc C.prog fn (OpenSpec.ofChange s) apart (w.forCall tape i).memory i.args) ∧ a.holds C.prog (lone (Frame.enter C.prog f i.args CallKind.normal) [] (w.forCall tape i)))
    (contract : ∀ (W : World) (base : Nat) (args : Array Value) (ds gs : List (DataW H)) (before : List MemPlace),
      (∀ (j : Nat) t v, fn.params[j]? = some t → args[j]? = some v → Value.okWide C.prog W .any base t v) →
      DataW.Whole enc C.prog fn.params.toList s.vars apart W args.toList ds gs before →
      conds.all (PathCond.test C.prog ⟨fn.params.toList, ds, s.plain.varTypes C.prog, gs⟩) = true → X W args →
      W.ShapedOpen C.prog →
      Calls C.prog f args W fun e W' => ∃ v, e = .returned v ∧ s.post enc C.prog fn apart fresh handsOn twice W args v W') :
    ReturnsInHanded a C os f .any (fun w args => (s.pre enc C.prog fn conds apart w args ∧ X w args) ∧ sizedMet enc C.prog fn (OpenSpec.ofChange s) apart w args) (s.post enc C.prog fn apart fresh handsOn twice) := by
  refine returnsInHanded_of_calls own started noInit witness ?_
  intro w tape i _ hsh _ hok hpre _
  obtain ⟨_, _, _, fn', hfn', _, _, _, _, hval⟩ := hok
  have e : fn' = fn := Option.some.inj (hfn'.symm.trans hfn)
  subst e
  obtain ⟨⟨⟨ds, gs, before, hw, hc⟩, hx⟩, hz⟩ := hpre
  have hw' := DataW.Whole.of_heap (w' := w.forCall tape i) (by rfl) hw
  refine (contract (w.forCall tape i) w.heap.size i.args ds gs before hval hw' hc (hX _ _ _ (by rfl) hx) hsh).mono fun e W' ⟨v, he, hp⟩ => ?_
  subst he
  exact ChangeSpec.post_blind hp

end Go.Proofs.YtddciieaolaleaaGreatDoor
