/-
  Folding, the program's side.
-/
import Derived.Test.YtnioopbficcbeaaValue
import Derived.Test.YtnioopbficcbeaaOps
import Derived.Test.YtnioopbficcbeaaLib2
namespace Go.Proofs.Ytnioopbficcbeaa
open Go.RowKit

set_option maxRecDepth 20000 in
theorem numberE (n : Int) (w : World) : Calls Try.prog 67 #[.int .i64 n] w fun r w' => (∃ v', r = .returned v' ∧ New R_E w w' v' (.mk (0, n) [])) ∧ Upd [] w w' := by
  have hn : ∀ w : World, New R_E w (w.alloc (.cells #[ei 0, ei n, .slice none 0 0] 70)) (.pointer (some ⟨w.heap.size, 0, none⟩)) (.mk (0, n) []) := fun w =>
    ⟨[w.heap.size], R_E_mk (by simp) (by simp) (by simp) (slP_nilv _ _), own_new _ _ _, fun b hb => by simp at hb; omega⟩
  have HN := Lib.hid hn
  clear hn
  go_enter Try.func67, Try.ntmps67
  go_wp2_with fail
  go_ret
  exact ⟨⟨_, rfl, HN.out _⟩, (Upd.refl _ _).alloc _⟩

theorem goodE_nums {t : Tm} {bs : List Ex} (h : goodE 29 (.mk t bs) = true) (hn : bs.all isNum = true) (h1 : t.1 ≠ 1) : goodE 0 (.mk t bs) = true := by
  rw [goodE_mk] at h ⊢
  simp only [Bool.and_eq_true] at h ⊢
  refine ⟨⟨h.1.1, ?_⟩, ?_⟩
  · have := h.1.2
    simp only [tOk, h1, if_false] at this ⊢; exact this
  · have hg := h.2
    rw [goodEs_all, List.all_eq_true] at hg ⊢
    rw [List.all_eq_true] at hn
    intro x hx
    obtain ⟨n, rfl, h0, h63⟩ := isNum_good (hg x hx) (hn x hx)
    rw [goodE_mk]
    simp only [Bool.and_eq_true]
    exact ⟨⟨by simp [arity], by simp only [tOk, if_true]; exact inB_mk ⟨h0, h63⟩⟩, rfl⟩

theorem flatE_arg_le' (args : List Ex) (k : Nat) (h : k < args.length) : (flatE args[k]).length ≤ (flatEs args).length := by
  have e1 : flatEs args = flatEs (args.take k) ++ (flatE args[k] ++ flatEs (args.drop (k + 1))) := by
    conv => lhs; rw [← List.take_append_drop k args, flatEs_append, List.drop_eq_getElem_cons h]
    rfl
  rw [e1, List.length_append, List.length_append]; omega

open Classical in
noncomputable def foldRes (e : List Tm) : List Tm × Int := if h : eOk e = true then (flatE (foldE (treeOf e h)), 0) else ([], 1)

def Fo (w : World) (fp : List Nat) (x : Ex) (e : Ending) (w' : World) : Prop := (∃ v' fp', e = .returned v' ∧ R_E fp' w' [v'] x ∧ ∀ b ∈ fp', b ∈ fp ∨ w.heap.size ≤ b) ∧ Upd [] w w'

set_option maxRecDepth 20000 in
set_option maxHeartbeats 4000000 in
theorem foldI (n : Nat) : ∀ (x : Ex) (w : World) (v : Value) (fp : List Nat), (flatE x).length ≤ n → (flatE x).length ≤ 100 → goodE 29 x = true → R_E fp w [v] x →
    Calls Try.prog 34 #[v] w (Fo w fp (foldE x)) := by
  induction n with
  | zero => intro x w v fp hn; have := flatE_pos x; omega
  | succ n ih =>
    intro x w v fp hn h100 hg hR
    obtain ⟨i0, hi, hz0, hz1, hz2⟩ := info_parts Try.infoE
    obtain ⟨⟨t1, t2⟩, args⟩ := x
    have hR0 := hR
    obtain ⟨b0, s, fa, rfl, rfl, c0, c1, c2, hargs⟩ := R_E_open hR
    obtain ⟨a, cap, rfl, h1, h2, hc⟩ := slP_open hargs
    have hlta := (slP_kept R_Ek).lt hargs
    unfold maxLen at h2
    simp only [flatE, List.length_cons] at hn h100
    have hg0 := hg
    rw [goodE_mk] at hg
    simp only [Bool.and_eq_true, decide_eq_true_eq] at hg
    obtain ⟨⟨hlen, hok⟩, hgs⟩ := hg
    by_cases hnil : args = []
    · subst hnil
      have hres : foldE (.mk (t1, t2) []) = .mk (t1, t2) [] := by simp [foldE]
      have HR := Lib.hid hR0
      clear hR hR0 hargs hc c0 c1 ih hlen hok hgs hg0 hlta
      rw [hres]
      clear hres
      simp only [List.length_nil] at *
      go_enter Try.func34, Try.ntmps34
      go_wp2_with fail
      go_ret
      exact ⟨⟨_, _, rfl, HR.out, fun b hb => Or.inl hb⟩, Upd.refl _ _⟩
    · have hl2 : args.length ≤ 2 := by have := arity_bd (t1, t2); omega
      have hl1 : 0 < args.length := by cases args; exact absurd rfl hnil; simp
      have hbe : ((args.length : Int) == 0) = false := by simp; exact hnil
      have HR0 := Lib.hid hR0
      have HIH := Lib.hid ih
      have HG0 := Lib.hid hg0
      have HGS := Lib.hid hgs
      have HLT := Lib.hid hlta
      have HLEN := Lib.hid hlen
      have hltb : b0 < w.heap.size := World.block_lt_of_cell? w _ c0
      clear ih hR hR0 hg0 hgs hok hargs hlta hlen
      have hst : Upd [] w (w.alloc (.cells #[ei t1, ei t2, .slice none 0 0] 70)) := (Upd.refl _ _).alloc _
      have hst1 := own_new w #[ei t1, ei t2, .slice none 0 0] 70
      have HST := Lib.hid (And.intro hst hst1)
      have HG := Lib.hid (show ∀ b ∈ b0 :: fa, b < w.heap.size from fun b hb => by
        rcases List.mem_cons.1 hb with rfl | hb
        · exact hltb
        · exact HLT.out b hb)
      have hft : ∀ k, (hk : k < args.length) → foldEs (args.take (k + 1)) = foldEs (args.take k) ++ [foldE args[k]] := by
        intro k hk; rw [foldEs_map, foldEs_map, List.take_succ_eq_append_getElem hk, List.map_append]; rfl
      have HFT := Lib.hid hft
      clear hst hst1 hft
      go_enter Try.func34, Try.ntmps34
      go_wp2_with fail
      go_loopw [4, 26] (fun av i wr => ∃ (k : Nat) (vo : Value) (bb : Bool), k ≤ args.length ∧ i = .int .i64 k ∧ av = .bool bb ∧ Hid (bb = (foldEs (args.take k)).all isNum) ∧ Upd [] w wr ∧ wr.cell? ⟨w.heap.size, 0, none⟩ = some (ei t1) ∧ wr.cell? ⟨w.heap.size, 1, none⟩ = some (ei t2) ∧
          wr.cell? ⟨w.heap.size, 2, none⟩ = some vo ∧ Own [w.heap.size] wr ∧ Got R_E (w.heap.size + 1) (fun b => b ∈ b0 :: fa ∨ w.heap.size + 1 ≤ b) 51 wr vo (foldEs (args.take k)))
        (fun _ i _ => args.length - (intOf i).toNat)
      case atStart => exact ⟨0, _, true, Nat.zero_le _, rfl, rfl, Lib.hid rfl, HST.out.1, by simp, by simp, by simp, HST.out.2, Got.nil _ _ _ _ _⟩
      case round =>
        clear HST
        obtain ⟨k, vo, bb, hk, rfl, rfl, HBB, hU, d0, d1, d2, hown0, hgot⟩ := hrel
        by_cases hlt : k < args.length
        · obtain ⟨b, off, u, f, rfl, hbm, hbl, hcell, hsub, hr⟩ := hc k hlt
          have hcell' := hU.keep hcell
          have hr' := R_Ek.upd hr hU (by simp)
          have hgk : goodE 29 args[k] = true := by
            have := HGS.out; rw [goodEs_all, List.all_eq_true] at this; exact this _ (by simp)
          have hlk : (flatE args[k]).length ≤ (flatEs args).length := flatE_arg_le' args k hlt
          have hts := HFT.out k hlt
          have S2 := Lib.hid (HIH.out args[k] wr u f (by omega) (by omega) hgk hr')
          have hR2 := foldE_good 29 _ hgk
          have HR2 := Lib.hid hR2
          have HTS := Lib.hid hts
          have HSUB := Lib.hid hsub
          clear hcell hr hr' hgk hlk hts hc hR2 hsub
          generalize foldE args[k] = y at *
          go_wp2_with fail
          refine S2.out.mono ?_
          rintro e w3 ⟨⟨v3, fp3, rfl, hR3, hfp3⟩, hu3⟩
          have hgot3 := hgot.upd R_Ek hu3 (by simp)
          obtain ⟨us, hou⟩ := hgot3.own
          have hsz := hU.size
          have hsz3 := hu3.size
          obtain ⟨⟨k1, k2⟩, ys⟩ := y
          obtain ⟨pb, ps, pf, rfl, rfl, e0, -, -, -⟩ := R_E_open hR3
          have d0' := hu3.keep d0
          have d1' := hu3.keep d1
          have d2' := hu3.keep d2
          have hN0 : w.heap.size < wr.heap.size := World.block_lt_of_cell? wr _ d0
          have hown0' := hown0.upd hu3 (by simp)
          have hob : ∀ b, vo.ownBlock = some b → w.heap.size + 1 ≤ b ∧ b < wr.heap.size := fun b hb => by
            obtain ⟨us', h9⟩ := hgot.own; exact h9.lt b hb
          have hgb : ∀ b ∈ pb :: pf, vo.ownBlock ≠ some b ∧ (b ∈ b0 :: fa ∨ w.heap.size + 1 ≤ b) := by
            intro b hb
            rcases hfp3 b hb with h | h
            · have hm : b ∈ b0 :: fa := List.mem_cons_of_mem _ (HSUB.out b h)
              exact ⟨fun he => by have := hob b he; have := HG.out b hm; omega, Or.inl hm⟩
            · exact ⟨fun he => by have := hob b he; omega, Or.inr (by omega)⟩
          have hpbN : pb ≠ w.heap.size := by
            rcases hfp3 pb (by simp) with h | h
            · have := HG.out pb (List.mem_cons_of_mem _ (HSUB.out pb h)); omega
            · omega
          have hfz : w3.frozen? ⟨w.heap.size, 2, none⟩ = false := hown0'.frozen (by simp) _
          have hlk2 : (foldEs (args.take k)).length ≤ 2 := by rw [foldEs_map, List.length_map, List.length_take]; omega
          have HGOT := Lib.hid hgot3
          have HR3 := Lib.hid hR3
          have HGB := Lib.hid hgb
          have HOB := Lib.hid hob
          have hltp : pb < w3.heap.size := World.block_lt_of_cell? w3 _ e0
          clear S2 d0 d1 d2 hown0 hgot hgot3 hR3 hfp3 hgb hob
          go_wp2_with (first
            | (at_builtin; refine wpList_append_tight _ rfl _ _ 66 rfl (w.heap.size + 1) 51 i0 (.pointer none) 1 8 Try.underlying66 hi hz0 hz1 hz2 rfl (by decide) _ _ _ rfl (hou.alloc _) ⟨w3.heap.size, 0, none⟩ 1 1 [.pointer (some ⟨pb, 0, none⟩)] rfl rfl ?c1 ?c2 ?c3 ?c4 ?c5 ?_)
            | fail)
          case c1 => intro j u hj; match j, hj with | 0, hj => simp at hj; subst hj; simp [Addr.add]
          case c2 => intro u hu; simp at hu; subst hu; rfl
          case c3 => unfold maxLen; omega
          case c4 => omega
          case c5 => simp; omega
          intro v4 w4 hown4 hg4 ht4
          obtain ⟨a4, cc4, rfl⟩ := ownsRow_form hown4
          have hgot4 := HGOT.out.push R_Ek hou HR3.out HGB.out _ hown4 hg4 (by simpa using ht4)
          have hu4 : Upd vo.ownBlock.toList w3 w4 := ((Upd.refl _ _).alloc _).grown hg4 (fun k hk => Or.inr (by simp [hk]))
          have hNob : w.heap.size ∉ vo.ownBlock.toList := fun hm => by have := HOB.out _ (by simpa using hm); omega
          have hpob : pb ∉ vo.ownBlock.toList := fun hm => (HGB.out pb (by simp)).1 (by simpa using hm)
          have hU4 : Upd [] w w4 := (hU.trans hu3).fresh hu4 (fun b hb => Or.inl (by have := HOB.out b (by simpa using hb); omega))
          have hbN : w4.heap[w.heap.size]? = w3.heap[w.heap.size]? := hu4.block _ (by omega) hNob
          have hbP : w4.heap[pb]? = w3.heap[pb]? := hu4.block _ (by omega) hpob
          have f0 : w4.cell? ⟨w.heap.size, 0, none⟩ = some (ei t1) := (World.cell?_of_block (w := w3) hbN).trans d0'
          have f1 : w4.cell? ⟨w.heap.size, 1, none⟩ = some (ei t2) := (World.cell?_of_block (w := w3) hbN).trans d1'
          have f2 : w4.cell? ⟨w.heap.size, 2, none⟩ = some vo := (World.cell?_of_block (w := w3) hbN).trans d2'
          have hown5 : Own [w.heap.size] w4 := hown0'.frame (by intro b hb; obtain rfl : b = w.heap.size := (by simpa using hb); exact hbN)
          have hfz4 : w4.frozen? ⟨w.heap.size, 2, none⟩ = false := hown5.frozen (by simp) _
          have g0 : (w4.setCell ⟨w.heap.size, 2, none⟩ (.slice a4 ((foldEs (args.take k)).length + 1) cc4)).cell? ⟨pb, 0, none⟩ = some (ei k1) := by
            rw [World.cell?_setCell_other _ _ _ _ (by simp)]; exact (World.cell?_of_block (w := w3) hbP).trans e0
          have hus4 : Upd [w.heap.size] w4 (w4.setCell ⟨w.heap.size, 2, none⟩ (.slice a4 ((foldEs (args.take k)).length + 1) cc4)) := (Upd.refl _ _).setCell (by simp) _
          have hNG : ∀ b ∈ [w.heap.size], b < w.heap.size + 1 ∧ ¬ (b ∈ b0 :: fa ∨ w.heap.size + 1 ≤ b) := by
            intro b hb
            obtain rfl : b = w.heap.size := by simpa using hb
            refine ⟨by omega, fun hG => ?_⟩
            rcases hG with h | h
            · have := HG.out _ h; omega
            · omega
          have hgot5 := hgot4.upd R_Ek hus4 hNG
          rw [← HTS.out] at hgot5
          have HP := Lib.hid (And.intro hgot5 (And.intro (hU4.setCell (p := ⟨w.heap.size, 2, none⟩) (Or.inl (Nat.le_refl _)) (.slice a4 ((foldEs (args.take k)).length + 1) cc4)) (hown5.setCell ⟨w.heap.size, 2, none⟩ (.slice a4 ((foldEs (args.take k)).length + 1) cc4))))
          have hall : ((foldEs (args.take (k + 1))).all isNum) = (bb && (k1 == 0)) := by
            rw [HTS.out, List.all_append, ← HBB.out]; simp [isNum]
          have HALL := Lib.hid hall
          clear hNG hgot5 hgot4 hus4 hown5 hbN hbP hNob hpob hu4 hU4 hg4 ht4 hown4 d0' d1' d2' e0 hfz hown0' hu3 hU hou hall
          cases bb
          · go_wp2_with fail
            go_roundw
            case rel =>
              refine ⟨k + 1, _, false, by omega, by go_num, rfl, Lib.hid (by rw [HALL.out]; rfl), HP.out.2.1, ?_, ?_, ?_, HP.out.2.2, HP.out.1⟩
              · exact (World.cell?_setCell_other _ _ _ _ (by simp)).trans f0
              · exact (World.cell?_setCell_other _ _ _ _ (by simp)).trans f1
              · exact World.cell?_setCell_same _ _ _ f2
            case measure => simp [intOf]; omega
          · go_wp2_with fail
            go_roundw
            case rel =>
              refine ⟨k + 1, _, k1 == 0, by omega, by go_num, rfl, Lib.hid (by rw [HALL.out]; rfl), HP.out.2.1, ?_, ?_, ?_, HP.out.2.2, HP.out.1⟩
              · exact (World.cell?_setCell_other _ _ _ _ (by simp)).trans f0
              · exact (World.cell?_setCell_other _ _ _ _ (by simp)).trans f1
              · exact World.cell?_setCell_same _ _ _ f2
            case measure => simp [intOf]; omega
        · obtain rfl : k = args.length := by omega
          rw [List.take_length] at HBB hgot
          obtain ⟨fs, hsl, hfs⟩ := hgot.slP
          have hnode := R_E_mk (t := (t1, t2)) d0 d1 d2 hsl
          have hfsub : ∀ b ∈ w.heap.size :: fs, b ∈ b0 :: fa ∨ w.heap.size ≤ b := by
            intro b hb
            rcases List.mem_cons.1 hb with rfl | hb
            · exact Or.inr (Nat.le_refl _)
            · rcases hfs b hb with h | h | h
              · exact Or.inr (by omega)
              · exact Or.inl h
              · exact Or.inr (by omega)
          have HFS := Lib.hid hfsub
          have HND := Lib.hid hnode
          have hfold : foldE (.mk (t1, t2) args) = if bb = true then .mk (0, valE [] (.mk (t1, t2) (foldEs args))) [] else .mk (t1, t2) (foldEs args) := by
            rw [foldE, if_neg hnil, ← HBB.out]
          have HF := Lib.hid hfold
          clear hgot hsl hfs hnode hfsub hfold hc d0 d1 d2 hown0 HFT
          cases bb
          · go_wp2_with fail
            go_ret
            refine ⟨⟨_, _, rfl, ?_, HFS.out⟩, hU⟩
            rw [HF.out]; exact HND.out
          · have hgx : goodE 29 (.mk (t1, t2) (foldEs args)) = true := by
              have h1 := HG0.out
              rw [goodE_mk] at h1 ⊢
              simp only [Bool.and_eq_true] at h1 ⊢
              exact ⟨⟨by rw [foldEs_map, List.length_map]; exact h1.1.1, h1.1.2⟩, foldEs_good 29 _ h1.2⟩
            have hk1 : t1 ≠ 1 := by
              intro h
              have := HLEN.out
              subst h
              simp [arity] at this; exact hnil this
            have hg0 := goodE_nums hgx HBB.out.symm hk1
            have S4 := Lib.hid (valueE _ (.mk (t1, t2) (foldEs args)) wr _ (.slice none 0 0) _ [] [] 0 (Nat.le_refl _) hg0 (by simp) (by intro k; simp) HND.out ⟨_, rfl, none, 0, rfl, by simp, by simp [maxLen], by simp, Or.inl ⟨rfl, rfl⟩⟩)
            generalize valE [] (.mk (t1, t2) (foldEs args)) = vx at *
            clear hgx hk1 hg0
            go_wp2_with fail
            refine S4.out.mono ?_
            rintro e w5 ⟨rfl, m, rfl⟩
            go_wp2_with fail
            refine (numberE _ _).mono ?_
            rintro e w6 ⟨⟨v6, rfl, f6, h6, -, h66⟩, hu6⟩
            have HH := Lib.hid (And.intro h6 h66)
            have HU := Lib.hid ((hU.drewN m).trans hu6)
            have hsz := hU.size
            clear h6 h66 hu6 hU
            go_wp2_with fail
            go_ret
            refine ⟨⟨_, _, rfl, ?_, fun b hb => Or.inr (by have := HH.out.2 b hb; simp at this; omega)⟩, HU.out⟩
            rw [HF.out]; exact HH.out.1

set_option maxRecDepth 20000 in
set_option maxHeartbeats 1000000 in
theorem fold_i (e : List Tm) (v : Value) (w : World) (fp : List Nat) (hR : R_T1 fp w [v] e) :
    Calls Try.prog 10 #[v] w fun r w' => (∃ v', r = .returned (.tuple #[v', .int .i64 (foldRes e).2]) ∧ New R_T1 w w' v' (foldRes e).1) ∧ Upd [] w w' := by
  have hR0 := Lib.hid hR
  obtain ⟨a, cap, rfl, g1, g2, -⟩ := slF2_open hR
  unfold maxLen at g2
  cases hb : eOk e
  · have hres : foldRes e = ([], 1) := by simp [foldRes, hb]
    have HR := Lib.hid hres
    clear hres
    go_enter Try.func10, Try.ntmps10
    go_wp2_with fail
    refine (termsOk _ e _ fp hR0.out).mono ?_
    rintro r w1 ⟨rfl, hu⟩
    rw [hb]
    go_wp2_with fail
    go_ret2
    rw [HR.out]
    exact ⟨⟨_, rfl, New.nilF _ _ _ _⟩, hu⟩
  · have hres : foldRes e = (flatE (foldE (treeOf e hb)), 0) := by simp [foldRes, hb]
    obtain ⟨hok, hfl⟩ := treeOf_ok e hb
    have hlen := eOk_len hb
    have hgood := eOk_good hb _ hok hfl
    have HR := Lib.hid hres
    have HB := Lib.hid hb
    generalize treeOf e hb = x at *
    have HOK := Lib.hid hok
    have HFL := Lib.hid hfl
    have HGD := Lib.hid hgood
    clear hres hok hfl hgood
    go_enter Try.func10, Try.ntmps10
    go_wp2_with fail
    refine (termsOk _ e _ fp hR0.out).mono ?_
    rintro r w1 ⟨rfl, hu⟩
    rw [HB.out]
    clear hb
    go_wp2_with fail
    refine (treeE x _ _ fp HOK.out (by rw [HFL.out]; omega) (by rw [HFL.out]; exact R_T1k.upd hR0.out hu (by simp))).mono ?_
    rintro r w2 ⟨⟨vt, rfl, ft, ht, -, -⟩, hu2⟩
    have hU := hu.trans hu2
    have S2 := Lib.hid (foldI _ x w2 vt ft (Nat.le_refl _) (by rw [HFL.out]; omega) HGD.out ht)
    clear hu hu2 ht
    go_wp2_with fail
    refine S2.out.mono ?_
    rintro r w3 ⟨⟨v3, f3, rfl, h3, -⟩, hu3⟩
    have hU3 := hU.trans hu3
    have hl3 := foldE_len x
    rw [HFL.out] at hl3
    have S3 := Lib.hid (listE (foldE x) w3 v3 f3 (by omega) h3)
    clear hu3 hU h3 hl3 S2
    go_wp2_with fail
    refine S3.out.mono ?_
    rintro r w4 ⟨⟨v4, rfl, h4⟩, hu4⟩
    have HN := Lib.hid (h4.mono (w0 := w) hU3.size)
    have HU4 := Lib.hid (hU3.trans hu4)
    clear hu4 h4 hU3 S3
    go_wp2_with fail
    go_ret2
    rw [HR.out]
    exact ⟨⟨_, rfl, HN.out⟩, HU4.out⟩

end Go.Proofs.Ytnioopbficcbeaa
