/-
  Proved: the law FnExactFoldLinear, for every input, with no condition: the call returns true and each argument reads afterwards as it read before.
-/
import Derived.Test.YtnfghgaadnobbaaValue
import Derived.Test.YtnfghgaadnobbaaOps
import Derived.Test.YtnfghgaadnobbaaLib2
import Derived.Deep.RegionHeld3
import Derived.Test.YtnfghgaadnobbaaHarnSm
import Derived.Laws.StructEq
import Derived.Deep.QuietTactic
import Derived.BigQuiet
import Derived.Test.YtnfghgaadnobbaaLinR
import Derived.Test.YtnfghgaadnobbaaLib7
import Derived.Test.YtnfghgaadnobbaaLinF
import Derived.Test.YtnfghgaadnobbaaLinSt
import Derived.Test.YtnfghgaadnobbaaOpenLn
namespace Go.Proofs.Ytnfghgaadnobbaa
open Go.RowKit

set_option maxRecDepth 20000 in
theorem numberE (n : Int) (w : World) : Calls Try.prog 86 #[.int .i64 n] w fun r w' => (∃ v', r = .returned v' ∧ New R_E w w' v' (.mk (0, n) [])) ∧ Upd [] w w' := by
  have hn : ∀ w : World, New R_E w (w.alloc (.cells #[ei 0, ei n, .slice none 0 0] 105)) (.pointer (some ⟨w.heap.size, 0, none⟩)) (.mk (0, n) []) := fun w =>
    ⟨[w.heap.size], R_E_mk (by simp) (by simp) (by simp) (slP_nilv _ _), own_new _ _ _, fun b hb => by simp at hb; omega⟩
  have HN := Lib.hid hn
  clear hn
  go_enter Try.func86, Try.ntmps86
  go_wp2_with fail
  go_ret
  exact ⟨⟨_, rfl, HN.out _⟩, (Upd.refl _ _).alloc _⟩

theorem goodE_nums {t : Tm} {bs : List Ex} (h : goodE 29 (.mk t bs) = true) (hn : bs.all isNum = true) (h1 : t.1 ≠ 1) : goodE 0 (.mk t bs) = true := by
  rw [goodE_mk] at h ⊢
  simp only [Bool.and_eq_true] at h ⊢
  refine ⟨⟨h.1.1, ?_⟩, ?_⟩
  · have := h.1.2
    simp only [tOk, h1, if_false] at this ⊢; exact this
  · have hg := h.2
    rw [goodEs_all, List.all_eq_true] at hg ⊢
    rw [List.all_eq_true] at hn
    intro x hx
    obtain ⟨n, rfl, h0, h63⟩ := isNum_good (hg x hx) (hn x hx)
    rw [goodE_mk]
    simp only [Bool.and_eq_true]
    exact ⟨⟨by simp [arity], by simp only [tOk, if_true]; exact inB_mk ⟨h0, h63⟩⟩, rfl⟩

theorem flatE_arg_le' (args : List Ex) (k : Nat) (h : k < args.length) : (flatE args[k]).length ≤ (flatEs args).length := by
  have e1 : flatEs args = flatEs (args.take k) ++ (flatE args[k] ++ flatEs (args.drop (k + 1))) := by
    conv => lhs; rw [← List.take_append_drop k args, flatEs_append, List.drop_eq_getElem_cons h]
    rfl
  rw [e1, List.length_append, List.length_append]; omega

open Classical in
noncomputable def foldRes (e : List Tm) : List Tm × Int := if h : eOk e = true then (flatE (foldE (treeOf e h)), 0) else ([], 1)

def Fo (w : World) (fp : List Nat) (x : Ex) (e : Ending) (w' : World) : Prop := (∃ v' fp', e = .returned v' ∧ R_E fp' w' [v'] x ∧ ∀ b ∈ fp', b ∈ fp ∨ w.heap.size ≤ b) ∧ Upd [] w w'

set_option maxRecDepth 20000 in
set_option maxHeartbeats 4000000 in
theorem foldI (n : Nat) : ∀ (x : Ex) (w : World) (v : Value) (fp : List Nat), (flatE x).length ≤ n → (flatE x).length ≤ 100 → goodE 29 x = true → R_E fp w [v] x →
    Calls Try.prog 44 #[v] w (Fo w fp (foldE x)) := by
  induction n with
  | zero => intro x w v fp hn; have := flatE_pos x; omega
  | succ n ih =>
    intro x w v fp hn h100 hg hR
    obtain ⟨i0, hi, hz0, hz1, hz2⟩ := info_parts Try.infoE
    obtain ⟨⟨t1, t2⟩, args⟩ := x
    have hR0 := hR
    obtain ⟨b0, s, fa, rfl, rfl, c0, c1, c2, hargs⟩ := R_E_open hR
    obtain ⟨a, cap, rfl, h1, h2, hc⟩ := slP_open hargs
    have hlta := (slP_kept R_Ek).lt hargs
    unfold maxLen at h2
    simp only [flatE, List.length_cons] at hn h100
    have hg0 := hg
    rw [goodE_mk] at hg
    simp only [Bool.and_eq_true, decide_eq_true_eq] at hg
    obtain ⟨⟨hlen, hok⟩, hgs⟩ := hg
    by_cases hnil : args = []
    · subst hnil
      have hres : foldE (.mk (t1, t2) []) = .mk (t1, t2) [] := by simp [foldE]
      have HR := Lib.hid hR0
      clear hR hR0 hargs hc c0 c1 ih hlen hok hgs hg0 hlta
      rw [hres]
      clear hres
      simp only [List.length_nil] at *
      go_enter Try.func44, Try.ntmps44
      go_wp2_with fail
      go_ret
      exact ⟨⟨_, _, rfl, HR.out, fun b hb => Or.inl hb⟩, Upd.refl _ _⟩
    · have hl2 : args.length ≤ 2 := by have := arity_bd (t1, t2); omega
      have hl1 : 0 < args.length := by cases args; exact absurd rfl hnil; simp
      have hbe : ((args.length : Int) == 0) = false := by simp; exact hnil
      have HR0 := Lib.hid hR0
      have HIH := Lib.hid ih
      have HG0 := Lib.hid hg0
      have HGS := Lib.hid hgs
      have HLT := Lib.hid hlta
      have HLEN := Lib.hid hlen
      have hltb : b0 < w.heap.size := World.block_lt_of_cell? w _ c0
      clear ih hR hR0 hg0 hgs hok hargs hlta hlen
      have hst : Upd [] w (w.alloc (.cells #[ei t1, ei t2, .slice none 0 0] 105)) := (Upd.refl _ _).alloc _
      have hst1 := own_new w #[ei t1, ei t2, .slice none 0 0] 105
      have HST := Lib.hid (And.intro hst hst1)
      have HG := Lib.hid (show ∀ b ∈ b0 :: fa, b < w.heap.size from fun b hb => by
        rcases List.mem_cons.1 hb with rfl | hb
        · exact hltb
        · exact HLT.out b hb)
      have hft : ∀ k, (hk : k < args.length) → foldEs (args.take (k + 1)) = foldEs (args.take k) ++ [foldE args[k]] := by
        intro k hk; rw [foldEs_map, foldEs_map, List.take_succ_eq_append_getElem hk, List.map_append]; rfl
      have HFT := Lib.hid hft
      clear hst hst1 hft
      go_enter Try.func44, Try.ntmps44
      go_wp2_with fail
      go_loopw [4, 26] (fun av i wr => ∃ (k : Nat) (vo : Value) (bb : Bool), k ≤ args.length ∧ i = .int .i64 k ∧ av = .bool bb ∧ Hid (bb = (foldEs (args.take k)).all isNum) ∧ Upd [] w wr ∧ wr.cell? ⟨w.heap.size, 0, none⟩ = some (ei t1) ∧ wr.cell? ⟨w.heap.size, 1, none⟩ = some (ei t2) ∧
          wr.cell? ⟨w.heap.size, 2, none⟩ = some vo ∧ Own [w.heap.size] wr ∧ Got R_E (w.heap.size + 1) (fun b => b ∈ b0 :: fa ∨ w.heap.size + 1 ≤ b) 64 wr vo (foldEs (args.take k)))
        (fun _ i _ => args.length - (intOf i).toNat)
      case atStart => exact ⟨0, _, true, Nat.zero_le _, rfl, rfl, Lib.hid rfl, HST.out.1, by simp, by simp, by simp, HST.out.2, Got.nil _ _ _ _ _⟩
      case round =>
        clear HST
        obtain ⟨k, vo, bb, hk, rfl, rfl, HBB, hU, d0, d1, d2, hown0, hgot⟩ := hrel
        by_cases hlt : k < args.length
        · obtain ⟨b, off, u, f, rfl, hbm, hbl, hcell, hsub, hr⟩ := hc k hlt
          have hcell' := hU.keep hcell
          have hr' := R_Ek.upd hr hU (by simp)
          have hgk : goodE 29 args[k] = true := by
            have := HGS.out; rw [goodEs_all, List.all_eq_true] at this; exact this _ (by simp)
          have hlk : (flatE args[k]).length ≤ (flatEs args).length := flatE_arg_le' args k hlt
          have hts := HFT.out k hlt
          have S2 := Lib.hid (HIH.out args[k] wr u f (by omega) (by omega) hgk hr')
          have hR2 := foldE_good 29 _ hgk
          have HR2 := Lib.hid hR2
          have HTS := Lib.hid hts
          have HSUB := Lib.hid hsub
          clear hcell hr hr' hgk hlk hts hc hR2 hsub
          generalize foldE args[k] = y at *
          go_wp2_with fail
          refine S2.out.mono ?_
          rintro e w3 ⟨⟨v3, fp3, rfl, hR3, hfp3⟩, hu3⟩
          have hgot3 := hgot.upd R_Ek hu3 (by simp)
          obtain ⟨us, hou⟩ := hgot3.own
          have hsz := hU.size
          have hsz3 := hu3.size
          obtain ⟨⟨k1, k2⟩, ys⟩ := y
          obtain ⟨pb, ps, pf, rfl, rfl, e0, -, -, -⟩ := R_E_open hR3
          have d0' := hu3.keep d0
          have d1' := hu3.keep d1
          have d2' := hu3.keep d2
          have hN0 : w.heap.size < wr.heap.size := World.block_lt_of_cell? wr _ d0
          have hown0' := hown0.upd hu3 (by simp)
          have hob : ∀ b, vo.ownBlock = some b → w.heap.size + 1 ≤ b ∧ b < wr.heap.size := fun b hb => by
            obtain ⟨us', h9⟩ := hgot.own; exact h9.lt b hb
          have hgb : ∀ b ∈ pb :: pf, vo.ownBlock ≠ some b ∧ (b ∈ b0 :: fa ∨ w.heap.size + 1 ≤ b) := by
            intro b hb
            rcases hfp3 b hb with h | h
            · have hm : b ∈ b0 :: fa := List.mem_cons_of_mem _ (HSUB.out b h)
              exact ⟨fun he => by have := hob b he; have := HG.out b hm; omega, Or.inl hm⟩
            · exact ⟨fun he => by have := hob b he; omega, Or.inr (by omega)⟩
          have hpbN : pb ≠ w.heap.size := by
            rcases hfp3 pb (by simp) with h | h
            · have := HG.out pb (List.mem_cons_of_mem _ (HSUB.out pb h)); omega
            · omega
          have hfz : w3.frozen? ⟨w.heap.size, 2, none⟩ = false := hown0'.frozen (by simp) _
          have hlk2 : (foldEs (args.take k)).length ≤ 2 := by rw [foldEs_map, List.length_map, List.length_take]; omega
          have HGOT := Lib.hid hgot3
          have HR3 := Lib.hid hR3
          have HGB := Lib.hid hgb
          have HOB := Lib.hid hob
          have hltp : pb < w3.heap.size := World.block_lt_of_cell? w3 _ e0
          clear S2 d0 d1 d2 hown0 hgot hgot3 hR3 hfp3 hgb hob
          go_wp2_with (first
            | (at_builtin; refine wpList_append_tight _ rfl _ _ 103 rfl (w.heap.size + 1) 64 i0 (.pointer none) 1 8 Try.underlying103 hi hz0 hz1 hz2 rfl (by decide) _ _ _ rfl (hou.alloc _) ⟨w3.heap.size, 0, none⟩ 1 1 [.pointer (some ⟨pb, 0, none⟩)] rfl rfl ?c1 ?c2 ?c3 ?c4 ?c5 ?_)
            | fail)
          case c1 => intro j u hj; match j, hj with | 0, hj => simp at hj; subst hj; simp [Addr.add]
          case c2 => intro u hu; simp at hu; subst hu; rfl
          case c3 => unfold maxLen; omega
          case c4 => omega
          case c5 => simp; omega
          intro v4 w4 hown4 hg4 ht4
          obtain ⟨a4, cc4, rfl⟩ := ownsRow_form hown4
          have hgot4 := HGOT.out.push R_Ek hou HR3.out HGB.out _ hown4 hg4 (by simpa using ht4)
          have hu4 : Upd vo.ownBlock.toList w3 w4 := ((Upd.refl _ _).alloc _).grown hg4 (fun k hk => Or.inr (by simp [hk]))
          have hNob : w.heap.size ∉ vo.ownBlock.toList := fun hm => by have := HOB.out _ (by simpa using hm); omega
          have hpob : pb ∉ vo.ownBlock.toList := fun hm => (HGB.out pb (by simp)).1 (by simpa using hm)
          have hU4 : Upd [] w w4 := (hU.trans hu3).fresh hu4 (fun b hb => Or.inl (by have := HOB.out b (by simpa using hb); omega))
          have hbN : w4.heap[w.heap.size]? = w3.heap[w.heap.size]? := hu4.block _ (by omega) hNob
          have hbP : w4.heap[pb]? = w3.heap[pb]? := hu4.block _ (by omega) hpob
          have f0 : w4.cell? ⟨w.heap.size, 0, none⟩ = some (ei t1) := (World.cell?_of_block (w := w3) hbN).trans d0'
          have f1 : w4.cell? ⟨w.heap.size, 1, none⟩ = some (ei t2) := (World.cell?_of_block (w := w3) hbN).trans d1'
          have f2 : w4.cell? ⟨w.heap.size, 2, none⟩ = some vo := (World.cell?_of_block (w := w3) hbN).trans d2'
          have hown5 : Own [w.heap.size] w4 := hown0'.frame (by intro b hb; obtain rfl : b = w.heap.size := (by simpa using hb); exact hbN)
          have hfz4 : w4.frozen? ⟨w.heap.size, 2, none⟩ = false := hown5.frozen (by simp) _
          have g0 : (w4.setCell ⟨w.heap.size, 2, none⟩ (.slice a4 ((foldEs (args.take k)).length + 1) cc4)).cell? ⟨pb, 0, none⟩ = some (ei k1) := by
            rw [World.cell?_setCell_other _ _ _ _ (by simp)]; exact (World.cell?_of_block (w := w3) hbP).trans e0
          have hus4 : Upd [w.heap.size] w4 (w4.setCell ⟨w.heap.size, 2, none⟩ (.slice a4 ((foldEs (args.take k)).length + 1) cc4)) := (Upd.refl _ _).setCell (by simp) _
          have hNG : ∀ b ∈ [w.heap.size], b < w.heap.size + 1 ∧ ¬ (b ∈ b0 :: fa ∨ w.heap.size + 1 ≤ b) := by
            intro b hb
            obtain rfl : b = w.heap.size := by simpa using hb
            refine ⟨by omega, fun hG => ?_⟩
            rcases hG with h | h
            · have := HG.out _ h; omega
            · omega
          have hgot5 := hgot4.upd R_Ek hus4 hNG
          rw [← HTS.out] at hgot5
          have HP := Lib.hid (And.intro hgot5 (And.intro (hU4.setCell (p := ⟨w.heap.size, 2, none⟩) (Or.inl (Nat.le_refl _)) (.slice a4 ((foldEs (args.take k)).length + 1) cc4)) (hown5.setCell ⟨w.heap.size, 2, none⟩ (.slice a4 ((foldEs (args.take k)).length + 1) cc4))))
          have hall : ((foldEs (args.take (k + 1))).all isNum) = (bb && (k1 == 0)) := by
            rw [HTS.out, List.all_append, ← HBB.out]; simp [isNum]
          have HALL := Lib.hid hall
          clear hNG hgot5 hgot4 hus4 hown5 hbN hbP hNob hpob hu4 hU4 hg4 ht4 hown4 d0' d1' d2' e0 hfz hown0' hu3 hU hou hall
          cases bb
          · go_wp2_with fail
            go_roundw
            case rel =>
              refine ⟨k + 1, _, false, by omega, by go_num, rfl, Lib.hid (by rw [HALL.out]; rfl), HP.out.2.1, ?_, ?_, ?_, HP.out.2.2, HP.out.1⟩
              · exact (World.cell?_setCell_other _ _ _ _ (by simp)).trans f0
              · exact (World.cell?_setCell_other _ _ _ _ (by simp)).trans f1
              · exact World.cell?_setCell_same _ _ _ f2
            case measure => simp [intOf]; omega
          · go_wp2_with fail
            go_roundw
            case rel =>
              refine ⟨k + 1, _, k1 == 0, by omega, by go_num, rfl, Lib.hid (by rw [HALL.out]; rfl), HP.out.2.1, ?_, ?_, ?_, HP.out.2.2, HP.out.1⟩
              · exact (World.cell?_setCell_other _ _ _ _ (by simp)).trans f0
              · exact (World.cell?_setCell_other _ _ _ _ (by simp)).trans f1
              · exact World.cell?_setCell_same _ _ _ f2
            case measure => simp [intOf]; omega
        · obtain rfl : k = args.length := by omega
          rw [List.take_length] at HBB hgot
          obtain ⟨fs, hsl, hfs⟩ := hgot.slP
          have hnode := R_E_mk (t := (t1, t2)) d0 d1 d2 hsl
          have hfsub : ∀ b ∈ w.heap.size :: fs, b ∈ b0 :: fa ∨ w.heap.size ≤ b := by
            intro b hb
            rcases List.mem_cons.1 hb with rfl | hb
            · exact Or.inr (Nat.le_refl _)
            · rcases hfs b hb with h | h | h
              · exact Or.inr (by omega)
              · exact Or.inl h
              · exact Or.inr (by omega)
          have HFS := Lib.hid hfsub
          have HND := Lib.hid hnode
          have hfold : foldE (.mk (t1, t2) args) = if bb = true then .mk (0, valE [] (.mk (t1, t2) (foldEs args))) [] else .mk (t1, t2) (foldEs args) := by
            rw [foldE, if_neg hnil, ← HBB.out]
          have HF := Lib.hid hfold
          clear hgot hsl hfs hnode hfsub hfold hc d0 d1 d2 hown0 HFT
          cases bb
          · go_wp2_with fail
            go_ret
            refine ⟨⟨_, _, rfl, ?_, HFS.out⟩, hU⟩
            rw [HF.out]; exact HND.out
          · have hgx : goodE 29 (.mk (t1, t2) (foldEs args)) = true := by
              have h1 := HG0.out
              rw [goodE_mk] at h1 ⊢
              simp only [Bool.and_eq_true] at h1 ⊢
              exact ⟨⟨by rw [foldEs_map, List.length_map]; exact h1.1.1, h1.1.2⟩, foldEs_good 29 _ h1.2⟩
            have hk1 : t1 ≠ 1 := by
              intro h
              have := HLEN.out
              subst h
              simp [arity] at this; exact hnil this
            have hg0 := goodE_nums hgx HBB.out.symm hk1
            have S4 := Lib.hid (valueE _ (.mk (t1, t2) (foldEs args)) wr _ (.slice none 0 0) _ [] [] 0 (Nat.le_refl _) hg0 (by simp) (by intro k; simp) HND.out ⟨_, rfl, none, 0, rfl, by simp, by simp [maxLen], by simp, Or.inl ⟨rfl, rfl⟩⟩)
            generalize valE [] (.mk (t1, t2) (foldEs args)) = vx at *
            clear hgx hk1 hg0
            go_wp2_with fail
            refine S4.out.mono ?_
            rintro e w5 ⟨rfl, m, rfl⟩
            go_wp2_with fail
            refine (numberE _ _).mono ?_
            rintro e w6 ⟨⟨v6, rfl, f6, h6, -, h66⟩, hu6⟩
            have HH := Lib.hid (And.intro h6 h66)
            have HU := Lib.hid ((hU.drewN m).trans hu6)
            have hsz := hU.size
            clear h6 h66 hu6 hU
            go_wp2_with fail
            go_ret
            refine ⟨⟨_, _, rfl, ?_, fun b hb => Or.inr (by have := HH.out.2 b hb; simp at this; omega)⟩, HU.out⟩
            rw [HF.out]; exact HH.out.1

end Go.Proofs.Ytnfghgaadnobbaa

namespace Go.Proofs.Ytnfghgaadnobbaa
open Go.RowKit

theorem oneCells (ts : List Tm) : ∀ u ∈ ts.flatMap encT, u.oneCell' = true := by
  intro u hu
  obtain ⟨t, -, ht⟩ := List.mem_flatMap.1 hu
  simp at ht
  rcases ht with rfl | rfl <;> rfl

set_option maxRecDepth 20000 in
set_option maxHeartbeats 4000000 in
theorem foldS (n : Nat) : ∀ (x : Ex) (w : World) (b off cap : Nat) (fp : List Nat), (flatE x).length ≤ n → (flatE x).length ≤ 60 → goodE 29 x = true → R_T1 fp w [.slice (some ⟨b, off, none⟩) (flatE x).length cap] (flatE x) →
    Calls Try.prog 37 #[.slice (some ⟨b, off, none⟩) (flatE x).length cap] w fun r w' => (∃ v', r = .returned v' ∧ New R_T1 w w' v' (flatE (foldE x))) ∧ Upd [] w w' := by
  induction n with
  | zero => intro x w b off cap fp hn; have := flatE_pos x; omega
  | succ n ih =>
    intro x w b off cap fp hn h60 hg hR
    obtain ⟨i0, hi, hz0, hz1, hz2⟩ := info_parts Try.infoT
    obtain ⟨⟨t1, t2⟩, args⟩ := x
    have HR0 := Lib.hid hR
    obtain ⟨_, _, hv, g1, g2, hc⟩ := slF2_open hR
    simp only [Value.slice.injEq] at hv
    obtain ⟨rfl, -, rfl⟩ := hv
    obtain ⟨_, _, hb, -, hbl, q1, q2⟩ := hc 0 (by simp [flatE])
    simp only [Option.some.injEq, Addr.mk.injEq, and_true] at hb
    obtain ⟨rfl, rfl⟩ := hb
    rw [Nat.zero_mul, Nat.add_zero] at q1 q2
    simp only [flatE, List.getElem_cons_zero] at q1 q2
    have hg0 := hg
    rw [goodE_mk] at hg
    simp only [Bool.and_eq_true, decide_eq_true_eq] at hg
    obtain ⟨⟨hlen, hok⟩, hgs⟩ := hg
    unfold maxLen at g2
    have S1 := Lib.hid (l03Arity t1 t2 b off w q1)
    have HIH := Lib.hid ih
    have hpos : 1 ≤ (flatE (.mk (t1, t2) args)).length := flatE_pos _
    clear hc ih hR hg0
    by_cases hz : arity (t1, t2) = 0
    · have hnil : args = [] := List.eq_nil_of_length_eq_zero (by omega)
      subst hnil
      have S2 := Lib.hid (l03Own (flatE (.mk (t1, t2) [])) b off cap w fp (by simp [flatE]) (by omega) HR0.out)
      have hres : foldE (.mk (t1, t2) []) = .mk (t1, t2) [] := by simp [foldE]
      rw [hres]
      generalize flatE (.mk (t1, t2) []) = e at *
      clear hlen hok hgs hres HR0
      go_enter Try.func37, Try.ntmps37
      go_wp2_with fail
      refine S1.out.mono ?_
      rintro r w1 ⟨rfl, rfl⟩
      rw [hz]
      clear hz S1
      go_wp2_with fail
      refine S2.out.mono ?_
      rintro r w2 ⟨⟨v2, rfl, hn2⟩, hu2⟩
      have HN := Lib.hid hn2
      have HU := Lib.hid hu2
      clear hn2 hu2 S2
      go_wp2_with fail
      go_ret
      exact ⟨⟨_, rfl, HN.out⟩, HU.out⟩
    · rcases tOk_kind hok with h | h | h | h
      · subst h; simp [arity] at hz
      · subst h; simp [arity] at hz
      · subst h
        have hop : 0 ≤ t2 ∧ t2 ≤ 8 := by simp [tOk] at hok; exact inB_true hok
        simp [arity] at hlen
        match args, hlen with
        | [y, x], _ =>
        have hel : (flatE (.mk (2, t2) [y, x])).length = 1 + (flatE y).length + (flatE x).length := by simp [flatE, flatEs]; omega
        have hdr : (flatE (.mk (2, t2) [y, x])).drop 1 = flatE y ++ flatE x := by simp [flatE, flatEs]
        have hsub : ((flatE (.mk (2, t2) [y, x])).take (1 + (flatE y).length)).drop 1 = flatE y := by
          rw [List.drop_take, Nat.add_sub_cancel_left, hdr, List.take_left]
        have hsub2 : ((flatE (.mk (2, t2) [y, x])).take (1 + (flatE y).length + (flatE x).length)).drop (1 + (flatE y).length) = flatE x := by
          rw [← hel, List.take_length, ← List.drop_drop, hdr, List.drop_left]
        rw [goodEs_cons, goodEs_cons, Bool.and_eq_true, Bool.and_eq_true] at hgs
        have hy1 := flatE_pos y
        have hx1 := flatE_pos x
        have hoky : okE y = true := by have := hgs.1; unfold goodE at this; rw [Bool.and_eq_true] at this; exact this.1
        have S2 := Lib.hid (l03End y (flatE (.mk (2, t2) [y, x])) (flatE x) 1 _ w fp hoky (by omega) hdr HR0.out)
        obtain ⟨f9, hs9, -⟩ := slF_sub (n := 2) (by intro x; rfl) HR0.out 1 (1 + (flatE y).length) (by omega) (by omega)
        rw [hsub, Nat.add_sub_cancel_left] at hs9
        obtain ⟨f8, hs8, -⟩ := slF_sub (n := 2) (by intro x; rfl) HR0.out (1 + (flatE y).length) (1 + (flatE y).length + (flatE x).length) (by omega) (by omega)
        rw [hsub2, Nat.add_sub_cancel_left] at hs8
        have S3 := Lib.hid (HIH.out y w b (off + 1 * 2) (cap - 1) f9 (by omega) (by omega) hgs.1 hs9)
        have S4 := Lib.hid (fun (w' : World) (h : Upd [] w w') => HIH.out x w' b (off + (1 + (flatE y).length) * 2) (cap - (1 + (flatE y).length)) f8 (by omega) (by omega) hgs.2.1 (R_T1k.upd hs8 h (by simp)))
        have hgy := foldE_good 29 y hgs.1
        have hgx := foldE_good 29 x hgs.2.1
        have hfold : foldE (.mk (2, t2) [y, x]) = if isNum (foldE y) && isNum (foldE x) then .mk (0, valE [] (.mk (2, t2) [foldE y, foldE x])) [] else .mk (2, t2) [foldE y, foldE x] := by
          rw [foldE, if_neg (by simp)]; simp [foldEs]
        have hlf := foldE_len y
        have hlx := foldE_len x
        have har : arity (2, t2) = 2 := by simp [arity]
        rw [har] at S1
        have hEY : 1 + (flatE y).length + (flatE x).length ≤ (flatE (.mk (2, t2) [y, x])).length := by omega
        have hEY1 : (flatE (.mk (2, t2) [y, x])).length = (1 + (flatE y).length) + (flatE x).length := by omega
        have hEY2 : (1 : Int) + (flatE y).length ≤ cap := by omega
        have hEY3 : ((1 : Int) + (flatE y).length) < cap := by omega
        generalize foldE y = z at *
        generalize foldE x = z' at *
        generalize hE : (flatE (.mk (2, t2) [y, x])).length = E at *
        generalize hY : (flatE y).length = Y at *
        generalize hX : (flatE x).length = X at *
        have HF := Lib.hid hfold
        have HGY := Lib.hid hgy
        have HGX := Lib.hid hgx
        subst hEY1
        clear hel hdr hsub hsub2 hgs hoky hs9 hs8 hgy hgx hfold har hz hok HIH hE hY hX
        go_enter Try.func37, Try.ntmps37
        go_wp2_with fail
        refine S1.out.mono ?_
        rintro r w1 ⟨rfl, rfl⟩
        clear S1
        go_wp2_with fail
        refine S2.out.mono ?_
        rintro r w1 ⟨rfl, rfl⟩
        clear S2
        go_wp2_with fail
        refine S3.out.mono ?_
        rintro r w2 ⟨⟨v2, rfl, hn2⟩, hu2⟩
        obtain ⟨f2, h2, -, -⟩ := hn2
        obtain ⟨⟨k1, k2⟩, zs⟩ := z
        obtain ⟨b2, o2, c2, rfl, hs1, hs2, hs3, hs4⟩ := slF_src h2 (flatE_pos _)
        have hd12 : w2.cell? ⟨b2, o2, none⟩ = some (ei k1) ∧ w2.cell? ⟨b2, o2 + 1, none⟩ = some (ei k2) := by
          have e0 := hs4 0 (ei k1) (by simp [flatE])
          have e1 := hs4 1 (ei k2) (by simp [flatE])
          rw [addr_add] at e0 e1
          exact ⟨by simpa using e0, e1⟩
        obtain ⟨d1, d2⟩ := hd12
        have q1' := hu2.keep q1
        have q2' := hu2.keep q2
        have hz1' := flatE_pos (.mk (k1, k2) zs)
        have HS4 := Lib.hid hs4
        have HO := Lib.hid (oneCells (flatE (.mk (k1, k2) zs)))
        have HU := Lib.hid hu2
        have S5 := Lib.hid (S4.out w2 hu2)
        have hsz := hu2.size
        unfold maxLen at hs2
        clear S3 S4 h2 hs4 q1 q2 hu2
        generalize hL : (flatE (.mk (k1, k2) zs)).length = L at *
        have HL := Lib.hid hL
        clear hL
        go_wp2_with fail
        refine S5.out.mono ?_
        rintro r w3 ⟨⟨v3, rfl, hn3⟩, hu3⟩
        obtain ⟨f3, h3, -, -⟩ := hn3
        obtain ⟨⟨l1, l2⟩, ws⟩ := z'
        obtain ⟨b3, o3, c3, rfl, hs1', hs2', hs3', hs4'⟩ := slF_src h3 (flatE_pos _)
        have hd12 : w3.cell? ⟨b3, o3, none⟩ = some (ei l1) ∧ w3.cell? ⟨b3, o3 + 1, none⟩ = some (ei l2) := by
          have e0 := hs4' 0 (ei l1) (by simp [flatE])
          have e1 := hs4' 1 (ei l2) (by simp [flatE])
          rw [addr_add] at e0 e1
          exact ⟨by simpa using e0, e1⟩
        obtain ⟨e1, e2⟩ := hd12
        have q1 := hu3.keep q1'
        have q2 := hu3.keep q2'
        have m1 := hu3.keep d1
        have m2 := hu3.keep d2
        have hw1' := flatE_pos (.mk (l1, l2) ws)
        have HS4' := Lib.hid hs4'
        have HS5 := Lib.hid (fun j u hj => hu3.keep (HS4.out j u hj))
        have HO' := Lib.hid (oneCells (flatE (.mk (l1, l2) ws)))
        have HU3 := Lib.hid (HU.out.trans hu3)
        have hsz3 := hu3.size
        have HD := Lib.hid (show (flatE (Ex.mk (2, t2) [.mk (k1, k2) zs, .mk (l1, l2) ws])) = (2, t2) :: (flatE (.mk (k1, k2) zs) ++ flatE (.mk (l1, l2) ws)) by simp [flatE, flatEs])
        unfold maxLen at hs2'
        clear S5 h3 hs4' q1' q2' d1 d2 hu3
        generalize hL' : (flatE (.mk (l1, l2) ws)).length = L' at *
        have HL' := Lib.hid hL'
        clear hL'
        by_cases hk : k1 = 0 ∧ l1 = 0
        · obtain ⟨rfl, rfl⟩ := hk
          have hb1 : 0 ≤ k2 ∧ k2 ≤ 63 := by
            obtain ⟨m, hm, h⟩ := isNum_good HGY.out (by simp [isNum])
            simp only [Ex.mk.injEq, Prod.mk.injEq, true_and] at hm
            rw [hm.1]; exact h
          have hb2 : 0 ≤ l2 ∧ l2 ≤ 63 := by
            obtain ⟨m, hm, h⟩ := isNum_good HGX.out (by simp [isNum])
            simp only [Ex.mk.injEq, Prod.mk.injEq, true_and] at hm
            rw [hm.1]; exact h
          have hres : flatE (foldE (.mk (2, t2) [y, x])) = [(0, opV t2 k2 l2)] := by
            obtain ⟨m, hm, -⟩ := isNum_good HGY.out (by simp [isNum])
            obtain ⟨m', hm', -⟩ := isNum_good HGX.out (by simp [isNum])
            simp only [Ex.mk.injEq, Prod.mk.injEq, true_and] at hm hm'
            obtain ⟨rfl, rfl⟩ := hm
            obtain ⟨rfl, rfl⟩ := hm'
            rw [HF.out, if_pos (by simp [isNum])]
            simp [flatE, flatEs, valE, valEs]
          have HRES := Lib.hid hres
          have HLIT := Lib.hid (fun (w : World) (q : Int) => World.ownsRow_lit (base := w.heap.size) (e := 59) (size := 2) w #[ei 0, ei q] 1 (Nat.le_refl _) (by simp [maxLen]) (by simp))
          have S6 := Lib.hid (fun w => operateS t2 k2 l2 w hop hb1 hb2)
          clear hres
          generalize opV t2 k2 l2 = q at *
          have p1 : 0 < L := by omega
          have p2 : 0 < L' := by omega
          have p3 : 0 < 1 + Y + X := by omega
          have p4 : (0 : Int) < (L : Int) := by omega
          have p5 : (0 : Int) < (L' : Int) := by omega
          have p6 : (0 : Int) < 1 + (Y : Int) + (X : Int) := by omega
          go_wp2_with fail
          go_region_held3 (fun w' => w'.cell? ⟨b, off + 1, none⟩ = some (ei t2) ∧ w'.cell? ⟨b2, o2 + 1, none⟩ = some (ei k2) ∧ w'.cell? ⟨b3, o3 + 1, none⟩ = some (ei l2)) (go_keep)
            (first | (go_at_call 79; refine (S6.out _).mono ?_; rintro r w4 ⟨rfl, rfl⟩))
          go_wp2_with fail
          go_ret
          refine ⟨⟨_, rfl, ?_⟩, HU3.out.drew.alloc _⟩
          rw [HRES.out]
          exact (New.ofOwns2 (e := 59) (by simpa using (HLIT.out w3 q).drew)).mono (by omega)
        · have hres : flatE (foldE (.mk (2, t2) [y, x])) = (2, t2) :: (flatE (.mk (k1, k2) zs) ++ flatE (.mk (l1, l2) ws)) := by
            rw [HF.out, if_neg (by simp only [isNum, Bool.and_eq_true, beq_iff_eq]; exact hk), HD.out]
          have HRES := Lib.hid hres
          have hlit := World.ownsRow_lit (base := w.heap.size) (e := 59) (size := 2) w3 #[ei 2, ei t2] 1 (by omega) (by simp [maxLen]) (by simp)
          have HS6 := Lib.hid (fun j u hj => ((Upd.refl [] w3).alloc (.cells #[ei 2, ei t2] 59)).keep (HS5.out j u hj))
          have HS7 := Lib.hid (fun (w' : World) (h : Upd [] w3 w') j u hj => h.keep (HS4'.out j u hj))
          have hhk : (k1 = 0 ∧ ¬ l1 = 0) ∨ ¬ k1 = 0 := by omega
          clear hres hk
          have hmain : ∀ (v4 : Value) (w4 : World), w4.ownsRow w.heap.size 59 2 v4 (1 + L) (#[ei 2, ei t2].toList ++ (flatE (.mk (k1, k2) zs)).flatMap encT) → (w3.alloc (.cells #[ei 2, ei t2] 59)).grownBy w4 (Value.ownBlock (.slice (some ⟨w3.heap.size, 0, none⟩) 1 1)) → Upd [] w3 w4 := by
            intro v4 w4 hown4 hg4
            exact ((Upd.refl [] w3).alloc _).grown hg4 (fun k hk => Or.inl (by simp [Value.ownBlock] at hk; omega))
          have HM := Lib.hid hmain
          clear hmain
          generalize flatE (.mk (k1, k2) zs) = FK at *
          generalize flatE (.mk (l1, l2) ws) = FL at *
          rcases hhk with ⟨rfl, hk2⟩ | hk1
          all_goals
            go_wp2_with (first
              | (at_builtin; refine wpList_append_tight _ rfl _ _ 53 rfl w.heap.size 59 i0 (.agg #[.int .i64 0, .int .i64 0]) 2 16 Try.underlying53 hi hz0 hz1 hz2 rfl (by decide) _ _ _ rfl hlit ⟨b2, o2, none⟩ L c2 _ rfl hs3 HS6.out HO.out (by unfold maxLen; omega) (by omega) (by simp; omega) ?_)
              | fail)
            intro v4 w4 hown4 hg4 ht4
            have hu4 := HM.out v4 w4 (by simpa using hown4) hg4
            have hlt4 := hown4.lt
            have HS8 := Lib.hid (HS7.out w4 hu4)
            have HU4 := Lib.hid (HU3.out.trans hu4)
            have hsz4 := hu4.size
            obtain ⟨a4, cc4, rfl⟩ := ownsRow_form hown4
            clear hg4 ht4 hu4 hlit
            go_wp2_with (first
              | (at_builtin; refine wpList_append_tight _ rfl _ _ 53 rfl w.heap.size 59 i0 (.agg #[.int .i64 0, .int .i64 0]) 2 16 Try.underlying53 hi hz0 hz1 hz2 rfl (by decide) _ _ _ rfl hown4 ⟨b3, o3, none⟩ L' c3 _ rfl hs3' HS8.out HO'.out (by unfold maxLen; omega) (by omega) (by omega) ?_)
              | fail)
            intro v5 w5 hown5 hg5 ht5
            have HN := Lib.hid (show New R_T1 w w5 v5 ((2, t2) :: (FK ++ FL)) from New.ofOwns2 (e := 59) (by simpa [HL.out, HL'.out, Nat.add_comm, Nat.add_left_comm, Nat.add_assoc] using hown5))
            have HU5 := Lib.hid (HU4.out.grown hg5 (fun k hk => Or.inl (hlt4 k hk).1))
            clear hown5 hg5 ht5 hown4 hlt4
            go_wp2_with fail
            go_ret
            refine ⟨⟨_, rfl, ?_⟩, HU5.out⟩
            rw [HRES.out]; exact HN.out
      · subst h
        simp [arity] at hlen
        match args, hlen with
        | [y], _ =>
        have hel : (flatE (.mk (3, t2) [y])).length = 1 + (flatE y).length := by simp [flatE, flatEs]; omega
        have hdr : (flatE (.mk (3, t2) [y])).drop 1 = flatE y ++ [] := by simp [flatE, flatEs]
        have hsub : ((flatE (.mk (3, t2) [y])).take (1 + (flatE y).length)).drop 1 = flatE y := by
          rw [← hel, List.take_length, hdr, List.append_nil]
        rw [goodEs_cons, Bool.and_eq_true] at hgs
        have hy1 := flatE_pos y
        have hoky : okE y = true := by have := hgs.1; unfold goodE at this; rw [Bool.and_eq_true] at this; exact this.1
        have S2 := Lib.hid (l03End y (flatE (.mk (3, t2) [y])) [] 1 _ w fp hoky (by omega) hdr HR0.out)
        obtain ⟨f9, hs9, -⟩ := slF_sub (n := 2) (by intro x; rfl) HR0.out 1 (1 + (flatE y).length) (by omega) (by omega)
        rw [hsub, Nat.add_sub_cancel_left] at hs9
        have S3 := Lib.hid (HIH.out y w b (off + 1 * 2) (cap - 1) f9 (by omega) (by omega) hgs.1 hs9)
        have hgy := foldE_good 29 y hgs.1
        have hfold : foldE (.mk (3, t2) [y]) = if isNum (foldE y) = true then .mk (0, valE [] (.mk (3, t2) [foldE y])) [] else .mk (3, t2) [foldE y] := by
          rw [foldE, if_neg (by simp)]; simp [foldEs]
        have hlf := foldE_len y
        have har : arity (3, t2) = 1 := by simp [arity]
        rw [har] at S1
        have hEY : 1 + (flatE y).length ≤ (flatE (.mk (3, t2) [y])).length := by omega
        have hEY2 : (1 : Int) + (flatE y).length ≤ cap := by omega
        generalize foldE y = z at *
        generalize hE : (flatE (.mk (3, t2) [y])).length = E at *
        generalize hY : (flatE y).length = Y at *
        have HF := Lib.hid hfold
        have HGY := Lib.hid hgy
        clear hel hdr hsub hgs hoky hs9 hgy hfold har hz hok HIH hE hY
        go_enter Try.func37, Try.ntmps37
        go_wp2_with fail
        refine S1.out.mono ?_
        rintro r w1 ⟨rfl, rfl⟩
        clear S1
        go_wp2_with fail
        refine S2.out.mono ?_
        rintro r w1 ⟨rfl, rfl⟩
        clear S2
        go_wp2_with fail
        refine S3.out.mono ?_
        rintro r w2 ⟨⟨v2, rfl, hn2⟩, hu2⟩
        obtain ⟨f2, h2, ho2, hge2⟩ := hn2
        obtain ⟨⟨k1, k2⟩, zs⟩ := z
        obtain ⟨b2, o2, c2, rfl, hs1, hs2, hs3, hs4⟩ := slF_src h2 (flatE_pos _)
        obtain ⟨_, _, hv, -, -, hc2⟩ := slF2_open h2
        simp only [Value.slice.injEq] at hv
        obtain ⟨rfl, -, rfl⟩ := hv
        obtain ⟨_, _, hb, -, -, d1, d2⟩ := hc2 0 (flatE_pos _)
        simp only [Option.some.injEq, Addr.mk.injEq, and_true] at hb
        obtain ⟨rfl, rfl⟩ := hb
        simp only [flatE, List.getElem_cons_zero, Nat.zero_mul, Nat.add_zero] at d1 d2
        have q1' := hu2.keep q1
        have q2' := hu2.keep q2
        have hz1' := flatE_pos (.mk (k1, k2) zs)
        have HS4 := Lib.hid hs4
        have HO := Lib.hid (oneCells (flatE (.mk (k1, k2) zs)))
        have HU := Lib.hid hu2
        have HD := Lib.hid (show (flatE (Ex.mk (3, t2) [.mk (k1, k2) zs])) = (3, t2) :: flatE (.mk (k1, k2) zs) by simp [flatE, flatEs])
        have hsz := hu2.size
        unfold maxLen at hs2
        clear S3 h2 ho2 hge2 hs4 hc2 q1 q2 hu2
        generalize hL : (flatE (.mk (k1, k2) zs)).length = L at *
        have HL := Lib.hid hL
        clear hL
        by_cases hk : k1 = 0
        · subst hk
          have hres : flatE (foldE (.mk (3, t2) [y])) = [(0, truthV (k2 == 0))] := by
            obtain ⟨m, hm, -⟩ := isNum_good HGY.out (by simp [isNum])
            simp only [Ex.mk.injEq, Prod.mk.injEq, true_and] at hm
            obtain ⟨rfl, rfl⟩ := hm
            rw [HF.out, if_pos (by simp [isNum])]
            simp [flatE, flatEs, valE, valEs]
          have HRES := Lib.hid hres
          have HLIT := Lib.hid (fun (w : World) (q : Int) => World.ownsRow_lit (base := w.heap.size) (e := 59) (size := 2) w #[ei 0, ei q] 1 (Nat.le_refl _) (by simp [maxLen]) (by simp))
          clear hres
          go_wp2_with fail
          refine (truthS _ _).mono ?_
          rintro r w3 ⟨rfl, rfl⟩
          generalize truthV (k2 == 0) = q at *
          go_wp2_with fail
          go_ret
          refine ⟨⟨_, rfl, ?_⟩, HU.out.alloc _⟩
          rw [HRES.out]
          exact (New.ofOwns2 (e := 59) (by simpa using HLIT.out w2 q)).mono hsz
        · have hres : flatE (foldE (.mk (3, t2) [y])) = (3, t2) :: flatE (.mk (k1, k2) zs) := by
            rw [HF.out, if_neg (by simp [isNum, hk]), HD.out]
          have HRES := Lib.hid hres
          have hlit := World.ownsRow_lit (base := w.heap.size) (e := 59) (size := 2) w2 #[ei 3, ei t2] 1 hsz (by simp [maxLen]) (by simp)
          have HS5 := Lib.hid (fun j u hj => ((Upd.refl [] w2).alloc (.cells #[ei 3, ei t2] 59)).keep (HS4.out j u hj))
          clear hres
          go_wp2_with (first
            | (at_builtin; refine wpList_append_tight _ rfl _ _ 53 rfl w.heap.size 59 i0 (.agg #[.int .i64 0, .int .i64 0]) 2 16 Try.underlying53 hi hz0 hz1 hz2 rfl (by decide) _ _ _ rfl hlit ⟨b2, o2, none⟩ L c2 ((flatE (.mk (k1, k2) zs)).flatMap encT) rfl hs3 HS5.out HO.out ?c3 ?c4 ?c5 ?_)
            | fail)
          case c3 => unfold maxLen; omega
          case c4 => omega
          case c5 => simp; omega
          intro v4 w4 hown4 hg4 ht4
          have HN := Lib.hid (show New R_T1 w w4 v4 ((3, t2) :: flatE (.mk (k1, k2) zs)) from New.ofOwns2 (e := 59) (by simpa [HL.out, Nat.add_comm] using hown4))
          have hlt4 := hlit.lt
          have HU4 := Lib.hid (show Upd [] w w4 from (HU.out.alloc _).grown hg4 (fun k hk => Or.inl (hlt4 k hk).1))
          clear hown4 hg4 ht4 hlit hlt4
          go_wp2_with fail
          go_ret
          refine ⟨⟨_, rfl, ?_⟩, HU4.out⟩
          rw [HRES.out]; exact HN.out

theorem fold_b (e : List Tm) : mkF_T1 (foldRes e).1 ≤ 300 := by
  unfold foldRes
  split
  · rename_i h
    obtain ⟨-, hfl⟩ := treeOf_ok e h
    have hlen := eOk_len h
    have := foldE_len (treeOf e h)
    rw [hfl] at this
    unfold mkF_T1; simp only; omega
  · simp [mkF_T1]

end Go.Proofs.Ytnfghgaadnobbaa

namespace Go.Proofs.Ytnfghgaadnobbaa
open Go.RowKit

theorem dropEq {α : Type} [BEq α] (xs ys : List α) (k : Nat) (h1 : k < xs.length) (h2 : k < ys.length) : (xs.drop k == ys.drop k) = (xs[k] == ys[k] && (xs.drop (k + 1) == ys.drop (k + 1))) := by
  rw [List.drop_eq_getElem_cons h1, List.drop_eq_getElem_cons h2]; rfl

theorem tmFields : (Try.prog.fieldsOf 59).toList.map (fun f => (f.name, f.type, f.offset)) = [("Kind", 2, 0), ("Value", 2, 1)] := by kernel_rfl
theorem tmStood : Try.prog.stoodInHeld 59 = false := by kernel_rfl
theorem tmGuard : Try.prog.eqGuardType Try.prog.depth 59 = false := by kernel_rfl
theorem tmUnder : Try.prog.underlying 59 = some (.struct (Try.prog.fieldsOf 59)) := by kernel_rfl
theorem fieldsStep {P : Program} (w : World) (d : Nat) (xs ys : Array Value) (n : String) (T : TypeId) (o : Nat) (f : Field) (fs : List Field) (hf : (f.name, f.type, f.offset) = (n, T, o)) (hn : n ≠ "_") (a b : Value) (r : Bool)
    (h1 : (part T xs o).run P w = .ok a w) (h2 : (part T ys o).run P w = .ok b w) (h3 : (Op.equalIn d T a b).run P w = .ok r w) :
    (Op.eqFields d xs ys (f :: fs)).run P w = if r then (Op.eqFields d xs ys fs).run P w else .ok false w := by
  simp only [Prod.mk.injEq] at hf
  obtain ⟨rfl, rfl, rfl⟩ := hf
  simp only [Op.eqFields, Sem.run_bind, hn, ne_eq, not_false_eq_true, if_true, h1, h2, h3, Result.andThen_ok]
  cases r <;> simp
theorem neqTm (x1 x2 y1 y2 : Int) (w : World) :
    (binOp .neq 59 (.agg #[ei x1, ei x2]) (.agg #[ei y1, ei y2])).run Try.prog w = .ok (.bool (!(((x1, x2) : Tm) == (y1, y2)))) w := by
  rw [run_neq_struct, run_equalIn_agg w 9999 _ _ _ tmUnder tmStood]
  obtain ⟨f1, f2, hf⟩ : ∃ f1 f2, (Try.prog.fieldsOf 59).toList = [f1, f2] := by
    have := congrArg List.length tmFields
    match h : (Try.prog.fieldsOf 59).toList with
    | [f1, f2] => exact ⟨f1, f2, rfl⟩
    | [] => rw [h] at this; simp at this
    | [_] => rw [h] at this; simp at this
    | _ :: _ :: _ :: _ => rw [h] at this; simp at this
  have hff := tmFields
  rw [hf] at hff ⊢
  simp only [List.map_cons, List.map_nil, List.cons.injEq, and_true] at hff
  obtain ⟨g1, g2⟩ := hff
  rw [fieldsStep w 9999 _ _ _ _ _ f1 _ g1 (by decide) (ei x1) (ei y1) (x1 == y1) (by go_simp) (by go_simp) (run_equalIn_int w 9998 _ _ .i64 _ _ Try.underlying2),
    fieldsStep w 9999 _ _ _ _ _ f2 _ g2 (by decide) (ei x2) (ei y2) (x2 == y2) (by go_simp) (by go_simp) (run_equalIn_int w 9998 _ _ .i64 _ _ Try.underlying2)]
  have key : (((x1, x2) : Tm) == (y1, y2)) = (x1 == y1 && x2 == y2) := by
    rw [Bool.eq_iff_iff]
    simp only [beq_iff_eq, Bool.and_eq_true, Prod.mk.injEq]
  rw [key]
  cases h1 : (x1 == y1)
  · simp [Result.andThen]
  cases h2 : (x2 == y2)
  · simp [Result.andThen]
  simp [Result.andThen, Op.eqFields]

set_option maxRecDepth 20000 in
set_option maxHeartbeats 2000000 in
theorem equalIL (v1 v2 : Value) (xs ys : List Int) (w : World) (f1 f2 : List Nat) (h1 : R_I1 f1 w [v1] xs) (h2 : R_I1 f2 w [v2] ys) :
    Calls Try.prog 111 #[v1, v2] w fun e w' => e = .returned (.bool (xs == ys)) ∧ ∃ n, w' = w.drewN n := by
  obtain ⟨a1, c1, rfl, hl1, hm1, hc1⟩ := slF1_open h1
  obtain ⟨a2, c2, rfl, hl2, hm2, hc2⟩ := slF1_open h2
  unfold maxLen at hm1 hm2
  clear h1 h2
  by_cases hlen : xs.length = ys.length
  · have hbe : ((xs.length : Int) != (ys.length : Int)) = false := by simp [hlen]
    have HL := Lib.hid hlen
    have HC1 := Lib.hid hc1
    have HC2 := Lib.hid hc2
    clear hlen hc1 hc2
    go_enter Try.func111, Try.ntmps111
    go_wp2_with fail
    go_loopw [13] (fun i wr => ∃ k : Nat, k ≤ xs.length ∧ i = .int .i64 k ∧ Hid ((xs.drop k == ys.drop k) = (xs == ys)) ∧ ∃ n, wr = w.drewN n) (fun i _ => xs.length - (intOf i).toNat)
    case atStart => exact ⟨0, Nat.zero_le _, rfl, Lib.hid rfl, 0, rfl⟩
    case round =>
      obtain ⟨k, hk, rfl, HF, n, rfl⟩ := hrel
      by_cases hlt : k < xs.length
      · have hlt2 : k < ys.length := by have := HL.out; omega
        obtain ⟨b1, o1, rfl, -, hb1, p1⟩ := HC1.out k hlt
        obtain ⟨b2, o2, rfl, -, hb2, p3⟩ := HC2.out k hlt2
        have HF2 := Lib.hid ((dropEq xs ys k hlt hlt2).symm.trans HF.out)
        have k1 : (k : Int) < (xs.length : Int) := by omega
        have k2 : (k : Int) < (ys.length : Int) := by omega
        clear HF
        generalize xs[k] = x at *
        generalize ys[k] = y at *
        skip
        cases hq : (x == y) with
        | false =>
          rw [hq] at HF2
          have HF2 := Lib.hid (show (xs == ys) = false by rw [← HF2.out]; rfl)
          have hne : (x != y) = true := by simpa using hq
          have hne2 : (x == y) = false := hq
          clear hq
          go_wp2_with fail
          go_quiet (fail)
          clear hne hne2
          go_wp2_with fail
          go_ret
          exact ⟨by rw [HF2.out]; rfl, _, by rw [drewN_add]⟩
        | true =>
          rw [hq] at HF2
          have HF2 := Lib.hid (show (xs.drop (k + 1) == ys.drop (k + 1)) = (xs == ys) by rw [← HF2.out]; rfl)
          have hne : (x != y) = false := by simpa using hq
          have hne2 : (x == y) = true := hq
          clear hq
          go_wp2_with fail
          go_quiet (fail)
          clear hne hne2
          go_wp2_with fail
          go_roundw
          case rel => exact ⟨k + 1, by omega, by go_num, HF2, _, rfl⟩
          case measure => simp [intOf]; omega
      · have hd : (xs == ys) = true := by
          rw [← HF.out, List.drop_of_length_le (by omega), List.drop_of_length_le (by have := HL.out; omega)]; rfl
        have HD := Lib.hid hd
        clear HF hd
        go_wp2_with fail
        go_ret
        exact ⟨by rw [HD.out]; rfl, n, rfl⟩
  · have hbe : ((xs.length : Int) != (ys.length : Int)) = true := by simpa using fun h => hlen (by omega)
    have HD := Lib.hid (show (xs == ys) = false by
      rw [beq_eq_false_iff_ne]; intro h; exact hlen (by rw [h]))
    clear hlen hc1 hc2
    go_enter Try.func111, Try.ntmps111
    go_wp2_with fail
    go_ret
    exact ⟨by rw [HD.out]; rfl, 0, rfl⟩

set_option maxRecDepth 20000 in
set_option maxHeartbeats 2000000 in
theorem sameIL (v1 v2 : Value) (xs ys : List Int) (w : World) (f1 f2 : List Nat) (h1 : R_I1 f1 w [v1] xs) (h2 : R_I1 f2 w [v2] ys) :
    Calls Try.prog 106 #[v1, v2] w fun e w' => e = .returned (.bool (xs == ys)) ∧ ∃ n, w' = w.drewN n := by
  obtain ⟨a1, c1, rfl, hl1, hm1, hc1⟩ := slF1_open h1
  obtain ⟨a2, c2, rfl, hl2, hm2, hc2⟩ := slF1_open h2
  unfold maxLen at hm1 hm2
  clear h1 h2
  by_cases hlen : xs.length = ys.length
  · have hbe : ((xs.length : Int) != (ys.length : Int)) = false := by simp [hlen]
    have HL := Lib.hid hlen
    have HC1 := Lib.hid hc1
    have HC2 := Lib.hid hc2
    clear hlen hc1 hc2
    go_enter Try.func106, Try.ntmps106
    go_wp2_with fail
    go_loopw [5] (fun i wr => ∃ k : Nat, k ≤ xs.length ∧ i = .int .i64 k ∧ Hid ((xs.drop k == ys.drop k) = (xs == ys)) ∧ ∃ n, wr = w.drewN n) (fun i _ => xs.length - (intOf i).toNat)
    case atStart => exact ⟨0, Nat.zero_le _, rfl, Lib.hid rfl, 0, rfl⟩
    case round =>
      obtain ⟨k, hk, rfl, HF, n, rfl⟩ := hrel
      by_cases hlt : k < xs.length
      · have hlt2 : k < ys.length := by have := HL.out; omega
        obtain ⟨b1, o1, rfl, -, hb1, p1⟩ := HC1.out k hlt
        obtain ⟨b2, o2, rfl, -, hb2, p3⟩ := HC2.out k hlt2
        have HF2 := Lib.hid ((dropEq xs ys k hlt hlt2).symm.trans HF.out)
        have k1 : (k : Int) < (xs.length : Int) := by omega
        have k2 : (k : Int) < (ys.length : Int) := by omega
        clear HF
        generalize xs[k] = x at *
        generalize ys[k] = y at *
        skip
        cases hq : (x == y) with
        | false =>
          rw [hq] at HF2
          have HF2 := Lib.hid (show (xs == ys) = false by rw [← HF2.out]; rfl)
          have hne : (x != y) = true := by simpa using hq
          have hne2 : (x == y) = false := hq
          clear hq
          go_wp2_with fail
          go_quiet (fail)
          clear hne hne2
          go_wp2_with fail
          go_ret
          exact ⟨by rw [HF2.out]; rfl, _, by rw [drewN_add]⟩
        | true =>
          rw [hq] at HF2
          have HF2 := Lib.hid (show (xs.drop (k + 1) == ys.drop (k + 1)) = (xs == ys) by rw [← HF2.out]; rfl)
          have hne : (x != y) = false := by simpa using hq
          have hne2 : (x == y) = true := hq
          clear hq
          go_wp2_with fail
          go_quiet (fail)
          clear hne hne2
          go_wp2_with fail
          go_roundw
          case rel => exact ⟨k + 1, by omega, by go_num, HF2, _, rfl⟩
          case measure => simp [intOf]; omega
      · have hd : (xs == ys) = true := by
          rw [← HF.out, List.drop_of_length_le (by omega), List.drop_of_length_le (by have := HL.out; omega)]; rfl
        have HD := Lib.hid hd
        clear HF hd
        go_wp2_with fail
        go_ret
        exact ⟨by rw [HD.out]; rfl, n, rfl⟩
  · have hbe : ((xs.length : Int) != (ys.length : Int)) = true := by simpa using fun h => hlen (by omega)
    have HD := Lib.hid (show (xs == ys) = false by
      rw [beq_eq_false_iff_ne]; intro h; exact hlen (by rw [h]))
    clear hlen hc1 hc2
    go_enter Try.func106, Try.ntmps106
    go_wp2_with fail
    go_ret
    exact ⟨by rw [HD.out]; rfl, 0, rfl⟩

set_option maxRecDepth 20000 in
set_option maxHeartbeats 2000000 in
theorem equalTL (v1 v2 : Value) (xs ys : List Tm) (w : World) (f1 f2 : List Nat) (h1 : R_T1 f1 w [v1] xs) (h2 : R_T1 f2 w [v2] ys) :
    Calls Try.prog 48 #[v1, v2] w fun e w' => e = .returned (.bool (xs == ys)) ∧ ∃ n, w' = w.drewN n := by
  obtain ⟨a1, c1, rfl, hl1, hm1, hc1⟩ := slF2_open h1
  obtain ⟨a2, c2, rfl, hl2, hm2, hc2⟩ := slF2_open h2
  unfold maxLen at hm1 hm2
  clear h1 h2
  by_cases hlen : xs.length = ys.length
  · have hbe : ((xs.length : Int) != (ys.length : Int)) = false := by simp [hlen]
    have HL := Lib.hid hlen
    have HC1 := Lib.hid hc1
    have HC2 := Lib.hid hc2
    clear hlen hc1 hc2
    go_enter Try.func48, Try.ntmps48
    go_wp2_with fail
    go_loopw [13] (fun i wr => ∃ k : Nat, k ≤ xs.length ∧ i = .int .i64 k ∧ Hid ((xs.drop k == ys.drop k) = (xs == ys)) ∧ ∃ n, wr = w.drewN n) (fun i _ => xs.length - (intOf i).toNat)
    case atStart => exact ⟨0, Nat.zero_le _, rfl, Lib.hid rfl, 0, rfl⟩
    case round =>
      obtain ⟨k, hk, rfl, HF, n, rfl⟩ := hrel
      by_cases hlt : k < xs.length
      · have hlt2 : k < ys.length := by have := HL.out; omega
        obtain ⟨b1, o1, rfl, -, hb1, p1, p2⟩ := HC1.out k hlt
        obtain ⟨b2, o2, rfl, -, hb2, p3, p4⟩ := HC2.out k hlt2
        have HF2 := Lib.hid ((dropEq xs ys k hlt hlt2).symm.trans HF.out)
        have k1 : (k : Int) < (xs.length : Int) := by omega
        have k2 : (k : Int) < (ys.length : Int) := by omega
        clear HF
        generalize xs[k] = x at *
        generalize ys[k] = y at *
        obtain ⟨x1, x2⟩ := x
        obtain ⟨y1, y2⟩ := y
        simp only at p1 p2 p3 p4
        have hne := fun W => neqTm x1 x2 y1 y2 W
        have hgd := tmGuard
        cases hq : (((x1, x2) : Tm) == (y1, y2)) with
        | false =>
          rw [hq] at HF2 hne
          have HF2 := Lib.hid (show (xs == ys) = false by rw [← HF2.out]; rfl)
          clear hq
          go_wp2_with fail
          go_quiet (fail)
          clear hne hgd
          go_wp2_with fail
          go_ret
          exact ⟨by rw [HF2.out]; rfl, _, by rw [drewN_add]⟩
        | true =>
          rw [hq] at HF2 hne
          have HF2 := Lib.hid (show (xs.drop (k + 1) == ys.drop (k + 1)) = (xs == ys) by rw [← HF2.out]; rfl)
          clear hq
          go_wp2_with fail
          go_quiet (fail)
          clear hne hgd
          go_wp2_with fail
          go_roundw
          case rel => exact ⟨k + 1, by omega, by go_num, HF2, _, rfl⟩
          case measure => simp [intOf]; omega
      · have hd : (xs == ys) = true := by
          rw [← HF.out, List.drop_of_length_le (by omega), List.drop_of_length_le (by have := HL.out; omega)]; rfl
        have HD := Lib.hid hd
        clear HF hd
        go_wp2_with fail
        go_ret
        exact ⟨by rw [HD.out]; rfl, n, rfl⟩
  · have hbe : ((xs.length : Int) != (ys.length : Int)) = true := by simpa using fun h => hlen (by omega)
    have HD := Lib.hid (show (xs == ys) = false by
      rw [beq_eq_false_iff_ne]; intro h; exact hlen (by rw [h]))
    clear hlen hc1 hc2
    go_enter Try.func48, Try.ntmps48
    go_wp2_with fail
    go_ret
    exact ⟨by rw [HD.out]; rfl, 0, rfl⟩

set_option maxRecDepth 20000 in
set_option maxHeartbeats 2000000 in
theorem sameTL (v1 v2 : Value) (xs ys : List Tm) (w : World) (f1 f2 : List Nat) (h1 : R_T1 f1 w [v1] xs) (h2 : R_T1 f2 w [v2] ys) :
    Calls Try.prog 107 #[v1, v2] w fun e w' => e = .returned (.bool (xs == ys)) ∧ ∃ n, w' = w.drewN n := by
  obtain ⟨a1, c1, rfl, hl1, hm1, hc1⟩ := slF2_open h1
  obtain ⟨a2, c2, rfl, hl2, hm2, hc2⟩ := slF2_open h2
  unfold maxLen at hm1 hm2
  clear h1 h2
  by_cases hlen : xs.length = ys.length
  · have hbe : ((xs.length : Int) != (ys.length : Int)) = false := by simp [hlen]
    have HL := Lib.hid hlen
    have HC1 := Lib.hid hc1
    have HC2 := Lib.hid hc2
    clear hlen hc1 hc2
    go_enter Try.func107, Try.ntmps107
    go_wp2_with fail
    go_loopw [5] (fun i wr => ∃ k : Nat, k ≤ xs.length ∧ i = .int .i64 k ∧ Hid ((xs.drop k == ys.drop k) = (xs == ys)) ∧ ∃ n, wr = w.drewN n) (fun i _ => xs.length - (intOf i).toNat)
    case atStart => exact ⟨0, Nat.zero_le _, rfl, Lib.hid rfl, 0, rfl⟩
    case round =>
      obtain ⟨k, hk, rfl, HF, n, rfl⟩ := hrel
      by_cases hlt : k < xs.length
      · have hlt2 : k < ys.length := by have := HL.out; omega
        obtain ⟨b1, o1, rfl, -, hb1, p1, p2⟩ := HC1.out k hlt
        obtain ⟨b2, o2, rfl, -, hb2, p3, p4⟩ := HC2.out k hlt2
        have HF2 := Lib.hid ((dropEq xs ys k hlt hlt2).symm.trans HF.out)
        have k1 : (k : Int) < (xs.length : Int) := by omega
        have k2 : (k : Int) < (ys.length : Int) := by omega
        clear HF
        generalize xs[k] = x at *
        generalize ys[k] = y at *
        obtain ⟨x1, x2⟩ := x
        obtain ⟨y1, y2⟩ := y
        simp only at p1 p2 p3 p4
        have hne := fun W => neqTm x1 x2 y1 y2 W
        have hgd := tmGuard
        cases hq : (((x1, x2) : Tm) == (y1, y2)) with
        | false =>
          rw [hq] at HF2 hne
          have HF2 := Lib.hid (show (xs == ys) = false by rw [← HF2.out]; rfl)
          clear hq
          go_wp2_with fail
          go_quiet (fail)
          clear hne hgd
          go_wp2_with fail
          go_ret
          exact ⟨by rw [HF2.out]; rfl, _, by rw [drewN_add]⟩
        | true =>
          rw [hq] at HF2 hne
          have HF2 := Lib.hid (show (xs.drop (k + 1) == ys.drop (k + 1)) = (xs == ys) by rw [← HF2.out]; rfl)
          clear hq
          go_wp2_with fail
          go_quiet (fail)
          clear hne hgd
          go_wp2_with fail
          go_roundw
          case rel => exact ⟨k + 1, by omega, by go_num, HF2, _, rfl⟩
          case measure => simp [intOf]; omega
      · have hd : (xs == ys) = true := by
          rw [← HF.out, List.drop_of_length_le (by omega), List.drop_of_length_le (by have := HL.out; omega)]; rfl
        have HD := Lib.hid hd
        clear HF hd
        go_wp2_with fail
        go_ret
        exact ⟨by rw [HD.out]; rfl, n, rfl⟩
  · have hbe : ((xs.length : Int) != (ys.length : Int)) = true := by simpa using fun h => hlen (by omega)
    have HD := Lib.hid (show (xs == ys) = false by
      rw [beq_eq_false_iff_ne]; intro h; exact hlen (by rw [h]))
    clear hlen hc1 hc2
    go_enter Try.func107, Try.ntmps107
    go_wp2_with fail
    go_ret
    exact ⟨by rw [HD.out]; rfl, 0, rfl⟩

end Go.Proofs.Ytnfghgaadnobbaa

namespace Go.Proofs.Ytnfghgaadnobbaa
open Go.RowKit

def firstP {α : Type} (p : α → Bool) : List α → Int
  | [] => -1
  | s :: r => if p s then 0 else if firstP p r < 0 then -1 else firstP p r + 1
theorem firstP_at {α : Type} {p : α → Bool} : ∀ {l : List α} (k : Nat) (hk : k < l.length), (∀ j (_ : j < k) (hj : j < l.length), p l[j] = false) → p l[k] = true → firstP p l = k
  | [], k, hk, _, _ => by simp at hk
  | s :: r, 0, _, _, h => by simp at h; simp [firstP, h]
  | s :: r, k + 1, hk, hn, h => by
    have h0 : p s = false := hn 0 (by omega) (by simp)
    have ih := firstP_at (p := p) (l := r) k (by simpa using hk) (fun j hj hj2 => by have := hn (j + 1) (by omega) (by simpa using hj2); rwa [List.getElem_cons_succ] at this) (by rwa [List.getElem_cons_succ] at h)
    rw [firstP, h0, if_neg (by simp), ih, if_neg (by omega)]; omega
theorem firstP_none {α : Type} {p : α → Bool} : ∀ {l : List α}, (∀ j (hj : j < l.length), p l[j] = false) → firstP p l = -1
  | [], _ => rfl
  | s :: r, hn => by
    have h0 : p s = false := hn 0 (by simp)
    have ih := firstP_none (p := p) (l := r) (fun j hj => by have := hn (j + 1) (by simpa using hj); rwa [List.getElem_cons_succ] at this)
    rw [firstP, h0, if_neg (by simp), ih, if_pos (by omega)]
theorem firstP_nonneg {α : Type} (p : α → Bool) : ∀ l : List α, decide (0 ≤ firstP p l) = l.any p
  | [] => rfl
  | s :: r => by
    have ih := firstP_nonneg p r
    rw [List.any_cons, firstP]
    by_cases h : p s = true
    · simp [h]
    · rw [if_neg h, ← ih, show p s = false by simpa using h, Bool.false_or]
      by_cases h2 : firstP p r < 0
      · rw [if_pos h2]; rw [decide_eq_false (by omega), decide_eq_false (by omega)]
      · rw [if_neg h2]; rw [decide_eq_true (by omega), decide_eq_true (by omega)]
theorem firstP_cases {α : Type} (p : α → Bool) (l : List α) : (firstP p l = -1 ∧ ∀ j (hj : j < l.length), p l[j] = false) ∨ ∃ k, ∃ hk : k < l.length, firstP p l = k ∧ p l[k] = true ∧ ∀ j (_ : j < k) (hj : j < l.length), p l[j] = false := by
  cases h : l.findIdx? p with
  | none =>
    have hn : ∀ j (hj : j < l.length), p l[j] = false := fun j hj => by
      rw [List.findIdx?_eq_none_iff] at h
      exact h _ (List.getElem_mem hj)
    exact Or.inl ⟨firstP_none hn, hn⟩
  | some k =>
    rw [List.findIdx?_eq_some_iff_getElem] at h
    obtain ⟨hk, h1, h2⟩ := h
    have hn : ∀ j (_ : j < k) (hj : j < l.length), p l[j] = false := fun j hj hj2 => by simpa using h2 j hj
    exact Or.inr ⟨k, hk, firstP_at k hk hn h1, h1, hn⟩

/-- a function's value that asks something of a summand, while the blocks of f are written. -/
structure PredOk (W0 : World) (f : List Nat) (fn : FuncId) (caps : Array Value) (p : Sm → Bool) (G : Sm → Prop) : Prop where
  ent : ∀ args w, Sem.run Try.prog (callFunc fn args) w = .ok (.enter fn args) w
  call : ∀ wr us s g, Upd f W0 wr → R_Sm g wr us s → G s → Calls Try.prog fn (#[.agg us.toArray] ++ caps) wr fun e w' => e = .returned (.bool (p s)) ∧ Upd [] wr w'

set_option maxRecDepth 20000 in
set_option maxHeartbeats 2000000 in
theorem idxFuncSm (v : Value) (xs : List Sm) (W0 : World) (f : List Nat) (w : World) (fp : List Nat) (fn : FuncId) (caps : Array Value) (p : Sm → Bool) (G : Sm → Prop) (hP : PredOk W0 f fn caps p G) (hU : Upd f W0 w) (hR : R_Sm1 fp w [v] xs) (hG : ∀ s ∈ xs, G s) :
    Calls Try.prog 89 #[v, .func (.func fn) #[] caps] w fun e w' => e = .returned (.int .i64 (firstP p xs)) ∧ Upd [] w w' := by
  obtain ⟨a1, c1, rfl, hl1, hm1, hc1⟩ := slQ_open hR
  unfold maxLen at hm1
  have hent := hP.ent
  have HBY := Lib.hid hP.call
  have HU0 := Lib.hid hU
  have HC := Lib.hid hc1
  have HGG := Lib.hid hG
  have HF := Lib.hid (fun k (hk : k < xs.length) (h1 : ∀ j (_ : j < k) (hj : j < xs.length), p xs[j] = false) (h2 : p xs[k] = true) => firstP_at k hk h1 h2)
  have HN := Lib.hid (fun (h : ∀ j (hj : j < xs.length), p xs[j] = false) => firstP_none h)
  clear hR hP hc1 hG hU
  generalize firstP p xs = Z at *
  go_enter Try.func89, Try.ntmps89
  go_wp2_with fail
  go_loopw [8] (fun i wr => ∃ k : Nat, k ≤ xs.length ∧ i = .int .i64 k ∧ Hid (Upd [] w wr) ∧ Hid (∀ j (_ : j < k) (hj : j < xs.length), p xs[j] = false)) (fun i _ => xs.length - (intOf i).toNat)
  case atStart => exact ⟨0, Nat.zero_le _, rfl, Lib.hid (Upd.refl _ _), Lib.hid (fun j hj => absurd hj (Nat.not_lt_zero _))⟩
  case round =>
    obtain ⟨wo, rfl⟩ : ∃ wo : World, wo = wr := ⟨_, rfl⟩
    obtain ⟨k, hk, rfl, HU, HI⟩ := hrel
    by_cases hlt : k < xs.length
    · obtain ⟨bb, off, u, f', rfl, -, -, -, hcell, -, hr⟩ := HC.out k hlt
      have HFK := Lib.hid (HF.out k hlt HI.out)
      have HIK := Lib.hid (fun (h : p xs[k] = false) j (hjk : j < k + 1) (hj : j < xs.length) => (show p xs[j] = false by
        by_cases e : j = k
        · subst e; exact h
        · exact HI.out j (by omega) hj))
      have hr' := R_Smk.upd hr HU.out (by simp)
      have S1 := HBY.out wo u xs[k] f' (HU0.out.trans (HU.out.mono (by simp))) hr' (HGG.out _ (List.getElem_mem hlt))
      have hcell' : ∀ (j : Nat) c, u[j]? = some c → wo.cell? ⟨bb, off + k * 5 + j, none⟩ = some c := fun j c hj => HU.out.keep (hcell j c hj)
      obtain ⟨e0, e1, e3, e4, f0, f1', f3, f4, rfl, r0, r1, r3, r4, rfl⟩ := hr
      have s0 := hcell' 0 _ rfl
      have s1 := hcell' 1 _ rfl
      have s2 := hcell' 2 _ rfl
      have s3 := hcell' 3 _ rfl
      have s4 := hcell' 4 _ rfl
      simp only [Nat.add_zero] at s0
      have hkl : (k : Int) < (xs.length : Int) := by omega
      have HS1 := Lib.hid S1
      clear r0 r1 r3 r4 hcell hcell' hr' HF HN S1
      generalize xs[k] = s at *
      generalize p s = q at *
      generalize s.name = N at *
      go_wp2_with fail
      refine HS1.out.mono ?_
      rintro e w1 ⟨rfl, hu1⟩
      have HU1 := Lib.hid (HU.out.trans hu1)
      clear HS1 hu1 s0 s1 s2 s3 s4
      cases q with
      | false =>
        replace HIK := Lib.hid (HIK.out rfl)
        clear HFK
        go_wp2_with fail
        go_roundw
        case rel => exact ⟨k + 1, by omega, by go_num, HU1, HIK⟩
        case measure => simp [intOf]; omega
      | true =>
        have HZ := Lib.hid (HFK.out rfl)
        clear HIK HFK
        go_wp2_with fail
        go_ret
        exact ⟨by rw [HZ.out]; rfl, HU1.out⟩
    · have HZ := Lib.hid (HN.out (fun j hj => HI.out j (by omega) hj))
      clear HF HN
      go_wp2_with fail
      go_ret
      exact ⟨by rw [HZ.out]; rfl, HU.out⟩

set_option maxRecDepth 20000 in
theorem conFuncSm (v : Value) (xs : List Sm) (W0 : World) (f : List Nat) (w : World) (fp : List Nat) (fn : FuncId) (caps : Array Value) (p : Sm → Bool) (G : Sm → Prop) (hP : PredOk W0 f fn caps p G) (hU : Upd f W0 w) (hR : R_Sm1 fp w [v] xs) (hG : ∀ s ∈ xs, G s) :
    Calls Try.prog 69 #[v, .func (.func fn) #[] caps] w fun e w' => e = .returned (.bool (xs.any p)) ∧ Upd [] w w' := by
  have S1 := Lib.hid (idxFuncSm v xs W0 f w fp fn caps p G hP hU hR hG)
  have HB := Lib.hid (firstP_nonneg p xs)
  clear hP hU hR hG
  generalize firstP p xs = Z at *
  generalize xs.any p = q at *
  go_enter Try.func69, Try.ntmps69
  go_wp2_with fail
  refine S1.out.mono ?_
  rintro e w1 ⟨rfl, hu⟩
  have HU := Lib.hid hu
  clear hu
  go_wp2_with fail
  go_ret
  exact ⟨by show Ending.returned (.bool (decide (0 ≤ Z))) = _; rw [HB.out], HU.out⟩

end Go.Proofs.Ytnfghgaadnobbaa

namespace Go.Proofs.Ytnfghgaadnobbaa
open Go.RowKit

/-- what is left of a list of summands in its place. -/
def LeftSm (fp : List Nat) (w : World) (ys : List Sm) (e : Ending) (w' : World) : Prop :=
  (∃ fp' a c, e = .returned (.slice a ys.length c) ∧ R_Sm1 fp' w' [.slice a ys.length c] ys ∧ Own fp' w' ∧ ∀ b ∈ fp', b ∈ fp) ∧ Upd fp w w'

set_option maxRecDepth 20000 in
set_option maxHeartbeats 4000000 in
theorem delFuncSm (v : Value) (xs : List Sm) (W0 : World) (f : List Nat) (w : World) (fp : List Nat) (fn : FuncId) (caps : Array Value) (p : Sm → Bool) (G : Sm → Prop) (hP : PredOk W0 f fn caps p G) (hU : Upd f W0 w) (hf : ∀ b ∈ fp, b ∈ f) (hR : R_Sm1 fp w [v] xs) (hO : Own fp w) (hG : ∀ s ∈ xs, G s) :
    Calls Try.prog 46 #[v, .func (.func fn) #[] caps] w (LeftSm fp w (xs.filter fun s => !p s)) := by
  have S1 := Lib.hid (idxFuncSm v xs W0 f w fp fn caps p G hP hU hR hG)
  rcases firstP_cases p xs with ⟨e1, hn⟩ | ⟨k0, hk0, e1, hp0, hn⟩
  · rw [e1] at S1
    have hx : (xs.filter fun s => !p s) = xs := List.filter_eq_self.2 (fun s hs => by obtain ⟨j, hj, rfl⟩ := List.mem_iff_getElem.1 hs; rw [hn j hj]; rfl)
    rw [hx]
    obtain ⟨a1, c1, rfl, -, -, -⟩ := slQ_open hR
    have HH := Lib.hid (And.intro hR hO)
    clear hR hO hx hn hP hU hG
    go_enter Try.func46, Try.ntmps46
    go_wp2_with fail
    refine S1.out.mono ?_
    rintro e w1 ⟨rfl, hu⟩
    have HU := Lib.hid hu
    clear hu
    go_wp2_with fail
    go_ret
    exact ⟨⟨fp, _, _, rfl, R_Sm1k.upd HH.out.1 HU.out (by simp), HH.out.2.upd HU.out (by simp), fun b hb => hb⟩, HU.out.mono (by simp)⟩
  · rw [e1] at S1
    obtain ⟨b, off, cap, T, rfl, h1, h2, rfl, rfl, hr⟩ := slQ_raw hR (by omega)
    have hl : (T.map (·.2.2)).length = T.length := by simp
    rw [hl] at S1 h1 hk0
    rw [hl]
    unfold maxLen at h2
    have hent := hP.ent
    have HBY := Lib.hid hP.call
    have HU0 := Lib.hid hU
    have HG := Lib.hid (show ∀ j (hj : j < T.length), G T[j].2.2 from fun j hj => hG _ (List.mem_map.2 ⟨T[j], List.getElem_mem hj, rfl⟩))
    have HR := Lib.hid hr
    have HO := Lib.hid hO
    have HT := Lib.hid (show ∀ t ∈ T, t.1.length = 5 from fun t ht => (hr.each t ht).1)
    have HND := Lib.hid (show ∀ t ∈ T, b ∉ t.2.1 from fun t ht hm => (List.nodup_cons.1 hO.1).1 (List.mem_flatten.2 ⟨_, List.mem_map.2 ⟨t, ht, rfl⟩, hm⟩))
    have HF := Lib.hid (show ∀ c ∈ b :: (T.map (·.2.1)).flatten, c ∈ f from hf)
    have HI0 := Lib.hid (show DelInv p 5 T k0 (k0 + 1) (T.map (·.1)) from DelInv.start HT.out k0 hk0 (by rw [List.getElem_map] at hp0; exact hp0) (fun i hi hik => by have := hn i hik (by simpa using hi); rw [List.getElem_map] at this; exact this))
    have hbl := hr.bl
    have HBF := Lib.hid (show b ∈ f from hf b (by simp))
    have hne : ((k0 : Int) == -1) = false := beq_eq_false_iff_ne.2 (by omega)
    clear hP hU hG hr hO hf hR hn e1 hp0 hl
    generalize hFP : b :: (T.map (·.2.1)).flatten = FP at *
    have HBM := Lib.hid (show b ∈ FP by rw [← hFP]; simp)
    have HFP := Lib.hid hFP
    clear hFP
    go_enter Try.func46, Try.ntmps46
    go_wp2_with fail
    refine S1.out.mono ?_
    rintro e w1 ⟨rfl, hu⟩
    have HU1 := Lib.hid hu
    clear hu S1
    go_wp2_with fail
    go_loopw [5, 6] (fun iv jv wr => ∃ (i j : Nat) (rs : List (List Value)), j ≤ T.length ∧ iv = .int .i64 i ∧ jv = .int .i64 j ∧ Hid (Upd [b] w wr) ∧ Hid (rowsAt wr b off 5 rs) ∧ Hid (DelInv p 5 T i j rs) ∧ Hid (Own FP wr)) (fun _ jv _ => T.length - (intOf jv).toNat)
    case atStart => exact ⟨k0, k0 + 1, T.map (·.1), by omega, rfl, by go_num, Lib.hid (HU1.out.mono (by simp)), Lib.hid (HR.out.rows.upd hbl HU1.out (by simp)), HI0, Lib.hid (HO.out.upd HU1.out (by simp))⟩
    case round =>
      clear HO HI0 HU1
      obtain ⟨wo, rfl⟩ : ∃ wo : World, wo = wr := ⟨_, rfl⟩
      obtain ⟨i, j, rs, hj, rfl, rfl, HU, HW, HI, HO⟩ := hrel
      have hij := HI.out.lt
      have hrl := HI.out.len
      by_cases hlt : j < T.length
      · have hr : R_Sm T[j].2.1 wo T[j].1 T[j].2.2 := R_Smk.upd (HR.out.each _ (List.getElem_mem hlt)).2 HU.out (fun c hc hm => by simp at hm; subst hm; exact HND.out _ (List.getElem_mem hlt) hc)
        have hrow : ∀ (q : Nat) c, T[j].1[q]? = some c → wo.cell? ⟨b, off + j * 5 + q, none⟩ = some c := fun q c hq => HW.out j _ (HI.out.row hlt) q c hq
        have HKEEP := Lib.hid (fun (hp : p T[j].2.2 = false) => HI.out.keep HT.out hlt hp)
        have HSKIP := Lib.hid (fun (hp : p T[j].2.2 = true) => HI.out.skip hlt hp)
        have HWP := Lib.hid (fun W (h : rowsAt W b off 5 rs) => h.put HI.out.each i (by omega) T[j].1 (HT.out _ (List.getElem_mem hlt)))
        have hgs := HG.out j hlt
        have hil : rs[i].length = 5 := HI.out.each _ (List.getElem_mem (by omega))
        have HOLD := Lib.hid (show ∀ q, q < 5 → (wo.cell? ⟨b, off + i * 5 + q, none⟩).isSome = true from fun q hq => by
          rw [HW.out i rs[i] (by simp) q (rs[i][q]'(by omega)) (by simp)]; rfl)
        generalize T[j].2.2 = s at *
        generalize T[j].2.1 = g at *
        generalize T[j].1 = u at *
        have hr' := hr
        obtain ⟨e0, e1, e3, e4, f0, f1', f3, f4, rfl, r0, r1, r3, r4, -⟩ := hr
        obtain ⟨d0, o0, rfl, -⟩ := slF1_open r0
        obtain ⟨d1, o1, rfl, -⟩ := slF2_open r1
        obtain ⟨d3, o3, rfl, -⟩ := slP_open r3
        obtain ⟨d4, o4, rfl, -⟩ := slP_open r4
        have s0 := hrow 0 _ rfl
        have s1 := hrow 1 _ rfl
        have s2 := hrow 2 _ rfl
        have s3 := hrow 3 _ rfl
        have s4 := hrow 4 _ rfl
        simp only [Nat.add_zero] at s0
        have hjl : (j : Int) < (T.length : Int) := by omega
        obtain ⟨wq, hwq⟩ : ∃ wq, wq = wo.alloc (.cells #[.slice d0 s.sums.length o0, .slice d1 s.guard.length o1, es s.name, .slice d3 s.args.length o3, .slice d4 s.next.length o4] 56) := ⟨_, rfl⟩
        have uq : Upd [] wo wq := by rw [hwq]; exact (Upd.refl _ _).alloc _
        obtain ⟨B7, hB7⟩ : ∃ B7, B7 = wo.heap.size := ⟨_, rfl⟩
        have hrT : RowAt wq B7 56 [.slice d0 s.sums.length o0, .slice d1 s.guard.length o1, es s.name, .slice d3 s.args.length o3, .slice d4 s.next.length o4] := by rw [hwq, hB7]; exact RowAt.new _ _ _
        have S1 := Lib.hid (HBY.out wq _ s g (HU0.out.trans ((HU.out.mono (by intro c hc; simp at hc; subst hc; exact HBF.out)).trans (uq.mono (by simp)))) (R_Smk.upd hr' uq (by simp)) hgs)
        have HUQ := Lib.hid uq
        have HRT := Lib.hid hrT
        have t0 := hrT.cell 0 _ rfl
        have t1 := hrT.cell 1 _ rfl
        have t2 := hrT.cell 2 _ rfl
        have t3 := hrT.cell 3 _ rfl
        have t4 := hrT.cell 4 _ rfl
        have hb7 : b < B7 := by have := HO.out.lt b HBM.out; omega
        clear hr' r0 r1 r3 r4 hrow uq hrT hgs
        generalize hN : s.name = N at *
        generalize p s = q at *
        clear hN
        go_upto_region 8 with (fail)
        rw [← hwq, ← hB7]
        clear hwq hB7 s0 s1 s2 s3 s4
        go_wp2_with fail
        refine S1.out.mono ?_
        rintro e w2 ⟨rfl, hu2⟩
        have HU2 := Lib.hid (HUQ.out.trans hu2)
        have HRT2 := Lib.hid (HRT.out.upd hu2 (by simp))
        clear hu2 S1 t0 t1 t2 t3 t4
        cases q with
        | true =>
          replace HSKIP := Lib.hid (HSKIP.out (by first | trivial | rfl))
          clear HKEEP HWP
          go_wp2_with fail
          go_roundw
          case rel => exact ⟨i, j + 1, rs, by omega, rfl, by go_num, Lib.hid (HU.out.trans (HU2.out.mono (by simp))), Lib.hid (HW.out.upd (by have := HO.out.lt b HBM.out; exact this) HU2.out (by simp)), HSKIP, Lib.hid (HO.out.upd HU2.out (by simp))⟩
          case measure => simp [intOf]; omega
        | false =>
          replace HKEEP := Lib.hid (HKEEP.out (by first | trivial | rfl))
          clear HSKIP
          have t0 := HRT2.out.cell 0 _ rfl
          have t1 := HRT2.out.cell 1 _ rfl
          have t2 := HRT2.out.cell 2 _ rfl
          have t3 := HRT2.out.cell 3 _ rfl
          have t4 := HRT2.out.cell 4 _ rfl
          have hth : w2.there b (off + i * 5) (#[.slice d0 s.sums.length o0, .slice d1 s.guard.length o1, es N, .slice d3 s.args.length o3, .slice d4 s.next.length o4] : Array Value).size := fun q hq => by
            have hk := HOLD.out q (by simpa using hq)
            obtain ⟨c, hc⟩ := Option.isSome_iff_exists.1 hk
            exact ⟨by rw [HU2.out.keep hc]; rfl, Own.frozen (HO.out.upd HU2.out (by simp)) HBM.out _⟩
          have HTH := Lib.hid hth
          have hil2 : (i : Int) < (T.length : Int) := by omega
          clear hth
          go_wp2_with (first
            | (refine wpList_store_mid rfl 56 _ _ rfl b (off + i * 5) #[.slice d0 s.sums.length o0, .slice d1 s.guard.length o1, es N, .slice d3 s.args.length o3, .slice d4 s.next.length o4] rfl rfl (by with_reducible exact HTH.out) Sm_size (by simp [Value.oneCell']) ?_)
            | fail)
          go_roundw
          case rel => exact ⟨i + 1, j + 1, rs.set i [.slice d0 s.sums.length o0, .slice d1 s.guard.length o1, es N, .slice d3 s.args.length o3, .slice d4 s.next.length o4], by omega, by go_num, by go_num, Lib.hid (upd_setCells _ (Or.inr (by simp)) _ _ (HU.out.trans (HU2.out.mono (by simp)))), Lib.hid (HWP.out _ (HW.out.upd (HO.out.lt b HBM.out) HU2.out (by simp))), HKEEP, Lib.hid (Own.setCells _ _ (HO.out.upd HU2.out (by simp)))⟩
          case measure => simp [intOf]; omega
      · obtain rfl : j = T.length := by omega
        have hiT : (i : Int) < (T.length : Int) := by omega
        have hiT2 : (i : Int) ≤ (T.length : Int) := by omega
        have hiC : (T.length : Int) ≤ (cap : Int) := by omega
        have hiC2 : (i : Int) ≤ (cap : Int) := by omega
        have hclr := run_clear_rows (P := Try.prog) wo 27 56 0 [.slice none 0 0, .slice none 0 0, .string ⟨#[]⟩, .slice none 0 0, .slice none 0 0] 5 rfl (by decide) Try.underlying27 (by intro W; go_simp) (by simp [Value.oneCell']) b (off + i * 5) (T.length - i) (cap - i) (by omega) (fun q hq => by
          have hlt2 : i + q / 5 < rs.length := by omega
          have hle := HI.out.each _ (List.getElem_mem hlt2)
          have := HW.out (i + q / 5) rs[i + q / 5] (by simp [hlt2]) (q % 5) (rs[i + q / 5][q % 5]'(by omega)) (by rw [List.getElem?_eq_getElem])
          rw [show off + i * 5 + q = off + (i + q / 5) * 5 + q % 5 by omega, this]; rfl) (fun q => HO.out.frozen HBM.out _)
        obtain ⟨wz, hwz⟩ : ∃ wz, wz = wo.setCells b (off + i * 5) (List.replicate (T.length - i) [.slice none 0 0, .slice none 0 0, .string ⟨#[]⟩, .slice none 0 0, .slice none 0 0]).flatten := ⟨_, rfl⟩
        rw [← hwz] at hclr
        have hUz : Upd [b] w wz := by rw [hwz]; exact upd_setCells _ (Or.inr (by simp)) _ _ HU.out
        have hrow : rowsAt wz b off 5 (rs.take i) := by
          rw [hwz]
          refine (HW.out.take i).ahead (fun r hr => HI.out.each r (List.mem_of_mem_take hr)) _ ?_ _
          rw [List.length_take]
          have : min i rs.length * 5 ≤ i * 5 := Nat.mul_le_mul_right _ (Nat.min_le_left _ _)
          omega
        have hOz : Own FP wz := by rw [hwz]; exact Own.setCells _ _ HO.out
        rw [HI.out.low] at hrow
        rw [← HFP.out] at hOz
        obtain ⟨hO2, hsub⟩ := own_sub hOz (leftOf_sub p T T.length)
        have hraw : RawQ 5 R_Sm wz b off (leftOf p T T.length) := ⟨Nat.lt_of_lt_of_le hbl hUz.size, hrow, fun t ht => by
          have htT := (leftOf_sub p T T.length).subset ht
          exact ⟨HT.out t htT, R_Smk.upd (HR.out.each t htT).2 hUz (fun c hc hm => by simp at hm; subst hm; exact HND.out t htT hc)⟩⟩
        have hat := HI.out.at_
        have hsl := raw_slQ (cap := cap) hraw (by omega) (by unfold maxLen; omega)
        rw [leftOf_end] at hsl
        have hlen : ((T.map (·.2.2)).filter fun x => !p x).length = i := by rw [← leftOf_end, List.length_map, ← hat]
        have HZ := Lib.hid (And.intro hsl (And.intro hO2 (And.intro hsub (And.intro hlen hUz))))
        clear hsl hO2 hsub hlen hUz hraw hrow hOz hat hwz
        go_wp2_with fail
        go_ret
        obtain ⟨hsl, hO2, hsub, hlen, hUz⟩ := HZ.out
        rw [← HFP.out]
        exact ⟨⟨_, some ⟨b, off, none⟩, cap, by rw [hlen]; rfl, hsl, hO2, hsub⟩, hUz.mono (by simp)⟩

end Go.Proofs.Ytnfghgaadnobbaa

namespace Go.Proofs.Ytnfghgaadnobbaa
open Go.RowKit

theorem tOk_mono {t : Tm} {n m : Int} (h : n ≤ m) (ht : tOk t n = true) : tOk t m = true := by
  unfold tOk at *
  split
  · rename_i h0; rw [if_pos h0] at ht; exact ht
  · rename_i h0
    rw [if_neg h0] at ht
    split
    · rename_i h1
      rw [if_pos h1] at ht
      have := inB_true ht
      simp [inB]; omega
    · rename_i h1
      rw [if_neg h1] at ht
      exact ht
theorem run_mono {n m : Int} (h : n ≤ m) : ∀ (e : List Tm) (k r : Int), run n e k = some r → run m e k = some r
  | [], k, r, hr => hr
  | t :: e, k, r, hr => by
    rw [run] at hr ⊢
    by_cases h0 : k = 0
    · rw [if_pos h0] at hr; cases hr
    · rw [if_neg h0] at hr ⊢
      by_cases ht : tOk t n = true
      · rw [if_pos ht] at hr
        rw [if_pos (tOk_mono h ht)]
        exact run_mono h e _ r hr
      · rw [if_neg ht] at hr; cases hr
theorem eOk_of {e : List Tm} {n : Int} (h : isE e n 60 = true) (hn : n ≤ 29) : eOk e = true := by
  unfold eOk
  unfold isE at *
  simp only [Bool.and_eq_true, decide_eq_true_eq, beq_iff_eq] at *
  exact ⟨h.1, run_mono hn e _ _ h.2⟩

noncomputable def foldT (e : List Tm) : List Tm := (foldRes e).1
noncomputable abbrev foldFn : Sm → List Tm → List Tm := fun _ e => foldT e
def dead (s : Sm) : Bool := s.guard == [(0, 0)]
noncomputable def foldSms (xs : List Sm) : List Sm := (xs.map (mapSm foldFn)).filter fun s => !dead s
noncomputable def foldF (x : Ln) : Ln × Int := if lnOk x then (⟨x.pars, x.start, foldSms x.sms⟩, 0) else (zeroLn, 1)

/-- the expressions of a valid process. -/
theorem lnOk_exps {x : Ln} (h : lnOk x = true) : ∀ s ∈ x.sms, eOk s.guard = true ∧ (∀ e ∈ s.args, eOk e = true) ∧ ∀ e ∈ s.next, eOk e = true := by
  obtain ⟨h1, h2, h3, h4⟩ := lnOk_fit h
  intro s hs
  have h5 := h4 s hs
  unfold smOk at h5
  simp only [Bool.and_eq_true, decide_eq_true_eq] at h5
  have h6 := h5.2
  unfold expsP at h6
  rw [List.all_eq_true] at h6
  have h7 : s.sums.length ≤ 8 := by
    have := h5.1.1.1
    unfold sumsP at this
    simp only [Bool.and_eq_true, decide_eq_true_eq] at this
    exact this.1.2
  have hb : x.pars + (s.sums.length : Int) ≤ 29 := by omega
  exact ⟨eOk_of (h6 _ (by simp)) hb, fun e he => eOk_of (h6 e (by simp [he])) hb, fun e he => eOk_of (h6 e (by simp [he])) hb⟩

theorem mkF_T2_map (l : List (List Tm)) : mkF_T2 (l.map foldT) ≤ 300 * l.length := by
  induction l with
  | nil => simp [mkF_T2]
  | cons e l ih =>
    have e1 : mkF_T2 ((e :: l).map foldT) = mkF_T1 (foldT e) + mkF_T2 (l.map foldT) := by simp [mkF_T2]
    have := fold_b e
    unfold foldT at *
    simp only [List.length_cons]
    omega
theorem sm1_some (C : Int) (hC : 0 ≤ C) : ∀ (xs : List Sm), (∀ s ∈ xs, mkF_Sm s ≤ C) → mkF_Sm1 (xs.filter fun s => !dead s) ≤ C * xs.length := by
  intro xs
  induction xs with
  | nil => intro _; simp [mkF_Sm1]
  | cons s xs ih =>
    intro h
    have h1 := ih (fun t ht => h t (by simp [ht]))
    have h2 := h s (by simp)
    have h3 := mkF_Sm_nonneg s
    have e3 : C * ((s :: xs).length : Int) = C * xs.length + C := by rw [List.length_cons, show (((xs.length + 1 : Nat)) : Int) = (xs.length : Int) + 1 by omega, Int.mul_add, Int.mul_one]
    rw [e3, List.filter_cons]
    split
    · have e1 : mkF_Sm1 (s :: xs.filter fun s => !dead s) = mkF_Sm s + mkF_Sm1 (xs.filter fun s => !dead s) := by simp [mkF_Sm1]
      omega
    · omega
theorem fold_bd (x : Ln) (h : 1 + mkF_Ln x ≤ 100000000) : 1 + mkF_Ln (foldF x).1 ≤ 4611686018427387904 := by
  unfold foldF
  split
  · rename_i hk
    obtain ⟨h1, h2, h3, h4⟩ := lnOk_fit hk
    have hs1 := mkF_Sm1_nonneg x.sms
    have hst : mkF_I1 x.start ≤ 100000000 := by unfold mkF_Ln at h; omega
    have key : ∀ s ∈ x.sms.map (mapSm foldFn), mkF_Sm s ≤ 100 + 300 * 3000 := by
      intro s hs
      obtain ⟨t, ht, rfl⟩ := List.mem_map.1 hs
      have h5 := h4 t ht
      unfold smOk at h5
      simp only [Bool.and_eq_true, decide_eq_true_eq] at h5
      have h7 : t.sums.length ≤ 8 := by
        have := h5.1.1.1
        unfold sumsP at this
        simp only [Bool.and_eq_true, decide_eq_true_eq] at this
        exact this.1.2
      have h8 : t.args.length ≤ 2 := by
        have := h5.1.2
        unfold namesP at this
        simp only [Bool.and_eq_true, Bool.not_eq_true', Bool.and_eq_false_iff, decide_eq_false_iff_not, Bool.or_eq_false_iff] at this
        rcases this.1 with h | h
        · omega
        · have := h.2; omega
      have a1 := mkF_T2_map t.args
      have a2 := mkF_T2_map t.next
      have a3 := fold_b t.guard
      have a4 : mkF_I1 t.sums ≤ 8 := by unfold mkF_I1; omega
      have a5 : t.next.length ≤ 21 := by omega
      show mkF_I1 t.sums + mkF_T1 (foldT t.guard) + 1 + mkF_T2 (t.args.map foldT) + mkF_T2 (t.next.map foldT) ≤ _
      unfold foldT at *
      omega
    have h9 := sm1_some (100 + 300 * 3000) (by omega) _ key
    rw [List.length_map] at h9
    show 1 + (mkF_I1 x.start + mkF_Sm1 (foldSms x.sms)) ≤ _
    unfold foldSms
    omega
  · show (1 : Int) + 0 ≤ _; omega

theorem enter_foldL1 (args : Array Value) (w : World) : Sem.run Try.prog (callFunc 42 args) w = .ok (.enter 42 args) w := by go_simp
set_option maxRecDepth 20000 in
set_option maxHeartbeats 2000000 in
theorem foldL1Ok (W0 : World) : ToOk W0 42 #[] foldFn (fun _ e => eOk e = true) := by
  refine ⟨enter_foldL1, fun wr us s fs u e fe _ hS hR hb => ?_⟩
  obtain ⟨v0, v1, v3, v4, f0, f1, f3, f4, rfl, -, -, -, -, -⟩ := hS
  obtain ⟨wA, hwA⟩ : ∃ wA, wA = wr.alloc (.cells #[v0, v1, es s.name, v3, v4] 56) := ⟨_, rfl⟩
  have uA : Upd [] wr wA := by rw [hwA]; exact (Upd.refl _ _).alloc _
  have hR0 := Lib.hid (R_T1k.upd hR uA (by simp))
  have UA := Lib.hid uA
  have hres : foldT e = flatE (foldE (treeOf e hb)) := by simp [foldT, foldRes, hb]
  obtain ⟨hok, hfl⟩ := treeOf_ok e hb
  have hlen := eOk_len hb
  have hgood := eOk_good hb _ hok hfl
  have HR := Lib.hid hres
  generalize treeOf e hb = x at *
  obtain ⟨a, cap, rfl, g1, g2, -⟩ := slF2_open hR
  unfold maxLen at g2
  have HOK := Lib.hid hok
  have HFL := Lib.hid hfl
  have HGD := Lib.hid hgood
  clear hres hok hfl hgood uA hR hb
  generalize s.name = N at *
  show Calls Try.prog 42 #[.agg #[v0, v1, es N, v3, v4], .slice a e.length cap] wr _
  go_enter Try.func42, Try.ntmps42
  go_upto_region 1 with (fail)
  rw [← hwA]
  clear hwA
  go_wp2_with fail
  refine (treeE x _ _ fe HOK.out (by rw [HFL.out]; omega) (by rw [HFL.out]; exact hR0.out)).mono ?_
  rintro r w2 ⟨⟨vt, rfl, ft, ht, -, -⟩, hu2⟩
  have hU := UA.out.trans hu2
  have S2 := Lib.hid (foldI _ x w2 vt ft (Nat.le_refl _) (by rw [HFL.out]; omega) HGD.out ht)
  clear hu2 ht
  go_wp2_with fail
  refine S2.out.mono ?_
  rintro r w3 ⟨⟨v3', f3, rfl, h3, -⟩, hu3⟩
  have hU3 := hU.trans hu3
  have hl3 := foldE_len x
  rw [HFL.out] at hl3
  have S3 := Lib.hid (listE (foldE x) w3 v3' f3 (by omega) h3)
  clear hu3 hU h3 hl3 S2
  go_wp2_with fail
  refine S3.out.mono ?_
  rintro r w4 ⟨⟨v4', rfl, h4⟩, hu4⟩
  have HN := Lib.hid (h4.mono (w0 := wr) hU3.size)
  have HU4 := Lib.hid (hU3.trans hu4)
  clear hu4 h4 hU3 S3
  go_wp2_with fail
  go_ret
  exact ⟨⟨_, rfl, by show New R_T1 wr _ _ (foldT e); rw [HR.out]; exact HN.out⟩, HU4.out⟩

set_option maxRecDepth 20000 in
set_option maxHeartbeats 1000000 in
theorem constI (n : Int) (w : World) : Calls Try.prog 49 #[.int .i64 n] w fun r w' => (∃ v', r = .returned v' ∧ New R_T1 w w' v' [(0, n)]) ∧ Upd [] w w' := by
  go_enter Try.func49, Try.ntmps49
  go_wp2_with fail
  go_ret
  refine ⟨⟨_, rfl, New.ofOwns2 (e := 59) (by simpa using World.ownsRow_lit (base := w.heap.size) (e := 59) (size := 2) w #[ei 0, ei n] 1 (Nat.le_refl _) (by simp [maxLen]) (by simp))⟩, (Upd.refl _ _).alloc _⟩

end Go.Proofs.Ytnfghgaadnobbaa

namespace Go.Proofs.Ytnfghgaadnobbaa
open Go.RowKit

theorem enter_foldL2 (args : Array Value) (w : World) : Sem.run Try.prog (callFunc 47 args) w = .ok (.enter 47 args) w := by go_simp
set_option maxRecDepth 20000 in
set_option maxHeartbeats 2000000 in
theorem foldL2Ok (W0 : World) (f : List Nat) : PredOk W0 f 47 #[] dead (fun _ => True) := by
  refine ⟨enter_foldL2, fun wr us s g _ hR _ => ?_⟩
  obtain ⟨v0, v1, v3, v4, f0, f1, f3, f4, rfl, -, r1, -, -, -⟩ := hR
  obtain ⟨d1, e1, rfl, -⟩ := slF2_open r1
  obtain ⟨wA, hwA⟩ : ∃ wA, wA = wr.alloc (.cells #[v0, .slice d1 s.guard.length e1, es s.name, v3, v4] 56) := ⟨_, rfl⟩
  obtain ⟨B, hBB⟩ : ∃ B, B = wr.heap.size := ⟨_, rfl⟩
  have uA : Upd [] wr wA := by rw [hwA]; exact (Upd.refl _ _).alloc _
  have hrB : RowAt wA B 56 [v0, .slice d1 s.guard.length e1, es s.name, v3, v4] := by rw [hwA, hBB]; exact RowAt.new _ _ _
  have c1 := hrB.cell 1 _ rfl
  have S6 := Lib.hid (constI 0 wA.drew)
  have S7 := Lib.hid (fun W v f (hu : Upd [] wA.drew W) (h : R_T1 f W [v] [(0, 0)]) => equalTL _ v s.guard [(0, 0)] W f1 f (R_T1k.upd r1 ((uA.drew).trans hu) (by simp)) h)
  have UA := Lib.hid uA
  have HM : dead s = (s.guard == [(0, 0)]) := rfl
  clear hrB uA r1
  generalize dead s = Z at *
  generalize (s.guard == [(0, 0)]) = q at *
  generalize s.guard.length = l1 at *
  generalize s.name = N at *
  have HZ := Lib.hid HM
  clear HM
  show Calls Try.prog 47 #[.agg #[v0, .slice d1 l1 e1, es N, v3, v4]] wr _
  go_enter Try.func47, Try.ntmps47
  go_upto_region 1 with (fail)
  rw [← hwA, ← hBB]
  clear hwA hBB
  go_region_held3 (fun w' => w'.cell? ⟨B, 1, none⟩ = some (.slice d1 l1 e1)) (go_keep)
    (first
      | ((go_at_call 49); (refine S6.out.mono ?_); rintro e w6 ⟨⟨v6, rfl, hn6⟩, hu6⟩; obtain ⟨x6, y6, rfl⟩ := hn6.form; obtain ⟨f6, rr6, -, -⟩ := hn6; have y1 := (((Upd.refl [] wA).drew).trans hu6).keep c1)
      | ((go_at_call 48); (refine (S7.out w6 _ f6 hu6 rr6).mono ?_); rintro e w7 ⟨rfl, n7, rfl⟩; have hu7 : Upd [] w6 (w6.drewN n7) := (Upd.refl _ _).drewN n7; have t1 := hu7.keep y1))
  all_goals
    have HU := Lib.hid (((UA.out.trans ((Upd.refl [] wA).drew)).trans hu6).trans hu7)
    clear hu6 hu7 rr6 y1 t1 c1
    go_wp2_with fail
    go_ret
    exact ⟨by rw [HZ.out]; rfl, HU.out⟩

set_option maxRecDepth 20000 in
set_option maxHeartbeats 4000000 in
theorem foldLI (cs : List Value) (x : Ln) (w : World) (fp : List Nat) (hR : R_Ln fp w cs x) (hF : LnFit x) :
    Calls Try.prog 12 #[.agg cs.toArray] w (GaveLn w (foldF x)) := by
  have hR' := hR
  obtain ⟨v1, v2, f1, f2, rfl, r1, r2, rfl⟩ := hR
  obtain ⟨B, hB⟩ : ∃ B, B = w.heap.size := ⟨_, rfl⟩
  obtain ⟨wA, hwA⟩ : ∃ wA, wA = (w.alloc (.cells #[ei x.pars, v1, v2] 29)).alloc (.cells #[.int .i64 0, .slice none 0 0, .slice none 0 0] 29) := ⟨_, rfl⟩
  have s1 : (w.alloc (.cells #[ei x.pars, v1, v2] 29)).heap.size = B + 1 := by rw [hB]; simp
  have uA : Upd [] w wA := by rw [hwA]; exact ((Upd.refl _ _).alloc _).alloc _
  have hA1 : RowAt wA (B + 1) 29 zerosLn := by rw [hwA, ← s1]; exact RowAt.new _ _ _
  have hL : RowAt wA B 29 [ei x.pars, v1, v2] := by rw [hwA, hB]; exact (RowAt.new _ _ _).upd ((Upd.refl [] _).alloc _) (by simp)
  have HL := Lib.hid hL
  have HA := Lib.hid hA1
  have S1 := Lib.hid (validLnI _ x wA _ (R_Lnk.upd hR' uA (by simp)) hF)
  have S3 := Lib.hid (fun W (hu : Upd [] wA W) (hk : lnOk x = true) => eachI _ x W _ 42 #[] foldFn _ (R_Lnk.upd hR' (uA.trans hu) (by simp)) (foldL1Ok W) (fun s hs => ⟨(ln_fits hk hF).sf s hs, (lnOk_exps hk s hs).1, (lnOk_exps hk s hs).2.1, (lnOk_exps hk s hs).2.2⟩) (ln_fits hk hF).st (ln_fits hk hF).sm)
  have UA := Lib.hid uA
  have HMS := Lib.hid (show foldF x = if lnOk x then (⟨x.pars, x.start, foldSms x.sms⟩, 0) else (zeroLn, 1) from rfl)
  have hL1 := hL
  unfold RowAt at hL1
  clear r1 r2 hR' uA s1 hF hL hA1
  generalize foldF x = Z at *
  generalize hok : lnOk x = ok at *
  go_enter Try.func12, Try.ntmps12
  go_upto_region 1 with (fail)
  rw [← hwA, ← hB]
  have HBB := Lib.hid hB
  clear hwA hB
  go_wp2_with (first
    | (refine wpList_load_row rfl 29 _ rfl B rfl 29 #[ei x.pars, v1, v2] (0, 0) _ hL1 Try.underlying29 rfl Ln_size ?_)
    | fail)
  refine S1.out.mono ?_
  rintro e w1 ⟨rfl, hu1⟩
  have HU1 := Lib.hid (UA.out.trans hu1)
  have HV1 := Lib.hid hu1
  have ha1 := HA.out.upd hu1 (by simp)
  have hL2 := HL.out.upd hu1 (by simp)
  have HA1 := Lib.hid ha1
  unfold RowAt at ha1 hL2
  clear S1 hu1 HL HA hL1
  cases ok with
  | false =>
    have HZ := Lib.hid (show Z = (zeroLn, 1) by rw [HMS.out]; rfl)
    clear S3 HMS hL2
    go_wp2_with (first
      | (refine wpList_store_row rfl 29 _ _ rfl (B + 1) #[.int .i64 0, .slice none 0 0, .slice none 0 0] rfl rfl 29 _ ha1 Ln_size rfl (by simp [Value.oneCell']) ?_)
      | fail)
    have hr : RowAt (w1.setRow (B + 1) #[.int .i64 0, .slice none 0 0, .slice none 0 0]) (B + 1) 29 [.int .i64 0, .slice none 0 0, .slice none 0 0] := HA1.out.row [.int .i64 0, .slice none 0 0, .slice none 0 0]
    have n0 := hr.cell 0 _ rfl
    have n1 := hr.cell 1 _ rfl
    have n2 := hr.cell 2 _ rfl
    refine bodyPost_ret (v := .tuple #[.agg #[.int .i64 0, .slice none 0 0, .slice none 0 0], .int .i64 1]) (by simp [results, Try.results12, go_sem, n0, n1, n2]) rfl ?_
    rw [HZ.out]
    exact gaveLn_zero _ _ _ (HU1.out.row (Or.inl (by have := HBB.out; omega)) _)
  | true =>
    have HZ := Lib.hid (show Z = (⟨x.pars, x.start, foldSms x.sms⟩, 0) by rw [HMS.out]; rfl)
    have T3 := Lib.hid (S3.out w1 HV1.out (by first | trivial | rfl))
    obtain ⟨y, hy⟩ : ∃ y, y = mapLn foldFn x := ⟨_, rfl⟩
    rw [← hy] at T3
    have HZ2 := Lib.hid (show Z = (⟨y.pars, y.start, y.sms.filter fun s => !dead s⟩, 0) by rw [HZ.out, hy]; rfl)
    clear S3 HMS ha1 HZ hy
    go_wp2_with (first
      | (refine wpList_load_row rfl 29 _ rfl B rfl 29 #[ei x.pars, v1, v2] (0, 0) _ hL2 Try.underlying29 rfl Ln_size ?_)
      | fail)
    refine T3.out.mono ?_
    rintro e w3 ⟨⟨us, rfl, hl, hc, hn⟩, hu3⟩
    obtain ⟨p1, q1, p2, q2, rfl⟩ := ln_form hn
    obtain ⟨fx, ⟨vv1, vv2, g1, g2, hvv, rr1, rr2, rfl⟩, oo, ge⟩ := hn
    simp only [List.cons.injEq, and_true] at hvv
    obtain ⟨-, rfl, rfl⟩ := hvv
    obtain ⟨oo1, oo2, dd⟩ := own_split oo
    have lt1 := R_I1k.lt rr1
    have lt2 := R_Sm1k.lt rr2
    obtain ⟨wB, hwB⟩ : ∃ wB, wB = w3.alloc (.cells #[ei y.pars, .slice p1 y.start.length q1, .slice p2 y.sms.length q2] 29) := ⟨_, rfl⟩
    have uB : Upd [] w3 wB := by rw [hwB]; exact (Upd.refl _ _).alloc _
    obtain ⟨C, hC⟩ : ∃ C, C = w3.heap.size := ⟨_, rfl⟩
    have hrC : RowAt wB C 29 [ei y.pars, .slice p1 y.start.length q1, .slice p2 y.sms.length q2] := by rw [hwB, hC]; exact RowAt.new _ _ _
    have HUB := Lib.hid ((HU1.out.trans hu3).trans uB)
    have HRC := Lib.hid hrC
    have HAB := Lib.hid ((HA1.out.upd hu3 (by simp)).upd uB (by simp))
    have HG1 := Lib.hid (show R_I1 g1 wB [.slice p1 y.start.length q1] y.start ∧ Own g1 wB from ⟨R_I1k.upd rr1 uB (by simp), oo1.upd uB (by simp)⟩)
    have HD := Lib.hid (show (∀ c ∈ g1, w1.heap.size ≤ c ∧ c ∉ g2 ∧ c < C) ∧ (∀ c ∈ g2, w1.heap.size ≤ c ∧ c < C) from ⟨fun c hc => ⟨ge c (by simp [hc]), dd c hc, by have := lt1 c hc; omega⟩, fun c hc => ⟨ge c (by simp [hc]), by have := lt2 c hc; omega⟩⟩)
    have HBW := Lib.hid (show (B + 1) < w1.heap.size from HA1.out.lt)
    have hCB : w1.heap.size ≤ C := by have := hu3.size; omega
    have HBN := Lib.hid (show w.heap.size ≤ (B + 1) by have := HBB.out; omega)
    have hC2 := hrC.cell 2 _ rfl
    have SD := Lib.hid (delFuncSm _ y.sms wB g2 wB g2 _ _ dead _ (foldL2Ok wB g2) (Upd.refl _ _) (fun b hb => hb) (R_Sm1k.upd rr2 uB (by simp)) (oo2.upd uB (by simp)) (fun _ _ => trivial))
    clear T3 hu3 uB HA1 hc rr1 rr2 oo ge oo1 oo2 dd lt1 lt2 hrC hL2 HV1
    go_upto_region 4 with (fail)
    rw [← hwB, ← hC]
    clear hwB hC
    generalize hY : (y.sms.filter fun s => !dead s) = Y at *
    have HY := Lib.hid hY
    clear hY
    go_wp2_with fail
    refine SD.out.mono ?_
    rintro e w4 ⟨⟨g3, a, c, rfl, hr3, ho3, hsub⟩, hu4⟩
    have HR3 := Lib.hid (And.intro hr3 (And.intro ho3 hsub))
    have HU4 := Lib.hid (HUB.out.fresh hu4 (fun c hc => Or.inl (by have := HD.out.2 c hc; have := HU1.out.size; omega)))
    have hCg : C ∉ g2 := fun h => by have := HD.out.2 C h; omega
    have hBg : B + 1 ∉ g2 := fun h => by have := HD.out.2 _ h; have := HBW.out; omega
    have hr4 := HRC.out.upd hu4 hCg
    have HR4 := Lib.hid hr4
    have HA4 := Lib.hid (HAB.out.upd hu4 hBg)
    have HG4 := Lib.hid (show R_I1 g1 w4 [.slice p1 y.start.length q1] y.start ∧ Own g1 w4 from ⟨R_I1k.upd HG1.out.1 hu4 (fun c hc => (HD.out.1 c hc).2.1), HG1.out.2.upd hu4 (fun c hc => (HD.out.1 c hc).2.1)⟩)
    have z2 := hr4.cell 2 _ rfl
    have zf := hr4.fz 2
    clear SD hr3 ho3 hsub hu4 hCg hBg HRC HAB HUB HG1 hC2 hr4
    go_upto_region 5 with (fail)
    obtain ⟨w5, hw5⟩ : ∃ w5, w5 = w4.setCell ⟨C, 2, none⟩ (.slice a Y.length c) := ⟨_, rfl⟩
    rw [← hw5]
    have hU5 : Upd [C] w4 w5 := by rw [hw5]; exact (Upd.refl _ _).setCell (Or.inr (by simp)) _
    have hr5 : RowAt w5 C 29 [ei y.pars, .slice p1 y.start.length q1, .slice a Y.length c] := by rw [hw5]; exact HR4.out.store 2 _
    have ha5 := HA4.out.upd hU5 (by have := HBW.out; simp; omega)
    have HA5 := Lib.hid ha5
    have HU5 := Lib.hid (HU4.out.fresh hU5 (fun b hb => Or.inl (by simp at hb; have := HU1.out.size; omega)))
    have HG5 := Lib.hid (show R_I1 g1 w5 [.slice p1 y.start.length q1] y.start ∧ Own g1 w5 from ⟨R_I1k.upd HG4.out.1 hU5 (fun c hc hm => by simp at hm; have := HD.out.1 c hc; omega), HG4.out.2.upd hU5 (fun c hc hm => by simp at hm; have := HD.out.1 c hc; omega)⟩)
    have HR5 := Lib.hid (show R_Sm1 g3 w5 [.slice a Y.length c] Y ∧ Own g3 w5 from ⟨R_Sm1k.upd HR3.out.1 hU5 (fun c hc hm => by simp at hm; have := HD.out.2 c (HR3.out.2.2 c hc); omega), HR3.out.2.1.upd hU5 (fun c hc hm => by simp at hm; have := HD.out.2 c (HR3.out.2.2 c hc); omega)⟩)
    unfold RowAt at hr5 ha5
    clear hw5 hU5 z2 zf HR4 HA4 HU4 HG4
    go_wp2_with (first
      | (refine wpList_load_row rfl 29 _ rfl C rfl 29 #[ei y.pars, .slice p1 y.start.length q1, .slice a Y.length c] (0, 0) _ hr5 Try.underlying29 rfl Ln_size ?_)
      | (refine wpList_store_row rfl 29 _ _ rfl (B + 1) #[ei y.pars, .slice p1 y.start.length q1, .slice a Y.length c] rfl rfl 29 _ ha5 Ln_size rfl (by simp [Value.oneCell']) ?_)
      | fail)
    have hr : RowAt (w5.setRow (B + 1) #[ei y.pars, .slice p1 y.start.length q1, .slice a Y.length c]) (B + 1) 29 [ei y.pars, .slice p1 y.start.length q1, .slice a Y.length c] := HA5.out.row [ei y.pars, .slice p1 y.start.length q1, .slice a Y.length c]
    have n0 := hr.cell 0 _ rfl
    have n1 := hr.cell 1 _ rfl
    have n2 := hr.cell 2 _ rfl
    refine bodyPost_ret (v := .tuple #[.agg #[ei y.pars, .slice p1 y.start.length q1, .slice a Y.length c], .int .i64 0]) (by simp [results, Try.results12, go_sem, n0, n1, n2]) rfl ?_
    rw [HZ2.out]
    refine gaveLn (us := [ei y.pars, .slice p1 y.start.length q1, .slice a Y.length c]) (W := w1) (x := ⟨y.pars, y.start, Y⟩) ⟨g1 ++ g3, ⟨_, _, g1, g3, rfl, HG5.out.1, HR5.out.1, rfl⟩, own_join HG5.out.2 HR5.out.2 (fun c h1 h2 => (HD.out.1 c h1).2.1 (HR3.out.2.2 c h2)), fun c hc => ?_⟩ rfl (by simp [Value.oneCell']) HU5.out HBN.out HBW.out HU1.out.size
    rcases List.mem_append.1 hc with h | h
    · exact (HD.out.1 c h).1
    · exact (HD.out.2 c (HR3.out.2.2 c h)).1


end Go.Proofs.Ytnfghgaadnobbaa

namespace Go.Proofs.Ytnfghgaadnobbaa
open Go.RowKit

set_option maxRecDepth 20000 in
set_option maxHeartbeats 1000000 in
theorem foldOneS (v : Value) (e : List Tm) (w : World) (fp : List Nat) (hR : R_T1 fp w [v] e) (hb : eOk e = true) :
    Calls Try.prog 37 #[v] w fun r w' => (∃ v', r = .returned v' ∧ New R_T1 w w' v' (foldT e)) ∧ Upd [] w w' := by
  have hres : foldT e = flatE (foldE (treeOf e hb)) := by simp [foldT, foldRes, hb]
  obtain ⟨hok, hfl⟩ := treeOf_ok e hb
  have hlen := eOk_len hb
  have hgood := eOk_good hb _ hok hfl
  obtain ⟨b, off, cap, rfl, -⟩ := slF_src hR (by omega)
  rw [hres]
  generalize treeOf e hb = x at *
  have S2 := foldS _ x w b off cap fp (Nat.le_refl _) (by rw [hfl]; omega) hgood (by rw [hfl]; exact hR)
  rw [hfl] at S2
  exact S2

set_option maxRecDepth 20000 in
set_option maxHeartbeats 1000000 in
theorem foldAllS (v : Value) (xs : List (List Tm)) (w : World) (fp : List Nat) (hl : xs.length ≤ 1000000) (hl2 : ∀ e ∈ xs, eOk e = true) (hR : R_T2 fp w [v] xs) :
    Calls Try.prog 38 #[v] w fun r w' => (∃ v', r = .returned v' ∧ New R_T2 w w' v' (xs.map foldT)) ∧ Upd [] w w' := by
  obtain ⟨i0, hi, hz0, hz1, hz2⟩ := info_parts Try.infoTS
  obtain ⟨a, cap, rfl, g1, g2, hc⟩ := slP_open hR
  unfold maxLen at g2
  have HC := Lib.hid hc
  have HL := Lib.hid hl2
  clear hR hc hl2
  go_enter Try.func38, Try.ntmps38
  go_wp2_with fail
  go_loopw [3, 4] (fun cv iv wr => ∃ k : Nat, k ≤ xs.length ∧ iv = .int .i64 k ∧ Hid (Upd [] w wr) ∧ w.heap.size ≤ wr.heap.size ∧ Hid (Acc R_T1 w 53 wr cv ((xs.take k).map foldT))) (fun _ iv _ => xs.length - (intOf iv).toNat)
  case atStart => exact ⟨0, Nat.zero_le _, rfl, Lib.hid ((Upd.refl _ _).alloc _), by simp, Lib.hid (by simpa using Acc.lit0 R_T1 w 53 w (Nat.le_refl _))⟩
  case round =>
    rename_i cv iv
    obtain ⟨wo, rfl⟩ : ∃ wo : World, wo = wr := ⟨_, rfl⟩
    obtain ⟨k, hk, rfl, HU, hsz, HA⟩ := hrel
    by_cases hlt : k < xs.length
    · obtain ⟨b, off, u, f, rfl, -, -, p0, -, hr⟩ := HC.out k hlt
      have p0 := HU.out.keep p0
      have hkl : (k : Int) < (xs.length : Int) := by omega
      have S1 := Lib.hid (foldOneS u xs[k] wo f (R_T1k.upd hr HU.out (by simp)) (HL.out _ (List.getElem_mem hlt)))
      obtain ⟨d1, e1, rfl, -⟩ := slF2_open hr
      have HXL := Lib.hid (HL.out _ (List.getElem_mem hlt))
      have HTK := Lib.hid (show (xs.take (k + 1)).map foldT = (xs.take k).map foldT ++ [foldT xs[k]] by rw [List.take_succ_eq_append_getElem hlt, List.map_append]; rfl)
      have htl : ((xs.take k).map foldT).length = k := by rw [List.length_map, List.length_take]; omega
      have HTL := Lib.hid htl
      generalize hx : foldT xs[k] = x at *
      generalize xs[k].length = l1 at *
      clear hx hr HXL
      obtain ⟨us, hown, hrows⟩ := HA.out
      have HOW := Lib.hid hown
      have HRW := Lib.hid hrows
      obtain ⟨ca, cc, rfl⟩ := ownsRow_form hown
      clear htl hown hrows
      go_wp2_with fail
      refine S1.out.mono ?_
      rintro e w1 ⟨⟨v', rfl, hnew⟩, hu1⟩
      obtain ⟨va, vc, rfl⟩ := hnew.form
      have hown1 := ownsRow_upd HOW.out hu1
      have hle1 := hu1.size
      have htl := HTL.out
      rw [htl] at hown1
      clear S1
      go_wp2_with (first
        | (at_builtin; refine wpList_append_tight _ rfl _ _ 54 rfl w.heap.size 53 i0 (.slice none 0 0) 1 24 Try.underlying54 hi hz0 hz1 hz2 rfl (by decide) _ _ _ rfl (hown1.alloc _) ⟨w1.heap.size, 0, none⟩ 1 1 [.slice va x.length vc] rfl rfl (fun j u hj => by rw [addr_add, Nat.zero_add]; exact cell_new w1 #[.slice va x.length vc] _ _ rfl j u (by simpa using hj)) (by simp [Value.oneCell']) (by unfold maxLen; omega) (by omega) (by simp; omega) ?_)
        | fail)
      intro v2 w2 hown2 hg2 ht2
      have hacc := Acc.push R_T1k HOW.out HRW.out hsz hu1 hnew (.cells #[.slice va x.length vc] 53) (by rw [htl]; exact hown2) (by rw [htl]; exact hg2) (fun b hb => by
        rcases ht2 b hb with h | h
        · exact Or.inl (by rw [htl]; exact h)
        · exact Or.inr (by simpa using h))
      rw [← HTK.out] at hacc
      have hU2 : Upd [] w w2 := ((HU.out.trans hu1).alloc _).grown hg2 (fun b hb => Or.inl (HOW.out.lt b (by rw [htl]; exact hb)).1)
      have HP := Lib.hid (And.intro hacc hU2)
      clear hacc hU2 hown2 hg2 ht2 hown1 hnew hu1
      go_wp2_with fail
      go_roundw
      case rel => exact ⟨k + 1, by omega, by go_num, Lib.hid HP.out.2, HP.out.2.size, Lib.hid HP.out.1⟩
      case measure => simp [intOf]; omega
    · obtain rfl : k = xs.length := by omega
      have ha := HA.out
      rw [List.take_length] at ha
      have HN := Lib.hid ha.new
      clear ha HA
      go_wp2_with fail
      go_ret
      exact ⟨⟨_, rfl, HN.out⟩, HU.out⟩


theorem four_SmG {wo V0 wg V w2 w3 w4 : World} {s : Sm} {n0 n1 n3 n4 : Value} (h1 : New R_T1 V0 wg n1 s.guard) (h0 : New R_I1 V w2 n0 s.sums) (h3 : New R_T2 w2 w3 n3 s.args) (h4 : New R_T2 w3 w4 n4 s.next) (hV : wo.heap.size ≤ V0.heap.size) (ug0 : Upd [] V0 wg) (ug : Upd [] wg V) (u2 : Upd [] V w2) (u3 : Upd [] w2 w3) (u4 : Upd [] w3 w4) :
    NewQ R_Sm wo w4 [n0, n1, es s.name, n3, n4] s := by
  obtain ⟨g0, P0⟩ := Part.of R_I1k h0
  obtain ⟨g1, P1⟩ := Part.of R_T1k h1
  obtain ⟨g3, P3⟩ := Part.of R_T2k h3
  obtain ⟨g4, P4⟩ := Part.of R_T2k h4
  have s0 := ug0.size
  have s1 := ug.size
  have s2 := u2.size
  have s3 := u3.size
  have s4 := u4.size
  have P0 := P0.upd R_I1k (u3.trans u4) (by simp)
  have P1 := P1.upd R_T1k (((ug.trans u2).trans u3).trans u4) (by simp)
  have P3 := P3.upd R_T2k u4 (by simp)
  refine ⟨g0 ++ (g1 ++ (g3 ++ g4)), ⟨_, _, _, _, g0, g1, g3, g4, rfl, P0.r, P1.r, P3.r, P4.r, rfl⟩, ?_, fun c hc => ?_⟩
  · refine own_join P0.o (own_join P1.o (own_join P3.o P4.o (fun c h1 h2 => by have := P3.b c h1; have := P4.b c h2; omega)) (fun c h1 h2 => ?_)) (fun c h1 h2 => ?_)
    · have := P1.b c h1
      rcases List.mem_append.1 h2 with h2 | h2
      · have := P3.b c h2; omega
      · have := P4.b c h2; omega
    · have := P0.b c h1
      rcases List.mem_append.1 h2 with h2 | h2
      · have := P1.b c h2; omega
      · rcases List.mem_append.1 h2 with h2 | h2
        · have := P3.b c h2; omega
        · have := P4.b c h2; omega
  · simp only [List.mem_append] at hc
    rcases hc with hc | hc | hc | hc
    · have := P0.b c hc; omega
    · have := P1.b c hc; omega
    · have := P3.b c hc; omega
    · have := P4.b c hc; omega

theorem foldSms_dead (xs : List Sm) (k : Nat) (h : k < xs.length) (hd : (foldT xs[k].guard == [(0, 0)]) = true) : foldSms (xs.take (k + 1)) = foldSms (xs.take k) := by
  unfold foldSms
  rw [List.take_succ_eq_append_getElem h, List.map_append, List.filter_append]
  have : dead (mapSm foldFn xs[k]) = true := hd
  simp [this]
theorem foldSms_live (xs : List Sm) (k : Nat) (h : k < xs.length) (hd : (foldT xs[k].guard == [(0, 0)]) = false) : foldSms (xs.take (k + 1)) = foldSms (xs.take k) ++ [mapSm foldFn xs[k]] := by
  unfold foldSms
  rw [List.take_succ_eq_append_getElem h, List.map_append, List.filter_append]
  have : dead (mapSm foldFn xs[k]) = false := hd
  simp [this]
theorem foldSms_le (xs : List Sm) (k : Nat) : (foldSms (xs.take k)).length ≤ k := by
  unfold foldSms
  have h1 := List.length_filter_le (fun s => !dead s) ((xs.take k).map (mapSm foldFn))
  rw [List.length_map, List.length_take] at h1
  omega

set_option maxRecDepth 20000 in
set_option maxHeartbeats 8000000 in
theorem foldLS (cs : List Value) (x : Ln) (w : World) (fp : List Nat) (hR : R_Ln fp w cs x) (hF : LnFit x) :
    Calls Try.prog 10 #[.agg cs.toArray] w (GaveLn w (foldF x)) := by
  obtain ⟨i0, hi, hz0, hz1, hz2⟩ := info_parts Try.infoSm
  obtain ⟨v1, v2, f1', f2', rfl, r1', r2', rfl⟩ := hR
  obtain ⟨P, hB⟩ : ∃ B, B = w.heap.size := ⟨_, rfl⟩
  obtain ⟨wS, hwS⟩ : ∃ wS, wS = (w.alloc (.cells #[ei x.pars, v1, v2] 29)).alloc (.cells #[.int .i64 0, .slice none 0 0, .slice none 0 0] 29) := ⟨_, rfl⟩
  have s1 : (w.alloc (.cells #[ei x.pars, v1, v2] 29)).heap.size = P + 1 := by rw [hB]; simp
  have uS : Upd [] w wS := by rw [hwS]; exact ((Upd.refl _ _).alloc _).alloc _
  have hB1 : RowAt wS (P + 1) 29 zerosLn := by rw [hwS, ← s1]; exact RowAt.new _ _ _
  have hAt : LnAt wS P v1 v2 f1' f2' x := by rw [hwS, hB]; exact (LnAt.new w _ v1 v2 f1' f2' x r1' r2').upd ((Upd.refl [] _).alloc _)
  have HB := Lib.hid hB1
  have S1 := Lib.hid (isLnS P v1 v2 x wS f1' f2' hAt (fun s hs => (hF s hs).1))
  have S00 := Lib.hid (fun (hk : lnOk x = true) W (hu : Upd [] w W) => ownIS v1 x.start W f1' (ln_fits hk hF).st (R_I1k.upd r1' hu (by simp)))
  have HSM := Lib.hid (fun (hk : lnOk x = true) => (ln_fits hk hF).sm)
  have HFI := Lib.hid (fun (hk : lnOk x = true) s (hs : s ∈ x.sms) => And.intro ((ln_fits hk hF).sf s hs) (lnOk_exps hk s hs))
  have US := Lib.hid uS
  have HMS := Lib.hid (show foldF x = if lnOk x then (⟨x.pars, x.start, foldSms x.sms⟩, 0) else (zeroLn, 1) from rfl)
  obtain ⟨p0, p1, p2, -, -⟩ := hAt
  obtain ⟨a2, cp2, rfl, l2, m2, hc⟩ := slQ_open r2'
  unfold maxLen at m2
  have HC := Lib.hid hc
  have HP0 := Lib.hid (And.intro p0 (And.intro p1 p2))
  clear r1' r2' uS s1 hF hB1 p0 p1 p2 hc
  generalize foldF x = Zf at *
  generalize hok : lnOk x = ok at *
  go_enter Try.func10, Try.ntmps10
  go_upto_region 1 with (fail)
  rw [← hwS, ← hB]
  have HBB := Lib.hid hB
  clear hwS hB
  go_wp2_with fail
  refine S1.out.mono ?_
  rintro e w1 ⟨rfl, nq, hw1⟩
  have hu1 : Upd [] wS w1 := by rw [hw1]; exact (Upd.refl _ _).drewN nq
  clear hw1
  have HU1 := Lib.hid (US.out.trans hu1)
  have HV1 := Lib.hid hu1
  have ha1 := HB.out.upd hu1 (by simp)
  have HB1 := Lib.hid ha1
  unfold RowAt at ha1
  clear S1 hu1 HB
  cases ok with
  | false =>
    have HZ := Lib.hid (show Zf = (zeroLn, 1) by rw [HMS.out]; rfl)
    clear HMS S00 HSM HP0 HFI HC
    go_wp2_with (first
      | (refine wpList_store_row rfl 29 _ _ rfl (P + 1) #[.int .i64 0, .slice none 0 0, .slice none 0 0] rfl rfl 29 _ ha1 Ln_size rfl (by simp [Value.oneCell']) ?_)
      | fail)
    have hr : RowAt (w1.setRow (P + 1) #[.int .i64 0, .slice none 0 0, .slice none 0 0]) (P + 1) 29 [.int .i64 0, .slice none 0 0, .slice none 0 0] := HB1.out.row [.int .i64 0, .slice none 0 0, .slice none 0 0]
    have n0 := hr.cell 0 _ rfl
    have n1 := hr.cell 1 _ rfl
    have n2 := hr.cell 2 _ rfl
    refine bodyPost_ret (v := .tuple #[.agg #[.int .i64 0, .slice none 0 0, .slice none 0 0], .int .i64 1]) (by simp [results, Try.results10, go_sem, n0, n1, n2]) rfl ?_
    rw [HZ.out]
    exact gaveLn_zero _ _ _ (HU1.out.row (Or.inl (by have := HBB.out; omega)) _)
  | true =>
    have HZ := Lib.hid (show Zf = (⟨x.pars, x.start, foldSms x.sms⟩, 0) by rw [HMS.out]; rfl)
    have S0 := Lib.hid (S00.out (by first | trivial | rfl))
    have hsm := HSM.out (by first | trivial | rfl)
    have HF2 := Lib.hid (HFI.out (by first | trivial | rfl))
    clear HMS ha1 HSM S00 HFI hok
    obtain ⟨wA, hwA⟩ : ∃ wA, wA = w1 := ⟨_, rfl⟩
    have UA := Lib.hid (show Upd [] w wA by rw [hwA]; exact HU1.out)
    have HA := Lib.hid (show RowAt wA (P + 1) 29 zerosLn by rw [hwA]; exact HB1.out)
    have a0 : wA.cell? ⟨P, 0, none⟩ = some (ei x.pars) := by rw [hwA]; exact HV1.out.keep HP0.out.1
    have a1 : wA.cell? ⟨P, 1, none⟩ = some v1 := by rw [hwA]; exact HV1.out.keep HP0.out.2.1
    have HA2 := Lib.hid (show wA.cell? ⟨P, 2, none⟩ = some (.slice a2 x.sms.length cp2) by rw [hwA]; exact HV1.out.keep HP0.out.2.2)
    have hblA := World.block_lt_of_cell? _ _ a0
    have hbA := HA.out.lt
    rw [← hwA]
    clear hwA HU1 HV1 HB1 HP0 US
    go_upto_region 3 with (fail)
    go_cut [4] (fun p wx => MidC wA wx p x)
    case first =>
      go_region_held3 (fun w' => w'.cell? ⟨P, 0, none⟩ = some (ei x.pars) ∧ w'.cell? ⟨P, 1, none⟩ = some v1) (first | go_keep | (go_split_ands; refine ⟨?_, ?_⟩ <;> (rw [World.cell?_setCell_other _ _ _ _ (by intro h; simp only [Addr.mk.injEq] at h; omega), World.cell?_setCell_other _ _ _ _ (by intro h; simp only [Addr.mk.injEq] at h; omega), World.cell?_setCell_other _ _ _ _ (by intro h; simp only [Addr.mk.injEq] at h; omega)]; first | assumption | (exact ((Upd.refl [] _).alloc _).keep (by assumption)) | simp [*])))
        (first
          | (go_at_call 36; (with_reducible refine (S0.out (wA.alloc (.cells #[.int .i64 0, .slice none 0 0, .slice none 0 0] 29)).drew ((UA.out.alloc _).drew)).mono ?_); rintro e w1 ⟨⟨n0, rfl, hn0⟩, hu1⟩; obtain ⟨x0, y0, rfl⟩ := hn0.form; have hw1 : Upd [] wA w1 := (((Upd.refl [] wA).alloc _).drew).trans hu1; have b0 := hw1.keep a0; have b1 := hw1.keep a1; have rz : RowAt w1 wA.heap.size 29 zerosLn := (RowAt.new wA _ zerosLn).upd (((Upd.refl [] _).drew).trans hu1) (by simp); have hszA := hw1.size; have zc0 := rz.cell 0 _ rfl; have zf0 := rz.fz 0; have zc1 := rz.cell 1 _ rfl; have zf1 := rz.fz 1; have zc2 := rz.cell 2 _ rfl; have zf2 := rz.fz 2; skip)
          | (go_at_call 36; (with_reducible refine (S0.out wA.drew UA.out.drew).mono ?_); rintro e w1 ⟨⟨n0, rfl, hn0⟩, hu1⟩; obtain ⟨x0, y0, rfl⟩ := hn0.form; have hw1 : Upd [] wA w1 := ((Upd.refl [] wA).drew).trans hu1; have b0 := hw1.keep a0; have b1 := hw1.keep a1; have hszA := hw1.size; have ry : RowAt (w1.alloc (.cells #[.int .i64 0, .slice none 0 0, .slice none 0 0] 29)) w1.heap.size 29 zerosLn := RowAt.new w1 _ _; have yc0 := ry.cell 0 _ rfl; have yf0 := ry.fz 0; have yc1 := ry.cell 1 _ rfl; have yf1 := ry.fz 1; have yc2 := ry.cell 2 _ rfl; have yf2 := ry.fz 2; skip))
      · go_wp2_with fail
        go_meet
        exact midC_mk (Z := w1.heap.size) hn0 (by simp) ((Upd.refl [w1.heap.size] w1).alloc _) hszA (Or.inr (Nat.le_refl _)) (RowAt.new w1 _ [ei x.pars, .slice x0 x.start.length y0, .slice none 0 0]) (hw1.alloc _)
      · go_wp2_with fail
        go_meet
        exact midC_mk (Z := wA.heap.size) hn0 (by simp) ((((Upd.refl [wA.heap.size] w1).setCell (p := ⟨wA.heap.size, 0, none⟩) (Or.inr (by simp)) (ei x.pars)).setCell (p := ⟨wA.heap.size, 1, none⟩) (Or.inr (by simp)) (.slice x0 x.start.length y0)).setCell (p := ⟨wA.heap.size, 2, none⟩) (Or.inr (by simp)) (.slice none 0 0)) (Nat.le_refl _) (Or.inl (by simp)) (((rz.store 0 (ei x.pars)).store 1 (.slice x0 x.start.length y0)).store 2 (.slice none 0 0)) (hw1.fresh ((((Upd.refl [wA.heap.size] w1).setCell (p := ⟨wA.heap.size, 0, none⟩) (Or.inr (by simp)) (ei x.pars)).setCell (p := ⟨wA.heap.size, 1, none⟩) (Or.inr (by simp)) (.slice x0 x.start.length y0)).setCell (p := ⟨wA.heap.size, 2, none⟩) (Or.inr (by simp)) (.slice none 0 0)) (by intro c hc; simp at hc; subst hc; left; omega))

    case rest =>
      obtain ⟨Z, x0, y0, g0, rfl, hZA, hrow, hU, r0, o0, bd⟩ := hcut
      obtain ⟨wq, rfl⟩ : ∃ wq : World, wq = wc := ⟨_, rfl⟩
      have hex : ∀ c ∈ Z :: g0, c < wq.heap.size := fun c hc => by
        rcases List.mem_cons.1 hc with rfl | hc
        · exact hrow.lt
        · exact (bd c hc).2.2
      have hacc : AccZ 5 R_Sm wA.heap.size 56 (Z :: g0) wq (.slice none 0 0) (foldSms (x.sms.take 0)) := AccZ.nil _ _ _ _ _ hex
      have HR0 := Lib.hid hrow
      have HU0 := Lib.hid hU
      have HAC := Lib.hid hacc
      have HG := Lib.hid (And.intro r0 o0)
      have HBD := Lib.hid (show ∀ c ∈ g0, wA.heap.size ≤ c ∧ c ≠ Z from fun c hc => ⟨(bd c hc).1, (bd c hc).2.1⟩)
      have k2 := hU.keep HA2.out
      clear hrow hU r0 o0 bd hacc hex S0 a0 a1
      go_wp2_with fail
      go_loopw [5] (fun iv wr => ∃ (k : Nat) (sv : Value), k ≤ x.sms.length ∧ iv = .int .i64 k ∧ Hid (Upd [] wA wr) ∧ Hid (RowAt wr Z 29 [ei x.pars, .slice x0 x.start.length y0, sv]) ∧ Hid (AccZ 5 R_Sm wA.heap.size 56 (Z :: g0) wr sv (foldSms (x.sms.take k))) ∧ Hid (R_I1 g0 wr [.slice x0 x.start.length y0] x.start ∧ Own g0 wr)) (fun iv _ => x.sms.length - (intOf iv).toNat)
      case atStart => exact ⟨0, _, Nat.zero_le _, rfl, HU0, HR0, HAC, HG⟩
      case round =>
        clear HR0 HU0 HAC HG k2
        obtain ⟨wo, rfl⟩ : ∃ wo : World, wo = wr := ⟨_, rfl⟩
        obtain ⟨k, sv, hk, rfl, HU, HR, HAC, HG⟩ := hrel
        have a2k := HU.out.keep HA2.out
        by_cases hlt : k < x.sms.length
        · obtain ⟨b, off, u, f, rfl, -, hbw, -, hcell, -, hr⟩ := HC.out k hlt
          have hkl : (k : Int) < (x.sms.length : Int) := by omega
          have uw : Upd [] w wo := UA.out.trans HU.out
          have hgf := HF2.out _ (List.getElem_mem hlt)
          have HTD := Lib.hid (foldSms_dead x.sms k hlt)
          have HTL' := Lib.hid (foldSms_live x.sms k hlt)
          have hml := foldSms_le x.sms k
          obtain ⟨LK, hLK⟩ : ∃ LK, foldSms (x.sms.take k) = LK := ⟨_, rfl⟩
          rw [hLK] at HTD HTL' hml HAC
          clear hLK
          generalize x.sms[k] = s at *
          obtain ⟨v0, v1', v3, v4, f0, f1, f3, f4, rfl, r0, r1, r3, r4, rfl⟩ := id hr
          obtain ⟨d0, e0, rfl, -⟩ := slF1_open r0
          obtain ⟨d1, e1, rfl, -⟩ := slF2_open r1
          obtain ⟨d3, e3, rfl, -⟩ := slP_open r3
          obtain ⟨d4, e4, rfl, -⟩ := slP_open r4
          have q0 := uw.keep (hcell 0 _ rfl)
          have q1 := uw.keep (hcell 1 _ rfl)
          have q2 := uw.keep (hcell 2 _ rfl)
          have q3 := uw.keep (hcell 3 _ rfl)
          have q4 := uw.keep (hcell 4 _ rfl)
          simp only [Nat.add_zero] at q0
          have SG := Lib.hid (foldOneS _ s.guard wo f1 (R_T1k.upd r1 uw (by simp)) hgf.2.1)
          have S0 := Lib.hid (fun W (hu : Upd [] wo W) => ownIS _ s.sums W f0 hgf.1.1 (R_I1k.upd r0 (uw.trans hu) (by simp)))
          have S3 := Lib.hid (fun W (hu : Upd [] wo W) => foldAllS _ s.args W f3 hgf.1.2.2.1.1 hgf.2.2.1 (R_T2k.upd r3 (uw.trans hu) (by simp)))
          have S4 := Lib.hid (fun W (hu : Upd [] wo W) => foldAllS _ s.next W f4 hgf.1.2.2.2.1 hgf.2.2.2 (R_T2k.upd r4 (uw.trans hu) (by simp)))
          have hbZ : b < Z := by have := UA.out.size; omega
          obtain ⟨us, hown, hrows, hvZ, hexl⟩ := HAC.out
          obtain ⟨m, hm⟩ : ∃ m, LK.length = m := ⟨_, rfl⟩
          rw [hm] at hown hml
          have HTL := Lib.hid hm
          have HOW := Lib.hid hown
          have HRW := Lib.hid hrows
          have HVZ := Lib.hid hvZ
          have HEX := Lib.hid hexl
          obtain ⟨ca, cc, rfl⟩ := ownsRow_form hown
          have hszo := HU.out.size
          have hmf : mapSm foldFn s = ⟨s.sums, foldT s.guard, s.name, s.args.map foldT, s.next.map foldT⟩ := rfl
          have HMF := Lib.hid hmf
          clear hm hown hrows hvZ hexl hcell hr uw r0 r1 r3 r4 hmf hgf
          obtain ⟨L, hL⟩ : ∃ L, L = foldT s.guard := ⟨_, rfl⟩
          rw [← hL] at SG HTD HTL' HMF
          clear hL
          go_wp2_with fail
          refine SG.out.mono ?_
          rintro e wB ⟨⟨nn1, rfl, hn1⟩, huB⟩
          obtain ⟨xb, yb, rfl⟩ := hn1.form
          obtain ⟨fg, rg, -, -⟩ := id hn1
          obtain ⟨ag, cg, hvg, -, -, hcg⟩ := slF2_open rg
          simp only [Value.slice.injEq] at hvg
          obtain ⟨rfl, -, rfl⟩ := hvg
          have HCG := Lib.hid hcg
          have HN1 := Lib.hid hn1
          have HUB := Lib.hid huB
          have HrB := Lib.hid (HR.out.upd huB (by simp))
          have z2 := HrB.out.cell 2 _ rfl
          have y2 := HrB.out.fz 2
          have m0 := huB.keep q0
          have m2' := huB.keep q2
          have m3 := huB.keep q3
          have m4 := huB.keep q4
          clear SG rg hcg hn1 huB q0 q1 q2 q3 q4 a2k
          go_upto_region 9 with (fail)
          go_cut [49] (fun cv wx => cv = .bool (L == [(0, 0)]) ∧ wx = wB)
          case first =>
            clear HTD HTL' S0 S3 S4 HMF
            by_cases hl1 : L.length = 1
            · obtain ⟨⟨t1, t2⟩, rfl⟩ : ∃ t, L = [t] := List.length_eq_one_iff.1 hl1
              obtain ⟨bg, og, rfl, -, -, c1, c2⟩ := HCG.out 0 (by simp)
              simp only [List.getElem_cons_zero, Nat.zero_mul, Nat.add_zero] at c1 c2
              have hq : (([(t1, t2)] : List Tm) == [(0, 0)]) = (t1 == 0 && t2 == 0) := by rw [Bool.eq_iff_iff]; simp
              have HQ := Lib.hid hq
              have hl9 : ((([(t1, t2)] : List Tm).length : Int) == 1) = true := by simp
              simp only [List.length_singleton] at hl9 ⊢
              by_cases h1 : t1 = 0
              · by_cases h2 : t2 = 0
                · have b1 : (t1 == 0) = true := by simpa using h1
                  have b2 : (t2 == 0) = true := by simpa using h2
                  have HE := Lib.hid (show (([(t1, t2)] : List Tm) == [(0, 0)]) = true by rw [HQ.out, b1, b2]; rfl)
                  clear hq h1 h2
                  go_wp2_with fail
                  go_meet
                  exact ⟨by rw [HE.out], by first | rfl | trivial⟩
                · have b1 : (t1 == 0) = true := by simpa using h1
                  have b2 : (t2 == 0) = false := by simpa using h2
                  have HE := Lib.hid (show (([(t1, t2)] : List Tm) == [(0, 0)]) = false by rw [HQ.out, b1, b2]; rfl)
                  clear hq h1 h2
                  go_wp2_with fail
                  go_meet
                  exact ⟨by rw [HE.out], by first | rfl | trivial⟩
              · have b1 : (t1 == 0) = false := by simpa using h1
                have HE := Lib.hid (show (([(t1, t2)] : List Tm) == [(0, 0)]) = false by rw [HQ.out, b1]; rfl)
                clear hq h1
                go_wp2_with fail
                go_meet
                exact ⟨by rw [HE.out], by first | rfl | trivial⟩
            · have hl9 : ((L.length : Int) == 1) = false := by simp; omega
              have HE := Lib.hid (show (L == [(0, 0)]) = false by rw [beq_eq_false_iff_ne]; rintro rfl; exact hl1 rfl)
              clear hl1
              go_wp2_with fail
              go_meet
              exact ⟨by rw [HE.out], by first | rfl | trivial⟩
          case rest =>
            obtain ⟨rfl, hwcB⟩ := hcut
            obtain rfl := hwcB
            obtain ⟨wB, rfl⟩ : ∃ wB : World, wB = wc := ⟨_, rfl⟩
            clear HCG
            cases hdd : (L == [(0, 0)]) with
            | true =>
              have HTK := Lib.hid (HTD.out hdd)
              clear HTD HTL' hdd
              go_wp2_with fail
              go_roundw
              case rel => exact ⟨k + 1, _, by omega, by go_num, Lib.hid (HU.out.trans HUB.out), HrB, Lib.hid (by rw [HTK.out]; exact HAC.out.upd R_Smk HUB.out), Lib.hid ⟨R_I1k.upd HG.out.1 HUB.out (by simp), HG.out.2.upd HUB.out (by simp)⟩⟩
              case measure => simp [intOf]; omega
            | false =>
              have HTK := Lib.hid (HTL'.out hdd)
              clear HTD HTL' hdd HAC
              go_upto_region 10 with (fail)
              refine wp_region_held_drew (S := fun w' => w'.cell? ⟨b, off + k * 5, none⟩ = some (.slice d0 s.sums.length e0) ∧ w'.cell? ⟨b, off + k * 5 + 2, none⟩ = some (es s.name) ∧ w'.cell? ⟨b, off + k * 5 + 3, none⟩ = some (.slice d3 s.args.length e3) ∧ w'.cell? ⟨b, off + k * 5 + 4, none⟩ = some (.slice d4 s.next.length e4)) (by kernel_rfl) ?_ (fun hHeld => ?_)
              · exact ⟨m0, m2', m3, m4⟩
              refine wpAnyH_take (i := 0) (v := ?_) rfl (by kernel_rfl) (by kernel_rfl) (by kernel_rfl) (fun _ _ _ h => h) (Or.inl ⟨by rfl, ?_⟩) (by assumption) ?_
              rotate_left
              · (intro w hSw; (try dsimp only at hSw); go_simp)
                first | done | with_reducible rfl
              try simp only [Act.put, List.getElem_toArray, List.getElem_cons_zero, List.setIfInBounds_toArray, List.set_cons_zero, List.set_cons_succ]
              refine wpAnyH_take (i := 2) (v := ?_) rfl (by kernel_rfl) (by kernel_rfl) (by kernel_rfl) (fun _ _ _ h => h) (Or.inl ⟨by rfl, ?_⟩) (by assumption) ?_
              rotate_left
              · (intro w hSw; (try dsimp only at hSw); go_simp)
                first | done | with_reducible rfl
              try simp only [Act.put, List.getElem_toArray, List.getElem_cons_zero, List.getElem_cons_succ, List.setIfInBounds_toArray, List.set_cons_zero, List.set_cons_succ]
              refine wpAnyH_take (i := 3) (v := ?_) rfl (by kernel_rfl) (by kernel_rfl) (by kernel_rfl) (fun _ _ _ h => h) (Or.inl ⟨by rfl, ?_⟩) (by assumption) ?_
              rotate_left
              · (intro w hSw; (try dsimp only at hSw); go_simp)
                first | done | with_reducible rfl
              try simp only [Act.put, List.getElem_toArray, List.getElem_cons_zero, List.getElem_cons_succ, List.setIfInBounds_toArray, List.set_cons_zero, List.set_cons_succ]
              refine wpAnyH_take (i := 4) (v := ?_) rfl (by kernel_rfl) (by kernel_rfl) (by kernel_rfl) (fun _ _ _ h => h) (Or.inl ⟨by rfl, ?_⟩) (by assumption) ?_
              rotate_left
              · (intro w hSw; (try dsimp only at hSw); go_simp)
                first | done | with_reducible rfl
              try simp only [Act.put, List.getElem_toArray, List.getElem_cons_zero, List.getElem_cons_succ, List.setIfInBounds_toArray, List.set_cons_zero, List.set_cons_succ]
              refine wpAnyH_take (i := 5) (v := ?_) rfl (by kernel_rfl) (by kernel_rfl) (by kernel_rfl) (fun _ _ _ h => h) (Or.inl ⟨by rfl, ?_⟩) (by assumption) ?_
              rotate_left
              · (intro w hSw; (try dsimp only at hSw); go_simp)
                first | done | with_reducible rfl
              try simp only [Act.put, List.getElem_toArray, List.getElem_cons_zero, List.getElem_cons_succ, List.setIfInBounds_toArray, List.set_cons_zero, List.set_cons_succ]
              refine wpAnyH_take (i := 7) (v := ?_) rfl (by kernel_rfl) (by kernel_rfl) (by kernel_rfl) (fun _ _ _ h => h) (Or.inl ⟨by rfl, ?_⟩) (by assumption) ?_
              rotate_left
              · (intro w hSw; (try dsimp only at hSw); go_simp)
                first | done | with_reducible rfl
              try simp only [Act.put, List.getElem_toArray, List.getElem_cons_zero, List.getElem_cons_succ, List.setIfInBounds_toArray, List.set_cons_zero, List.set_cons_succ]
              refine wpAnyH_take (i := 8) (v := ?_) rfl (by kernel_rfl) (by kernel_rfl) (by kernel_rfl) (fun _ _ _ h => h) (Or.inl ⟨by rfl, ?_⟩) (by assumption) ?_
              rotate_left
              · (intro w hSw; (try dsimp only at hSw); go_simp)
                first | done | with_reducible rfl
              try simp only [Act.put, List.getElem_toArray, List.getElem_cons_zero, List.getElem_cons_succ, List.setIfInBounds_toArray, List.set_cons_zero, List.set_cons_succ]
              refine wpAnyH_take (i := 9) (v := ?_) rfl (by kernel_rfl) (by kernel_rfl) (by kernel_rfl) (fun _ _ _ h => h) (Or.inl ⟨by rfl, ?_⟩) (by assumption) ?_
              rotate_left
              · (intro w hSw; (try dsimp only at hSw); go_simp)
                first | done | with_reducible rfl
              try simp only [Act.put, List.getElem_toArray, List.getElem_cons_zero, List.getElem_cons_succ, List.setIfInBounds_toArray, List.set_cons_zero, List.set_cons_succ]
              refine wpAnyH_take (i := 10) (v := ?_) rfl (by kernel_rfl) (by kernel_rfl) (by kernel_rfl) (fun _ _ _ h => h) (Or.inl ⟨by rfl, ?_⟩) (by assumption) ?_
              rotate_left
              · (intro w hSw; (try dsimp only at hSw); go_simp)
                first | done | with_reducible rfl
              try simp only [Act.put, List.getElem_toArray, List.getElem_cons_zero, List.getElem_cons_succ, List.setIfInBounds_toArray, List.set_cons_zero, List.set_cons_succ]
              refine wpAnyH_take (i := 11) (v := ?_) rfl (by kernel_rfl) (by kernel_rfl) (by kernel_rfl) (fun _ _ _ h => h) (Or.inl ⟨by rfl, ?_⟩) (by assumption) ?_
              rotate_left
              · (intro w hSw; (try dsimp only at hSw); go_simp)
                first | done | with_reducible rfl
              try simp only [Act.put, List.getElem_toArray, List.getElem_cons_zero, List.getElem_cons_succ, List.setIfInBounds_toArray, List.set_cons_zero, List.set_cons_succ]
              refine wpAnyH_take (i := 12) (v := ?_) rfl (by kernel_rfl) (by kernel_rfl) (by kernel_rfl) (fun _ _ _ h => h) (Or.inl ⟨by rfl, ?_⟩) (by assumption) ?_
              rotate_left
              · (intro w hSw; (try dsimp only at hSw); go_simp)
                first | done | with_reducible rfl
              try simp only [Act.put, List.getElem_toArray, List.getElem_cons_zero, List.getElem_cons_succ, List.setIfInBounds_toArray, List.set_cons_zero, List.set_cons_succ]
              refine wpAnyH_take (i := 13) (v := ?_) rfl (by kernel_rfl) (by kernel_rfl) (by kernel_rfl) (fun _ _ _ h => h) (Or.inl ⟨by rfl, ?_⟩) (by assumption) ?_
              rotate_left
              · (intro w hSw; (try dsimp only at hSw); go_simp)
                first | done | with_reducible rfl
              try simp only [Act.put, List.getElem_toArray, List.getElem_cons_zero, List.getElem_cons_succ, List.setIfInBounds_toArray, List.set_cons_zero, List.set_cons_succ]
              refine wpAnyH_take (i := 14) (v := ?_) rfl (by kernel_rfl) (by kernel_rfl) (by kernel_rfl) (fun _ _ _ h => h) (Or.inl ⟨by rfl, ?_⟩) (by assumption) ?_
              rotate_left
              · (intro w hSw; (try dsimp only at hSw); go_simp)
                first | done | with_reducible rfl
              try simp only [Act.put, List.getElem_toArray, List.getElem_cons_zero, List.getElem_cons_succ, List.setIfInBounds_toArray, List.set_cons_zero, List.set_cons_succ]
              refine wpAnyH_take (i := 15) (v := ?_) rfl (by kernel_rfl) (by kernel_rfl) (by kernel_rfl) (fun _ _ _ h => h) (Or.inl ⟨by rfl, ?_⟩) (by assumption) ?_
              rotate_left
              · (intro w hSw; (try dsimp only at hSw); go_simp)
                first | done | with_reducible rfl
              try simp only [Act.put, List.getElem_toArray, List.getElem_cons_zero, List.getElem_cons_succ, List.setIfInBounds_toArray, List.set_cons_zero, List.set_cons_succ]
              refine wpAnyH_take (i := 17) (v := ?_) rfl (by kernel_rfl) (by kernel_rfl) (by kernel_rfl) (fun _ _ _ h => h) (Or.inl ⟨by rfl, ?_⟩) (by assumption) ?_
              rotate_left
              · (intro w hSw; (try dsimp only at hSw); go_simp)
                first | done | with_reducible rfl
              try simp only [Act.put, List.getElem_toArray, List.getElem_cons_zero, List.getElem_cons_succ, List.setIfInBounds_toArray, List.set_cons_zero, List.set_cons_succ]
              refine wpAnyH_take (i := 18) (v := ?_) rfl (by kernel_rfl) (by kernel_rfl) (by kernel_rfl) (fun _ _ _ h => h) (Or.inl ⟨by rfl, ?_⟩) (by assumption) ?_
              rotate_left
              · (intro w hSw; (try dsimp only at hSw); go_simp)
                first | done | with_reducible rfl
              try simp only [Act.put, List.getElem_toArray, List.getElem_cons_zero, List.getElem_cons_succ, List.setIfInBounds_toArray, List.set_cons_zero, List.set_cons_succ]
              refine wpAnyH_take (i := 19) (v := ?_) rfl (by kernel_rfl) (by kernel_rfl) (by kernel_rfl) (fun _ _ _ h => h) (Or.inl ⟨by rfl, ?_⟩) (by assumption) ?_
              rotate_left
              · (intro w hSw; (try dsimp only at hSw); go_simp)
                first | done | with_reducible rfl
              try simp only [Act.put, List.getElem_toArray, List.getElem_cons_zero, List.getElem_cons_succ, List.setIfInBounds_toArray, List.set_cons_zero, List.set_cons_succ]
              refine wpAnyH_take (i := 20) (v := ?_) rfl (by kernel_rfl) (by kernel_rfl) (by kernel_rfl) (fun _ _ _ h => h) (Or.inl ⟨by rfl, ?_⟩) (by assumption) ?_
              rotate_left
              · (intro w hSw; (try dsimp only at hSw); go_simp)
                first | done | with_reducible rfl
              try simp only [Act.put, List.getElem_toArray, List.getElem_cons_zero, List.getElem_cons_succ, List.setIfInBounds_toArray, List.set_cons_zero, List.set_cons_succ]
              refine wpAnyH_ready (rs := [1, 6]) (by kernel_rfl) (by simp) ?_
              refine AllReadyH.cons rfl (fun K hK => ?_) (AllReadyH.cons rfl (fun K hK => ?_) AllReadyH.nil)
              · skip
                go_simp
                refine hK.out _ _ (by first | exact hHeld | go_keep) (fun hHeld => ?_)
                clear hK K
                try simp only [Act.put, List.getElem_toArray, List.getElem_cons_zero, List.getElem_cons_succ, List.setIfInBounds_toArray, List.set_cons_zero, List.set_cons_succ]
                refine wpAnyH_ready (rs := [6]) (by kernel_rfl) (by simp) ?_
                refine AllReadyH.cons rfl (fun K hK => ?_) AllReadyH.nil
                go_simp
                refine (S0.out wB.drew (HUB.out.drew)).mono ?_
                rintro e w2 ⟨⟨n0, rfl, hn0⟩, hu2⟩; obtain ⟨xa, ya, rfl⟩ := hn0.form; have hw2 : Upd [] wB w2 := ((Upd.refl [] wB).drew).trans hu2; have m0_2 := hw2.keep m0; have m2'_2 := hw2.keep m2'; have m3_2 := hw2.keep m3; have m4_2 := hw2.keep m4; have z2_2 := hw2.keep z2; have y2_2 := (HrB.out.upd hw2 (by simp)).fz 2; have hs_2 := hw2.size
                refine hK.out _ _ ⟨m0_2, m2'_2, m3_2, m4_2⟩ (fun hHeld => ?_)
                clear hK K
                try simp only [Act.put, List.getElem_toArray, List.getElem_cons_zero, List.getElem_cons_succ, List.setIfInBounds_toArray, List.set_cons_zero, List.set_cons_succ]
                refine wpAnyH_ready (rs := [16]) (by kernel_rfl) (by simp) ?_
                refine AllReadyH.cons rfl (fun K hK => ?_) AllReadyH.nil
                go_simp
                refine (S3.out w2 (HUB.out.trans hw2)).mono ?_
                rintro e w3 ⟨⟨n3, rfl, hn3⟩, hu3⟩; obtain ⟨x3, y3, hv3⟩ := hn3.formP; rw [List.length_map] at hv3; subst hv3; have hw3 : Upd [] wB w3 := hw2.trans hu3; have m0_3 := hw3.keep m0; have m2'_3 := hw3.keep m2'; have m3_3 := hw3.keep m3; have m4_3 := hw3.keep m4; have z2_3 := hw3.keep z2; have y2_3 := (HrB.out.upd hw3 (by simp)).fz 2; have hs_3 := hw3.size
                refine hK.out _ _ ⟨m0_3, m2'_3, m3_3, m4_3⟩ (fun hHeld => ?_)
                clear hK K
                try simp only [Act.put, List.getElem_toArray, List.getElem_cons_zero, List.getElem_cons_succ, List.setIfInBounds_toArray, List.set_cons_zero, List.set_cons_succ]
                refine wpAnyH_ready (rs := [21]) (by kernel_rfl) (by simp) ?_
                refine AllReadyH.cons rfl (fun K hK => ?_) AllReadyH.nil
                go_simp
                refine (S4.out w3 (HUB.out.trans hw3)).mono ?_
                rintro e w4 ⟨⟨n4, rfl, hn4⟩, hu4⟩; obtain ⟨x4, y4, hv4⟩ := hn4.formP; rw [List.length_map] at hv4; subst hv4; have hw4 : Upd [] wB w4 := hw3.trans hu4; have m0_4 := hw4.keep m0; have m2'_4 := hw4.keep m2'; have m3_4 := hw4.keep m3; have m4_4 := hw4.keep m4; have z2_4 := hw4.keep z2; have y2_4 := (HrB.out.upd hw4 (by simp)).fz 2; have hs_4 := hw4.size; have huo : Upd [] wo w4 := HUB.out.trans hw4; have hou4 := ownsRow_upd HOW.out huo; have hle4 := huo.size; have hr4 := HrB.out.upd hw4 (by simp); have hr4a := hr4.upd ((Upd.refl [] w4).alloc (.cells #[.slice xa s.sums.length ya, .slice xb L.length yb, es s.name, .slice x3 s.args.length y3, .slice x4 s.next.length y4] 56)) (by simp); have z2_a := hr4a.cell 2 _ rfl; have y2_a := hr4a.fz 2
                refine hK.out _ _ ⟨m0_4, m2'_4, m3_4, m4_4⟩ (fun hHeld => ?_)
                clear hK K
                try simp only [Act.put, List.getElem_toArray, List.getElem_cons_zero, List.getElem_cons_succ, List.setIfInBounds_toArray, List.set_cons_zero, List.set_cons_succ]
                refine wpAnyH_take (i := 22) (v := ?_) rfl (by kernel_rfl) (by kernel_rfl) (by kernel_rfl) (fun _ _ _ h => h) (Or.inl ⟨by rfl, ?_⟩) (by assumption) ?_
                rotate_left
                · (intro w hSw; (try dsimp only at hSw); go_simp)
                  first | done | with_reducible rfl
                try simp only [Act.put, List.getElem_toArray, List.getElem_cons_zero, List.getElem_cons_succ, List.setIfInBounds_toArray, List.set_cons_zero, List.set_cons_succ]
                refine wpAnyH_ready (rs := [23]) (by kernel_rfl) (by simp) ?_
                refine AllReadyH.cons rfl (fun K hK => ?_) AllReadyH.nil
                go_simp
                refine hK.out _ _ (by go_keep) (fun hHeld => ?_)
                clear hK K
                try simp only [Act.put, List.getElem_toArray, List.getElem_cons_zero, List.getElem_cons_succ, List.setIfInBounds_toArray, List.set_cons_zero, List.set_cons_succ]
                refine wpAnyH_ready (rs := [24]) (by kernel_rfl) (by simp) ?_
                refine AllReadyH.cons rfl (fun K hK => ?_) AllReadyH.nil
                refine step_append_lies _ (by rfl) _ _ 27 (by rfl) wA.heap.size 56 i0 (.agg #[.slice none 0 0, .slice none 0 0, .string ⟨#[]⟩, .slice none 0 0, .slice none 0 0]) 5 112 Try.underlying27 hi hz0 hz1 hz2 rfl (by decide) _ m us.flatten (by rfl) (hou4.alloc _) ⟨w4.heap.size, 0, none⟩ 1 1 [.slice xa s.sums.length ya, .slice xb L.length yb, es s.name, .slice x3 s.args.length y3, .slice x4 s.next.length y4] (by rfl) (by rfl) (by intro j u hj; rw [addr_add, Nat.zero_add]; exact cell_new w4 #[.slice xa s.sums.length ya, .slice xb L.length yb, es s.name, .slice x3 s.args.length y3, .slice x4 s.next.length y4] _ _ rfl j u (by simpa using hj)) (by simp [Value.oneCell']) (by decide) (by unfold maxLen; omega) (by omega) (by simp; omega) (w4.heap.size + 1) (by simp) ?_; intro g gcap w5 hown5 hg5 hat5 hlt5; have hv5 : Upd (Value.slice ca m cc).ownBlock.toList (w4.alloc (.cells #[.slice xa s.sums.length ya, .slice xb L.length yb, es s.name, .slice x3 s.args.length y3, .slice x4 s.next.length y4] 56)) w5 := (Upd.refl _ _).grown hg5 (fun k hk => Or.inr (by simp [hk])); have hr5 := hr4a.upd hv5 (by intro hm; exact HVZ.out Z (by simpa using hm) (by simp)); have z2_5 := hr5.cell 2 _ rfl; have y2_5 := hr5.fz 2; have hba : ∀ c, c < wA.heap.size → c ∉ (Value.slice ca m cc).ownBlock.toList := fun c hc hm => (by have := (HOW.out.lt c (by simpa using hm)).1; omega); have hb5 : b < wA.heap.size := (by have := UA.out.size; omega); have hk5 : ∀ q v, w4.cell? ⟨b, q, none⟩ = some v → w5.cell? ⟨b, q, none⟩ = some v := fun q v hq => (by rw [← ((Upd.refl [] w4).alloc (.cells #[.slice xa s.sums.length ya, .slice xb L.length yb, es s.name, .slice x3 s.args.length y3, .slice x4 s.next.length y4] 56)).keep hq]; exact World.cell?_of_block (hv5.block b (by have := hw4.size; have := HUB.out.size; simp; omega) (hba b hb5))); have m0_5 := hk5 _ _ m0_4; have m2'_5 := hk5 _ _ m2'_4; have m3_5 := hk5 _ _ m3_4; have m4_5 := hk5 _ _ m4_4
                refine hK.out _ _ ⟨m0_5, m2'_5, m3_5, m4_5⟩ (fun hHeld => ?_)
                clear hK K
                try simp only [Act.put, List.getElem_toArray, List.getElem_cons_zero, List.getElem_cons_succ, List.setIfInBounds_toArray, List.set_cons_zero, List.set_cons_succ]
                refine wpAnyH_take (i := 25) (v := ?_) rfl (by kernel_rfl) (by kernel_rfl) (by kernel_rfl) (fun _ _ _ h => h) (Or.inl ⟨by rfl, ?_⟩) (by assumption) ?_
                rotate_left
                · (intro w hSw; (try dsimp only at hSw); go_simp)
                  first | done | with_reducible rfl
                try simp only [Act.put, List.getElem_toArray, List.getElem_cons_zero, List.getElem_cons_succ, List.setIfInBounds_toArray, List.set_cons_zero, List.set_cons_succ]
                refine wpAnyH_ready (rs := [26]) (by kernel_rfl) (by simp) ?_
                refine AllReadyH.cons rfl (fun K hK => ?_) AllReadyH.nil
                go_simp
                refine hK.out _ _ (by go_split_ands; refine ⟨?_, ?_, ?_, ?_⟩ <;> (rw [World.cell?_setCell_other _ _ _ _ (by intro h; simp only [Addr.mk.injEq] at h; omega)]; assumption)) (fun hHeld => ?_)
                clear hK K
                try simp only [Act.put, List.getElem_toArray, List.getElem_cons_zero, List.getElem_cons_succ, List.setIfInBounds_toArray, List.set_cons_zero, List.set_cons_succ]
                refine wpAnyH_done (by kernel_rfl) ?_ _
                have hgg : (w4.alloc (.cells #[.slice xa s.sums.length ya, .slice xb L.length yb, es s.name, .slice x3 s.args.length y3, .slice x4 s.next.length y4] 56)).grownBy w5 (Value.slice ca m cc).ownBlock := ⟨hg5.os, hg5.tape, hg5.output, hg5.size, hg5.block⟩
                have hnew := four_SmG (s := mapSm foldFn s) (wo := wo) (by rw [HMF.out]; exact HN1.out) (by rw [HMF.out]; exact hn0) (by rw [HMF.out]; exact hn3) (by rw [HMF.out]; exact hn4) (Nat.le_refl _) HUB.out ((Upd.refl [] wB).drew) hu2 hu3 hu4
                have hacc := AccZ.push (w := wo) (ex := Z :: g0) R_Smk (by rw [HTL.out]; exact HOW.out) HRW.out HVZ.out HEX.out hszo huo hnew rfl (.cells #[.slice xa s.sums.length ya, .slice xb L.length yb, es s.name, .slice x3 s.args.length y3, .slice x4 s.next.length y4] 56) (by rw [HTL.out, HMF.out]; exact hown5) hgg (fun c hc => by
                  simp only [Value.ownBlock, Option.some.injEq] at hc
                  subst hc
                  rcases hat5 with h | h
                  · exact Or.inl h
                  · exact Or.inr (by simp; omega))
                rw [← HTK.out] at hacc
                have uZ : Upd [Z] w5 (w5.setCell ⟨Z, 2, none⟩ (.slice (some ⟨g, 0, none⟩) (m + 1) gcap)) := (Upd.refl _ _).setCell (Or.inr (by simp)) _
                have hacc2 := hacc.put R_Smk uZ (by simp)
                have hU5 : Upd [] wA (w5.setCell ⟨Z, 2, none⟩ (.slice (some ⟨g, 0, none⟩) (m + 1) gcap)) := (((HU.out.trans huo).alloc _).grown hgg (fun c hc => Or.inl (HOW.out.lt c hc).1)).setCell (Or.inl hZA) _
                have hrow5 : RowAt (w5.setCell ⟨Z, 2, none⟩ (.slice (some ⟨g, 0, none⟩) (m + 1) gcap)) Z 29 [ei x.pars, .slice x0 x.start.length y0, (.slice (some ⟨g, 0, none⟩) (m + 1) gcap)] := hr5.store 2 _
                have hgo : ∀ c ∈ g0, c ∉ (Value.slice ca m cc).ownBlock.toList := fun c hc hm => HVZ.out c (by simpa using hm) (by simp [hc])
                have hgz : ∀ c ∈ g0, c ∉ [Z] := fun c hc hm => (HBD.out c hc).2 (by simpa using hm)
                have hG5 := And.intro (R_I1k.upd (R_I1k.upd (R_I1k.upd (R_I1k.upd HG.out.1 huo (by simp)) ((Upd.refl [] w4).alloc (.cells #[.slice xa s.sums.length ya, .slice xb L.length yb, es s.name, .slice x3 s.args.length y3, .slice x4 s.next.length y4] 56)) (by simp)) hv5 hgo) uZ hgz) ((((HG.out.2.upd huo (by simp)).upd ((Upd.refl [] w4).alloc (.cells #[.slice xa s.sums.length ya, .slice xb L.length yb, es s.name, .slice x3 s.args.length y3, .slice x4 s.next.length y4] 56)) (by simp)).upd hv5 hgo).upd uZ hgz)
                have HP := Lib.hid (And.intro (And.intro hacc2 hU5) (And.intro hrow5 hG5))
                clear hacc hacc2 uZ hU5 hrow5 hgo hgz hG5 hgg hnew hown5 hg5 hat5 hlt5 hv5 hr5 z2_5 y2_5 m0_5 m2'_5 m3_5 m4_5 hHeld hk5 hba
                clear huo hou4 hle4 hr4 hr4a z2_a y2_a z2_4 y2_4 z2_3 y2_3 z2_2 y2_2 z2 y2 m0 m2' m3 m4 m0_2 m2'_2 m3_2 m4_2 m0_3 m2'_3 m3_3 m4_3 m0_4 m2'_4 m3_4 m4_4
                go_wp2_with fail
                go_roundw
                case rel => exact ⟨k + 1, _, by omega, by go_num, Lib.hid HP.out.1.2, Lib.hid HP.out.2.1, Lib.hid HP.out.1.1, Lib.hid HP.out.2.2⟩
                case measure => simp [intOf]; omega
              · skip
                go_simp
                refine (S0.out wB.drew (HUB.out.drew)).mono ?_
                rintro e w2 ⟨⟨n0, rfl, hn0⟩, hu2⟩; obtain ⟨xa, ya, rfl⟩ := hn0.form; have hw2 : Upd [] wB w2 := ((Upd.refl [] wB).drew).trans hu2; have m0_2 := hw2.keep m0; have m2'_2 := hw2.keep m2'; have m3_2 := hw2.keep m3; have m4_2 := hw2.keep m4; have z2_2 := hw2.keep z2; have y2_2 := (HrB.out.upd hw2 (by simp)).fz 2; have hs_2 := hw2.size
                refine hK.out _ _ ⟨m0_2, m2'_2, m3_2, m4_2⟩ (fun hHeld => ?_)
                clear hK K
                try simp only [Act.put, List.getElem_toArray, List.getElem_cons_zero, List.getElem_cons_succ, List.setIfInBounds_toArray, List.set_cons_zero, List.set_cons_succ]
                refine wpAnyH_ready (rs := [1, 16]) (by kernel_rfl) (by simp) ?_
                refine AllReadyH.cons rfl (fun K hK => ?_) (AllReadyH.cons rfl (fun K hK => ?_) AllReadyH.nil)
                · skip
                  go_simp
                  refine hK.out _ _ (by first | exact hHeld | go_keep) (fun hHeld => ?_)
                  clear hK K
                  try simp only [Act.put, List.getElem_toArray, List.getElem_cons_zero, List.getElem_cons_succ, List.setIfInBounds_toArray, List.set_cons_zero, List.set_cons_succ]
                  refine wpAnyH_ready (rs := [16]) (by kernel_rfl) (by simp) ?_
                  refine AllReadyH.cons rfl (fun K hK => ?_) AllReadyH.nil
                  go_simp
                  refine (S3.out w2 (HUB.out.trans hw2)).mono ?_
                  rintro e w3 ⟨⟨n3, rfl, hn3⟩, hu3⟩; obtain ⟨x3, y3, hv3⟩ := hn3.formP; rw [List.length_map] at hv3; subst hv3; have hw3 : Upd [] wB w3 := hw2.trans hu3; have m0_3 := hw3.keep m0; have m2'_3 := hw3.keep m2'; have m3_3 := hw3.keep m3; have m4_3 := hw3.keep m4; have z2_3 := hw3.keep z2; have y2_3 := (HrB.out.upd hw3 (by simp)).fz 2; have hs_3 := hw3.size
                  refine hK.out _ _ ⟨m0_3, m2'_3, m3_3, m4_3⟩ (fun hHeld => ?_)
                  clear hK K
                  try simp only [Act.put, List.getElem_toArray, List.getElem_cons_zero, List.getElem_cons_succ, List.setIfInBounds_toArray, List.set_cons_zero, List.set_cons_succ]
                  refine wpAnyH_ready (rs := [21]) (by kernel_rfl) (by simp) ?_
                  refine AllReadyH.cons rfl (fun K hK => ?_) AllReadyH.nil
                  go_simp
                  refine (S4.out w3 (HUB.out.trans hw3)).mono ?_
                  rintro e w4 ⟨⟨n4, rfl, hn4⟩, hu4⟩; obtain ⟨x4, y4, hv4⟩ := hn4.formP; rw [List.length_map] at hv4; subst hv4; have hw4 : Upd [] wB w4 := hw3.trans hu4; have m0_4 := hw4.keep m0; have m2'_4 := hw4.keep m2'; have m3_4 := hw4.keep m3; have m4_4 := hw4.keep m4; have z2_4 := hw4.keep z2; have y2_4 := (HrB.out.upd hw4 (by simp)).fz 2; have hs_4 := hw4.size; have huo : Upd [] wo w4 := HUB.out.trans hw4; have hou4 := ownsRow_upd HOW.out huo; have hle4 := huo.size; have hr4 := HrB.out.upd hw4 (by simp); have hr4a := hr4.upd ((Upd.refl [] w4).alloc (.cells #[.slice xa s.sums.length ya, .slice xb L.length yb, es s.name, .slice x3 s.args.length y3, .slice x4 s.next.length y4] 56)) (by simp); have z2_a := hr4a.cell 2 _ rfl; have y2_a := hr4a.fz 2
                  refine hK.out _ _ ⟨m0_4, m2'_4, m3_4, m4_4⟩ (fun hHeld => ?_)
                  clear hK K
                  try simp only [Act.put, List.getElem_toArray, List.getElem_cons_zero, List.getElem_cons_succ, List.setIfInBounds_toArray, List.set_cons_zero, List.set_cons_succ]
                  refine wpAnyH_take (i := 22) (v := ?_) rfl (by kernel_rfl) (by kernel_rfl) (by kernel_rfl) (fun _ _ _ h => h) (Or.inl ⟨by rfl, ?_⟩) (by assumption) ?_
                  rotate_left
                  · (intro w hSw; (try dsimp only at hSw); go_simp)
                    first | done | with_reducible rfl
                  try simp only [Act.put, List.getElem_toArray, List.getElem_cons_zero, List.getElem_cons_succ, List.setIfInBounds_toArray, List.set_cons_zero, List.set_cons_succ]
                  refine wpAnyH_ready (rs := [23]) (by kernel_rfl) (by simp) ?_
                  refine AllReadyH.cons rfl (fun K hK => ?_) AllReadyH.nil
                  go_simp
                  refine hK.out _ _ (by go_keep) (fun hHeld => ?_)
                  clear hK K
                  try simp only [Act.put, List.getElem_toArray, List.getElem_cons_zero, List.getElem_cons_succ, List.setIfInBounds_toArray, List.set_cons_zero, List.set_cons_succ]
                  refine wpAnyH_ready (rs := [24]) (by kernel_rfl) (by simp) ?_
                  refine AllReadyH.cons rfl (fun K hK => ?_) AllReadyH.nil
                  refine step_append_lies _ (by rfl) _ _ 27 (by rfl) wA.heap.size 56 i0 (.agg #[.slice none 0 0, .slice none 0 0, .string ⟨#[]⟩, .slice none 0 0, .slice none 0 0]) 5 112 Try.underlying27 hi hz0 hz1 hz2 rfl (by decide) _ m us.flatten (by rfl) (hou4.alloc _) ⟨w4.heap.size, 0, none⟩ 1 1 [.slice xa s.sums.length ya, .slice xb L.length yb, es s.name, .slice x3 s.args.length y3, .slice x4 s.next.length y4] (by rfl) (by rfl) (by intro j u hj; rw [addr_add, Nat.zero_add]; exact cell_new w4 #[.slice xa s.sums.length ya, .slice xb L.length yb, es s.name, .slice x3 s.args.length y3, .slice x4 s.next.length y4] _ _ rfl j u (by simpa using hj)) (by simp [Value.oneCell']) (by decide) (by unfold maxLen; omega) (by omega) (by simp; omega) (w4.heap.size + 1) (by simp) ?_; intro g gcap w5 hown5 hg5 hat5 hlt5; have hv5 : Upd (Value.slice ca m cc).ownBlock.toList (w4.alloc (.cells #[.slice xa s.sums.length ya, .slice xb L.length yb, es s.name, .slice x3 s.args.length y3, .slice x4 s.next.length y4] 56)) w5 := (Upd.refl _ _).grown hg5 (fun k hk => Or.inr (by simp [hk])); have hr5 := hr4a.upd hv5 (by intro hm; exact HVZ.out Z (by simpa using hm) (by simp)); have z2_5 := hr5.cell 2 _ rfl; have y2_5 := hr5.fz 2; have hba : ∀ c, c < wA.heap.size → c ∉ (Value.slice ca m cc).ownBlock.toList := fun c hc hm => (by have := (HOW.out.lt c (by simpa using hm)).1; omega); have hb5 : b < wA.heap.size := (by have := UA.out.size; omega); have hk5 : ∀ q v, w4.cell? ⟨b, q, none⟩ = some v → w5.cell? ⟨b, q, none⟩ = some v := fun q v hq => (by rw [← ((Upd.refl [] w4).alloc (.cells #[.slice xa s.sums.length ya, .slice xb L.length yb, es s.name, .slice x3 s.args.length y3, .slice x4 s.next.length y4] 56)).keep hq]; exact World.cell?_of_block (hv5.block b (by have := hw4.size; have := HUB.out.size; simp; omega) (hba b hb5))); have m0_5 := hk5 _ _ m0_4; have m2'_5 := hk5 _ _ m2'_4; have m3_5 := hk5 _ _ m3_4; have m4_5 := hk5 _ _ m4_4
                  refine hK.out _ _ ⟨m0_5, m2'_5, m3_5, m4_5⟩ (fun hHeld => ?_)
                  clear hK K
                  try simp only [Act.put, List.getElem_toArray, List.getElem_cons_zero, List.getElem_cons_succ, List.setIfInBounds_toArray, List.set_cons_zero, List.set_cons_succ]
                  refine wpAnyH_take (i := 25) (v := ?_) rfl (by kernel_rfl) (by kernel_rfl) (by kernel_rfl) (fun _ _ _ h => h) (Or.inl ⟨by rfl, ?_⟩) (by assumption) ?_
                  rotate_left
                  · (intro w hSw; (try dsimp only at hSw); go_simp)
                    first | done | with_reducible rfl
                  try simp only [Act.put, List.getElem_toArray, List.getElem_cons_zero, List.getElem_cons_succ, List.setIfInBounds_toArray, List.set_cons_zero, List.set_cons_succ]
                  refine wpAnyH_ready (rs := [26]) (by kernel_rfl) (by simp) ?_
                  refine AllReadyH.cons rfl (fun K hK => ?_) AllReadyH.nil
                  go_simp
                  refine hK.out _ _ (by go_split_ands; refine ⟨?_, ?_, ?_, ?_⟩ <;> (rw [World.cell?_setCell_other _ _ _ _ (by intro h; simp only [Addr.mk.injEq] at h; omega)]; assumption)) (fun hHeld => ?_)
                  clear hK K
                  try simp only [Act.put, List.getElem_toArray, List.getElem_cons_zero, List.getElem_cons_succ, List.setIfInBounds_toArray, List.set_cons_zero, List.set_cons_succ]
                  refine wpAnyH_done (by kernel_rfl) ?_ _
                  have hgg : (w4.alloc (.cells #[.slice xa s.sums.length ya, .slice xb L.length yb, es s.name, .slice x3 s.args.length y3, .slice x4 s.next.length y4] 56)).grownBy w5 (Value.slice ca m cc).ownBlock := ⟨hg5.os, hg5.tape, hg5.output, hg5.size, hg5.block⟩
                  have hnew := four_SmG (s := mapSm foldFn s) (wo := wo) (by rw [HMF.out]; exact HN1.out) (by rw [HMF.out]; exact hn0) (by rw [HMF.out]; exact hn3) (by rw [HMF.out]; exact hn4) (Nat.le_refl _) HUB.out ((Upd.refl [] wB).drew) hu2 hu3 hu4
                  have hacc := AccZ.push (w := wo) (ex := Z :: g0) R_Smk (by rw [HTL.out]; exact HOW.out) HRW.out HVZ.out HEX.out hszo huo hnew rfl (.cells #[.slice xa s.sums.length ya, .slice xb L.length yb, es s.name, .slice x3 s.args.length y3, .slice x4 s.next.length y4] 56) (by rw [HTL.out, HMF.out]; exact hown5) hgg (fun c hc => by
                    simp only [Value.ownBlock, Option.some.injEq] at hc
                    subst hc
                    rcases hat5 with h | h
                    · exact Or.inl h
                    · exact Or.inr (by simp; omega))
                  rw [← HTK.out] at hacc
                  have uZ : Upd [Z] w5 (w5.setCell ⟨Z, 2, none⟩ (.slice (some ⟨g, 0, none⟩) (m + 1) gcap)) := (Upd.refl _ _).setCell (Or.inr (by simp)) _
                  have hacc2 := hacc.put R_Smk uZ (by simp)
                  have hU5 : Upd [] wA (w5.setCell ⟨Z, 2, none⟩ (.slice (some ⟨g, 0, none⟩) (m + 1) gcap)) := (((HU.out.trans huo).alloc _).grown hgg (fun c hc => Or.inl (HOW.out.lt c hc).1)).setCell (Or.inl hZA) _
                  have hrow5 : RowAt (w5.setCell ⟨Z, 2, none⟩ (.slice (some ⟨g, 0, none⟩) (m + 1) gcap)) Z 29 [ei x.pars, .slice x0 x.start.length y0, (.slice (some ⟨g, 0, none⟩) (m + 1) gcap)] := hr5.store 2 _
                  have hgo : ∀ c ∈ g0, c ∉ (Value.slice ca m cc).ownBlock.toList := fun c hc hm => HVZ.out c (by simpa using hm) (by simp [hc])
                  have hgz : ∀ c ∈ g0, c ∉ [Z] := fun c hc hm => (HBD.out c hc).2 (by simpa using hm)
                  have hG5 := And.intro (R_I1k.upd (R_I1k.upd (R_I1k.upd (R_I1k.upd HG.out.1 huo (by simp)) ((Upd.refl [] w4).alloc (.cells #[.slice xa s.sums.length ya, .slice xb L.length yb, es s.name, .slice x3 s.args.length y3, .slice x4 s.next.length y4] 56)) (by simp)) hv5 hgo) uZ hgz) ((((HG.out.2.upd huo (by simp)).upd ((Upd.refl [] w4).alloc (.cells #[.slice xa s.sums.length ya, .slice xb L.length yb, es s.name, .slice x3 s.args.length y3, .slice x4 s.next.length y4] 56)) (by simp)).upd hv5 hgo).upd uZ hgz)
                  have HP := Lib.hid (And.intro (And.intro hacc2 hU5) (And.intro hrow5 hG5))
                  clear hacc hacc2 uZ hU5 hrow5 hgo hgz hG5 hgg hnew hown5 hg5 hat5 hlt5 hv5 hr5 z2_5 y2_5 m0_5 m2'_5 m3_5 m4_5 hHeld hk5 hba
                  clear huo hou4 hle4 hr4 hr4a z2_a y2_a z2_4 y2_4 z2_3 y2_3 z2_2 y2_2 z2 y2 m0 m2' m3 m4 m0_2 m2'_2 m3_2 m4_2 m0_3 m2'_3 m3_3 m4_3 m0_4 m2'_4 m3_4 m4_4
                  go_wp2_with fail
                  go_roundw
                  case rel => exact ⟨k + 1, _, by omega, by go_num, Lib.hid HP.out.1.2, Lib.hid HP.out.2.1, Lib.hid HP.out.1.1, Lib.hid HP.out.2.2⟩
                  case measure => simp [intOf]; omega
                · skip
                  go_simp
                  refine (S3.out w2 (HUB.out.trans hw2)).mono ?_
                  rintro e w3 ⟨⟨n3, rfl, hn3⟩, hu3⟩; obtain ⟨x3, y3, hv3⟩ := hn3.formP; rw [List.length_map] at hv3; subst hv3; have hw3 : Upd [] wB w3 := hw2.trans hu3; have m0_3 := hw3.keep m0; have m2'_3 := hw3.keep m2'; have m3_3 := hw3.keep m3; have m4_3 := hw3.keep m4; have z2_3 := hw3.keep z2; have y2_3 := (HrB.out.upd hw3 (by simp)).fz 2; have hs_3 := hw3.size
                  refine hK.out _ _ ⟨m0_3, m2'_3, m3_3, m4_3⟩ (fun hHeld => ?_)
                  clear hK K
                  try simp only [Act.put, List.getElem_toArray, List.getElem_cons_zero, List.getElem_cons_succ, List.setIfInBounds_toArray, List.set_cons_zero, List.set_cons_succ]
                  refine wpAnyH_ready (rs := [1, 21]) (by kernel_rfl) (by simp) ?_
                  refine AllReadyH.cons rfl (fun K hK => ?_) (AllReadyH.cons rfl (fun K hK => ?_) AllReadyH.nil)
                  · skip
                    go_simp
                    refine hK.out _ _ (by first | exact hHeld | go_keep) (fun hHeld => ?_)
                    clear hK K
                    try simp only [Act.put, List.getElem_toArray, List.getElem_cons_zero, List.getElem_cons_succ, List.setIfInBounds_toArray, List.set_cons_zero, List.set_cons_succ]
                    refine wpAnyH_ready (rs := [21]) (by kernel_rfl) (by simp) ?_
                    refine AllReadyH.cons rfl (fun K hK => ?_) AllReadyH.nil
                    go_simp
                    refine (S4.out w3 (HUB.out.trans hw3)).mono ?_
                    rintro e w4 ⟨⟨n4, rfl, hn4⟩, hu4⟩; obtain ⟨x4, y4, hv4⟩ := hn4.formP; rw [List.length_map] at hv4; subst hv4; have hw4 : Upd [] wB w4 := hw3.trans hu4; have m0_4 := hw4.keep m0; have m2'_4 := hw4.keep m2'; have m3_4 := hw4.keep m3; have m4_4 := hw4.keep m4; have z2_4 := hw4.keep z2; have y2_4 := (HrB.out.upd hw4 (by simp)).fz 2; have hs_4 := hw4.size; have huo : Upd [] wo w4 := HUB.out.trans hw4; have hou4 := ownsRow_upd HOW.out huo; have hle4 := huo.size; have hr4 := HrB.out.upd hw4 (by simp); have hr4a := hr4.upd ((Upd.refl [] w4).alloc (.cells #[.slice xa s.sums.length ya, .slice xb L.length yb, es s.name, .slice x3 s.args.length y3, .slice x4 s.next.length y4] 56)) (by simp); have z2_a := hr4a.cell 2 _ rfl; have y2_a := hr4a.fz 2
                    refine hK.out _ _ ⟨m0_4, m2'_4, m3_4, m4_4⟩ (fun hHeld => ?_)
                    clear hK K
                    try simp only [Act.put, List.getElem_toArray, List.getElem_cons_zero, List.getElem_cons_succ, List.setIfInBounds_toArray, List.set_cons_zero, List.set_cons_succ]
                    refine wpAnyH_take (i := 22) (v := ?_) rfl (by kernel_rfl) (by kernel_rfl) (by kernel_rfl) (fun _ _ _ h => h) (Or.inl ⟨by rfl, ?_⟩) (by assumption) ?_
                    rotate_left
                    · (intro w hSw; (try dsimp only at hSw); go_simp)
                      first | done | with_reducible rfl
                    try simp only [Act.put, List.getElem_toArray, List.getElem_cons_zero, List.getElem_cons_succ, List.setIfInBounds_toArray, List.set_cons_zero, List.set_cons_succ]
                    refine wpAnyH_ready (rs := [23]) (by kernel_rfl) (by simp) ?_
                    refine AllReadyH.cons rfl (fun K hK => ?_) AllReadyH.nil
                    go_simp
                    refine hK.out _ _ (by go_keep) (fun hHeld => ?_)
                    clear hK K
                    try simp only [Act.put, List.getElem_toArray, List.getElem_cons_zero, List.getElem_cons_succ, List.setIfInBounds_toArray, List.set_cons_zero, List.set_cons_succ]
                    refine wpAnyH_ready (rs := [24]) (by kernel_rfl) (by simp) ?_
                    refine AllReadyH.cons rfl (fun K hK => ?_) AllReadyH.nil
                    refine step_append_lies _ (by rfl) _ _ 27 (by rfl) wA.heap.size 56 i0 (.agg #[.slice none 0 0, .slice none 0 0, .string ⟨#[]⟩, .slice none 0 0, .slice none 0 0]) 5 112 Try.underlying27 hi hz0 hz1 hz2 rfl (by decide) _ m us.flatten (by rfl) (hou4.alloc _) ⟨w4.heap.size, 0, none⟩ 1 1 [.slice xa s.sums.length ya, .slice xb L.length yb, es s.name, .slice x3 s.args.length y3, .slice x4 s.next.length y4] (by rfl) (by rfl) (by intro j u hj; rw [addr_add, Nat.zero_add]; exact cell_new w4 #[.slice xa s.sums.length ya, .slice xb L.length yb, es s.name, .slice x3 s.args.length y3, .slice x4 s.next.length y4] _ _ rfl j u (by simpa using hj)) (by simp [Value.oneCell']) (by decide) (by unfold maxLen; omega) (by omega) (by simp; omega) (w4.heap.size + 1) (by simp) ?_; intro g gcap w5 hown5 hg5 hat5 hlt5; have hv5 : Upd (Value.slice ca m cc).ownBlock.toList (w4.alloc (.cells #[.slice xa s.sums.length ya, .slice xb L.length yb, es s.name, .slice x3 s.args.length y3, .slice x4 s.next.length y4] 56)) w5 := (Upd.refl _ _).grown hg5 (fun k hk => Or.inr (by simp [hk])); have hr5 := hr4a.upd hv5 (by intro hm; exact HVZ.out Z (by simpa using hm) (by simp)); have z2_5 := hr5.cell 2 _ rfl; have y2_5 := hr5.fz 2; have hba : ∀ c, c < wA.heap.size → c ∉ (Value.slice ca m cc).ownBlock.toList := fun c hc hm => (by have := (HOW.out.lt c (by simpa using hm)).1; omega); have hb5 : b < wA.heap.size := (by have := UA.out.size; omega); have hk5 : ∀ q v, w4.cell? ⟨b, q, none⟩ = some v → w5.cell? ⟨b, q, none⟩ = some v := fun q v hq => (by rw [← ((Upd.refl [] w4).alloc (.cells #[.slice xa s.sums.length ya, .slice xb L.length yb, es s.name, .slice x3 s.args.length y3, .slice x4 s.next.length y4] 56)).keep hq]; exact World.cell?_of_block (hv5.block b (by have := hw4.size; have := HUB.out.size; simp; omega) (hba b hb5))); have m0_5 := hk5 _ _ m0_4; have m2'_5 := hk5 _ _ m2'_4; have m3_5 := hk5 _ _ m3_4; have m4_5 := hk5 _ _ m4_4
                    refine hK.out _ _ ⟨m0_5, m2'_5, m3_5, m4_5⟩ (fun hHeld => ?_)
                    clear hK K
                    try simp only [Act.put, List.getElem_toArray, List.getElem_cons_zero, List.getElem_cons_succ, List.setIfInBounds_toArray, List.set_cons_zero, List.set_cons_succ]
                    refine wpAnyH_take (i := 25) (v := ?_) rfl (by kernel_rfl) (by kernel_rfl) (by kernel_rfl) (fun _ _ _ h => h) (Or.inl ⟨by rfl, ?_⟩) (by assumption) ?_
                    rotate_left
                    · (intro w hSw; (try dsimp only at hSw); go_simp)
                      first | done | with_reducible rfl
                    try simp only [Act.put, List.getElem_toArray, List.getElem_cons_zero, List.getElem_cons_succ, List.setIfInBounds_toArray, List.set_cons_zero, List.set_cons_succ]
                    refine wpAnyH_ready (rs := [26]) (by kernel_rfl) (by simp) ?_
                    refine AllReadyH.cons rfl (fun K hK => ?_) AllReadyH.nil
                    go_simp
                    refine hK.out _ _ (by go_split_ands; refine ⟨?_, ?_, ?_, ?_⟩ <;> (rw [World.cell?_setCell_other _ _ _ _ (by intro h; simp only [Addr.mk.injEq] at h; omega)]; assumption)) (fun hHeld => ?_)
                    clear hK K
                    try simp only [Act.put, List.getElem_toArray, List.getElem_cons_zero, List.getElem_cons_succ, List.setIfInBounds_toArray, List.set_cons_zero, List.set_cons_succ]
                    refine wpAnyH_done (by kernel_rfl) ?_ _
                    have hgg : (w4.alloc (.cells #[.slice xa s.sums.length ya, .slice xb L.length yb, es s.name, .slice x3 s.args.length y3, .slice x4 s.next.length y4] 56)).grownBy w5 (Value.slice ca m cc).ownBlock := ⟨hg5.os, hg5.tape, hg5.output, hg5.size, hg5.block⟩
                    have hnew := four_SmG (s := mapSm foldFn s) (wo := wo) (by rw [HMF.out]; exact HN1.out) (by rw [HMF.out]; exact hn0) (by rw [HMF.out]; exact hn3) (by rw [HMF.out]; exact hn4) (Nat.le_refl _) HUB.out ((Upd.refl [] wB).drew) hu2 hu3 hu4
                    have hacc := AccZ.push (w := wo) (ex := Z :: g0) R_Smk (by rw [HTL.out]; exact HOW.out) HRW.out HVZ.out HEX.out hszo huo hnew rfl (.cells #[.slice xa s.sums.length ya, .slice xb L.length yb, es s.name, .slice x3 s.args.length y3, .slice x4 s.next.length y4] 56) (by rw [HTL.out, HMF.out]; exact hown5) hgg (fun c hc => by
                      simp only [Value.ownBlock, Option.some.injEq] at hc
                      subst hc
                      rcases hat5 with h | h
                      · exact Or.inl h
                      · exact Or.inr (by simp; omega))
                    rw [← HTK.out] at hacc
                    have uZ : Upd [Z] w5 (w5.setCell ⟨Z, 2, none⟩ (.slice (some ⟨g, 0, none⟩) (m + 1) gcap)) := (Upd.refl _ _).setCell (Or.inr (by simp)) _
                    have hacc2 := hacc.put R_Smk uZ (by simp)
                    have hU5 : Upd [] wA (w5.setCell ⟨Z, 2, none⟩ (.slice (some ⟨g, 0, none⟩) (m + 1) gcap)) := (((HU.out.trans huo).alloc _).grown hgg (fun c hc => Or.inl (HOW.out.lt c hc).1)).setCell (Or.inl hZA) _
                    have hrow5 : RowAt (w5.setCell ⟨Z, 2, none⟩ (.slice (some ⟨g, 0, none⟩) (m + 1) gcap)) Z 29 [ei x.pars, .slice x0 x.start.length y0, (.slice (some ⟨g, 0, none⟩) (m + 1) gcap)] := hr5.store 2 _
                    have hgo : ∀ c ∈ g0, c ∉ (Value.slice ca m cc).ownBlock.toList := fun c hc hm => HVZ.out c (by simpa using hm) (by simp [hc])
                    have hgz : ∀ c ∈ g0, c ∉ [Z] := fun c hc hm => (HBD.out c hc).2 (by simpa using hm)
                    have hG5 := And.intro (R_I1k.upd (R_I1k.upd (R_I1k.upd (R_I1k.upd HG.out.1 huo (by simp)) ((Upd.refl [] w4).alloc (.cells #[.slice xa s.sums.length ya, .slice xb L.length yb, es s.name, .slice x3 s.args.length y3, .slice x4 s.next.length y4] 56)) (by simp)) hv5 hgo) uZ hgz) ((((HG.out.2.upd huo (by simp)).upd ((Upd.refl [] w4).alloc (.cells #[.slice xa s.sums.length ya, .slice xb L.length yb, es s.name, .slice x3 s.args.length y3, .slice x4 s.next.length y4] 56)) (by simp)).upd hv5 hgo).upd uZ hgz)
                    have HP := Lib.hid (And.intro (And.intro hacc2 hU5) (And.intro hrow5 hG5))
                    clear hacc hacc2 uZ hU5 hrow5 hgo hgz hG5 hgg hnew hown5 hg5 hat5 hlt5 hv5 hr5 z2_5 y2_5 m0_5 m2'_5 m3_5 m4_5 hHeld hk5 hba
                    clear huo hou4 hle4 hr4 hr4a z2_a y2_a z2_4 y2_4 z2_3 y2_3 z2_2 y2_2 z2 y2 m0 m2' m3 m4 m0_2 m2'_2 m3_2 m4_2 m0_3 m2'_3 m3_3 m4_3 m0_4 m2'_4 m3_4 m4_4
                    go_wp2_with fail
                    go_roundw
                    case rel => exact ⟨k + 1, _, by omega, by go_num, Lib.hid HP.out.1.2, Lib.hid HP.out.2.1, Lib.hid HP.out.1.1, Lib.hid HP.out.2.2⟩
                    case measure => simp [intOf]; omega
                  · skip
                    go_simp
                    refine (S4.out w3 (HUB.out.trans hw3)).mono ?_
                    rintro e w4 ⟨⟨n4, rfl, hn4⟩, hu4⟩; obtain ⟨x4, y4, hv4⟩ := hn4.formP; rw [List.length_map] at hv4; subst hv4; have hw4 : Upd [] wB w4 := hw3.trans hu4; have m0_4 := hw4.keep m0; have m2'_4 := hw4.keep m2'; have m3_4 := hw4.keep m3; have m4_4 := hw4.keep m4; have z2_4 := hw4.keep z2; have y2_4 := (HrB.out.upd hw4 (by simp)).fz 2; have hs_4 := hw4.size; have huo : Upd [] wo w4 := HUB.out.trans hw4; have hou4 := ownsRow_upd HOW.out huo; have hle4 := huo.size; have hr4 := HrB.out.upd hw4 (by simp); have hr4a := hr4.upd ((Upd.refl [] w4).alloc (.cells #[.slice xa s.sums.length ya, .slice xb L.length yb, es s.name, .slice x3 s.args.length y3, .slice x4 s.next.length y4] 56)) (by simp); have z2_a := hr4a.cell 2 _ rfl; have y2_a := hr4a.fz 2
                    refine hK.out _ _ ⟨m0_4, m2'_4, m3_4, m4_4⟩ (fun hHeld => ?_)
                    clear hK K
                    try simp only [Act.put, List.getElem_toArray, List.getElem_cons_zero, List.getElem_cons_succ, List.setIfInBounds_toArray, List.set_cons_zero, List.set_cons_succ]
                    refine wpAnyH_take (i := 22) (v := ?_) rfl (by kernel_rfl) (by kernel_rfl) (by kernel_rfl) (fun _ _ _ h => h) (Or.inl ⟨by rfl, ?_⟩) (by assumption) ?_
                    rotate_left
                    · (intro w hSw; (try dsimp only at hSw); go_simp)
                      first | done | with_reducible rfl
                    try simp only [Act.put, List.getElem_toArray, List.getElem_cons_zero, List.getElem_cons_succ, List.setIfInBounds_toArray, List.set_cons_zero, List.set_cons_succ]
                    refine wpAnyH_ready (rs := [1, 23]) (by kernel_rfl) (by simp) ?_
                    refine AllReadyH.cons rfl (fun K hK => ?_) (AllReadyH.cons rfl (fun K hK => ?_) AllReadyH.nil)
                    · skip
                      go_simp
                      refine hK.out _ _ (by first | exact hHeld | go_keep) (fun hHeld => ?_)
                      clear hK K
                      try simp only [Act.put, List.getElem_toArray, List.getElem_cons_zero, List.getElem_cons_succ, List.setIfInBounds_toArray, List.set_cons_zero, List.set_cons_succ]
                      refine wpAnyH_ready (rs := [23]) (by kernel_rfl) (by simp) ?_
                      refine AllReadyH.cons rfl (fun K hK => ?_) AllReadyH.nil
                      go_simp
                      refine hK.out _ _ (by go_keep) (fun hHeld => ?_)
                      clear hK K
                      try simp only [Act.put, List.getElem_toArray, List.getElem_cons_zero, List.getElem_cons_succ, List.setIfInBounds_toArray, List.set_cons_zero, List.set_cons_succ]
                      refine wpAnyH_ready (rs := [24]) (by kernel_rfl) (by simp) ?_
                      refine AllReadyH.cons rfl (fun K hK => ?_) AllReadyH.nil
                      refine step_append_lies _ (by rfl) _ _ 27 (by rfl) wA.heap.size 56 i0 (.agg #[.slice none 0 0, .slice none 0 0, .string ⟨#[]⟩, .slice none 0 0, .slice none 0 0]) 5 112 Try.underlying27 hi hz0 hz1 hz2 rfl (by decide) _ m us.flatten (by rfl) (hou4.alloc _) ⟨w4.heap.size, 0, none⟩ 1 1 [.slice xa s.sums.length ya, .slice xb L.length yb, es s.name, .slice x3 s.args.length y3, .slice x4 s.next.length y4] (by rfl) (by rfl) (by intro j u hj; rw [addr_add, Nat.zero_add]; exact cell_new w4 #[.slice xa s.sums.length ya, .slice xb L.length yb, es s.name, .slice x3 s.args.length y3, .slice x4 s.next.length y4] _ _ rfl j u (by simpa using hj)) (by simp [Value.oneCell']) (by decide) (by unfold maxLen; omega) (by omega) (by simp; omega) (w4.heap.size + 1) (by simp) ?_; intro g gcap w5 hown5 hg5 hat5 hlt5; have hv5 : Upd (Value.slice ca m cc).ownBlock.toList (w4.alloc (.cells #[.slice xa s.sums.length ya, .slice xb L.length yb, es s.name, .slice x3 s.args.length y3, .slice x4 s.next.length y4] 56)) w5 := (Upd.refl _ _).grown hg5 (fun k hk => Or.inr (by simp [hk])); have hr5 := hr4a.upd hv5 (by intro hm; exact HVZ.out Z (by simpa using hm) (by simp)); have z2_5 := hr5.cell 2 _ rfl; have y2_5 := hr5.fz 2; have hba : ∀ c, c < wA.heap.size → c ∉ (Value.slice ca m cc).ownBlock.toList := fun c hc hm => (by have := (HOW.out.lt c (by simpa using hm)).1; omega); have hb5 : b < wA.heap.size := (by have := UA.out.size; omega); have hk5 : ∀ q v, w4.cell? ⟨b, q, none⟩ = some v → w5.cell? ⟨b, q, none⟩ = some v := fun q v hq => (by rw [← ((Upd.refl [] w4).alloc (.cells #[.slice xa s.sums.length ya, .slice xb L.length yb, es s.name, .slice x3 s.args.length y3, .slice x4 s.next.length y4] 56)).keep hq]; exact World.cell?_of_block (hv5.block b (by have := hw4.size; have := HUB.out.size; simp; omega) (hba b hb5))); have m0_5 := hk5 _ _ m0_4; have m2'_5 := hk5 _ _ m2'_4; have m3_5 := hk5 _ _ m3_4; have m4_5 := hk5 _ _ m4_4
                      refine hK.out _ _ ⟨m0_5, m2'_5, m3_5, m4_5⟩ (fun hHeld => ?_)
                      clear hK K
                      try simp only [Act.put, List.getElem_toArray, List.getElem_cons_zero, List.getElem_cons_succ, List.setIfInBounds_toArray, List.set_cons_zero, List.set_cons_succ]
                      refine wpAnyH_take (i := 25) (v := ?_) rfl (by kernel_rfl) (by kernel_rfl) (by kernel_rfl) (fun _ _ _ h => h) (Or.inl ⟨by rfl, ?_⟩) (by assumption) ?_
                      rotate_left
                      · (intro w hSw; (try dsimp only at hSw); go_simp)
                        first | done | with_reducible rfl
                      try simp only [Act.put, List.getElem_toArray, List.getElem_cons_zero, List.getElem_cons_succ, List.setIfInBounds_toArray, List.set_cons_zero, List.set_cons_succ]
                      refine wpAnyH_ready (rs := [26]) (by kernel_rfl) (by simp) ?_
                      refine AllReadyH.cons rfl (fun K hK => ?_) AllReadyH.nil
                      go_simp
                      refine hK.out _ _ (by go_split_ands; refine ⟨?_, ?_, ?_, ?_⟩ <;> (rw [World.cell?_setCell_other _ _ _ _ (by intro h; simp only [Addr.mk.injEq] at h; omega)]; assumption)) (fun hHeld => ?_)
                      clear hK K
                      try simp only [Act.put, List.getElem_toArray, List.getElem_cons_zero, List.getElem_cons_succ, List.setIfInBounds_toArray, List.set_cons_zero, List.set_cons_succ]
                      refine wpAnyH_done (by kernel_rfl) ?_ _
                      have hgg : (w4.alloc (.cells #[.slice xa s.sums.length ya, .slice xb L.length yb, es s.name, .slice x3 s.args.length y3, .slice x4 s.next.length y4] 56)).grownBy w5 (Value.slice ca m cc).ownBlock := ⟨hg5.os, hg5.tape, hg5.output, hg5.size, hg5.block⟩
                      have hnew := four_SmG (s := mapSm foldFn s) (wo := wo) (by rw [HMF.out]; exact HN1.out) (by rw [HMF.out]; exact hn0) (by rw [HMF.out]; exact hn3) (by rw [HMF.out]; exact hn4) (Nat.le_refl _) HUB.out ((Upd.refl [] wB).drew) hu2 hu3 hu4
                      have hacc := AccZ.push (w := wo) (ex := Z :: g0) R_Smk (by rw [HTL.out]; exact HOW.out) HRW.out HVZ.out HEX.out hszo huo hnew rfl (.cells #[.slice xa s.sums.length ya, .slice xb L.length yb, es s.name, .slice x3 s.args.length y3, .slice x4 s.next.length y4] 56) (by rw [HTL.out, HMF.out]; exact hown5) hgg (fun c hc => by
                        simp only [Value.ownBlock, Option.some.injEq] at hc
                        subst hc
                        rcases hat5 with h | h
                        · exact Or.inl h
                        · exact Or.inr (by simp; omega))
                      rw [← HTK.out] at hacc
                      have uZ : Upd [Z] w5 (w5.setCell ⟨Z, 2, none⟩ (.slice (some ⟨g, 0, none⟩) (m + 1) gcap)) := (Upd.refl _ _).setCell (Or.inr (by simp)) _
                      have hacc2 := hacc.put R_Smk uZ (by simp)
                      have hU5 : Upd [] wA (w5.setCell ⟨Z, 2, none⟩ (.slice (some ⟨g, 0, none⟩) (m + 1) gcap)) := (((HU.out.trans huo).alloc _).grown hgg (fun c hc => Or.inl (HOW.out.lt c hc).1)).setCell (Or.inl hZA) _
                      have hrow5 : RowAt (w5.setCell ⟨Z, 2, none⟩ (.slice (some ⟨g, 0, none⟩) (m + 1) gcap)) Z 29 [ei x.pars, .slice x0 x.start.length y0, (.slice (some ⟨g, 0, none⟩) (m + 1) gcap)] := hr5.store 2 _
                      have hgo : ∀ c ∈ g0, c ∉ (Value.slice ca m cc).ownBlock.toList := fun c hc hm => HVZ.out c (by simpa using hm) (by simp [hc])
                      have hgz : ∀ c ∈ g0, c ∉ [Z] := fun c hc hm => (HBD.out c hc).2 (by simpa using hm)
                      have hG5 := And.intro (R_I1k.upd (R_I1k.upd (R_I1k.upd (R_I1k.upd HG.out.1 huo (by simp)) ((Upd.refl [] w4).alloc (.cells #[.slice xa s.sums.length ya, .slice xb L.length yb, es s.name, .slice x3 s.args.length y3, .slice x4 s.next.length y4] 56)) (by simp)) hv5 hgo) uZ hgz) ((((HG.out.2.upd huo (by simp)).upd ((Upd.refl [] w4).alloc (.cells #[.slice xa s.sums.length ya, .slice xb L.length yb, es s.name, .slice x3 s.args.length y3, .slice x4 s.next.length y4] 56)) (by simp)).upd hv5 hgo).upd uZ hgz)
                      have HP := Lib.hid (And.intro (And.intro hacc2 hU5) (And.intro hrow5 hG5))
                      clear hacc hacc2 uZ hU5 hrow5 hgo hgz hG5 hgg hnew hown5 hg5 hat5 hlt5 hv5 hr5 z2_5 y2_5 m0_5 m2'_5 m3_5 m4_5 hHeld hk5 hba
                      clear huo hou4 hle4 hr4 hr4a z2_a y2_a z2_4 y2_4 z2_3 y2_3 z2_2 y2_2 z2 y2 m0 m2' m3 m4 m0_2 m2'_2 m3_2 m4_2 m0_3 m2'_3 m3_3 m4_3 m0_4 m2'_4 m3_4 m4_4
                      go_wp2_with fail
                      go_roundw
                      case rel => exact ⟨k + 1, _, by omega, by go_num, Lib.hid HP.out.1.2, Lib.hid HP.out.2.1, Lib.hid HP.out.1.1, Lib.hid HP.out.2.2⟩
                      case measure => simp [intOf]; omega
                    · skip
                      go_simp
                      refine hK.out _ _ (by go_keep) (fun hHeld => ?_)
                      clear hK K
                      try simp only [Act.put, List.getElem_toArray, List.getElem_cons_zero, List.getElem_cons_succ, List.setIfInBounds_toArray, List.set_cons_zero, List.set_cons_succ]
                      refine wpAnyH_ready (rs := [1]) (by kernel_rfl) (by simp) ?_
                      refine AllReadyH.cons rfl (fun K hK => ?_) AllReadyH.nil
                      go_simp
                      refine hK.out _ _ (by first | exact hHeld | go_keep) (fun hHeld => ?_)
                      clear hK K
                      try simp only [Act.put, List.getElem_toArray, List.getElem_cons_zero, List.getElem_cons_succ, List.setIfInBounds_toArray, List.set_cons_zero, List.set_cons_succ]
                      refine wpAnyH_ready (rs := [24]) (by kernel_rfl) (by simp) ?_
                      refine AllReadyH.cons rfl (fun K hK => ?_) AllReadyH.nil
                      refine step_append_lies _ (by rfl) _ _ 27 (by rfl) wA.heap.size 56 i0 (.agg #[.slice none 0 0, .slice none 0 0, .string ⟨#[]⟩, .slice none 0 0, .slice none 0 0]) 5 112 Try.underlying27 hi hz0 hz1 hz2 rfl (by decide) _ m us.flatten (by rfl) (hou4.alloc _) ⟨w4.heap.size, 0, none⟩ 1 1 [.slice xa s.sums.length ya, .slice xb L.length yb, es s.name, .slice x3 s.args.length y3, .slice x4 s.next.length y4] (by rfl) (by rfl) (by intro j u hj; rw [addr_add, Nat.zero_add]; exact cell_new w4 #[.slice xa s.sums.length ya, .slice xb L.length yb, es s.name, .slice x3 s.args.length y3, .slice x4 s.next.length y4] _ _ rfl j u (by simpa using hj)) (by simp [Value.oneCell']) (by decide) (by unfold maxLen; omega) (by omega) (by simp; omega) (w4.heap.size + 1) (by simp) ?_; intro g gcap w5 hown5 hg5 hat5 hlt5; have hv5 : Upd (Value.slice ca m cc).ownBlock.toList (w4.alloc (.cells #[.slice xa s.sums.length ya, .slice xb L.length yb, es s.name, .slice x3 s.args.length y3, .slice x4 s.next.length y4] 56)) w5 := (Upd.refl _ _).grown hg5 (fun k hk => Or.inr (by simp [hk])); have hr5 := hr4a.upd hv5 (by intro hm; exact HVZ.out Z (by simpa using hm) (by simp)); have z2_5 := hr5.cell 2 _ rfl; have y2_5 := hr5.fz 2; have hba : ∀ c, c < wA.heap.size → c ∉ (Value.slice ca m cc).ownBlock.toList := fun c hc hm => (by have := (HOW.out.lt c (by simpa using hm)).1; omega); have hb5 : b < wA.heap.size := (by have := UA.out.size; omega); have hk5 : ∀ q v, w4.cell? ⟨b, q, none⟩ = some v → w5.cell? ⟨b, q, none⟩ = some v := fun q v hq => (by rw [← ((Upd.refl [] w4).alloc (.cells #[.slice xa s.sums.length ya, .slice xb L.length yb, es s.name, .slice x3 s.args.length y3, .slice x4 s.next.length y4] 56)).keep hq]; exact World.cell?_of_block (hv5.block b (by have := hw4.size; have := HUB.out.size; simp; omega) (hba b hb5))); have m0_5 := hk5 _ _ m0_4; have m2'_5 := hk5 _ _ m2'_4; have m3_5 := hk5 _ _ m3_4; have m4_5 := hk5 _ _ m4_4
                      refine hK.out _ _ ⟨m0_5, m2'_5, m3_5, m4_5⟩ (fun hHeld => ?_)
                      clear hK K
                      try simp only [Act.put, List.getElem_toArray, List.getElem_cons_zero, List.getElem_cons_succ, List.setIfInBounds_toArray, List.set_cons_zero, List.set_cons_succ]
                      refine wpAnyH_take (i := 25) (v := ?_) rfl (by kernel_rfl) (by kernel_rfl) (by kernel_rfl) (fun _ _ _ h => h) (Or.inl ⟨by rfl, ?_⟩) (by assumption) ?_
                      rotate_left
                      · (intro w hSw; (try dsimp only at hSw); go_simp)
                        first | done | with_reducible rfl
                      try simp only [Act.put, List.getElem_toArray, List.getElem_cons_zero, List.getElem_cons_succ, List.setIfInBounds_toArray, List.set_cons_zero, List.set_cons_succ]
                      refine wpAnyH_ready (rs := [26]) (by kernel_rfl) (by simp) ?_
                      refine AllReadyH.cons rfl (fun K hK => ?_) AllReadyH.nil
                      go_simp
                      refine hK.out _ _ (by go_split_ands; refine ⟨?_, ?_, ?_, ?_⟩ <;> (rw [World.cell?_setCell_other _ _ _ _ (by intro h; simp only [Addr.mk.injEq] at h; omega)]; assumption)) (fun hHeld => ?_)
                      clear hK K
                      try simp only [Act.put, List.getElem_toArray, List.getElem_cons_zero, List.getElem_cons_succ, List.setIfInBounds_toArray, List.set_cons_zero, List.set_cons_succ]
                      refine wpAnyH_done (by kernel_rfl) ?_ _
                      have hgg : (w4.alloc (.cells #[.slice xa s.sums.length ya, .slice xb L.length yb, es s.name, .slice x3 s.args.length y3, .slice x4 s.next.length y4] 56)).grownBy w5 (Value.slice ca m cc).ownBlock := ⟨hg5.os, hg5.tape, hg5.output, hg5.size, hg5.block⟩
                      have hnew := four_SmG (s := mapSm foldFn s) (wo := wo) (by rw [HMF.out]; exact HN1.out) (by rw [HMF.out]; exact hn0) (by rw [HMF.out]; exact hn3) (by rw [HMF.out]; exact hn4) (Nat.le_refl _) HUB.out ((Upd.refl [] wB).drew) hu2 hu3 hu4
                      have hacc := AccZ.push (w := wo) (ex := Z :: g0) R_Smk (by rw [HTL.out]; exact HOW.out) HRW.out HVZ.out HEX.out hszo huo hnew rfl (.cells #[.slice xa s.sums.length ya, .slice xb L.length yb, es s.name, .slice x3 s.args.length y3, .slice x4 s.next.length y4] 56) (by rw [HTL.out, HMF.out]; exact hown5) hgg (fun c hc => by
                        simp only [Value.ownBlock, Option.some.injEq] at hc
                        subst hc
                        rcases hat5 with h | h
                        · exact Or.inl h
                        · exact Or.inr (by simp; omega))
                      rw [← HTK.out] at hacc
                      have uZ : Upd [Z] w5 (w5.setCell ⟨Z, 2, none⟩ (.slice (some ⟨g, 0, none⟩) (m + 1) gcap)) := (Upd.refl _ _).setCell (Or.inr (by simp)) _
                      have hacc2 := hacc.put R_Smk uZ (by simp)
                      have hU5 : Upd [] wA (w5.setCell ⟨Z, 2, none⟩ (.slice (some ⟨g, 0, none⟩) (m + 1) gcap)) := (((HU.out.trans huo).alloc _).grown hgg (fun c hc => Or.inl (HOW.out.lt c hc).1)).setCell (Or.inl hZA) _
                      have hrow5 : RowAt (w5.setCell ⟨Z, 2, none⟩ (.slice (some ⟨g, 0, none⟩) (m + 1) gcap)) Z 29 [ei x.pars, .slice x0 x.start.length y0, (.slice (some ⟨g, 0, none⟩) (m + 1) gcap)] := hr5.store 2 _
                      have hgo : ∀ c ∈ g0, c ∉ (Value.slice ca m cc).ownBlock.toList := fun c hc hm => HVZ.out c (by simpa using hm) (by simp [hc])
                      have hgz : ∀ c ∈ g0, c ∉ [Z] := fun c hc hm => (HBD.out c hc).2 (by simpa using hm)
                      have hG5 := And.intro (R_I1k.upd (R_I1k.upd (R_I1k.upd (R_I1k.upd HG.out.1 huo (by simp)) ((Upd.refl [] w4).alloc (.cells #[.slice xa s.sums.length ya, .slice xb L.length yb, es s.name, .slice x3 s.args.length y3, .slice x4 s.next.length y4] 56)) (by simp)) hv5 hgo) uZ hgz) ((((HG.out.2.upd huo (by simp)).upd ((Upd.refl [] w4).alloc (.cells #[.slice xa s.sums.length ya, .slice xb L.length yb, es s.name, .slice x3 s.args.length y3, .slice x4 s.next.length y4] 56)) (by simp)).upd hv5 hgo).upd uZ hgz)
                      have HP := Lib.hid (And.intro (And.intro hacc2 hU5) (And.intro hrow5 hG5))
                      clear hacc hacc2 uZ hU5 hrow5 hgo hgz hG5 hgg hnew hown5 hg5 hat5 hlt5 hv5 hr5 z2_5 y2_5 m0_5 m2'_5 m3_5 m4_5 hHeld hk5 hba
                      clear huo hou4 hle4 hr4 hr4a z2_a y2_a z2_4 y2_4 z2_3 y2_3 z2_2 y2_2 z2 y2 m0 m2' m3 m4 m0_2 m2'_2 m3_2 m4_2 m0_3 m2'_3 m3_3 m4_3 m0_4 m2'_4 m3_4 m4_4
                      go_wp2_with fail
                      go_roundw
                      case rel => exact ⟨k + 1, _, by omega, by go_num, Lib.hid HP.out.1.2, Lib.hid HP.out.2.1, Lib.hid HP.out.1.1, Lib.hid HP.out.2.2⟩
                      case measure => simp [intOf]; omega
        · obtain rfl : k = x.sms.length := by omega
          have ha := HAC.out
          rw [List.take_length] at ha
          obtain ⟨fq, hsl, hso, hsb⟩ := ha.new (w0 := wA) rfl
          obtain ⟨ca, cc, rfl⟩ := ha.form
          have hr5 := HR.out
          have hres := HA.out.upd HU.out (by simp)
          have HRES := Lib.hid hres
          unfold RowAt at hr5 hres
          have HS := Lib.hid (And.intro hsl (And.intro hso hsb))
          clear ha hsl hso hsb HAC
          generalize foldSms x.sms = Y at *
          go_wp2_with (first
            | (refine wpList_load_row rfl 29 _ rfl Z rfl 29 #[ei x.pars, .slice x0 x.start.length y0, .slice ca Y.length cc] (0, 0) _ hr5 Try.underlying29 rfl Ln_size ?_)
            | (refine wpList_store_row rfl 29 _ _ rfl (P + 1) #[ei x.pars, .slice x0 x.start.length y0, .slice ca Y.length cc] rfl rfl 29 _ hres Ln_size rfl (by simp [Value.oneCell']) ?_)
            | fail)
          have hr : RowAt (wo.setRow (P + 1) #[ei x.pars, .slice x0 x.start.length y0, .slice ca Y.length cc]) (P + 1) 29 [ei x.pars, .slice x0 x.start.length y0, .slice ca Y.length cc] := HRES.out.row [ei x.pars, .slice x0 x.start.length y0, .slice ca Y.length cc]
          have n0 := hr.cell 0 _ rfl
          have n1 := hr.cell 1 _ rfl
          have n2 := hr.cell 2 _ rfl
          refine bodyPost_ret (v := .tuple #[.agg #[ei x.pars, .slice x0 x.start.length y0, .slice ca Y.length cc], .int .i64 0]) (by simp [results, Try.results10, go_sem, n0, n1, n2]) rfl ?_
          rw [HZ.out]
          obtain ⟨hsl, hso, hsb⟩ := HS.out
          refine gaveLn (us := [ei x.pars, .slice x0 x.start.length y0, .slice ca Y.length cc]) (W := wA) (x := ⟨x.pars, x.start, Y⟩) ⟨g0 ++ fq, ⟨_, _, g0, fq, rfl, HG.out.1, hsl, rfl⟩, own_join HG.out.2 hso (fun c h1 h2 => (hsb c h2).2 (by simp [h1])), fun c hc => ?_⟩ rfl (by simp [Value.oneCell']) (UA.out.trans HU.out) (by have := HBB.out; omega) hbA UA.out.size
          rcases List.mem_append.1 hc with h | h
          · exact (HBD.out c h).1
          · exact (hsb c h).1

end Go.Proofs.Ytnfghgaadnobbaa

namespace Go.Proofs.Ytnfghgaadnobbaa
open Go.RowKit

set_option maxRecDepth 20000 in
set_option maxHeartbeats 4000000 in
theorem lawFoldL (cs : List Value) (x : Ln) (w : World) (fp : List Nat) (hR : R_Ln fp w cs x) (hS : LnOk x) :
    Calls Try.prog 3 #[.agg cs.toArray] w fun e w' => e = .returned (.bool true) ∧ Upd [] w w' := by
  have hR' := hR
  obtain ⟨v1, v2, f1, f2, rfl, -, -, rfl⟩ := hR
  have HRX := Lib.hid (fun W (hu : Upd [] w W) => R_Lnk.upd hR' hu (by simp))
  obtain ⟨BA, hBA⟩ : ∃ B, B = w.heap.size := ⟨_, rfl⟩
  obtain ⟨wA, hwA⟩ : ∃ wA, wA = w.alloc (.cells #[ei x.pars, v1, v2] 25) := ⟨_, rfl⟩
  have uA : Upd [] w wA := by rw [hwA]; exact (Upd.refl _ _).alloc _
  have UA := Lib.hid uA
  have qA : RowAt wA BA 25 [ei x.pars, v1, v2] := by rw [hwA, hBA]; exact RowAt.new _ _ _
  have HQA := Lib.hid (fun W (hu : Upd [] wA W) => qA.upd hu (by simp))
  have S1 := Lib.hid (sz_Ln _ x 1048576 wA _ (by omega) (by omega) (HRX.out wA uA) hS)
  clear hR' hS uA qA
  go_enter Try.func3, Try.ntmps3
  go_upto_region 1 with (fail)
  rw [← hwA, ← hBA]
  have HBA := Lib.hid hBA
  clear hwA hBA
  have u0 : Upd [] wA wA := Upd.refl _ _
  have z_A_0 := (HQA.out _ u0).cell 0 _ rfl
  have z_A_1 := (HQA.out _ u0).cell 1 _ rfl
  have z_A_2 := (HQA.out _ u0).cell 2 _ rfl
  go_wp2_with fail
  refine S1.out.mono ?_
  rintro e w1 ⟨⟨r, rfl, hr⟩, uu⟩
  clear S1 z_A_0 z_A_1 z_A_2
  have u1 := u0.trans uu
  clear u0 uu
  rcases hr with rfl | ⟨hr0_x, hr1_x⟩
  · have HU := Lib.hid (UA.out.trans u1)
    go_wp2_with fail
    go_ret
    exact ⟨rfl, HU.out⟩
  · have hsz : szF_Ln x ≤ 1048576 := by omega
    have HSZ := Lib.hid hsz
    have hF := ln_fit hsz
    have tn_x := mkF_Ln_nonneg x
    have hm_x := mkF_Ln_le x
    have hM0 : 1 + mkF_Ln x ≤ 100000000 := by omega
    have hMy : 1 + mkF_Ln (foldF x).1 ≤ 4611686018427387904 := by have := fold_bd x hM0; omega
    have tn_y := mkF_Ln_nonneg (foldF x).1
    obtain ⟨⟨y, cc⟩, hG⟩ : ∃ G, foldF x = G := ⟨_, rfl⟩
    rw [hG] at hMy tn_y
    simp only at hMy tn_y
    have hMk := hMy
    have HG := Lib.hid hG
    clear hG
    have hcc : ((cc : Int) != (cc : Int)) = false := by simp
    clear hsz hm_x hr1_x
    have z_A_0 := (HQA.out _ u1).cell 0 _ rfl
    have z_A_1 := (HQA.out _ u1).cell 1 _ rfl
    have z_A_2 := (HQA.out _ u1).cell 2 _ rfl
    have S2 := to_Ln _ x w1 _ HSZ.out (HRX.out _ (UA.out.trans u1))
    go_wp2_with fail
    refine S2.mono ?_
    clear S2 z_A_0 z_A_1 z_A_2
    rintro e w2 ⟨⟨us, rfl, -, -, hn⟩, uu⟩
    obtain ⟨p1_a_x, q1_a_x, p2_a_x, q2_a_x, rfl⟩ := ln_form hn
    obtain ⟨fp_a_x, rr, oo, ge_a_x⟩ := hn
    have u2 : Upd [] wA w2 := u1.trans (uu)
    have HL_a_x := Lib.hid (show ∀ b ∈ fp_a_x, wA.heap.size ≤ b from fun b hb => by have := ge_a_x b hb; have := u1.size; omega)
    have r2_a_x := rr
    have o2_a_x := oo
    clear u1 uu ge_a_x rr oo
    have S2 := foldLS [ei (x).pars, .slice p1_a_x (x).start.length q1_a_x, .slice p2_a_x (x).sms.length q2_a_x] x w2 fp_a_x r2_a_x hF
    rw [HG.out] at S2
    go_wp2_with fail
    refine S2.mono ?_
    clear S2
    rintro e w3 ⟨⟨us, rfl, -, -, hn⟩, uu⟩
    obtain ⟨p1_w0, q1_w0, p2_w0, q2_w0, rfl⟩ := ln_form hn
    obtain ⟨fp_w0, rr, oo, ge_w0⟩ := hn
    have lt_a_x := R_Lnk.lt r2_a_x
    have u3 : Upd [] wA w3 := u2.trans (uu)
    have HL_w0 := Lib.hid (show ∀ b ∈ fp_w0, wA.heap.size ≤ b from fun b hb => by have := ge_w0 b hb; have := u2.size; omega)
    have r3_w0 := rr
    have o3_w0 := oo
    clear u2 r2_a_x o2_a_x uu ge_w0 rr oo lt_a_x
    obtain ⟨w4, hwB⟩ : ∃ wB, wB = w3.alloc (.cells #[ei (y).pars, .slice p1_w0 (y).start.length q1_w0, .slice p2_w0 (y).sms.length q2_w0] 29) := ⟨_, rfl⟩
    have uB : Upd [] w3 w4 := by rw [hwB]; exact (Upd.refl _ _).alloc _
    obtain ⟨B_w0, hB⟩ : ∃ B, B = w3.heap.size := ⟨_, rfl⟩
    have qq : RowAt w4 B_w0 29 [ei (y).pars, .slice p1_w0 (y).start.length q1_w0, .slice p2_w0 (y).sms.length q2_w0] := by rw [hwB, hB]; exact RowAt.new _ _ _
    have lt_w0 := R_Lnk.lt r3_w0
    have HN_w0_w0 := Lib.hid (show B_w0 ∉ fp_w0 from fun hm => by have := lt_w0 _ hm; omega)
    have u4 : Upd [] wA w4 := u3.trans (uB)
    have r4_w0 := R_Lnk.upd r3_w0 (uB) (by simp)
    have o4_w0 := o3_w0.upd (uB) (by simp)
    have q4_w0 := qq
    clear u3 r3_w0 o3_w0 lt_w0 uB qq
    go_upto_region 6 with (fail)
    rw [← hwB, ← hB]
    clear hwB hB
    have z_A_0 := (HQA.out _ u4).cell 0 _ rfl
    have z_A_1 := (HQA.out _ u4).cell 1 _ rfl
    have z_A_2 := (HQA.out _ u4).cell 2 _ rfl
    have S2 := to_Ln _ x w4 _ HSZ.out (HRX.out _ (UA.out.trans u4))
    go_wp2_with fail
    refine S2.mono ?_
    clear S2 z_A_0 z_A_1 z_A_2
    rintro e w5 ⟨⟨us, rfl, -, -, hn⟩, uu⟩
    obtain ⟨p1_x_x, q1_x_x, p2_x_x, q2_x_x, rfl⟩ := ln_form hn
    obtain ⟨fp_x_x, rr, oo, ge_x_x⟩ := hn
    have lt_w0 := R_Lnk.lt r4_w0
    have bl_w0 := q4_w0.lt
    have u5 : Upd [] wA w5 := u4.trans (uu)
    have r5_w0 := R_Lnk.upd r4_w0 (uu) (by simp)
    have o5_w0 := o4_w0.upd (uu) (by simp)
    have q5_w0 := q4_w0.upd (uu) (by simp)
    have HL_x_x := Lib.hid (show ∀ b ∈ fp_x_x, wA.heap.size ≤ b from fun b hb => by have := ge_x_x b hb; have := u4.size; omega)
    have HD_w0_x_x := Lib.hid (show ∀ b ∈ fp_w0, b ∉ fp_x_x from fun b hb hm => by have := lt_w0 b hb; have := ge_x_x b hm; omega)
    have HN_w0_x_x := Lib.hid (show B_w0 ∉ fp_x_x from fun hm => by have := ge_x_x _ hm; omega)
    have r5_x_x := rr
    have o5_x_x := oo
    clear u4 r4_w0 o4_w0 q4_w0 uu ge_x_x rr oo lt_w0 bl_w0
    obtain ⟨w6, hwB⟩ : ∃ wB, wB = w5.alloc (.cells #[ei (x).pars, .slice p1_x_x (x).start.length q1_x_x, .slice p2_x_x (x).sms.length q2_x_x] 29) := ⟨_, rfl⟩
    have uB : Upd [] w5 w6 := by rw [hwB]; exact (Upd.refl _ _).alloc _
    obtain ⟨B_x_x, hB⟩ : ∃ B, B = w5.heap.size := ⟨_, rfl⟩
    have qq : RowAt w6 B_x_x 29 [ei (x).pars, .slice p1_x_x (x).start.length q1_x_x, .slice p2_x_x (x).sms.length q2_x_x] := by rw [hwB, hB]; exact RowAt.new _ _ _
    have lt_w0 := R_Lnk.lt r5_w0
    have lt_x_x := R_Lnk.lt r5_x_x
    have bl_w0 := q5_w0.lt
    have HN_x_x_w0 := Lib.hid (show B_x_x ∉ fp_w0 from fun hm => by have := lt_w0 _ hm; omega)
    have HN_x_x_x_x := Lib.hid (show B_x_x ∉ fp_x_x from fun hm => by have := lt_x_x _ hm; omega)
    have u6 : Upd [] wA w6 := u5.trans (uB)
    have r6_w0 := R_Lnk.upd r5_w0 (uB) (by simp)
    have o6_w0 := o5_w0.upd (uB) (by simp)
    have r6_x_x := R_Lnk.upd r5_x_x (uB) (by simp)
    have o6_x_x := o5_x_x.upd (uB) (by simp)
    have q6_w0 := q5_w0.upd (uB) (by simp)
    have q6_x_x := qq
    clear u5 r5_w0 o5_w0 r5_x_x o5_x_x q5_w0 lt_w0 lt_x_x bl_w0 uB qq
    go_upto_region 7 with (fail)
    rw [← hwB, ← hB]
    clear hwB hB
    have z_x_x_0 := q6_x_x.cell 0 _ rfl
    have z_x_x_1 := q6_x_x.cell 1 _ rfl
    have z_x_x_2 := q6_x_x.cell 2 _ rfl
    have S2 := foldLI [ei (x).pars, .slice p1_x_x (x).start.length q1_x_x, .slice p2_x_x (x).sms.length q2_x_x] x w6 fp_x_x r6_x_x hF
    rw [HG.out] at S2
    go_wp2_with fail
    refine S2.mono ?_
    clear S2 z_x_x_0 z_x_x_1 z_x_x_2
    rintro e w7 ⟨⟨us, rfl, -, -, hn⟩, uu⟩
    obtain ⟨p1_g0, q1_g0, p2_g0, q2_g0, rfl⟩ := ln_form hn
    obtain ⟨fp_g0, rr, oo, ge_g0⟩ := hn
    have lt_w0 := R_Lnk.lt r6_w0
    have lt_x_x := R_Lnk.lt r6_x_x
    have bl_w0 := q6_w0.lt
    have bl_x_x := q6_x_x.lt
    have u7 : Upd [] wA w7 := u6.trans (uu)
    have r7_w0 := R_Lnk.upd r6_w0 (uu) (by simp)
    have o7_w0 := o6_w0.upd (uu) (by simp)
    have r7_x_x := R_Lnk.upd r6_x_x (uu) (by simp)
    have o7_x_x := o6_x_x.upd (uu) (by simp)
    have q7_w0 := q6_w0.upd (uu) (by simp)
    have q7_x_x := q6_x_x.upd (uu) (by simp)
    have HL_g0 := Lib.hid (show ∀ b ∈ fp_g0, wA.heap.size ≤ b from fun b hb => by have := ge_g0 b hb; have := u6.size; omega)
    have HD_w0_g0 := Lib.hid (show ∀ b ∈ fp_w0, b ∉ fp_g0 from fun b hb hm => by have := lt_w0 b hb; have := ge_g0 b hm; omega)
    have HD_x_x_g0 := Lib.hid (show ∀ b ∈ fp_x_x, b ∉ fp_g0 from fun b hb hm => by have := lt_x_x b hb; have := ge_g0 b hm; omega)
    have HN_w0_g0 := Lib.hid (show B_w0 ∉ fp_g0 from fun hm => by have := ge_g0 _ hm; omega)
    have HN_x_x_g0 := Lib.hid (show B_x_x ∉ fp_g0 from fun hm => by have := ge_g0 _ hm; omega)
    have r7_g0 := rr
    have o7_g0 := oo
    clear u6 r6_w0 o6_w0 r6_x_x o6_x_x q6_w0 q6_x_x uu ge_g0 rr oo lt_w0 lt_x_x bl_w0 bl_x_x
    obtain ⟨w8, hwB⟩ : ∃ wB, wB = w7.alloc (.cells #[ei (y).pars, .slice p1_g0 (y).start.length q1_g0, .slice p2_g0 (y).sms.length q2_g0] 29) := ⟨_, rfl⟩
    have uB : Upd [] w7 w8 := by rw [hwB]; exact (Upd.refl _ _).alloc _
    obtain ⟨B_g0, hB⟩ : ∃ B, B = w7.heap.size := ⟨_, rfl⟩
    have qq : RowAt w8 B_g0 29 [ei (y).pars, .slice p1_g0 (y).start.length q1_g0, .slice p2_g0 (y).sms.length q2_g0] := by rw [hwB, hB]; exact RowAt.new _ _ _
    have lt_w0 := R_Lnk.lt r7_w0
    have lt_x_x := R_Lnk.lt r7_x_x
    have lt_g0 := R_Lnk.lt r7_g0
    have bl_w0 := q7_w0.lt
    have bl_x_x := q7_x_x.lt
    have HN_g0_w0 := Lib.hid (show B_g0 ∉ fp_w0 from fun hm => by have := lt_w0 _ hm; omega)
    have HN_g0_x_x := Lib.hid (show B_g0 ∉ fp_x_x from fun hm => by have := lt_x_x _ hm; omega)
    have HN_g0_g0 := Lib.hid (show B_g0 ∉ fp_g0 from fun hm => by have := lt_g0 _ hm; omega)
    have u8 : Upd [] wA w8 := u7.trans (uB)
    have r8_w0 := R_Lnk.upd r7_w0 (uB) (by simp)
    have o8_w0 := o7_w0.upd (uB) (by simp)
    have r8_x_x := R_Lnk.upd r7_x_x (uB) (by simp)
    have o8_x_x := o7_x_x.upd (uB) (by simp)
    have r8_g0 := R_Lnk.upd r7_g0 (uB) (by simp)
    have o8_g0 := o7_g0.upd (uB) (by simp)
    have q8_w0 := q7_w0.upd (uB) (by simp)
    have q8_x_x := q7_x_x.upd (uB) (by simp)
    have q8_g0 := qq
    clear u7 r7_w0 o7_w0 r7_x_x o7_x_x r7_g0 o7_g0 q7_w0 q7_x_x lt_w0 lt_x_x lt_g0 bl_w0 bl_x_x uB qq
    go_upto_region 8 with (fail)
    rw [← hwB, ← hB]
    clear hwB hB
    have z_g0_0 := q8_g0.cell 0 _ rfl
    have z_g0_1 := q8_g0.cell 1 _ rfl
    have z_g0_2 := q8_g0.cell 2 _ rfl
    have z_w0_0 := q8_w0.cell 0 _ rfl
    have z_w0_1 := q8_w0.cell 1 _ rfl
    have z_w0_2 := q8_w0.cell 2 _ rfl
    have S2 := eq_Ln [ei (y).pars, .slice p1_g0 (y).start.length q1_g0, .slice p2_g0 (y).sms.length q2_g0] [ei (y).pars, .slice p1_w0 (y).start.length q1_w0, .slice p2_w0 (y).sms.length q2_w0] _ w8 _ _ r8_g0 r8_w0
    go_wp2_with fail
    refine S2.mono ?_
    clear S2 z_g0_0 z_g0_1 z_g0_2 z_w0_0 z_w0_1 z_w0_2
    rintro e w9 ⟨rfl, uu⟩
    have u9 : Upd [] wA w9 := u8.trans (uu)
    have r9_w0 := R_Lnk.upd r8_w0 (uu) (by simp)
    have o9_w0 := o8_w0.upd (uu) (by simp)
    have r9_x_x := R_Lnk.upd r8_x_x (uu) (by simp)
    have o9_x_x := o8_x_x.upd (uu) (by simp)
    have r9_g0 := R_Lnk.upd r8_g0 (uu) (by simp)
    have o9_g0 := o8_g0.upd (uu) (by simp)
    have q9_w0 := q8_w0.upd (uu) (by simp)
    have q9_x_x := q8_x_x.upd (uu) (by simp)
    have q9_g0 := q8_g0.upd (uu) (by simp)
    clear u8 r8_w0 o8_w0 r8_x_x o8_x_x r8_g0 o8_g0 q8_w0 q8_x_x q8_g0 uu
    have z_x_x_0 := q9_x_x.cell 0 _ rfl
    have z_x_x_1 := q9_x_x.cell 1 _ rfl
    have z_x_x_2 := q9_x_x.cell 2 _ rfl
    have z_A_0 := (HQA.out _ u9).cell 0 _ rfl
    have z_A_1 := (HQA.out _ u9).cell 1 _ rfl
    have z_A_2 := (HQA.out _ u9).cell 2 _ rfl
    have S6 := to_Ln _ x w9.drew _ HSZ.out (HRX.out _ (UA.out.trans u9).drew)
    have S7 := Lib.hid (fun W us f (hu : Upd [] w9.drew W) (h : R_Ln f W us x) => eq_Ln [ei (x).pars, .slice p1_x_x (x).start.length q1_x_x, .slice p2_x_x (x).sms.length q2_x_x] us x W _ f (R_Lnk.upd r9_x_x ((Upd.refl [] _).drew.trans hu) (by simp)) h)
    go_wp2_with fail
    go_region_held3 (fun w' => w'.cell? ⟨B_x_x, 0, none⟩ = some (ei (x).pars) ∧ w'.cell? ⟨B_x_x, 1, none⟩ = some (.slice p1_x_x (x).start.length q1_x_x) ∧ w'.cell? ⟨B_x_x, 2, none⟩ = some (.slice p2_x_x (x).sms.length q2_x_x) ∧ w'.cell? ⟨BA, 0, none⟩ = some (ei x.pars) ∧ w'.cell? ⟨BA, 1, none⟩ = some (v1) ∧ w'.cell? ⟨BA, 2, none⟩ = some (v2)) (go_keep)
      (first
        | ((go_at_call 11); (refine S6.mono ?_); rintro e w6' ⟨⟨us, rfl, -, -, hn⟩, hu6⟩; obtain ⟨p1_t, q1_t, p2_t, q2_t, rfl⟩ := ln_form hn; obtain ⟨fp_t, rr6, -, -⟩ := hn; have y_0 := hu6.keep z_x_x_0; have y_1 := hu6.keep z_x_x_1; have y_2 := hu6.keep z_x_x_2; have y_3 := hu6.keep z_A_0; have y_4 := hu6.keep z_A_1; have y_5 := hu6.keep z_A_2)
        | ((go_at_call 13); (refine (S7.out w6' _ fp_t hu6 rr6).mono ?_); rintro e w10 ⟨rfl, hu7⟩; have t_0 := hu7.keep y_0; have t_1 := hu7.keep y_1; have t_2 := hu7.keep y_2; have t_3 := hu7.keep y_3; have t_4 := hu7.keep y_4; have t_5 := hu7.keep y_5))
    have uu : Upd [] w9 w10 := ((Upd.refl [] w9).drew.trans hu6).trans hu7
    have u10 : Upd [] wA w10 := u9.trans (uu)
    have r10_w0 := R_Lnk.upd r9_w0 (uu) (by simp)
    have o10_w0 := o9_w0.upd (uu) (by simp)
    have r10_x_x := R_Lnk.upd r9_x_x (uu) (by simp)
    have o10_x_x := o9_x_x.upd (uu) (by simp)
    have r10_g0 := R_Lnk.upd r9_g0 (uu) (by simp)
    have o10_g0 := o9_g0.upd (uu) (by simp)
    have q10_w0 := q9_w0.upd (uu) (by simp)
    have q10_x_x := q9_x_x.upd (uu) (by simp)
    have q10_g0 := q9_g0.upd (uu) (by simp)
    clear u9 r9_w0 o9_w0 r9_x_x o9_x_x r9_g0 o9_g0 q9_w0 q9_x_x q9_g0 uu S6 S7 hu6 hu7 rr6 z_x_x_0 z_x_x_1 z_x_x_2 z_A_0 z_A_1 z_A_2 y_0 y_1 y_2 y_3 y_4 y_5 t_0 t_1 t_2 t_3 t_4 t_5
    have z_x_x_0 := q10_x_x.cell 0 _ rfl
    have z_x_x_1 := q10_x_x.cell 1 _ rfl
    have z_x_x_2 := q10_x_x.cell 2 _ rfl
    go_wp2_with fail
    refine (mark_Ln [ei (x).pars, .slice p1_x_x (x).start.length q1_x_x, .slice p2_x_x (x).sms.length q2_x_x] x _ _ fp_x_x (by omega) (by omega) r10_x_x o10_x_x).mono ?_
    clear z_x_x_0 z_x_x_1 z_x_x_2
    rintro e w11 ⟨rfl, r11_x_x, o11_x_x, uu⟩
    have u11 : Upd [] wA w11 := u10.fresh (uu) (fun b hb => Or.inl (HL_x_x.out b hb))
    have r11_w0 := R_Lnk.upd r10_w0 (uu) HD_w0_x_x.out
    have o11_w0 := o10_w0.upd (uu) HD_w0_x_x.out
    have r11_g0 := R_Lnk.upd r10_g0 (uu) (fun b hb hm => HD_x_x_g0.out b hm hb)
    have o11_g0 := o10_g0.upd (uu) (fun b hb hm => HD_x_x_g0.out b hm hb)
    have q11_w0 := q10_w0.upd (uu) HN_w0_x_x.out
    have q11_x_x := q10_x_x.upd (uu) HN_x_x_x_x.out
    have q11_g0 := q10_g0.upd (uu) HN_g0_x_x.out
    clear u10 r10_w0 o10_w0 r10_x_x o10_x_x r10_g0 o10_g0 q10_w0 q10_x_x q10_g0 r11_x_x o11_x_x q11_x_x uu
    have hk : 0 ≤ 1 + mkF_Ln x := by omega
    have z_g0_0 := q11_g0.cell 0 _ rfl
    have z_g0_1 := q11_g0.cell 1 _ rfl
    have z_g0_2 := q11_g0.cell 2 _ rfl
    have z_w0_0 := q11_w0.cell 0 _ rfl
    have z_w0_1 := q11_w0.cell 1 _ rfl
    have z_w0_2 := q11_w0.cell 2 _ rfl
    have S2 := eq_Ln [ei (y).pars, .slice p1_g0 (y).start.length q1_g0, .slice p2_g0 (y).sms.length q2_g0] [ei (y).pars, .slice p1_w0 (y).start.length q1_w0, .slice p2_w0 (y).sms.length q2_w0] _ w11 _ _ r11_g0 r11_w0
    go_wp2_with fail
    refine S2.mono ?_
    clear S2 z_g0_0 z_g0_1 z_g0_2 z_w0_0 z_w0_1 z_w0_2
    rintro e w12 ⟨rfl, uu⟩
    have u12 : Upd [] wA w12 := u11.trans (uu)
    have r12_w0 := R_Lnk.upd r11_w0 (uu) (by simp)
    have o12_w0 := o11_w0.upd (uu) (by simp)
    have r12_g0 := R_Lnk.upd r11_g0 (uu) (by simp)
    have o12_g0 := o11_g0.upd (uu) (by simp)
    have q12_w0 := q11_w0.upd (uu) (by simp)
    have q12_g0 := q11_g0.upd (uu) (by simp)
    clear u11 r11_w0 o11_w0 r11_g0 o11_g0 q11_w0 q11_g0 uu
    have z_g0_0 := q12_g0.cell 0 _ rfl
    have z_g0_1 := q12_g0.cell 1 _ rfl
    have z_g0_2 := q12_g0.cell 2 _ rfl
    go_wp2_with fail
    refine (mark_Ln [ei (y).pars, .slice p1_g0 (y).start.length q1_g0, .slice p2_g0 (y).sms.length q2_g0] y _ _ fp_g0 (by omega) (by omega) r12_g0 o12_g0).mono ?_
    clear z_g0_0 z_g0_1 z_g0_2
    rintro e w13 ⟨rfl, r13_g0, o13_g0, uu⟩
    have u13 : Upd [] wA w13 := u12.fresh (uu) (fun b hb => Or.inl (HL_g0.out b hb))
    have r13_w0 := R_Lnk.upd r12_w0 (uu) HD_w0_g0.out
    have o13_w0 := o12_w0.upd (uu) HD_w0_g0.out
    have q13_w0 := q12_w0.upd (uu) HN_w0_g0.out
    have q13_g0 := q12_g0.upd (uu) HN_g0_g0.out
    clear u12 r12_w0 o12_w0 r12_g0 o12_g0 q12_w0 q12_g0 uu
    have hk0 : 0 ≤ 1 + mkF_Ln y := by omega
    have hne : ((1 + mkF_Ln y) != (1 + mkF_Ln y)) = false := by simp
    have z_g0_0 := q13_g0.cell 0 _ rfl
    have z_g0_1 := q13_g0.cell 1 _ rfl
    have z_g0_2 := q13_g0.cell 2 _ rfl
    have S2 := held_Ln [ei (y).pars, .slice p1_g0 (y).start.length q1_g0, .slice p2_g0 (y).sms.length q2_g0] y 1 w13 fp_g0 (by omega) hMk r13_g0
    go_wp2_with fail
    refine S2.mono ?_
    clear S2 z_g0_0 z_g0_1 z_g0_2
    rintro e w14 ⟨rfl, uu⟩
    have u14 : Upd [] wA w14 := u13.trans (uu)
    have r14_w0 := R_Lnk.upd r13_w0 (uu) (by simp)
    have o14_w0 := o13_w0.upd (uu) (by simp)
    have r14_g0 := R_Lnk.upd r13_g0 (uu) (by simp)
    have o14_g0 := o13_g0.upd (uu) (by simp)
    have q14_w0 := q13_w0.upd (uu) (by simp)
    have q14_g0 := q13_g0.upd (uu) (by simp)
    clear u13 r13_w0 o13_w0 r13_g0 o13_g0 q13_w0 q13_g0 uu
    have z_A_0 := (HQA.out _ u14).cell 0 _ rfl
    have z_A_1 := (HQA.out _ u14).cell 1 _ rfl
    have z_A_2 := (HQA.out _ u14).cell 2 _ rfl
    have S2 := to_Ln _ x w14 _ HSZ.out (HRX.out _ (UA.out.trans u14))
    go_wp2_with fail
    refine S2.mono ?_
    clear S2 z_A_0 z_A_1 z_A_2
    rintro e w15 ⟨⟨us, rfl, -, -, hn⟩, uu⟩
    obtain ⟨p1_c_x, q1_c_x, p2_c_x, q2_c_x, rfl⟩ := ln_form hn
    obtain ⟨fp_c_x, rr, oo, ge_c_x⟩ := hn
    have lt_w0 := R_Lnk.lt r14_w0
    have lt_g0 := R_Lnk.lt r14_g0
    have bl_w0 := q14_w0.lt
    have bl_g0 := q14_g0.lt
    have u15 : Upd [] wA w15 := u14.trans (uu)
    have r15_w0 := R_Lnk.upd r14_w0 (uu) (by simp)
    have o15_w0 := o14_w0.upd (uu) (by simp)
    have r15_g0 := R_Lnk.upd r14_g0 (uu) (by simp)
    have o15_g0 := o14_g0.upd (uu) (by simp)
    have q15_w0 := q14_w0.upd (uu) (by simp)
    have q15_g0 := q14_g0.upd (uu) (by simp)
    have HL_c_x := Lib.hid (show ∀ b ∈ fp_c_x, wA.heap.size ≤ b from fun b hb => by have := ge_c_x b hb; have := u14.size; omega)
    have HD_w0_c_x := Lib.hid (show ∀ b ∈ fp_w0, b ∉ fp_c_x from fun b hb hm => by have := lt_w0 b hb; have := ge_c_x b hm; omega)
    have HD_g0_c_x := Lib.hid (show ∀ b ∈ fp_g0, b ∉ fp_c_x from fun b hb hm => by have := lt_g0 b hb; have := ge_c_x b hm; omega)
    have HN_w0_c_x := Lib.hid (show B_w0 ∉ fp_c_x from fun hm => by have := ge_c_x _ hm; omega)
    have HN_g0_c_x := Lib.hid (show B_g0 ∉ fp_c_x from fun hm => by have := ge_c_x _ hm; omega)
    have r15_c_x := rr
    have o15_c_x := oo
    clear u14 r14_w0 o14_w0 r14_g0 o14_g0 q14_w0 q14_g0 uu ge_c_x rr oo lt_w0 lt_g0 bl_w0 bl_g0
    have S2 := foldLI [ei (x).pars, .slice p1_c_x (x).start.length q1_c_x, .slice p2_c_x (x).sms.length q2_c_x] x w15 fp_c_x r15_c_x hF
    rw [HG.out] at S2
    go_wp2_with fail
    refine S2.mono ?_
    clear S2
    rintro e w16 ⟨⟨us, rfl, -, -, hn⟩, uu⟩
    obtain ⟨p1_h0, q1_h0, p2_h0, q2_h0, rfl⟩ := ln_form hn
    obtain ⟨fp_h0, rr, oo, ge_h0⟩ := hn
    have lt_w0 := R_Lnk.lt r15_w0
    have lt_g0 := R_Lnk.lt r15_g0
    have lt_c_x := R_Lnk.lt r15_c_x
    have bl_w0 := q15_w0.lt
    have bl_g0 := q15_g0.lt
    have u16 : Upd [] wA w16 := u15.trans (uu)
    have r16_w0 := R_Lnk.upd r15_w0 (uu) (by simp)
    have o16_w0 := o15_w0.upd (uu) (by simp)
    have r16_g0 := R_Lnk.upd r15_g0 (uu) (by simp)
    have o16_g0 := o15_g0.upd (uu) (by simp)
    have q16_w0 := q15_w0.upd (uu) (by simp)
    have q16_g0 := q15_g0.upd (uu) (by simp)
    have HL_h0 := Lib.hid (show ∀ b ∈ fp_h0, wA.heap.size ≤ b from fun b hb => by have := ge_h0 b hb; have := u15.size; omega)
    have HD_w0_h0 := Lib.hid (show ∀ b ∈ fp_w0, b ∉ fp_h0 from fun b hb hm => by have := lt_w0 b hb; have := ge_h0 b hm; omega)
    have HD_g0_h0 := Lib.hid (show ∀ b ∈ fp_g0, b ∉ fp_h0 from fun b hb hm => by have := lt_g0 b hb; have := ge_h0 b hm; omega)
    have HN_w0_h0 := Lib.hid (show B_w0 ∉ fp_h0 from fun hm => by have := ge_h0 _ hm; omega)
    have HN_g0_h0 := Lib.hid (show B_g0 ∉ fp_h0 from fun hm => by have := ge_h0 _ hm; omega)
    have r16_h0 := rr
    have o16_h0 := oo
    clear u15 r15_w0 o15_w0 r15_g0 o15_g0 r15_c_x o15_c_x q15_w0 q15_g0 uu ge_h0 rr oo lt_w0 lt_g0 lt_c_x bl_w0 bl_g0
    obtain ⟨w17, hwB⟩ : ∃ wB, wB = w16.alloc (.cells #[ei (y).pars, .slice p1_h0 (y).start.length q1_h0, .slice p2_h0 (y).sms.length q2_h0] 29) := ⟨_, rfl⟩
    have uB : Upd [] w16 w17 := by rw [hwB]; exact (Upd.refl _ _).alloc _
    obtain ⟨B_h0, hB⟩ : ∃ B, B = w16.heap.size := ⟨_, rfl⟩
    have qq : RowAt w17 B_h0 29 [ei (y).pars, .slice p1_h0 (y).start.length q1_h0, .slice p2_h0 (y).sms.length q2_h0] := by rw [hwB, hB]; exact RowAt.new _ _ _
    have lt_w0 := R_Lnk.lt r16_w0
    have lt_g0 := R_Lnk.lt r16_g0
    have lt_h0 := R_Lnk.lt r16_h0
    have bl_w0 := q16_w0.lt
    have bl_g0 := q16_g0.lt
    have HN_h0_w0 := Lib.hid (show B_h0 ∉ fp_w0 from fun hm => by have := lt_w0 _ hm; omega)
    have HN_h0_g0 := Lib.hid (show B_h0 ∉ fp_g0 from fun hm => by have := lt_g0 _ hm; omega)
    have HN_h0_h0 := Lib.hid (show B_h0 ∉ fp_h0 from fun hm => by have := lt_h0 _ hm; omega)
    have u17 : Upd [] wA w17 := u16.trans (uB)
    have r17_w0 := R_Lnk.upd r16_w0 (uB) (by simp)
    have o17_w0 := o16_w0.upd (uB) (by simp)
    have r17_g0 := R_Lnk.upd r16_g0 (uB) (by simp)
    have o17_g0 := o16_g0.upd (uB) (by simp)
    have r17_h0 := R_Lnk.upd r16_h0 (uB) (by simp)
    have o17_h0 := o16_h0.upd (uB) (by simp)
    have q17_w0 := q16_w0.upd (uB) (by simp)
    have q17_g0 := q16_g0.upd (uB) (by simp)
    have q17_h0 := qq
    clear u16 r16_w0 o16_w0 r16_g0 o16_g0 r16_h0 o16_h0 q16_w0 q16_g0 lt_w0 lt_g0 lt_h0 bl_w0 bl_g0 uB qq
    go_upto_region 25 with (fail)
    rw [← hwB, ← hB]
    clear hwB hB
    have z_h0_0 := q17_h0.cell 0 _ rfl
    have z_h0_1 := q17_h0.cell 1 _ rfl
    have z_h0_2 := q17_h0.cell 2 _ rfl
    have z_w0_0 := q17_w0.cell 0 _ rfl
    have z_w0_1 := q17_w0.cell 1 _ rfl
    have z_w0_2 := q17_w0.cell 2 _ rfl
    have S2 := eq_Ln [ei (y).pars, .slice p1_h0 (y).start.length q1_h0, .slice p2_h0 (y).sms.length q2_h0] [ei (y).pars, .slice p1_w0 (y).start.length q1_w0, .slice p2_w0 (y).sms.length q2_w0] _ w17 _ _ r17_h0 r17_w0
    go_wp2_with fail
    refine S2.mono ?_
    clear S2 z_h0_0 z_h0_1 z_h0_2 z_w0_0 z_w0_1 z_w0_2
    rintro e w18 ⟨rfl, uu⟩
    have u18 : Upd [] wA w18 := u17.trans (uu)
    have r18_w0 := R_Lnk.upd r17_w0 (uu) (by simp)
    have o18_w0 := o17_w0.upd (uu) (by simp)
    have r18_g0 := R_Lnk.upd r17_g0 (uu) (by simp)
    have o18_g0 := o17_g0.upd (uu) (by simp)
    have r18_h0 := R_Lnk.upd r17_h0 (uu) (by simp)
    have o18_h0 := o17_h0.upd (uu) (by simp)
    have q18_w0 := q17_w0.upd (uu) (by simp)
    have q18_g0 := q17_g0.upd (uu) (by simp)
    have q18_h0 := q17_h0.upd (uu) (by simp)
    clear u17 r17_w0 o17_w0 r17_g0 o17_g0 r17_h0 o17_h0 q17_w0 q17_g0 q17_h0 uu
    have z_g0_0 := q18_g0.cell 0 _ rfl
    have z_g0_1 := q18_g0.cell 1 _ rfl
    have z_g0_2 := q18_g0.cell 2 _ rfl
    have S2 := held_Ln [ei (y).pars, .slice p1_g0 (y).start.length q1_g0, .slice p2_g0 (y).sms.length q2_g0] y 1 w18 fp_g0 (by omega) hMk r18_g0
    go_wp2_with fail
    refine S2.mono ?_
    clear S2 z_g0_0 z_g0_1 z_g0_2
    rintro e w19 ⟨rfl, uu⟩
    have u19 : Upd [] wA w19 := u18.trans (uu)
    have r19_w0 := R_Lnk.upd r18_w0 (uu) (by simp)
    have o19_w0 := o18_w0.upd (uu) (by simp)
    have r19_g0 := R_Lnk.upd r18_g0 (uu) (by simp)
    have o19_g0 := o18_g0.upd (uu) (by simp)
    have r19_h0 := R_Lnk.upd r18_h0 (uu) (by simp)
    have o19_h0 := o18_h0.upd (uu) (by simp)
    have q19_w0 := q18_w0.upd (uu) (by simp)
    have q19_g0 := q18_g0.upd (uu) (by simp)
    have q19_h0 := q18_h0.upd (uu) (by simp)
    clear u18 r18_w0 o18_w0 r18_g0 o18_g0 r18_h0 o18_h0 q18_w0 q18_g0 q18_h0 uu
    have HU := Lib.hid (UA.out.trans u19)
    go_wp2_with fail
    go_ret
    exact ⟨rfl, HU.out⟩

end Go.Proofs.Ytnfghgaadnobbaa

namespace Go.Proofs.Ytnfghgaadnobbaa.lawFoldLC
open Go.ChangeShapes Go.WideShapes Go.ChangeAt Go.RowKit

theorem own : ownKnob Try.prog.godebug = none := by kernel_rfl
theorem laidOut : laidOutB Try.prog = true := by kernel_rfl

set_option maxRecDepth 100000 in
theorem lifted (os : Os) (started : os.Started) (H : Type) (enc : TypeId × Value → H) :
    ReturnsInHanded {} Try.checked os 3 .any (Rows.fnExactFoldLinearSpec.pre6 enc Try.prog Try.f3 Rows.fnExactFoldLinearRow.domain false) (Rows.fnExactFoldLinearSpec.post enc Try.prog Try.f3 false true false false) := by
  refine returnsInHanded_of_change (C := Try.checked) own started (by kernel_rfl) Try.func3
    (ChangeSpec.witness6 (enc := enc) (C := Try.checked) false ⟨#[], #[.agg #[.int .i64 0, .slice none 0 0, .slice none 0 0]], []⟩ 8 (by kernel_rfl) (by kernel_rfl) (by kernel_rfl) (by kernel_rfl)) ?_
  intro W base args ds gs before hval0 hW hcnd _
  have hval : ∀ (j : Nat) t v, Try.f3.params[j]? = some t → args[j]? = some v → Value.okWide Try.prog W .any base t v := hval0
  have hW' := hW
  obtain ⟨p, q, hA0, hV, rfl, hfz, hnd⟩ := hW
  have hA : DataW.TrodAll enc Try.prog W 0 (fun _ => true) true Try.f3.params.toList args.toList ds p := hA0
  rw [Try.params3] at hA hval
  obtain ⟨v0, vs0, d0, ds0, p0, q0, hargs, rfl, rfl, h0, r0⟩ := trodAll_cons hA
  obtain ⟨rfl, rfl, rfl⟩ := trodAll_nil r0
  obtain rfl : args = #[v0] := by cases args; simp_all
  obtain ⟨rfl, rfl⟩ := trodVars_none hV
  have sv0 := okWide_struct Try.underlying25 (hval 0 25 v0 rfl rfl)
  have k0 := h0
  have lt0 : ∀ x ∈ p0, x.block < W.heap.size := by obtain ⟨m, hm⟩ := k0; exact DataW.trod_lt m _ _ _ hm
  obtain ⟨x0, fp0, cs0, rfl, hR0, hφ0⟩ := open_Ln sv0 h0
  clear hA0 hval0
  refine (lawFoldL _ x0  W fp0 hR0 hφ0 ).mono fun e W' ⟨he, hu⟩ => ?_
  subst he
  have bel := hu.below
  exact ⟨_, rfl, _, _, _, [], _, [], hW', trodAll_mk1 (shut_bool Try.underlying4 _), (trodAll_cons_mk (Below.trod laidOut (by kernel_rfl) (of_decide_eq_true (by kernel_rfl)) k0 bel lt0) trodAll_mk0), rfl, bel.frame _, fun h => by cases h⟩

theorem over : Rows.fnExactFoldLinearRow.holds Try.pinned (OpenSpec.ofChange Rows.fnExactFoldLinearSpec) :=
  OpenClaim.holds_of_wide 3 Try.f3 rfl rfl rfl rfl rfl rfl rfl ⟨rfl, rfl, rfl, rfl, rfl⟩ rfl rfl rfl rfl rfl (by kernel_rfl) Try.func3 (by kernel_rfl)
    (of_decide_eq_true (by kernel_rfl)) (by unfold Func.isWrapper; first | (rw [if_pos (by decide +kernel)]; kernel_rfl) | (rw [if_neg (by decide +kernel)]; exact ⟨rfl, rfl⟩))
    (fun os started H enc _ => lifted os started H enc)

theorem proved : Rows.FnExactFoldLinearSaid := over
#print axioms proved
end Go.Proofs.Ytnfghgaadnobbaa.lawFoldLC
