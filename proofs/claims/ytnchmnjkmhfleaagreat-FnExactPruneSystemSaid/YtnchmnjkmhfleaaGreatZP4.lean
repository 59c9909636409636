/-
  Texts joined in one file: SyC, DfI, DfE, DfF, DfR, DfG, IdxDe, DfH, IdxCo, IdxMe, SyI, SyM, SyV, DfS, DfSc, DfU, DfW.
-/
import Derived.Test.YtnchmnjkmhfleaaGreatZP1
import Derived.Test.YtnchmnjkmhfleaaGreatZP2
import Derived.Test.YtnchmnjkmhfleaaGreatZP3
import Derived.Laws.EntriesVeiled
import Derived.Deep.RegionHeld3
/-
  The program's copy of a system: what the call returns and makes.
-/
namespace Go.Proofs.YtnchmnjkmhfleaaGreat
open Go.RowKit

/-- what bounds a copied system. -/
structure CpFit (s : Sy) : Prop where
  dl : s.defs.length ≤ 1000000
  body : ∀ d ∈ s.defs, (0 < d.body.length ∧ d.body.length ≤ 1000000) ∧ ∀ p ∈ d.body, p.args.length ≤ 1000000 ∧ ∀ e ∈ p.args, e.length ≤ 1000000
  cl : s.comps.length ≤ 1000000
  vals : ∀ c ∈ s.comps, c.vals.length ≤ 1000000
  ml : s.meets.length ≤ 1000000
  al : s.allow.length ≤ 1000000
  hl : s.hide.length ≤ 1000000

abbrev zerosSy : List Value := [.slice none 0 0, .slice none 0 0, .slice none 0 0, .slice none 0 0, .slice none 0 0]
theorem Three.over {w W W' : World} {T1 T2 : TypeId} {B : Nat} {p z o : List Value} (h : Three w W T1 T2 B p z o) {f : List Nat} (hu : Upd f W W') (hf : ∀ b ∈ f, B + 3 ≤ b) : Three w W' T1 T2 B p z o := by
  have hs := h.size
  refine ⟨h.base, h.upd.fresh hu (fun c hc => Or.inl (by have := hf c hc; rw [h.base]; omega)), ?_, ?_, ?_⟩
  · rw [hu.block _ (by omega) (fun hm => by have := hf _ hm; omega)]; exact h.h0
  · rw [hu.block _ (by omega) (fun hm => by have := hf _ hm; omega)]; exact h.h1
  · rw [hu.block _ (by omega) (fun hm => by have := hf _ hm; omega)]; exact h.h2

theorem AccZ.reex {α : Type} {n : Nat} {R : Rp α} (K : Kept R) {base : Nat} {e : TypeId} {ex : List Nat} {w w1 : World} {v : Value} {xs : List α} (h : AccZ n R base e ex w v xs) {f : List Nat} (hu : Upd f w w1) (hf : ∀ b ∈ f, b ∈ ex ∨ b < base) {base' : Nat} {ex' : List Nat} (hb : base' ≤ base) (hx : ∀ b ∈ ex', b ∈ ex ∨ w.heap.size ≤ b) (hl : ∀ b ∈ ex', b < w1.heap.size) : AccZ n R base' e ex' w1 v xs := by
  obtain ⟨us, h1, h2, h3, h4⟩ := h
  have hq : RowsQ n R base ((ex ++ v.ownBlock.toList) ++ ex') w us xs := h2.ob' (fun b hb => by
    rcases List.mem_append.1 hb with hb | hb
    · exact Or.inl hb
    · rcases hx b hb with h | h
      · exact Or.inl (List.mem_append_left _ h)
      · exact Or.inr (Or.inr h))
  have hq2 := hq.upd K hu (fun b hb => by
    rcases hf b hb with h | h
    · exact Or.inl (List.mem_append_left _ (List.mem_append_left _ h))
    · exact Or.inr h)
  have hq3 := hq2.ob' (ob2 := ex' ++ v.ownBlock.toList) (fun b hb => by
    rcases List.mem_append.1 hb with hb | hb
    · exact Or.inl (List.mem_append_right _ hb)
    · exact Or.inl (List.mem_append_left _ (List.mem_append_right _ hb)))
  refine ⟨us, ?_, ?_, fun b hb hm => ?_, hl⟩
  · rcases h1 with ⟨q0, q1 | ⟨g, cap, cur, rfl, hg, hh, r1, r2, r3, r4⟩⟩
    · exact ⟨q0, Or.inl q1⟩
    · refine ⟨q0, Or.inr ⟨g, cap, cur, rfl, Nat.le_trans hb hg, ?_, r1, r2, r3, r4⟩⟩
      rw [hu.block g (Array.getElem?_eq_some_iff.1 hh).1 (fun hm => by
        rcases hf g hm with h | h
        · exact h3 g rfl h
        · omega)]
      exact hh
  · obtain ⟨fps, a1, a2, a3, a4, a5, a6⟩ := hq3
    exact ⟨fps, a1, a2, a3, a4, fun b hb' => ⟨Nat.le_trans hb (a5 b hb').1, (a5 b hb').2⟩, a6⟩
  · rcases hx b hm with h | h
    · exact h3 b hb h
    · have := (h1.lt b hb).2; omega
/-- a system that a call makes, its components in a row that may grow. -/
def MadeSy (w w' : World) (us : List Value) (s : Sy) : Prop := ∃ (d0 d1 d2 d3 d4 : Value) (g0 g2 g3 g4 : List Nat), us = [d0, d1, d2, d3, d4] ∧ R_De1 g0 w' [d0] s.defs ∧ R_Me1 g2 w' [d2] s.meets ∧ R_S1 g3 w' [d3] s.allow ∧ R_S1 g4 w' [d4] s.hide ∧ Own (g0 ++ (g2 ++ (g3 ++ g4))) w' ∧ (∀ b ∈ g0 ++ (g2 ++ (g3 ++ g4)), w.heap.size ≤ b) ∧ AccZ 2 R_Co w.heap.size 38 (g0 ++ (g2 ++ (g3 ++ g4))) w' d1 s.comps
theorem MadeSy.new {w w' : World} {us : List Value} {s : Sy} (h : MadeSy w w' us s) : NewQ R_Sy w w' us s := by
  obtain ⟨d0, d1, d2, d3, d4, g0, g2, g3, g4, rfl, r0, r2, r3, r4, ho, hg, ha⟩ := h
  obtain ⟨fc, hc, hco, hcb⟩ := ha.new (w0 := w) rfl
  obtain ⟨o0, oR, hd⟩ := own_split ho
  refine ⟨g0 ++ (fc ++ (g2 ++ (g3 ++ g4))), ⟨_, _, _, _, _, g0, fc, g2, g3, g4, rfl, r0, hc, r2, r3, r4, rfl⟩, own_join o0 (own_join hco oR (fun c h1 h2 => (hcb c h1).2 (List.mem_append_right _ h2))) (fun c h1 h2 => ?_), fun c hc2 => ?_⟩
  · rcases List.mem_append.1 h2 with h2 | h2
    · exact (hcb c h2).2 (List.mem_append_left _ h1)
    · exact hd c h1 h2
  · rcases List.mem_append.1 hc2 with h | h
    · exact hg c (List.mem_append_left _ h)
    · rcases List.mem_append.1 h with h | h
      · exact (hcb c h).1
      · exact hg c (List.mem_append_right _ h)

set_option maxRecDepth 20000 in
set_option maxHeartbeats 16000000 in
theorem cloneSyM (cs : List Value) (s : Sy) (w : World) (fp : List Nat) (hR : R_Sy fp w cs s) (hF : CpFit s) :
    Calls Tryz.prog 34 #[.agg cs.toArray] w fun e w' => (∃ us, e = .returned (.agg us.toArray) ∧ us.length = 5 ∧ us.toArray.all (·.oneCell') = true ∧ MadeSy w w' us s) ∧ Upd [] w w' := by
  obtain ⟨i0, hi, hz0, hz1, hz2⟩ := info_parts Tryz.infoDe
  obtain ⟨i1, hj, hy0, hy1, hy2⟩ := info_parts Tryz.infoCo
  obtain ⟨v0, v1, v2, v3, v4, f0, f1, f2, f3, f4, rfl, h0, h1, h2, h3, h4, rfl⟩ := hR
  have S2 := Lib.hid (fun W (hu : Upd [] w W) => cloneMeetI v2 s.meets W f2 hF.ml (R_Me1k.upd h2 hu (by simp)))
  have S3 := Lib.hid (fun W (hu : Upd [] w W) => cloneSSI v3 s.allow W f3 hF.al (R_S1k.upd h3 hu (by simp)))
  have S4 := Lib.hid (fun W (hu : Upd [] w W) => cloneSSI v4 s.hide W f4 hF.hl (R_S1k.upd h4 hu (by simp)))
  obtain ⟨a0, q0, rfl, d1, d2, hd⟩ := slQ_open h0
  obtain ⟨a1, q1, rfl, l1, l2, hl⟩ := slQ_open h1
  obtain ⟨a2, q2, rfl, -, -, -⟩ := slQ_open h2
  obtain ⟨a3, q3, rfl, -, -, -⟩ := slF1_open h3
  obtain ⟨a4, q4, rfl, -, -, -⟩ := slF1_open h4
  unfold maxLen at d2 l2
  have HD := Lib.hid hd
  have HL := Lib.hid hl
  have HF := Lib.hid hF
  obtain ⟨p, hp⟩ : ∃ p : List Value, p = [.slice a0 s.defs.length q0, .slice a1 s.comps.length q1, .slice a2 s.meets.length q2, .slice a3 s.allow.length q3, .slice a4 s.hide.length q4] := ⟨_, rfl⟩
  obtain ⟨B, hB⟩ : ∃ B, B = w.heap.size := ⟨_, rfl⟩
  obtain ⟨wA, hwA⟩ : ∃ wA, wA = ((w.alloc (.cells #[.slice a0 s.defs.length q0, .slice a1 s.comps.length q1, .slice a2 s.meets.length q2, .slice a3 s.allow.length q3, .slice a4 s.hide.length q4] 29)).alloc (.cells #[.slice none 0 0, .slice none 0 0, .slice none 0 0, .slice none 0 0, .slice none 0 0] 29)).alloc (.cells #[.slice none 0 0, .slice none 0 0, .slice none 0 0, .slice none 0 0, .slice none 0 0] 29) := ⟨_, rfl⟩
  have H3 := Lib.hid (show Three w wA 29 29 B p zerosSy zerosSy from by rw [hwA, hB, hp]; exact Three.mk0 w _ _ _ _ _)
  have hsA : B + 3 ≤ wA.heap.size := by rw [hwA, hB]; simp
  have hBB := Lib.hid hB
  have p0 : p[0]? = some (.slice a0 s.defs.length q0) := by rw [hp]; rfl
  have p1 : p[1]? = some (.slice a1 s.comps.length q1) := by rw [hp]; rfl
  have p2 : p[2]? = some (.slice a2 s.meets.length q2) := by rw [hp]; rfl
  have p3 : p[3]? = some (.slice a3 s.allow.length q3) := by rw [hp]; rfl
  have p4 : p[4]? = some (.slice a4 s.hide.length q4) := by rw [hp]; rfl
  have HP := Lib.hid (And.intro p0 (And.intro p1 (And.intro p2 (And.intro p3 p4))))
  clear h0 h1 h2 h3 h4 hd hl hF hp p0 p1 p2 p3 p4
  go_enter Tryz.func34, Tryz.ntmps34
  go_upto_region 2 with (fail)
  rw [← hwA, ← hB]
  clear hwA hB
  have b0 := H3.out.pc 0 _ HP.out.1
  go_wp2_with fail
  go_loopw [13] (fun iv wr => ∃ (k : Nat) (sv : Value), k ≤ s.defs.length ∧ iv = .int .i64 k ∧ Hid (Three w wr 29 29 B p zerosSy [sv, .slice none 0 0, .slice none 0 0, .slice none 0 0, .slice none 0 0]) ∧ Hid (AccZ 3 R_De wA.heap.size 90 [B + 2] wr sv (s.defs.take k)) ∧ wA.heap.size ≤ wr.heap.size) (fun iv _ => s.defs.length - (intOf iv).toNat)
  case atStart => exact ⟨0, _, Nat.zero_le _, rfl, H3, Lib.hid (AccZ.nil _ _ _ _ _ (by intro b hb; simp at hb; omega)), Nat.le_refl _⟩
  case round =>
    clear b0
    obtain ⟨wo, rfl⟩ : ∃ wo : World, wo = wr := ⟨_, rfl⟩
    obtain ⟨k, sv, hk, rfl, HT, HAC, hsz⟩ := hrel
    by_cases hlt : k < s.defs.length
    · obtain ⟨bb, off, u, f', rfl, -, -, -, hcell, -, hr⟩ := HD.out k hlt
      have hr' := hr
      obtain ⟨v5, f5, rfl, hv, rfl⟩ := hr
      have uw := HT.out.upd
      have s0 := uw.keep (hcell 0 _ rfl)
      have s1 := uw.keep (hcell 1 _ rfl)
      have s2 := uw.keep (hcell 2 _ rfl)
      simp only [Nat.add_zero] at s0
      have hkl : (k : Int) < (s.defs.length : Int) := by omega
      obtain ⟨⟨hb0, hb9⟩, hfa⟩ := HF.out.body _ (List.getElem_mem hlt)
      have HTK := Lib.hid (List.take_succ_eq_append_getElem hlt)
      have hk9 : k ≤ 1000000 := by have := HF.out.dl; omega
      have htl : (s.defs.take k).length = k := by rw [List.length_take]; omega
      have HTL := Lib.hid htl
      obtain ⟨us, hown, hrows, hvZ, hexl⟩ := HAC.out
      rw [htl] at hown
      have HOW := Lib.hid hown
      have HRW := Lib.hid hrows
      have HVZ := Lib.hid hvZ
      have HEX := Lib.hid hexl
      obtain ⟨ca, cc, rfl⟩ := ownsRow_form hown
      generalize s.defs[k] = d at *
      have S1 := Lib.hid (fun W (hu : Upd [] wo W) => clonePartI v5 d.body W f5 hb9 hb0 (R_Pa1k.upd hv (uw.trans hu) (by simp)))
      obtain ⟨a5, q5, rfl, -, -, -⟩ := slQ_open hv
      have HFA := Lib.hid hfa
      have hbl : 0 < d.body.length := hb0
      have hbl9 : d.body.length ≤ 1000000 := hb9
      obtain ⟨wD, hwD⟩ : ∃ q, q = wo.alloc (.cells #[es d.name, ei d.pars, .slice a5 d.body.length q5] 90) := ⟨_, rfl⟩
      obtain ⟨D, hD⟩ : ∃ q, q = wo.heap.size := ⟨_, rfl⟩
      have uD : Upd [] wo wD := by rw [hwD]; exact (Upd.refl _ _).alloc _
      have HRD := Lib.hid (show RowAt wD D 90 [es d.name, ei d.pars, .slice a5 d.body.length q5] by rw [hwD, hD]; exact RowAt.new _ _ _)
      have hDB : B + 3 ≤ D := by omega
      have hDo : D = wo.heap.size := hD
      have HDO := Lib.hid hDo
      have T1 := Lib.hid (S1.out wD uD)
      have UD := Lib.hid uD
      go_upto_region 5 with (fail)
      rw [← hwD, ← hD]
      have e2 := HRD.out.cell 2 _ rfl
      clear hwD hD hDo s0 s1 s2 uD uw hr' hv hcell htl hown hrows hvZ hexl HAC S1 hfa hb0 hb9
      go_wp2_with fail
      refine T1.out.mono ?_
      rintro e w1 ⟨⟨P, cap, old, rfl, hrow, holdl, holdn, hold⟩, hu1⟩
      have hDD := HRD.out.lt
      have HDP0 := Lib.hid (Deep.start (R := R_Pa) (xs := d.body) hrow holdl holdn)
      have HON := Lib.hid (And.intro holdl holdn)
      have HOLD := Lib.hid (show ∀ i (h : i < d.body.length), ∃ (v : Value) (f : List Nat), old[i]? = some [ei d.body[i].kind, ei d.body[i].num, es d.body[i].name, v] ∧ R_T2 f wD [v] d.body[i].args from fun i h => by
        obtain ⟨f, v3, f3, e, h3, -⟩ := hold i h _ (List.getElem?_eq_getElem (by omega))
        exact ⟨v3, f3, by rw [List.getElem?_eq_getElem (by omega), e], h3⟩)
      have hPo : D < P := by have := hrow.lt P rfl; omega
      have HU1 := Lib.hid hu1
      have HR1 := Lib.hid (HRD.out.upd hu1 (by simp))
      have hwD1 : wD.heap.size ≤ w1.heap.size := hu1.size
      clear T1 e2 hrow holdl holdn hold hu1
      go_wp2_with fail
      go_loopw [22] (fun iv wr => ∃ (i : Nat), i ≤ d.body.length ∧ iv = .int .i64 i ∧ Hid (Upd [] wD wr) ∧ Hid (RowAt wr D 90 [es d.name, ei d.pars, .slice a5 d.body.length q5]) ∧ Hid (Deep 4 R_Pa wD.heap.size 109 P cap old wr i d.body) ∧ wD.heap.size ≤ wr.heap.size) (fun iv _ => d.body.length - (intOf iv).toNat)
      case atStart => exact ⟨0, Nat.zero_le _, rfl, HU1, HR1, HDP0, hwD1⟩
      case round =>
        clear hwD1
        obtain ⟨wi, rfl⟩ : ∃ wi : World, wi = wr := ⟨_, rfl⟩
        obtain ⟨i, hil, rfl, HUi, HRi, HDi, hwDi⟩ := hrel
        by_cases hib : i < d.body.length
        · obtain ⟨va, fa, hoi, hra⟩ := HOLD.out i hib
          have c3 := HDi.out.cell hib hoi 3 va rfl
          have z3 := HDi.out.fz (i * 4 + 3)
          have hil2 : (i : Int) < (d.body.length : Int) := by omega
          obtain ⟨hfa1, hfa2⟩ := HFA.out _ (List.getElem_mem hib)
          have hraw := R_T2k.upd hra HUi.out (by simp)
          have T2 := Lib.hid (cloneTermsI va d.body[i].args wi fa hfa1 hfa2 hraw)
          obtain ⟨aa, qa, rfl, -, -, -⟩ := slP_open hraw
          have HOI := Lib.hid hoi
          have HIB := Lib.hid hib
          clear hra hraw hoi hfa1 hfa2
          go_wp2_with fail
          refine T2.out.mono ?_
          rintro e w2 ⟨⟨v', rfl, hnew⟩, hu2⟩
          obtain ⟨ab, qb, rfl⟩ := hnew.formP
          have HN2 := Lib.hid hnew
          have HU2 := Lib.hid hu2
          have c3 := hu2.keep c3
          have z3b := (HDi.out.upd R_Pak hu2).fz (i * 4 + 3)
          clear T2 hnew hu2 z3
          go_wp2_with fail
          go_roundw
          case rel =>
            refine ⟨i + 1, by omega, by go_num, Lib.hid ?_, Lib.hid ?_, Lib.hid ?_, ?_⟩
            · exact (HUi.out.trans HU2.out).setCell (Or.inl HDi.out.lt.1) _
            · exact (HRi.out.upd HU2.out (by simp)).other P _ _ (by omega)
            · refine HDi.out.set R_Pak HIB.out HOI.out HU2.out hwDi 3 (by decide) _ ?_
              obtain ⟨fn, n1, n2, n3⟩ := HN2.out
              exact ⟨fn ++ [], ⟨_, fn, rfl, n1, rfl⟩, by simpa using n2, by simpa using n3⟩
            · have := HU2.out.size; simp; omega
          case measure => simp [intOf]; omega
        · obtain rfl : i = d.body.length := by omega
          have HNB := Lib.hid (HDi.out.new (w0 := wD) rfl)
          have e2 := HRi.out.cell 2 _ rfl
          have zD := HRi.out.fz 2
          obtain ⟨wE, hwE⟩ : ∃ q, q = wi.setCell ⟨D, 2, none⟩ (.slice (some ⟨P, 0, none⟩) d.body.length cap) := ⟨_, rfl⟩
          have hrE : RowAt wE D 90 [es d.name, ei d.pars, .slice (some ⟨P, 0, none⟩) d.body.length cap] := by rw [hwE]; exact HRi.out.store 2 _
          have uDE : Upd [D] wi wE := by rw [hwE]; exact (Upd.refl _ _).setCell (Or.inr (by simp)) _
          have huo : Upd [] wo wE := by rw [hwE]; exact (UD.out.trans HUi.out).setCell (Or.inl (show wo.heap.size ≤ D by have := HDO.out; omega)) _
          have hnew : NewQ R_De wo wE [es d.name, ei d.pars, .slice (some ⟨P, 0, none⟩) d.body.length cap] d := by
            obtain ⟨fb, n1, n2, n3⟩ := HNB.out
            have hnD : ∀ b ∈ fb, b ∉ [D] := fun b hb hm => by have := n3 b hb; simp at hm; omega
            exact ⟨fb ++ [], ⟨_, fb, rfl, R_Pa1k.upd n1 uDE hnD, rfl⟩, by simpa using n2.upd uDE hnD, fun b hb => by have := n3 b (by simpa using hb); have := UD.out.size; omega⟩
          have hT5 := HT.out.call huo
          have g0 := hrE.cell 0 _ rfl
          have g1 := hrE.cell 1 _ rfl
          have g2 := hrE.cell 2 _ rfl
          have c0 := hT5.oc 0 _ rfl
          have HNW := Lib.hid hnew
          have HUO := Lib.hid huo
          have HT5 := Lib.hid hT5
          have hsz2 : wA.heap.size ≤ wE.heap.size := by have := huo.size; omega
          have hown1 := ownsRow_upd HOW.out huo
          go_upto_region 12 with (fail)
          rw [← hwE]
          clear hwE hrE uDE huo hnew hT5 e2 zD HNB
          go_wp2_with (first
            | (at_builtin; refine wpList_append_tight _ rfl _ _ 24 rfl wA.heap.size 90 i0 (.agg #[.string ⟨#[]⟩, .int .i64 0, .slice none 0 0]) 3 48 Tryz.underlying24 hi hz0 hz1 hz2 rfl (by decide) _ _ _ rfl (hown1.alloc _) ⟨wE.heap.size, 0, none⟩ 1 1 [es d.name, ei d.pars, .slice (some ⟨P, 0, none⟩) d.body.length cap] rfl rfl (fun j u hj => by rw [addr_add, Nat.zero_add]; exact cell_new wE #[es d.name, ei d.pars, .slice (some ⟨P, 0, none⟩) d.body.length cap] _ _ rfl j u (by simpa using hj)) (by simp [Value.oneCell']) (by unfold maxLen; omega) (by omega) (by simp; omega) ?_)
            | fail)
          intro v2 w5 hown2 hg2 ht2
          have hgg : (wE.alloc (.cells #[es d.name, ei d.pars, .slice (some ⟨P, 0, none⟩) d.body.length cap] 90)).grownBy w5 (Value.slice ca k cc).ownBlock := hg2
          have hacc := AccZ.push (w := wo) (ex := [B + 2]) R_Dek (by rw [HTL.out]; exact HOW.out) HRW.out HVZ.out HEX.out hsz HUO.out HNW.out rfl (.cells #[es d.name, ei d.pars, .slice (some ⟨P, 0, none⟩) d.body.length cap] 90) (by rw [HTL.out]; exact hown2) hgg (fun c hc => by
            rcases ht2 c hc with h | h
            · exact Or.inl h
            · exact Or.inr (by simpa using h))
          rw [← HTK.out] at hacc
          have hv5 : Upd (Value.slice ca k cc).ownBlock.toList (wE.alloc (.cells #[es d.name, ei d.pars, .slice (some ⟨P, 0, none⟩) d.body.length cap] 90)) w5 := (Upd.refl _ _).grown hgg (fun k hk => Or.inr (by simp [hk]))
          have hT6 := (HT5.out.call ((Upd.refl [] wE).alloc (.cells #[es d.name, ei d.pars, .slice (some ⟨P, 0, none⟩) d.body.length cap] 90))).over hv5 (fun b hb => by have := (HOW.out.lt b (by simpa using hb)).1; omega)
          have hsz5 : wA.heap.size ≤ w5.heap.size := by have := hgg.size; simp at this; omega
          obtain ⟨cb, cd, rfl⟩ := ownsRow_form hown2
          have c5 := hT6.oc 0 _ rfl
          have f5 := hT6.fz 0
          have HAC6 := Lib.hid (hacc.put R_Dek (show Upd [B + 2] w5 (w5.setCell ⟨B + 2, 0, none⟩ (.slice cb (k + 1) cd)) from (Upd.refl _ _).setCell (Or.inr (by simp)) _) (by simp))
          have HT6 := Lib.hid (hT6.store 0 (.slice cb (k + 1) cd))
          clear hown2 hg2 ht2 hgg hacc hv5 hT6 hown1 c0 g0 g1 g2
          go_wp2_with fail
          go_roundw
          case rel => exact ⟨k + 1, _, by omega, by go_num, HT6, HAC6, by simpa using hsz5⟩
          case measure => simp [intOf]; omega
    · obtain rfl : k = s.defs.length := by omega
      have hkk : ¬ ((s.defs.length : Nat) : Int) < (s.defs.length : Int) := by omega
      have ha := HAC.out
      rw [List.take_length] at ha
      obtain ⟨fs, hsl, hso, hsb⟩ := ha.new (w0 := wA) rfl
      obtain ⟨ca0, cc0, rfl⟩ := ha.form
      obtain ⟨wq, rfl⟩ : ∃ wq : World, wq = wo := ⟨_, rfl⟩
      have HG0 := Lib.hid (And.intro hsl hso)
      have HSB := Lib.hid (show ∀ c ∈ fs, wA.heap.size ≤ c ∧ c ≠ B + 2 from fun c hc => ⟨(hsb c hc).1, by simpa using (hsb c hc).2⟩)
      have hex : ∀ c ∈ (B + 2) :: fs, c < wq.heap.size := fun c hc => by
        rcases List.mem_cons.1 hc with rfl | hc
        · exact HT.out.size
        · exact R_De1k.lt hsl c hc
      have HAC0 := Lib.hid (show AccZ 2 R_Co wA.heap.size 38 ((B + 2) :: fs) wq (.slice none 0 0) ([] : List Co) from AccZ.nil _ _ _ _ _ hex)
      have b1 := HT.out.pc 1 _ HP.out.2.1
      clear ha hsl hso hsb hex HAC
      go_wp2_with fail
      go_loopw [48] (fun iv wr => ∃ (k : Nat) (tv : Value), k ≤ s.comps.length ∧ iv = .int .i64 k ∧ Hid (Three w wr 29 29 B p zerosSy [.slice ca0 s.defs.length cc0, tv, .slice none 0 0, .slice none 0 0, .slice none 0 0]) ∧ Hid (AccZ 2 R_Co wA.heap.size 38 ((B + 2) :: fs) wr tv (s.comps.take k)) ∧ Hid (R_De1 fs wr [.slice ca0 s.defs.length cc0] s.defs ∧ Own fs wr) ∧ wA.heap.size ≤ wr.heap.size) (fun iv _ => s.comps.length - (intOf iv).toNat)
      case atStart => exact ⟨0, _, Nat.zero_le _, rfl, HT, HAC0, HG0, hsz⟩
      case round =>
        clear b1 HT HAC0 HG0 hsz
        obtain ⟨wo, rfl⟩ : ∃ wo : World, wo = wr := ⟨_, rfl⟩
        obtain ⟨k, tv, hk, rfl, HT, HAC, HG, hsz⟩ := hrel
        by_cases hlt : k < s.comps.length
        · obtain ⟨bb, off, u, f', rfl, -, -, -, hcell, -, hr⟩ := HL.out k hlt
          obtain ⟨v5, f5, rfl, hv, rfl⟩ := hr
          have uw := HT.out.upd
          have s0 := uw.keep (hcell 0 _ rfl)
          have s1 := uw.keep (hcell 1 _ rfl)
          simp only [Nat.add_zero] at s0
          have hkl : (k : Int) < (s.comps.length : Int) := by omega
          have hvl := HF.out.vals _ (List.getElem_mem hlt)
          have HTK := Lib.hid (List.take_succ_eq_append_getElem hlt)
          have hk9 : k ≤ 1000000 := by have := HF.out.cl; omega
          have htl : (s.comps.take k).length = k := by rw [List.length_take]; omega
          have HTL := Lib.hid htl
          obtain ⟨us, hown, hrows, hvZ, hexl⟩ := HAC.out
          rw [htl] at hown
          have HOW := Lib.hid hown
          have HRW := Lib.hid hrows
          have HVZ := Lib.hid hvZ
          have HEX := Lib.hid hexl
          obtain ⟨ca, cc, rfl⟩ := ownsRow_form hown
          generalize s.comps[k] = c at *
          have S1 := Lib.hid (fun W (hu : Upd [] wo W) => cloneII v5 c.vals W f5 (by omega) (R_I1k.upd hv (uw.trans hu) (by simp)))
          obtain ⟨a5, q5, rfl, -, -, -⟩ := slF1_open hv
          obtain ⟨wC, hwC⟩ : ∃ q, q = wo.alloc (.cells #[ei c.dfn, .slice a5 c.vals.length q5] 38) := ⟨_, rfl⟩
          obtain ⟨C, hC⟩ : ∃ q, q = wo.heap.size := ⟨_, rfl⟩
          have uC : Upd [] wo wC := by rw [hwC]; exact (Upd.refl _ _).alloc _
          have HRC := Lib.hid (show RowAt wC C 38 [ei c.dfn, .slice a5 c.vals.length q5] by rw [hwC, hC]; exact RowAt.new _ _ _)
          have hCB : B + 3 ≤ C := by omega
          have HT1 := Lib.hid (HT.out.call uC)
          have T1 := Lib.hid (S1.out wC.drew uC.drew)
          have UC := Lib.hid uC
          have HTV := Lib.hid htl
          go_upto_region 17 with (fail)
          rw [← hwC, ← hC]
          have g0 := HRC.out.cell 0 _ rfl
          have g1 := HRC.out.cell 1 _ rfl
          have c1 := HT1.out.oc 1 _ rfl
          have z1 := HT1.out.fz 1
          clear hwC hC s0 s1 uC uw hv hcell htl hown hrows hvZ hexl HAC S1
          go_wp2_with fail
          go_region_law ((first
            | (refine step_call (by rfl) 42 #[.slice a5 c.vals.length q5] (by go_simp) ?_; refine T1.out.mono ?_; rintro e w3 ⟨⟨us2, rfl, hnew⟩, hu3⟩; obtain ⟨xa, ya, rfl⟩ := hnew.form; have huo : Upd [] wC w3 := (Upd.refl [] wC).drew.trans hu3; have hT3 := HT1.out.call huo; have d1 := hT3.oc 1 _ rfl; have y1 := hT3.fz 1; have g03 := huo.keep g0; have hou3 := ownsRow_upd HOW.out (UC.out.trans huo); have hle3 := (UC.out.trans huo).size; have hT3a := hT3.call ((Upd.refl [] w3).alloc (.cells #[ei c.dfn, .slice xa c.vals.length ya] 38)); have d1a := hT3a.oc 1 _ rfl; refine ⟨_, rfl, ?_⟩)
            | (refine step_append_lies _ (by rfl) _ _ 25 (by rfl) wA.heap.size 38 i1 (.agg #[.int .i64 0, .slice none 0 0]) 2 32 Tryz.underlying25 hj hy0 hy1 hy2 rfl (by decide) _ k us.flatten (by rfl) (hou3.alloc _) ⟨w3.heap.size, 0, none⟩ 1 1 [ei c.dfn, .slice xa c.vals.length ya] (by rfl) (by rfl) (by intro j u hj; rw [addr_add, Nat.zero_add]; exact cell_new w3 #[ei c.dfn, .slice xa c.vals.length ya] _ _ rfl j u (by simpa using hj)) (by simp [Value.oneCell']) (by decide) (by unfold maxLen; omega) (by omega) (by simp; omega) (w3.heap.size + 1) (by simp) ?_; intro g gcap w4 hown4 hg4 hat4 hlt4; have hv4 : Upd (Value.slice ca k cc).ownBlock.toList (w3.alloc (.cells #[ei c.dfn, .slice xa c.vals.length ya] 38)) w4 := (Upd.refl _ _).grown hg4 (fun k hk => Or.inr (by simp [hk])); have hT4 := hT3a.over hv4 (fun b hb => by have := (HOW.out.lt b (by simpa using hb)).1; omega); have e1 := hT4.oc 1 _ rfl; have f1 := hT4.fz 1)))
          all_goals
            have hgg : (w3.alloc (.cells #[ei c.dfn, .slice xa c.vals.length ya] 38)).grownBy w4 (Value.slice ca k cc).ownBlock := ⟨hg4.os, hg4.tape, hg4.output, hg4.size, hg4.block⟩
            have huw : Upd [] wo w3 := UC.out.trans huo
            have hnewC : NewQ R_Co wo w3 [ei c.dfn, .slice xa c.vals.length ya] c := by
              obtain ⟨fn, n1, n2, n3⟩ := hnew
              exact ⟨fn ++ [], ⟨_, fn, rfl, n1, rfl⟩, by simpa using n2, fun b hb => Nat.le_trans UC.out.size (n3 b (by simpa using hb))⟩
            have hacc := AccZ.push (w := wo) (ex := (B + 2) :: fs) R_Cok (by rw [HTL.out]; exact HOW.out) HRW.out HVZ.out HEX.out hsz huw hnewC rfl (.cells #[ei c.dfn, .slice xa c.vals.length ya] 38) (by rw [HTL.out]; exact hown4) hgg (fun c hc => by
              simp only [Value.ownBlock, Option.some.injEq] at hc
              subst hc
              rcases hat4 with h | h
              · exact Or.inl h
              · exact Or.inr (by simp; omega))
            rw [← HTK.out] at hacc
            have uZ : Upd [B + 2] w4 (w4.setCell ⟨B + 2, 1, none⟩ (.slice (some ⟨g, 0, none⟩) (k + 1) gcap)) := (Upd.refl _ _).setCell (Or.inr (by simp)) _
            have hacc2 := hacc.put R_Cok uZ (by simp)
            have hgo : ∀ c ∈ fs, c ∉ (Value.slice ca k cc).ownBlock.toList := fun c hc hm => HVZ.out c (by simpa using hm) (by simp [hc])
            have hgz : ∀ c ∈ fs, c ∉ [B + 2] := fun c hc hm => (HSB.out c hc).2 (by simpa using hm)
            have hG4 := And.intro (R_De1k.upd (R_De1k.upd (R_De1k.upd (R_De1k.upd HG.out.1 huw (by simp)) ((Upd.refl [] w3).alloc (.cells #[ei c.dfn, .slice xa c.vals.length ya] 38)) (by simp)) hv4 hgo) uZ hgz) ((((HG.out.2.upd huw (by simp)).upd ((Upd.refl [] w3).alloc (.cells #[ei c.dfn, .slice xa c.vals.length ya] 38)) (by simp)).upd hv4 hgo).upd uZ hgz)
            have hT5 := hT4.store 1 (.slice (some ⟨g, 0, none⟩) (k + 1) gcap)
            have hsz5 : wA.heap.size ≤ (w4.setCell ⟨B + 2, 1, none⟩ (.slice (some ⟨g, 0, none⟩) (k + 1) gcap)).heap.size := by
              have h1 := huw.size
              have h2 := hv4.size
              simp at h2 ⊢
              omega
            have HPP := Lib.hid (And.intro (And.intro hacc2 hsz5) (And.intro hT5 hG4))
            clear hacc hacc2 uZ hT5 hgo hgz hG4 hgg hown4 hg4 hat4 hv4 hT4 e1 f1 d1 d1a y1 hT3a hT3 huo huw hnew hnewC hou3 hu3 g0 g1 c1 z1 g03 hsz5
            go_wp2_with fail
            go_roundw
            case rel => exact ⟨k + 1, _, by omega, by go_num, Lib.hid HPP.out.2.1, Lib.hid HPP.out.1.1, Lib.hid HPP.out.2.2, HPP.out.1.2⟩
            case measure => simp [intOf]; omega
        · obtain rfl : k = s.comps.length := by omega
          have hkk2 : ¬ ((s.comps.length : Nat) : Int) < (s.comps.length : Int) := by omega
          have ha := HAC.out
          rw [List.take_length] at ha
          obtain ⟨ca1, cc1, rfl⟩ := ha.form
          obtain ⟨wr0, rfl⟩ : ∃ wr0 : World, wr0 = wo := ⟨_, rfl⟩
          have HGC := Lib.hid ha
          have b2 := HT.out.pc 2 _ HP.out.2.2.1
          clear ha HAC
          have T2 := Lib.hid (S2.out wr0 HT.out.upd)
          go_wp2_with fail
          refine T2.out.mono ?_
          rintro e u2 ⟨⟨v', rfl, hn2⟩, hu2⟩
          obtain ⟨x2, y2, rfl⟩ := hn2.formQ
          have hT2 := HT.out.call hu2
          have c2 := hT2.oc 2 _ rfl
          have z2 := hT2.fz 2
          obtain ⟨W2, hW2⟩ : ∃ q, q = u2.setCell ⟨B + 2, 2, none⟩ (.slice x2 s.meets.length y2) := ⟨_, rfl⟩
          have HT2 := Lib.hid (hT2.store 2 (.slice x2 s.meets.length y2))
          rw [← hW2] at HT2
          have HU2 := Lib.hid hu2
          have HN2 := Lib.hid hn2
          have HD2 := Lib.hid (show Upd [B + 2] u2 W2 from by rw [hW2]; exact (Upd.refl _ _).setCell (Or.inr (by simp)) _)
          clear T2 hn2 hu2 hT2
          go_upto_region 20 with (fail)
          rw [show (⟨B + 1 + 1, 2, none⟩ : Addr) = ⟨B + 2, 2, none⟩ from rfl, ← hW2]
          clear hW2 c2 z2 b2
          have b3 := HT2.out.pc 3 _ HP.out.2.2.2.1
          have T3 := Lib.hid (S3.out W2 HT2.out.upd)
          go_wp2_with fail
          refine T3.out.mono ?_
          rintro e u3 ⟨⟨v', rfl, hn3⟩, hu3⟩
          obtain ⟨x3, y3, rfl⟩ := hn3.form
          have hT3 := HT2.out.call hu3
          have c3 := hT3.oc 3 _ rfl
          have z3 := hT3.fz 3
          obtain ⟨W3, hW3⟩ : ∃ q, q = u3.setCell ⟨B + 2, 3, none⟩ (.slice x3 s.allow.length y3) := ⟨_, rfl⟩
          have HT3 := Lib.hid (hT3.store 3 (.slice x3 s.allow.length y3))
          rw [← hW3] at HT3
          have HU3 := Lib.hid hu3
          have HN3 := Lib.hid hn3
          have HD3 := Lib.hid (show Upd [B + 2] u3 W3 from by rw [hW3]; exact (Upd.refl _ _).setCell (Or.inr (by simp)) _)
          clear T3 hn3 hu3 hT3
          go_upto_region 21 with (fail)
          rw [show (⟨B + 1 + 1, 3, none⟩ : Addr) = ⟨B + 2, 3, none⟩ from rfl, ← hW3]
          clear hW3 c3 z3 b3
          have b4 := HT3.out.pc 4 _ HP.out.2.2.2.2
          have T4 := Lib.hid (S4.out W3 HT3.out.upd)
          go_wp2_with fail
          refine T4.out.mono ?_
          rintro e u4 ⟨⟨v', rfl, hn4⟩, hu4⟩
          obtain ⟨x4, y4, rfl⟩ := hn4.form
          have hT4 := HT3.out.call hu4
          have c4 := hT4.oc 4 _ rfl
          have z4 := hT4.fz 4
          obtain ⟨W4, hW4⟩ : ∃ q, q = u4.setCell ⟨B + 2, 4, none⟩ (.slice x4 s.hide.length y4) := ⟨_, rfl⟩
          have HT4 := Lib.hid (hT4.store 4 (.slice x4 s.hide.length y4))
          rw [← hW4] at HT4
          have HU4 := Lib.hid hu4
          have HN4 := Lib.hid hn4
          have HD4 := Lib.hid (show Upd [B + 2] u4 W4 from by rw [hW4]; exact (Upd.refl _ _).setCell (Or.inr (by simp)) _)
          clear T4 hn4 hu4 hT4
          go_upto_region 22 with (fail)
          rw [show (⟨B + 1 + 1, 4, none⟩ : Addr) = ⟨B + 2, 4, none⟩ from rfl, ← hW4]
          clear hW4 c4 z4 b4
          have hr5 := HT4.out.h2
          have hres := HT4.out.h1
          go_wp2_with (first
            | (refine wpList_load_row rfl 29 _ rfl (B + 2) rfl 29 #[.slice ca0 s.defs.length cc0, .slice ca1 s.comps.length cc1, .slice x2 s.meets.length y2, .slice x3 s.allow.length y3, .slice x4 s.hide.length y4] (0, 0) _ hr5 Tryz.underlying29 rfl Sy_size ?_)
            | (refine wpList_store_row rfl 29 _ _ rfl (B + 1) #[.slice ca0 s.defs.length cc0, .slice ca1 s.comps.length cc1, .slice x2 s.meets.length y2, .slice x3 s.allow.length y3, .slice x4 s.hide.length y4] rfl rfl 29 _ hres Sy_size rfl (by simp [Value.oneCell']) ?_)
            | fail)
          have hC := setRow_heap W4 (B + 1) _ #[.slice ca0 s.defs.length cc0, .slice ca1 s.comps.length cc1, .slice x2 s.meets.length y2, .slice x3 s.allow.length y3, .slice x4 s.hide.length y4] _ _ hres
          refine bodyPost_ret (results_cell_row Tryz.results34 _ _ (B + 1) 29 _ (0, 0) _ rfl hC Tryz.underlying29 rfl Sy_size) rfl ?_
          have hB := hBB.out
          have hs0 := HT.out.size
          have hs2 := HU2.out.size
          have hs3 := HU3.out.size
          have hs4 := HU4.out.size
          have ht2 := HD2.out.size
          have ht3 := HD3.out.size
          have ht4 := HD4.out.size
          have DB : Upd [B + 1] W4 (W4.setRow (B + 1) #[.slice ca0 s.defs.length cc0, .slice ca1 s.comps.length cc1, .slice x2 s.meets.length y2, .slice x3 s.allow.length y3, .slice x4 s.hide.length y4]) := (Upd.refl _ _).row (Or.inr (by simp)) _
          have UE : Upd [] w (W4.setRow (B + 1) #[.slice ca0 s.defs.length cc0, .slice ca1 s.comps.length cc1, .slice x2 s.meets.length y2, .slice x3 s.allow.length y3, .slice x4 s.hide.length y4]) := HT4.out.upd.row (Or.inl (by omega)) _
          refine ⟨⟨[.slice ca0 s.defs.length cc0, .slice ca1 s.comps.length cc1, .slice x2 s.meets.length y2, .slice x3 s.allow.length y3, .slice x4 s.hide.length y4], rfl, rfl, by simp [Value.oneCell'], ?_⟩, UE⟩
          obtain ⟨g2, P2⟩ := Part.of R_Me1k HN2.out
          obtain ⟨g3, P3⟩ := Part.of R_S1k HN3.out
          obtain ⟨g4, P4⟩ := Part.of R_S1k HN4.out
          have P2 := ((((((P2.upd R_Me1k HD2.out (by simp; omega)).upd R_Me1k HU3.out (by simp)).upd R_Me1k HD3.out (by simp; omega)).upd R_Me1k HU4.out (by simp)).upd R_Me1k HD4.out (by simp; omega)).upd R_Me1k DB (by simp; omega))
          have P3 := ((((P3.upd R_S1k HD3.out (by simp; omega)).upd R_S1k HU4.out (by simp)).upd R_S1k HD4.out (by simp; omega)).upd R_S1k DB (by simp; omega))
          have P4 := ((P4.upd R_S1k HD4.out (by simp; omega)).upd R_S1k DB (by simp; omega))
          have eZ : ∀ l : List Nat, (∀ c ∈ l, c ≠ B + 2) → ∀ c ∈ l, c ∉ [B + 2] := fun l h c hc hm => h c hc (by simpa using hm)
          have eR : ∀ l : List Nat, (∀ c ∈ l, wA.heap.size ≤ c) → ∀ c ∈ l, c ∉ [B + 1] := fun l h c hc hm => by have := h c hc; simp at hm; omega
          have d2 := eZ fs (fun c hc => (HSB.out c hc).2)
          have d1 := eR fs (fun c hc => (HSB.out c hc).1)
          have r0 := R_De1k.upd (R_De1k.upd (R_De1k.upd (R_De1k.upd (R_De1k.upd (R_De1k.upd (R_De1k.upd HG.out.1 HU2.out (by simp)) HD2.out d2) HU3.out (by simp)) HD3.out d2) HU4.out (by simp)) HD4.out d2) DB d1
          have o0 := ((((((HG.out.2.upd HU2.out (by simp)).upd HD2.out d2).upd HU3.out (by simp)).upd HD3.out d2).upd HU4.out (by simp)).upd HD4.out d2).upd DB d1
          have lf := R_De1k.lt HG.out.1
          have UZ : Upd [B + 2, B + 1] wr0 (W4.setRow (B + 1) #[.slice ca0 s.defs.length cc0, .slice ca1 s.comps.length cc1, .slice x2 s.meets.length y2, .slice x3 s.allow.length y3, .slice x4 s.hide.length y4]) := (((((((Upd.refl [B + 2, B + 1] wr0).fresh HU2.out (by simp)).fresh HD2.out (by simp)).fresh HU3.out (by simp)).fresh HD3.out (by simp)).fresh HU4.out (by simp)).fresh HD4.out (by simp)).fresh DB (by simp)
          have e0 := R_De1k.lt r0
          have e2 := R_Me1k.lt P2.r
          have e3 := R_S1k.lt P3.r
          have e4 := R_S1k.lt P4.r
          refine ⟨_, _, _, _, _, fs, g2, g3, g4, rfl, r0, P2.r, P3.r, P4.r, own_join o0 (own_join P2.o (own_join P3.o P4.o (fun c h1 h2 => by have := P3.b c h1; have := P4.b c h2; omega)) (fun c h1 h2 => ?_)) (fun c h1 h2 => ?_), fun c hc => ?_, HGC.out.reex R_Cok UZ (fun c hc => ?_) (by omega) (fun c hc => ?_) (fun c hc => ?_)⟩
          · have := P2.b c h1
            rcases List.mem_append.1 h2 with h2 | h2
            · have := P3.b c h2; omega
            · have := P4.b c h2; omega
          · have := lf c h1
            simp only [List.mem_append] at h2
            rcases h2 with h2 | h2 | h2
            · have := P2.b c h2; omega
            · have := P3.b c h2; omega
            · have := P4.b c h2; omega
          · simp only [List.mem_append] at hc
            rcases hc with hc | hc | hc | hc
            · have := HSB.out c hc; omega
            · have := P2.b c hc; omega
            · have := P3.b c hc; omega
            · have := P4.b c hc; omega
          · simp only [List.mem_cons, List.not_mem_nil, or_false] at hc
            rcases hc with rfl | rfl
            · exact Or.inl (by simp)
            · exact Or.inr (by omega)
          · simp only [List.mem_append] at hc
            rcases hc with hc | hc | hc | hc
            · exact Or.inl (by simp [hc])
            · have := P2.b c hc; exact Or.inr (by omega)
            · have := P3.b c hc; exact Or.inr (by omega)
            · have := P4.b c hc; exact Or.inr (by omega)
          · simp only [List.mem_append] at hc
            rcases hc with hc | hc | hc | hc
            · exact e0 c hc
            · exact e2 c hc
            · exact e3 c hc
            · exact e4 c hc

theorem cloneSyI (cs : List Value) (s : Sy) (w : World) (fp : List Nat) (hR : R_Sy fp w cs s) (hF : CpFit s) :
    Calls Tryz.prog 34 #[.agg cs.toArray] w fun e w' => (∃ us, e = .returned (.agg us.toArray) ∧ us.length = 5 ∧ us.toArray.all (·.oneCell') = true ∧ NewQ R_Sy w w' us s) ∧ Upd [] w w' :=
  (cloneSyM cs s w fp hR hF).mono fun _ _ ⟨⟨us, h1, h2, h3, h4⟩, hu⟩ => ⟨⟨us, h1, h2, h3, h4.new⟩, hu⟩

end Go.Proofs.YtnchmnjkmhfleaaGreat

/-
  Parts of bodies: what the program's calls return.
-/
namespace Go.Proofs.YtnchmnjkmhfleaaGreat
open Go.RowKit

set_option maxRecDepth 20000 in
set_option maxHeartbeats 800000 in
theorem folPI (p : Pa) (v : Value) (w : World) : Calls Tryz.prog 222 #[.agg #[ei p.kind, ei p.num, es p.name, v]] w fun e w' => e = .returned (.int .i64 (folP p)) ∧ Upd [] w w' := by
  have HM := Lib.hid (show folP p = (if (p.kind == 1) = true then 1 else if (p.kind == 3) = true then 1 else if (p.kind == 4) = true then 1 else if (p.kind == 2) = true then 2 else 0) by
    unfold folP; simp only [beq_iff_eq]; by_cases h1 : p.kind = 1 <;> by_cases h3 : p.kind = 3 <;> by_cases h4 : p.kind = 4 <;> simp [h1, h3, h4])
  generalize folP p = Z at *
  generalize p.kind = k at *
  obtain ⟨q1, h1⟩ : ∃ q, (k == 1) = q := ⟨_, rfl⟩
  obtain ⟨q3, h3⟩ : ∃ q, (k == 3) = q := ⟨_, rfl⟩
  obtain ⟨q4, h4⟩ : ∃ q, (k == 4) = q := ⟨_, rfl⟩
  obtain ⟨q2, h2⟩ : ∃ q, (k == 2) = q := ⟨_, rfl⟩
  rw [h1, h3, h4, h2] at HM
  cases q1 with
  | false =>
    cases q3 with
    | false =>
      cases q4 with
      | false =>
        cases q2 with
        | false =>
          go_enter Tryz.func222, Tryz.ntmps222
          go_wp2_with fail
          go_ret
          exact ⟨by rw [HM.out]; rfl, (Upd.refl _ _).alloc _⟩
        | true =>
          go_enter Tryz.func222, Tryz.ntmps222
          go_wp2_with fail
          go_ret
          exact ⟨by rw [HM.out]; rfl, (Upd.refl _ _).alloc _⟩
      | true =>
        go_enter Tryz.func222, Tryz.ntmps222
        go_wp2_with fail
        go_ret
        exact ⟨by rw [HM.out]; rfl, (Upd.refl _ _).alloc _⟩
    | true =>
      go_enter Tryz.func222, Tryz.ntmps222
      go_wp2_with fail
      go_ret
      exact ⟨by rw [HM.out]; rfl, (Upd.refl _ _).alloc _⟩
  | true =>
    go_enter Tryz.func222, Tryz.ntmps222
    go_wp2_with fail
    go_ret
    exact ⟨by rw [HM.out]; rfl, (Upd.refl _ _).alloc _⟩

set_option maxRecDepth 20000 in
set_option maxHeartbeats 4000000 in
theorem kindOkI (p : Pa) (a : Option Addr) (c : Nat) (w : World) : Calls Tryz.prog 224 #[.agg #[ei p.kind, ei p.num, es p.name, .slice a p.args.length c]] w fun e w' => e = .returned (.bool (kindP p)) ∧ Upd [] w w' := by
  have HM := Lib.hid (show kindP p = (inB p.kind 0 5 && ((p.kind == 4 || p.kind == 5) || p.num == 0) && (p.kind == 1 || p.name == []) && ((p.kind == 1 || p.kind == 3 || p.kind == 5) || p.args.length == 0)) from rfl)
  obtain ⟨k, num, name, args⟩ := p
  simp only at *
  generalize kindP ⟨k, num, name, args⟩ = Z at *
  generalize args.length = n at *
  have S1 := Lib.hid (within k 0 5 (w.alloc (.cells #[ei k, ei num, es name, .slice a n c] 109)))
  obtain ⟨q1, h1⟩ : ∃ q, (k == 1) = q := ⟨_, rfl⟩
  obtain ⟨q3, h3⟩ : ∃ q, (k == 3) = q := ⟨_, rfl⟩
  obtain ⟨q4, h4⟩ : ∃ q, (k == 4) = q := ⟨_, rfl⟩
  obtain ⟨q5, h5⟩ : ∃ q, (k == 5) = q := ⟨_, rfl⟩
  obtain ⟨n0, hn⟩ : ∃ q, (num == 0) = q := ⟨_, rfl⟩
  obtain ⟨e0, he⟩ : ∃ q, (name == []) = q := ⟨_, rfl⟩
  obtain ⟨a0, ha⟩ : ∃ q, (n == 0) = q := ⟨_, rfl⟩
  have ha2 : ((n : Int) == 0) = a0 := by rw [← ha]; cases n <;> rfl
  rw [h1, h3, h4, h5, hn, he, ha] at HM
  clear ha
  obtain ⟨qi, hi⟩ : ∃ q, inB k 0 5 = q := ⟨_, rfl⟩
  rw [hi] at S1 HM
  cases q4 with
  | false =>
    cases q5 with
    | false =>
      cases q1 with
      | false =>
        cases q3 with
        | false =>
          cases qi with
          | false =>
            go_enter Tryz.func224, Tryz.ntmps224
            go_wp2_with fail
            refine S1.out.mono ?_
            rintro e w1 ⟨rfl, rfl⟩
            go_wp2_with fail
            go_ret
            exact ⟨by rw [HM.out]; rfl, (Upd.refl _ _).alloc _⟩
          | true =>
            cases n0 with
            | false =>
              go_enter Tryz.func224, Tryz.ntmps224
              go_wp2_with fail
              refine S1.out.mono ?_
              rintro e w1 ⟨rfl, rfl⟩
              go_wp2_with fail
              go_ret
              exact ⟨by rw [HM.out]; rfl, (Upd.refl _ _).alloc _⟩
            | true =>
              cases e0 with
              | false =>
                go_enter Tryz.func224, Tryz.ntmps224
                go_wp2_with fail
                refine S1.out.mono ?_
                rintro e w1 ⟨rfl, rfl⟩
                go_wp2_with fail
                go_ret
                exact ⟨by rw [HM.out]; rfl, (Upd.refl _ _).alloc _⟩
              | true =>
                cases a0 with
                | false =>
                  go_enter Tryz.func224, Tryz.ntmps224
                  go_wp2_with fail
                  refine S1.out.mono ?_
                  rintro e w1 ⟨rfl, rfl⟩
                  go_wp2_with fail
                  go_ret
                  exact ⟨by rw [HM.out]; rfl, (Upd.refl _ _).alloc _⟩
                | true =>
                  go_enter Tryz.func224, Tryz.ntmps224
                  go_wp2_with fail
                  refine S1.out.mono ?_
                  rintro e w1 ⟨rfl, rfl⟩
                  go_wp2_with fail
                  go_ret
                  exact ⟨by rw [HM.out]; rfl, (Upd.refl _ _).alloc _⟩
        | true =>
          obtain rfl : k = 3 := by simpa using h3

          obtain rfl : true = qi := hi
          cases n0 with
          | false =>
            go_enter Tryz.func224, Tryz.ntmps224
            go_wp2_with fail
            refine S1.out.mono ?_
            rintro e w1 ⟨rfl, rfl⟩
            go_wp2_with fail
            go_ret
            exact ⟨by rw [HM.out]; rfl, (Upd.refl _ _).alloc _⟩
          | true =>
            cases e0 with
            | false =>
              go_enter Tryz.func224, Tryz.ntmps224
              go_wp2_with fail
              refine S1.out.mono ?_
              rintro e w1 ⟨rfl, rfl⟩
              go_wp2_with fail
              go_ret
              exact ⟨by rw [HM.out]; rfl, (Upd.refl _ _).alloc _⟩
            | true =>
              go_enter Tryz.func224, Tryz.ntmps224
              go_wp2_with fail
              refine S1.out.mono ?_
              rintro e w1 ⟨rfl, rfl⟩
              go_wp2_with fail
              go_ret
              exact ⟨by rw [HM.out]; rfl, (Upd.refl _ _).alloc _⟩
      | true =>
        obtain rfl : k = 1 := by simpa using h1
        obtain rfl : false = q3 := h3
        obtain rfl : true = qi := hi
        cases n0 with
        | false =>
          go_enter Tryz.func224, Tryz.ntmps224
          go_wp2_with fail
          refine S1.out.mono ?_
          rintro e w1 ⟨rfl, rfl⟩
          go_wp2_with fail
          go_ret
          exact ⟨by rw [HM.out]; rfl, (Upd.refl _ _).alloc _⟩
        | true =>
          go_enter Tryz.func224, Tryz.ntmps224
          go_wp2_with fail
          refine S1.out.mono ?_
          rintro e w1 ⟨rfl, rfl⟩
          go_wp2_with fail
          go_ret
          exact ⟨by rw [HM.out]; rfl, (Upd.refl _ _).alloc _⟩
    | true =>
      obtain rfl : k = 5 := by simpa using h5
      obtain rfl : false = q1 := h1
      obtain rfl : false = q3 := h3
      obtain rfl : true = qi := hi
      cases e0 with
      | false =>
        go_enter Tryz.func224, Tryz.ntmps224
        go_wp2_with fail
        refine S1.out.mono ?_
        rintro e w1 ⟨rfl, rfl⟩
        go_wp2_with fail
        go_ret
        exact ⟨by rw [HM.out]; rfl, (Upd.refl _ _).alloc _⟩
      | true =>
        go_enter Tryz.func224, Tryz.ntmps224
        go_wp2_with fail
        refine S1.out.mono ?_
        rintro e w1 ⟨rfl, rfl⟩
        go_wp2_with fail
        go_ret
        exact ⟨by rw [HM.out]; rfl, (Upd.refl _ _).alloc _⟩
  | true =>
    obtain rfl : k = 4 := by simpa using h4
    obtain rfl : false = q1 := h1
    obtain rfl : false = q3 := h3
    obtain rfl : false = q5 := h5
    obtain rfl : true = qi := hi
    cases e0 with
    | false =>
      go_enter Tryz.func224, Tryz.ntmps224
      go_wp2_with fail
      refine S1.out.mono ?_
      rintro e w1 ⟨rfl, rfl⟩
      go_wp2_with fail
      go_ret
      exact ⟨by rw [HM.out]; rfl, (Upd.refl _ _).alloc _⟩
    | true =>
      cases a0 with
      | false =>
        go_enter Tryz.func224, Tryz.ntmps224
        go_wp2_with fail
        refine S1.out.mono ?_
        rintro e w1 ⟨rfl, rfl⟩
        go_wp2_with fail
        go_ret
        exact ⟨by rw [HM.out]; rfl, (Upd.refl _ _).alloc _⟩
      | true =>
        go_enter Tryz.func224, Tryz.ntmps224
        go_wp2_with fail
        refine S1.out.mono ?_
        rintro e w1 ⟨rfl, rfl⟩
        go_wp2_with fail
        go_ret
        exact ⟨by rw [HM.out]; rfl, (Upd.refl _ _).alloc _⟩

set_option maxRecDepth 20000 in
set_option maxHeartbeats 4000000 in
theorem countOkI (ds : List De) (dv : Value) (fd : List Nat) (p : Pa) (a : Option Addr) (c : Nat) (w : World) (hR : R_De1 fd w [dv] ds) (hn : p.kind = 5 → 0 ≤ p.num ∧ p.num < ds.length) (hl : p.args.length ≤ 2000000) :
    Calls Tryz.prog 225 #[.agg #[ei p.kind, ei p.num, es p.name, .slice a p.args.length c], dv] w fun e w' => e = .returned (.bool (countP ds p)) ∧ Upd [] w w' := by
  have HM := Lib.hid (show countP ds p = (if (p.kind == 1) = true then p.args.length == 0 || (!(p.name == tauL) && decide (p.args.length ≤ 2)) else if (p.kind == 3) = true then (p.args.length : Int) == 1 else if (p.kind == 5) = true then (p.args.length : Int) == ((ds.map De.pars).getD p.num.toNat 0) else true) by
    unfold countP; simp only [beq_iff_eq, bne]
    split <;> try rfl
    split <;> try rfl
    cases p.args.length with
    | zero => rfl
    | succ n => cases n <;> rfl)
  have HRG := Lib.hid hn
  obtain ⟨k, num, name, args⟩ := p
  simp only at *
  generalize countP ds ⟨k, num, name, args⟩ = Z at *
  generalize args.length = n at *
  obtain ⟨q1, h1⟩ : ∃ q, (k == 1) = q := ⟨_, rfl⟩
  obtain ⟨q3, h3⟩ : ∃ q, (k == 3) = q := ⟨_, rfl⟩
  obtain ⟨q5, h5⟩ : ∃ q, (k == 5) = q := ⟨_, rfl⟩
  obtain ⟨t0, ht⟩ : ∃ q, (name == tauL) = q := ⟨_, rfl⟩
  obtain ⟨a0, ha⟩ : ∃ q, (n == 0) = q := ⟨_, rfl⟩
  obtain ⟨l2, hl2⟩ : ∃ q, decide (n ≤ 2) = q := ⟨_, rfl⟩
  have ha2 : ((n : Int) == 0) = a0 := by rw [← ha]; cases n <;> rfl
  have hl3 : decide ((n : Int) ≤ 2) = l2 := by rw [← hl2]; congr 1; rw [eq_iff_iff]; omega
  rw [h1, h3, h5, ht, ha, hl2] at HM
  have htb : (name == [116, 97, 117]) = t0 := ht
  obtain ⟨t1, htn⟩ : ∃ q, (name != [116, 97, 117]) = q := ⟨_, rfl⟩
  have ht1 : t1 = !t0 := by rw [← htn, ← ht]; rfl
  clear ha hl2 hn ht
  cases q1 with
  | false =>
    cases q3 with
    | false =>
      cases q5 with
      | false =>
        go_enter Tryz.func225, Tryz.ntmps225
        go_wp2_with fail
        go_ret
        exact ⟨by rw [HM.out]; rfl, (Upd.refl _ _).alloc _⟩
      | true =>
        obtain rfl : k = 5 := by simpa using h5
        obtain ⟨ad, q, rfl, g1, g2, hc⟩ := slQ_open hR
        unfold maxLen at g2
        obtain ⟨hr0, hr1⟩ := HRG.out rfl
        obtain ⟨j, rfl⟩ : ∃ j : Nat, num = j := ⟨num.toNat, by omega⟩
        have hj : j < ds.length := by omega
        obtain ⟨b, off, u, f, rfl, -, -, -, hcell, -, hr⟩ := hc j hj
        obtain ⟨v2, f2, rfl, -, -⟩ := hr
        have p1 := ((Upd.refl [] w).alloc (.cells #[ei 5, ei j, es name, .slice a n c] 109)).keep (hcell 1 _ rfl)
        have hz : (ds.map De.pars).getD (Int.toNat (j : Int)) 0 = ds[j].pars := by
          rw [Int.toNat_natCast, List.getD_eq_getElem?_getD, List.getElem?_map, List.getElem?_eq_getElem hj]; rfl
        rw [hz] at HM
        have hjl : (j : Int) < (ds.length : Int) := by omega
        clear hcell hc hR hz HRG hr0 hr1
        generalize ds[j].pars = P at *
        generalize ds.length = N at *
        go_enter Tryz.func225, Tryz.ntmps225
        go_wp2_with fail
        go_ret
        exact ⟨by rw [HM.out]; rfl, (Upd.refl _ _).alloc _⟩
    | true =>
      go_enter Tryz.func225, Tryz.ntmps225
      go_wp2_with fail
      go_ret
      exact ⟨by rw [HM.out]; rfl, (Upd.refl _ _).alloc _⟩
  | true =>
    cases a0 with
    | false =>
      cases t0 with
      | false =>
        obtain rfl := ht1
        simp only [Bool.not_false] at htn
        cases l2 with
        | false =>
          go_enter Tryz.func225, Tryz.ntmps225
          go_wp2_with fail
          go_ret
          exact ⟨by rw [HM.out]; rfl, (Upd.refl _ _).alloc _⟩
        | true =>
          go_enter Tryz.func225, Tryz.ntmps225
          go_wp2_with fail
          go_ret
          exact ⟨by rw [HM.out]; rfl, (Upd.refl _ _).alloc _⟩
      | true =>
        obtain rfl := ht1
        simp only [Bool.not_true] at htn
        go_enter Tryz.func225, Tryz.ntmps225
        go_wp2_with fail
        go_ret
        exact ⟨by rw [HM.out]; rfl, (Upd.refl _ _).alloc _⟩
    | true =>
      go_enter Tryz.func225, Tryz.ntmps225
      go_wp2_with fail
      go_ret
      exact ⟨by rw [HM.out]; rfl, (Upd.refl _ _).alloc _⟩

end Go.Proofs.YtnchmnjkmhfleaaGreat

/-
  The shape of a body: what the program's call returns.
-/
namespace Go.Proofs.YtnchmnjkmhfleaaGreat
open Go.RowKit

set_option maxRecDepth 20000 in
set_option maxHeartbeats 4000000 in
theorem endDI (cs : List Value) (d : De) (w : World) (fp : List Nat) (hR : R_De fp w cs d) (hl : d.body.length ≤ 1000) :
    Calls Tryz.prog 207 #[.agg cs.toArray, .int .i64 0] w fun e w' => (∃ r : Int, e = .returned (.int .i64 r) ∧ -1 ≤ r ∧ r ≤ 1000 ∧ (r == (d.body.length : Int)) = shapeG folP 1 d.body) ∧ Upd [] w w' := by
  obtain ⟨v2, f2, rfl, h2, rfl⟩ := hR
  obtain ⟨a, cap, rfl, g1, g2, hc⟩ := slQ_open h2
  unfold maxLen at g2
  have HC := Lib.hid hc
  clear h2 hc
  obtain ⟨wA, hwA⟩ : ∃ wA, wA = w.alloc (.cells #[es d.name, ei d.pars, .slice a d.body.length cap] 90) := ⟨_, rfl⟩
  obtain ⟨BA, hBA⟩ : ∃ BA, BA = w.heap.size := ⟨_, rfl⟩
  have uA : Upd [] w wA := by rw [hwA]; exact (Upd.refl _ _).alloc _
  have c2 : wA.cell? ⟨BA, 2, none⟩ = some (.slice a d.body.length cap) := by rw [hwA, hBA]; exact cell_new w _ _ _ rfl 2 _ rfl
  have HB := Lib.hid c2
  have UA := Lib.hid uA
  clear uA c2
  generalize d.body = l at *
  go_enter Tryz.func207, Tryz.ntmps207
  go_upto_region 1 with (fail)
  rw [← hwA, ← hBA]
  clear hwA hBA
  go_wp2_with fail
  go_loopw [1, 5] (fun pv nv wr => ∃ (k : Nat) (m : Int), k ≤ l.length ∧ pv = .int .i64 k ∧ nv = .int .i64 m ∧ 0 ≤ m ∧ m ≤ 1 + k ∧ Hid (shapeG folP m (l.drop k) = shapeG folP 1 l) ∧ Hid (Upd [] wA wr)) (fun pv _ _ => l.length - (intOf pv).toNat)
  case atStart => exact ⟨0, 1, Nat.zero_le _, rfl, rfl, by omega, by omega, Lib.hid rfl, Lib.hid (Upd.refl _ _)⟩
  case round =>
    obtain ⟨wo, rfl⟩ : ∃ wo : World, wo = wr := ⟨_, rfl⟩
    obtain ⟨k, m, hk, rfl, rfl, hm0, hm1, HS, HU⟩ := hrel
    have c2 := HU.out.keep HB.out
    by_cases hm : 0 < m
    · by_cases hlt : k < l.length
      · obtain ⟨b1, o1, u, f, rfl, -, -, -, hcell, -, hr⟩ := HC.out k hlt
        obtain ⟨v3, f3, rfl, -, -⟩ := hr
        have UU := Lib.hid (UA.out.trans HU.out)
        have p0 := UU.out.keep (hcell 0 _ rfl)
        have p1 := UU.out.keep (hcell 1 _ rfl)
        have p2 := UU.out.keep (hcell 2 _ rfl)
        have p3 := UU.out.keep (hcell 3 _ rfl)
        simp only [Nat.add_zero] at p0
        have hS := HS.out
        rw [List.drop_eq_getElem_cons hlt, shapeG, if_neg (by omega)] at hS
        have HN := Lib.hid hS
        have hkl : (k : Int) < (l.length : Int) := by omega
        have S1 := Lib.hid (folPI l[k] v3 wo)
        have hf0 := folP_nn l[k]
        have hf1 := folP_le l[k]
        clear hS HS hcell
        generalize folP l[k] = q at *
        generalize l[k] = p at *
        have hkk : ¬ (l.length : Int) ≤ (k : Int) := by omega
        go_wp2_with fail
        refine S1.out.mono ?_
        rintro e w1 ⟨rfl, hu⟩
        have HU1 := Lib.hid (HU.out.trans hu)
        clear S1 hu p0 p1 p2 p3 c2
        go_wp2_with fail
        go_roundw
        case rel => exact ⟨k + 1, m + (q - 1), by omega, by go_num, rfl, by omega, by omega, Lib.hid (by rw [← HN.out]; congr 1; omega), HU1⟩
        case measure => simp [intOf]; omega
      · have hS := HS.out
        rw [List.drop_of_length_le (by omega), shapeG] at hS
        have hz : ((-1 : Int) == (l.length : Int)) = shapeG folP 1 l := by
          rw [← hS]
          have h1 : ((-1 : Int) == (l.length : Int)) = false := by simp <;> omega
          have h2 : (m == 0) = false := by simp <;> omega
          rw [h1, h2]
        have HZ := Lib.hid hz
        have hkk : (l.length : Int) ≤ (k : Int) := by omega
        clear hS hz
        go_wp2_with fail
        go_ret
        exact ⟨⟨-1, rfl, by omega, by omega, HZ.out⟩, UA.out.trans HU.out⟩
    · obtain rfl : m = 0 := by omega
      have hS := HS.out
      have hz : ((k : Int) == (l.length : Int)) = shapeG folP 1 l := by
        rw [← hS]
        by_cases hlt : k < l.length
        · rw [List.drop_eq_getElem_cons hlt, shapeG, if_pos rfl]
          simp <;> omega
        · rw [List.drop_of_length_le (by omega), shapeG]
          simp <;> omega
      have HZ := Lib.hid hz
      clear hS hz
      go_wp2_with fail
      go_ret
      exact ⟨⟨k, rfl, by omega, by omega, HZ.out⟩, UA.out.trans HU.out⟩

end Go.Proofs.YtnchmnjkmhfleaaGreat

/-
  The places of a body's parts: what the program's call returns (a closure that calls itself).
-/
namespace Go.Proofs.YtnchmnjkmhfleaaGreat
open Go.RowKit

abbrev R_pl : Rp (List (Int × Bool)) := slF 2 (fun t => [ei t.1, .bool t.2])
theorem R_plk : Kept R_pl := slF_kept _ _
theorem enter_fill (args : Array Value) (w : World) : Sem.run Tryz.prog (callFunc 223 args) w = .ok (.enter 223 args) w := by go_simp
/-- the closure's value. -/
abbrev fillV (O D F : Nat) : Value := .func (.func 223) #[] #[.pointer (some ⟨O, 0, none⟩), .pointer (some ⟨D, 0, none⟩), .pointer (some ⟨F, 0, none⟩)]
/-- what the closure finds: the row that it fills, the body, and itself. -/
structure FillW (O D F B n : Nat) (v : Value) (fb : List Nat) (body : List Pa) (w : World) : Prop where
  o : w.cell? ⟨O, 0, none⟩ = some (.slice (some ⟨B, 0, none⟩) n n)
  d : w.cell? ⟨D, 2, none⟩ = some v
  f : w.cell? ⟨F, 0, none⟩ = some (fillV O D F)
  r : R_Pa1 fb w [v] body
  nb : B ≠ O ∧ B ≠ D ∧ B ≠ F ∧ B ∉ fb
theorem FillW.upd {O D F B n : Nat} {v : Value} {fb : List Nat} {body : List Pa} {w w' : World} (h : FillW O D F B n v fb body w) (hu : Upd [B] w w') : FillW O D F B n v fb body w' :=
  ⟨hu.keepF (by simpa using h.nb.1.symm) h.o, hu.keepF (by simpa using h.nb.2.1.symm) h.d, hu.keepF (by simpa using h.nb.2.2.1.symm) h.f, R_Pa1k.upd h.r hu (by intro b hb hm; simp at hm; subst hm; exact h.nb.2.2.2 hb), h.nb⟩
/-- what the closure leaves. -/
def Filled (B n : Nat) (row : List (Int × Bool)) (at' : Nat) (w : World) (e : Ending) (w' : World) : Prop :=
  e = .returned (.int .i64 at') ∧ Upd [B] w w' ∧ Own [B] w' ∧ R_pl [B] w' [.slice (some ⟨B, 0, none⟩) n n] row

set_option maxRecDepth 20000 in
set_option maxHeartbeats 8000000 in
theorem fillI (O D F B n : Nat) (v : Value) (fb : List Nat) (body : List Pa) (hn : n ≤ 1000) (hbn : body.length = n) (N : Nat) : ∀ (x : Tr Pa) (k : Nat) (post : List Pa) (s : Int) (b : Bool) (w : World) (row : List (Int × Bool)), (flatT x).length ≤ N → okT folP x = true → body.drop k = flatT x ++ post → 0 ≤ s → s + N ≤ 1000 → row.length = n →
    FillW O D F B n v fb body w → Own [B] w → R_pl [B] w [.slice (some ⟨B, 0, none⟩) n n] row →
    Calls Tryz.prog 223 #[.int .i64 k, .agg #[ei s, .bool b], .pointer (some ⟨O, 0, none⟩), .pointer (some ⟨D, 0, none⟩), .pointer (some ⟨F, 0, none⟩)] w
      (Filled B n (row.take k ++ (plT x s b ++ row.drop (k + (flatT x).length))) (k + (flatT x).length) w) := by
  induction N with
  | zero => intro x k post s b w row hN; have := flatT_pos x; omega
  | succ N ih =>
    intro x k post s b w row hN hok hdr hs0 hs1 hrl hW hO hR
    obtain ⟨p, args⟩ := x
    have hkl : k < body.length := by
      have h1 := congrArg List.length hdr
      simp only [List.length_drop, flatT, List.cons_append, List.length_cons] at h1
      omega
    have hbl : k + (flatT (Tr.mk p args)).length ≤ n := by
      have h1 := congrArg List.length hdr
      simp only [List.length_drop, List.length_append] at h1
      omega
    have hpk : body[k] = p := by
      rw [List.drop_eq_getElem_cons hkl] at hdr
      simp only [flatT, List.cons_append, List.cons.injEq] at hdr
      exact hdr.1
    have hdr2 : body.drop (k + 1) = flatTs args ++ post := by
      rw [List.drop_eq_getElem_cons hkl] at hdr
      simp only [flatT, List.cons_append, List.cons.injEq] at hdr
      exact hdr.2
    simp only [okT, Bool.and_eq_true, decide_eq_true_eq] at hok
    simp only [flatT, List.length_cons] at hN hbl
    obtain ⟨W, hWk, hrow⟩ : ∃ q, q = n ∧ k < q := ⟨n, rfl, by omega⟩
    clear W hWk hrow
    -- the row's element
    obtain ⟨a0, q0, hv0, l0, m0, hrc⟩ := slF2_open hR
    obtain ⟨b0, o0, he0, -, hbz, r1, r2⟩ := hrc k (by omega)
    simp only [Value.slice.injEq] at hv0
    obtain ⟨hv0, -, -⟩ := hv0
    rw [← hv0] at he0
    simp only [Option.some.injEq, Addr.mk.injEq, and_true] at he0
    obtain ⟨rfl, rfl⟩ := he0
    rw [Nat.zero_add] at r1 r2
    clear hrc l0 m0 hv0
    -- the body's part
    obtain ⟨ab, cb, rfl, l1, m1, hbc⟩ := slQ_open hW.r
    obtain ⟨bb, ob, ub, fb', rfl, hbm, -, -, hcell, -, hrb⟩ := hbc k hkl
    obtain ⟨v3, f3, rfl, h3, -⟩ := hrb
    rw [hpk] at h3
    obtain ⟨a3, c3, rfl, -, -, -⟩ := slP_open h3
    clear h3
    rw [hpk] at hcell
    have p0 := hcell 0 _ rfl
    have p1 := hcell 1 _ rfl
    have p2 := hcell 2 _ rfl
    have p3 := hcell 3 _ rfl
    simp only [Nat.add_zero] at p0
    unfold maxLen at m1
    clear hcell hbc
    obtain ⟨wA, hwA⟩ : ∃ wA, wA = w.alloc (.cells #[ei s, .bool b] 225) := ⟨_, rfl⟩
    obtain ⟨BA, hBA⟩ : ∃ BA, BA = w.heap.size := ⟨_, rfl⟩
    have uA : Upd [] w wA := by rw [hwA]; exact (Upd.refl _ _).alloc _
    have e0 : wA.cell? ⟨BA, 0, none⟩ = some (ei s) := by rw [hwA, hBA]; exact cell_new w _ _ _ rfl 0 _ rfl
    have e1 : wA.cell? ⟨BA, 1, none⟩ = some (.bool b) := by rw [hwA, hBA]; exact cell_new w _ _ _ rfl 1 _ rfl
    have nBA : BA ≠ B := by omega
    have hWA := hW.upd (uA.mono (by simp))
    have co := hWA.o
    have cd := hWA.d
    have r1 := uA.keep r1
    have r2 := uA.keep r2
    have hOA := hO.upd uA (by simp)
    have z1 := hOA.frozen (b := B) (by simp) (k * 2)
    have z2 := hOA.frozen (b := B) (by simp) (k * 2 + 1)
    have hRA := R_plk.upd hR uA (by simp)
    -- the world behind the store
    obtain ⟨wB, hwB⟩ : ∃ wB, wB = (wA.setCell ⟨B, k * 2, none⟩ (ei s)).setCell ⟨B, k * 2 + 1, none⟩ (.bool b) := ⟨_, rfl⟩
    have uB : Upd [B] wA wB := by rw [hwB]; exact ((Upd.refl _ _).setCell (Or.inr (by simp)) _).setCell (Or.inr (by simp)) _
    have hOB : Own [B] wB := by rw [hwB]; exact (hOA.setCell _ _).setCell _ _
    have hRB : R_pl [B] wB [.slice (some ⟨B, 0, none⟩) n n] (row.set k (s, b)) := by
      have := slF2_set (b := B) (off := 0) (cap := n) (xs := row) (by rw [hrl]; exact hRA) k (by omega) (s, b)
      rw [hrl, Nat.zero_add] at this
      rw [hwB]; exact this
    have HOB := Lib.hid hOB
    have HRB := Lib.hid hRB
    have HUB := Lib.hid (show Upd [B] w wB from (uA.mono (by simp)).trans uB)
    have hWB := hWA.upd uB
    have HWB := Lib.hid hWB
    have cd' := hWB.d
    have UAB := Lib.hid uB
    have q0 := hWB.r
    have e0' : wB.cell? ⟨BA, 0, none⟩ = some (ei s) := uB.keepF (by simpa using nBA) e0
    have e1' : wB.cell? ⟨BA, 1, none⟩ = some (.bool b) := uB.keepF (by simpa using nBA) e1
    have nbb : bb ≠ B := fun h => hW.nb.2.2.2 (h ▸ hbm)
    have p0 := uB.keepF (by simpa using nbb) (uA.keep p0)
    have p1 := uB.keepF (by simpa using nbb) (uA.keep p1)
    have p2 := uB.keepF (by simpa using nbb) (uA.keep p2)
    have p3 := uB.keepF (by simpa using nbb) (uA.keep p3)
    have hkb : (k : Int) < (body.length : Int) := by omega
    have hkn : (k : Int) < (n : Int) := by omega
    clear q0 hWB hRB hOB uB hRA hOA hWA uA hW hO hR
    generalize row[k] = el at r1 r2
    generalize p.args.length = L3 at *
    go_enter Tryz.func223, Tryz.ntmps223
    go_upto_region 1 with (fail)
    rw [← hwA, ← hBA]
    clear hwA hBA
    go_upto_region 2 with (fail)
    rw [← hwB]
    clear hwB r1 r2 z1 z2 co e0 e1
    obtain ⟨wC, hwC⟩ : ∃ q, q = wB.alloc (.cells #[ei p.kind, ei p.num, es p.name, .slice a3 L3 c3] 109) := ⟨_, rfl⟩
    obtain ⟨BC, hBC⟩ : ∃ q, q = wB.heap.size := ⟨_, rfl⟩
    have uC : Upd [] wB wC := by rw [hwC]; exact (Upd.refl _ _).alloc _
    have g0 : wC.cell? ⟨BC, 0, none⟩ = some (ei p.kind) := by rw [hwC, hBC]; exact cell_new wB _ _ _ rfl 0 _ rfl
    have g1 : wC.cell? ⟨BC, 1, none⟩ = some (ei p.num) := by rw [hwC, hBC]; exact cell_new wB _ _ _ rfl 1 _ rfl
    have g2 : wC.cell? ⟨BC, 2, none⟩ = some (es p.name) := by rw [hwC, hBC]; exact cell_new wB _ _ _ rfl 2 _ rfl
    have g3 : wC.cell? ⟨BC, 3, none⟩ = some (.slice a3 L3 c3) := by rw [hwC, hBC]; exact cell_new wB _ _ _ rfl 3 _ rfl
    have hBw : B < wB.heap.size := by have := HUB.out.size; omega
    have hBB : B < BC := by omega
    have i0 := uC.keep e0'
    have i1 := uC.keep e1'
    go_upto_region 3 with (fail)
    rw [← hwC, ← hBC]
    have hBCs : wB.heap.size ≤ BC := by omega
    clear hwC hBC p0 p1 p2 p3 cd' e0' e1'
    obtain ⟨b', hb'⟩ : ∃ q, (p.kind == 1) = q := ⟨_, rfl⟩
    obtain ⟨wD, hwD⟩ : ∃ q, q = wC.alloc (.cells #[ei s, .bool b'] 225) := ⟨_, rfl⟩
    obtain ⟨BD, hBD⟩ : ∃ q, q = wC.heap.size := ⟨_, rfl⟩
    have uD : Upd [] wC wD := by rw [hwD]; exact (Upd.refl _ _).alloc _
    have j0 : wD.cell? ⟨BD, 0, none⟩ = some (ei s) := by rw [hwD, hBD]; exact cell_new wC _ _ _ rfl 0 _ rfl
    have j1 : wD.cell? ⟨BD, 1, none⟩ = some (.bool b') := by rw [hwD, hBD]; exact cell_new wC _ _ _ rfl 1 _ rfl
    have hhD : wD.heap[BD]? = some (.cells #[ei s, .bool b'] 225 (0, 0)) := by rw [hwD, hBD]; exact heap_alloc_new wC _
    have zD : wD.frozen? ⟨BD, 0, none⟩ = false := by simp [World.frozen?, hhD]
    have hBBD : B < BD := by have := uC.size; omega
    have hBCD : BC ≠ BD := by have := (World.block_lt_of_cell? wC _ g0); simp at this; omega
    have hBnew : wB.heap.size ≤ BD := by rw [hBD]; exact uC.size
    go_upto_region 4 with (fail)
    rw [← hwD, ← hBD]
    clear hwD hBD i0 i1
    have g0 := uD.keep g0
    have g1 := uD.keep g1
    have g2 := uD.keep g2
    have g3 := uD.keep g3
    have uBD := uC.trans uD
    clear uC uD hhD
    have HSUM := Lib.hid (show sumP p = (p.kind == 4) from rfl)
    have HFOL := Lib.hid (fun W => folPI p (.slice a3 L3 c3) W)
    have HOK := Lib.hid hok
    have HIH := Lib.hid ih
    have HDR := Lib.hid hdr2
    have HB1 := Lib.hid (show (p.kind == 1) = b' from hb')
    have HPL := Lib.hid (show plT (Tr.mk p args) s b = (s, b) :: plTs args (s + if sumP p then 1 else 0) (p.kind == 1) from rfl)
    clear ih hok hdr hdr2 hpk
    obtain ⟨q4, h4⟩ : ∃ q, (p.kind == 4) = q := ⟨_, rfl⟩
    have g0' := g0
    cases q4 with
    | false =>
      obtain ⟨wE, rfl⟩ : ∃ q, q = wD := ⟨_, rfl⟩
      obtain ⟨s', hs'⟩ : ∃ q, q = s := ⟨_, rfl⟩
      have UE := Lib.hid uBD
      have HS' := Lib.hid (show s' = s + (if sumP p then 1 else 0) by rw [HSUM.out, h4, hs']; simp)
      have k0 : wE.cell? ⟨BD, 0, none⟩ = some (ei s') := by rw [hs']; exact j0
      have k1 := j1
      have hs'0 : 0 ≤ s' ∧ s' + N ≤ 1000 := by omega
      have e4 := h4
      clear j0 j1 zD uBD HSUM hs'
      go_upto_region 6 with (fail)
      go_upto_region 7 with (fail)
      clear g0' e4
      have S1 := Lib.hid (HFOL.out wE)
      clear HFOL
      go_wp2_with fail
      refine S1.out.mono ?_
      rintro e w1 ⟨rfl, hu1⟩
      have UF := Lib.hid (UE.out.trans hu1)
      have x0 := hu1.keep k0
      have x1 := hu1.keep k1
      have UB1 := Lib.hid (HUB.out.trans (UF.out.mono (by simp)))
      have HW1 := Lib.hid (HWB.out.upd (UF.out.mono (by simp)))
      have HO1 := Lib.hid (HOB.out.upd UF.out (by simp))
      have HR1 := Lib.hid (R_plk.upd HRB.out UF.out (by simp))
      clear S1 hu1 k0 k1 g0 g1 g2 g3 HUB HWB HOB HRB UF UE
      have hal : (folP p) = (args.length : Int) := HOK.out.1.symm
      rw [hal]
      clear hal
      have hal2 : args.length ≤ 2 := by have := HOK.out.1; have := folP_le p; omega
      have hent := enter_fill
      have hL1 : (flatTs args).length + 1 + k ≤ n := by omega
      have HX0 := Lib.hid (And.intro x0 x1)
      clear x0 x1
      go_wp2_with fail
      go_loopw [10, 37] (fun nv iv wr => ∃ (j : Nat) (c : Nat), j ≤ args.length ∧ iv = .int .i64 j ∧ nv = .int .i64 c ∧ Hid (c = k + 1 + (flatTs (args.take j)).length) ∧ c ≤ n ∧ Hid (Upd [B] w1 wr) ∧ Hid (Own [B] wr) ∧
          Hid (R_pl [B] wr [.slice (some ⟨B, 0, none⟩) n n] (row.take k ++ (((s, b) :: plTs (args.take j) s' b') ++ row.drop c)))) (fun _ iv _ => args.length - (intOf iv).toNat)
      case atStart =>
        refine ⟨0, k + 1, Nat.zero_le _, rfl, by go_num, Lib.hid (by simp [flatTs]), by omega, Lib.hid (Upd.refl _ _), HO1, Lib.hid ?_⟩
        have := HR1.out
        rw [List.set_eq_take_append_cons_drop, if_pos (by omega)] at this
        simpa [plTs] using this
      case round =>
        obtain ⟨wo, rfl⟩ : ∃ wo : World, wo = wr := ⟨_, rfl⟩
        obtain ⟨j, c, hj, rfl, rfl, HC, hcn, HU, HO, HR⟩ := hrel
        by_cases hlt : j < args.length
        · have hW := HW1.out.upd HU.out
          have cf := hW.f
          have y0 := HU.out.keepF (by simp; omega) HX0.out.1
          have y1 := HU.out.keepF (by simp; omega) HX0.out.2
          have hsp : flatTs args = flatTs (args.take j) ++ (flatT args[j] ++ flatTs (args.drop (j + 1))) := by
            conv => lhs; rw [← List.take_append_drop j args, flatTs_append, List.drop_eq_getElem_cons hlt]
            rfl
          have hlen := congrArg List.length hsp
          simp only [List.length_append] at hlen
          have hc := HC.out
          have hpt := plTs_len (args.take j) s' b'
          have hdj : body.drop c = flatT args[j] ++ (flatTs (args.drop (j + 1)) ++ post) := by
            have := congrArg (List.drop (flatTs (args.take j)).length) HDR.out
            rw [List.drop_drop, hsp, List.append_assoc, List.drop_append_of_le_length (Nat.le_refl _), List.drop_of_length_le (Nat.le_refl _), List.nil_append, List.append_assoc] at this
            rw [hc]; exact this
          have hokj : okT folP args[j] = true := by
            have := HOK.out.2
            rw [okTs_all, List.all_eq_true] at this
            exact this _ (List.getElem_mem hlt)
          have hrow : (row.take k ++ (((s, b) :: plTs (args.take j) s' b') ++ row.drop c)).length = n := by
            simp only [List.length_append, List.length_take, List.length_cons, List.length_drop, hpt, hrl]; omega
          have S2 := Lib.hid (HIH.out args[j] c (flatTs (args.drop (j + 1)) ++ post) s' b' wo _ (by omega) hokj hdj (by omega) (by omega) hrow hW HO.out HR.out)
          have HNX := Lib.hid (show (row.take k ++ (((s, b) :: plTs (args.take j) s' b') ++ row.drop c)).take c ++ (plT args[j] s' b' ++ (row.take k ++ (((s, b) :: plTs (args.take j) s' b') ++ row.drop c)).drop (c + (flatT args[j]).length)) = row.take k ++ (((s, b) :: plTs (args.take (j + 1)) s' b') ++ row.drop (c + (flatT args[j]).length)) from by
            have hA : ((s, b) :: plTs (args.take j) s' b').length = (flatTs (args.take j)).length + 1 := by rw [List.length_cons, hpt]
            have hB := plT_len args[j] s' b'
            have := fill_in row ((s, b) :: plTs (args.take j) s' b') (plT args[j] s' b') k (by omega)
            rw [hA, hB, show k + ((flatTs (args.take j)).length + 1) = c by omega] at this
            rw [this, plTs_take _ _ _ _ hlt]; simp)
          have HNC := Lib.hid (show c + (flatT args[j]).length = k + 1 + (flatTs (args.take (j + 1))).length by rw [flatTs_take _ _ hlt, List.length_append]; omega)
          have hle : c + (flatT args[j]).length ≤ n := by omega
          have hjl : (j : Int) < (args.length : Int) := by omega
          clear hsp hlen hc hpt hdj hokj hrow hW HR HO HC
          generalize (flatT args[j]).length = z at *
          go_wp2_with fail
          refine S2.out.mono ?_
          rintro e w2 ⟨rfl, hu2, ho2, hr2⟩
          have HU2 := Lib.hid (HU.out.trans hu2)
          rw [HNX.out] at hr2
          have HR2 := Lib.hid (And.intro ho2 hr2)
          clear hu2 ho2 hr2 S2 cf y0 y1 HU HNX
          go_wp2_with fail
          go_roundw
          case rel => exact ⟨j + 1, c + z, by omega, by go_num, by go_num, HNC, hle, HU2, Lib.hid HR2.out.1, Lib.hid HR2.out.2⟩
          case measure => simp [intOf]; omega
        · obtain rfl : j = args.length := by omega
          have HE := Lib.hid (And.intro HC.out HR.out)
          have hjl : ¬ (args.length : Int) < (args.length : Int) := by omega
          clear HR
          go_wp2_with fail
          go_ret
          obtain ⟨hc, hr⟩ := HE.out
          rw [List.take_length] at hc hr
          refine ⟨?_, UB1.out.trans HU.out, HO.out, ?_⟩
          · rw [show k + (flatT (Tr.mk p args)).length = c by rw [flatT, List.length_cons]; omega]; rfl
          · rw [HPL.out, HB1.out, ← HS'.out, show k + (flatT (Tr.mk p args)).length = c by rw [flatT, List.length_cons]; omega]; exact hr
    | true =>
      obtain ⟨wE, hwE⟩ : ∃ q, q = wD.setCell ⟨BD, 0, none⟩ (ei (s + 1)) := ⟨_, rfl⟩
      obtain ⟨s', hs'⟩ : ∃ q, q = s + 1 := ⟨_, rfl⟩
      have UE := Lib.hid (show Upd [] wB wE by rw [hwE]; exact uBD.setCell (Or.inl hBnew) _)
      have HS' := Lib.hid (show s' = s + (if sumP p then 1 else 0) by rw [HSUM.out, h4, hs']; simp)
      have k0 : wE.cell? ⟨BD, 0, none⟩ = some (ei s') := by rw [hwE, hs']; exact World.cell?_setCell_same _ _ _ j0
      have hx : ∀ b1 o1, (b1 ≠ BD ∨ o1 ≠ 0) → wE.cell? ⟨b1, o1, none⟩ = wD.cell? ⟨b1, o1, none⟩ := fun b1 o1 ho => by rw [hwE]; exact World.cell?_setCell_other _ _ _ _ (by intro h; simp only [Addr.mk.injEq] at h; omega)
      have k1 := (hx BD 1 (by omega)).trans j1
      have G0 := (hx BC 0 (Or.inl hBCD)).trans g0
      have G1 := (hx BC 1 (Or.inl hBCD)).trans g1
      have G2 := (hx BC 2 (Or.inl hBCD)).trans g2
      have G3 := (hx BC 3 (Or.inl hBCD)).trans g3
      have hs'0 : 0 ≤ s' ∧ s' + N ≤ 1000 := by omega
      have e4 := h4
      clear hx uBD HSUM hs'
      go_upto_region 6 with (fail)
      rw [← hwE]
      clear hwE j0 j1 zD g0 g1 g2 g3
      have g0 := G0
      have g1 := G1
      have g2 := G2
      have g3 := G3
      clear G0 G1 G2 G3
      go_upto_region 7 with (fail)
      clear g0' e4
      have S1 := Lib.hid (HFOL.out wE)
      clear HFOL
      go_wp2_with fail
      refine S1.out.mono ?_
      rintro e w1 ⟨rfl, hu1⟩
      have UF := Lib.hid (UE.out.trans hu1)
      have x0 := hu1.keep k0
      have x1 := hu1.keep k1
      have UB1 := Lib.hid (HUB.out.trans (UF.out.mono (by simp)))
      have HW1 := Lib.hid (HWB.out.upd (UF.out.mono (by simp)))
      have HO1 := Lib.hid (HOB.out.upd UF.out (by simp))
      have HR1 := Lib.hid (R_plk.upd HRB.out UF.out (by simp))
      clear S1 hu1 k0 k1 g0 g1 g2 g3 HUB HWB HOB HRB UF UE
      have hal : (folP p) = (args.length : Int) := HOK.out.1.symm
      rw [hal]
      clear hal
      have hal2 : args.length ≤ 2 := by have := HOK.out.1; have := folP_le p; omega
      have hent := enter_fill
      have hL1 : (flatTs args).length + 1 + k ≤ n := by omega
      have HX0 := Lib.hid (And.intro x0 x1)
      clear x0 x1
      go_wp2_with fail
      go_loopw [10, 37] (fun nv iv wr => ∃ (j : Nat) (c : Nat), j ≤ args.length ∧ iv = .int .i64 j ∧ nv = .int .i64 c ∧ Hid (c = k + 1 + (flatTs (args.take j)).length) ∧ c ≤ n ∧ Hid (Upd [B] w1 wr) ∧ Hid (Own [B] wr) ∧
          Hid (R_pl [B] wr [.slice (some ⟨B, 0, none⟩) n n] (row.take k ++ (((s, b) :: plTs (args.take j) s' b') ++ row.drop c)))) (fun _ iv _ => args.length - (intOf iv).toNat)
      case atStart =>
        refine ⟨0, k + 1, Nat.zero_le _, rfl, by go_num, Lib.hid (by simp [flatTs]), by omega, Lib.hid (Upd.refl _ _), HO1, Lib.hid ?_⟩
        have := HR1.out
        rw [List.set_eq_take_append_cons_drop, if_pos (by omega)] at this
        simpa [plTs] using this
      case round =>
        obtain ⟨wo, rfl⟩ : ∃ wo : World, wo = wr := ⟨_, rfl⟩
        obtain ⟨j, c, hj, rfl, rfl, HC, hcn, HU, HO, HR⟩ := hrel
        by_cases hlt : j < args.length
        · have hW := HW1.out.upd HU.out
          have cf := hW.f
          have y0 := HU.out.keepF (by simp; omega) HX0.out.1
          have y1 := HU.out.keepF (by simp; omega) HX0.out.2
          have hsp : flatTs args = flatTs (args.take j) ++ (flatT args[j] ++ flatTs (args.drop (j + 1))) := by
            conv => lhs; rw [← List.take_append_drop j args, flatTs_append, List.drop_eq_getElem_cons hlt]
            rfl
          have hlen := congrArg List.length hsp
          simp only [List.length_append] at hlen
          have hc := HC.out
          have hpt := plTs_len (args.take j) s' b'
          have hdj : body.drop c = flatT args[j] ++ (flatTs (args.drop (j + 1)) ++ post) := by
            have := congrArg (List.drop (flatTs (args.take j)).length) HDR.out
            rw [List.drop_drop, hsp, List.append_assoc, List.drop_append_of_le_length (Nat.le_refl _), List.drop_of_length_le (Nat.le_refl _), List.nil_append, List.append_assoc] at this
            rw [hc]; exact this
          have hokj : okT folP args[j] = true := by
            have := HOK.out.2
            rw [okTs_all, List.all_eq_true] at this
            exact this _ (List.getElem_mem hlt)
          have hrow : (row.take k ++ (((s, b) :: plTs (args.take j) s' b') ++ row.drop c)).length = n := by
            simp only [List.length_append, List.length_take, List.length_cons, List.length_drop, hpt, hrl]; omega
          have S2 := Lib.hid (HIH.out args[j] c (flatTs (args.drop (j + 1)) ++ post) s' b' wo _ (by omega) hokj hdj (by omega) (by omega) hrow hW HO.out HR.out)
          have HNX := Lib.hid (show (row.take k ++ (((s, b) :: plTs (args.take j) s' b') ++ row.drop c)).take c ++ (plT args[j] s' b' ++ (row.take k ++ (((s, b) :: plTs (args.take j) s' b') ++ row.drop c)).drop (c + (flatT args[j]).length)) = row.take k ++ (((s, b) :: plTs (args.take (j + 1)) s' b') ++ row.drop (c + (flatT args[j]).length)) from by
            have hA : ((s, b) :: plTs (args.take j) s' b').length = (flatTs (args.take j)).length + 1 := by rw [List.length_cons, hpt]
            have hB := plT_len args[j] s' b'
            have := fill_in row ((s, b) :: plTs (args.take j) s' b') (plT args[j] s' b') k (by omega)
            rw [hA, hB, show k + ((flatTs (args.take j)).length + 1) = c by omega] at this
            rw [this, plTs_take _ _ _ _ hlt]; simp)
          have HNC := Lib.hid (show c + (flatT args[j]).length = k + 1 + (flatTs (args.take (j + 1))).length by rw [flatTs_take _ _ hlt, List.length_append]; omega)
          have hle : c + (flatT args[j]).length ≤ n := by omega
          have hjl : (j : Int) < (args.length : Int) := by omega
          clear hsp hlen hc hpt hdj hokj hrow hW HR HO HC
          generalize (flatT args[j]).length = z at *
          go_wp2_with fail
          refine S2.out.mono ?_
          rintro e w2 ⟨rfl, hu2, ho2, hr2⟩
          have HU2 := Lib.hid (HU.out.trans hu2)
          rw [HNX.out] at hr2
          have HR2 := Lib.hid (And.intro ho2 hr2)
          clear hu2 ho2 hr2 S2 cf y0 y1 HU HNX
          go_wp2_with fail
          go_roundw
          case rel => exact ⟨j + 1, c + z, by omega, by go_num, by go_num, HNC, hle, HU2, Lib.hid HR2.out.1, Lib.hid HR2.out.2⟩
          case measure => simp [intOf]; omega
        · obtain rfl : j = args.length := by omega
          have HE := Lib.hid (And.intro HC.out HR.out)
          have hjl : ¬ (args.length : Int) < (args.length : Int) := by omega
          clear HR
          go_wp2_with fail
          go_ret
          obtain ⟨hc, hr⟩ := HE.out
          rw [List.take_length] at hc hr
          refine ⟨?_, UB1.out.trans HU.out, HO.out, ?_⟩
          · rw [show k + (flatT (Tr.mk p args)).length = c by rw [flatT, List.length_cons]; omega]; rfl
          · rw [HPL.out, HB1.out, ← HS'.out, show k + (flatT (Tr.mk p args)).length = c by rw [flatT, List.length_cons]; omega]; exact hr

theorem Tryz.infoPl : (Tryz.prog.info? 225).map (fun i => (i.zero, i.size, i.bytes)) = some (some (.agg #[.int .i64 0, .bool false]), 2, 16) := by kernel_rfl
set_option maxRecDepth 20000 in
set_option maxHeartbeats 4000000 in
theorem placesI (cs : List Value) (d : De) (x : Tr Pa) (w : World) (fp : List Nat) (hR : R_De fp w cs d) (hok : okT folP x = true) (hfl : flatT x = d.body) (hl : d.body.length ≤ 20) (hp0 : 0 ≤ d.pars) (hp1 : d.pars ≤ 3) :
    Calls Tryz.prog 208 #[.agg cs.toArray] w fun e w' => (∃ v', e = .returned v' ∧ New R_pl w w' v' (plT x d.pars false)) ∧ Upd [] w w' := by
  obtain ⟨i0, hi, hz0, hz1, hz2⟩ := info_parts Tryz.infoPl
  obtain ⟨v2, f2, rfl, h2, rfl⟩ := hR
  have h2' := h2
  obtain ⟨a, cap, rfl, g1, g2, -⟩ := slQ_open h2
  have hpos := flatT_pos x
  rw [hfl] at hpos
  have hxl := plT_len x d.pars false
  rw [hfl] at hxl
  have HFL := Lib.hid hfl
  have HOK := Lib.hid hok
  obtain ⟨wA, hwA⟩ : ∃ wA, wA = w.alloc (.cells #[es d.name, ei d.pars, .slice a d.body.length cap] 90) := ⟨_, rfl⟩
  obtain ⟨D, hD⟩ : ∃ D, D = w.heap.size := ⟨_, rfl⟩
  have uA : Upd [] w wA := by rw [hwA]; exact (Upd.refl _ _).alloc _
  have d1 : wA.cell? ⟨D, 1, none⟩ = some (ei d.pars) := by rw [hwA, hD]; exact cell_new w _ _ _ rfl 1 _ rfl
  have d2 : wA.cell? ⟨D, 2, none⟩ = some (.slice a d.body.length cap) := by rw [hwA, hD]; exact cell_new w _ _ _ rfl 2 _ rfl
  have hDA : D < wA.heap.size := by rw [hwA, hD]; simp
  have hDw : w.heap.size = D := hD.symm
  have HB2 := Lib.hid (R_Pa1k.lt h2)
  have HBR := Lib.hid (R_Pa1k.upd h2' uA (by simp))
  clear h2 h2' hfl hok
  unfold maxLen at g2
  generalize d.body = body at *
  generalize d.pars = P at *
  generalize hn : body.length = n at *
  have HN := Lib.hid hn
  have HXL := Lib.hid hxl
  have HDW := Lib.hid hDw
  have HPOS := Lib.hid hpos
  clear hn hxl hDw hpos
  have hm1 : i0.bytes * n ≤ 281474976710656 := by rw [hz2]; omega
  go_enter Tryz.func208, Tryz.ntmps208
  go_upto_region 1 with (fail)
  rw [← hwA, ← hD]
  clear hwA hD
  go_upto_region 2 with (first
    | (at_make; refine wpList_make_full _ rfl _ _ 221 rfl wA.heap.size 225 i0 (.agg #[.int .i64 0, .bool false]) 2 Tryz.underlying221 hi hz0 hz1 .i64 .i64 _ _ n rfl rfl rfl rfl hm1 (by unfold maxLen; omega) (Nat.le_refl _) ?_; intro w1 hown hgrow)
    | fail)
  obtain ⟨B, hB⟩ : ∃ B, B = wA.heap.size := ⟨_, rfl⟩
  rw [← hB] at hown ⊢
  rw [made_two] at hown
  obtain ⟨fo, hT, hO, hb0⟩ := New.ofOwns2 (w := wA) (w' := w1) (e := 225) (xs := List.replicate n ((0, false) : Int × Bool)) (e1 := fun t => ei t.1) (e2 := fun t => .bool t.2) (by
    have e : ((List.replicate n ()).flatMap fun _ => [Value.int .i64 0, Value.bool false]) = (List.replicate n ((0, false) : Int × Bool)).flatMap fun t => [ei t.1, .bool t.2] := by
      generalize n = m
      induction m with
      | zero => rfl
      | succ m ih => simp only [List.replicate_succ, List.flatMap_cons, ih]
    rw [← e, ← hB]; simpa using hown)
  have hT : R_pl fo w1 [.slice (some ⟨B, 0, none⟩) n n] (List.replicate n (0, false)) := hT
  have hfo : fo = [B] := by
    obtain ⟨a', q', hv, -, -, hcell⟩ := slF2_open hT
    obtain ⟨b', o', he, hfo, -⟩ := hcell 0 (by simp; have := HPOS.out; omega)
    simp only [Value.slice.injEq] at hv
    rw [← hv.1] at he
    simp only [Option.some.injEq, Addr.mk.injEq, and_true] at he
    rw [hfo, ← he.1]
  subst hfo
  have u1 : Upd [] wA w1 := (Upd.refl _ _).grown hgrow (by simp)
  have hB1 : B < w1.heap.size := hO.lt B (by simp)
  obtain ⟨O, hOO⟩ : ∃ O, O = w1.heap.size := ⟨_, rfl⟩
  obtain ⟨wO, hwO⟩ : ∃ q, q = w1.alloc (.cells #[.slice (some ⟨B, 0, none⟩) n n] 221) := ⟨_, rfl⟩
  obtain ⟨wF, hwF⟩ : ∃ q, q = wO.alloc (.cells #[.nilFunc] 239) := ⟨_, rfl⟩
  have uO : Upd [] w1 wO := by rw [hwO]; exact (Upd.refl _ _).alloc _
  have uF : Upd [] wO wF := by rw [hwF]; exact (Upd.refl _ _).alloc _
  have o0 : wF.cell? ⟨O, 0, none⟩ = some (.slice (some ⟨B, 0, none⟩) n n) := uF.keep (by rw [hwO, hOO]; exact cell_new w1 _ _ _ rfl 0 _ rfl)
  have sO : wO.heap.size = O + 1 := by rw [hwO, hOO]; simp
  have hhF : wF.heap[O + 1]? = some (.cells #[.nilFunc] 239 (0, 0)) := by rw [hwF, ← sO]; exact heap_alloc_new wO _
  have f0 : wF.cell? ⟨O + 1, 0, none⟩ = some .nilFunc := by simp [World.cell?, hhF]
  have zf : wF.frozen? ⟨O + 1, 0, none⟩ = false := by simp [World.frozen?, hhF]
  obtain ⟨wG, hwG⟩ : ∃ q, q = wF.setCell ⟨O + 1, 0, none⟩ (fillV O D (O + 1)) := ⟨_, rfl⟩
  have hx : ∀ b1 o1, b1 ≠ O + 1 → wG.cell? ⟨b1, o1, none⟩ = wF.cell? ⟨b1, o1, none⟩ := fun b1 o1 ho => by rw [hwG]; exact World.cell?_setCell_other _ _ _ _ (by intro h; simp only [Addr.mk.injEq] at h; omega)
  have uG : Upd [O + 1] wF wG := by rw [hwG]; exact (Upd.refl _ _).setCell (Or.inr (by simp)) _
  have hs1 := u1.size
  have u1F : Upd [] w1 wF := uO.trans uF
  have uwG : Upd [] wA wG := (u1.trans u1F).fresh uG (fun b hb => Or.inl (by simp at hb; omega))
  have gf : wG.cell? ⟨O + 1, 0, none⟩ = some (fillV O D (O + 1)) := by rw [hwG]; exact World.cell?_setCell_same _ _ _ f0
  have g1 : wG.cell? ⟨D, 1, none⟩ = some (ei P) := uwG.keep d1
  have nD : D ≠ O + 1 := by omega
  have hFW : FillW O D (O + 1) B n (.slice a n cap) f2 body wG := by
    refine ⟨(hx O 0 (by omega)).trans o0, uwG.keep d2, gf, R_Pa1k.upd HBR.out uwG (by simp), by omega, by omega, by omega, fun h => ?_⟩
    have := HB2.out B h
    have := HDW.out
    omega
  have hOG : Own [B] wG := (hO.upd u1F (by simp)).upd uG (by intro b hb; simp at hb ⊢; omega)
  have hTG := R_plk.upd (R_plk.upd hT u1F (by simp)) uG (by intro b hb; simp at hb ⊢; omega)
  have S1 := Lib.hid (fillI O D (O + 1) B n (.slice a n cap) f2 body (by omega) HN.out 20 x 0 [] P false wG _ (by rw [HFL.out, HN.out]; omega) HOK.out (by simp [HFL.out]) hp0 (by omega) (by simp) hFW hOG hTG)
  have HRES := Lib.hid (show (List.replicate n ((0, false) : Int × Bool)).take 0 ++ (plT x P false ++ (List.replicate n ((0, false) : Int × Bool)).drop (0 + (flatT x).length)) = plT x P false by
    rw [List.drop_of_length_le (by simp [HFL.out, HN.out])]; simp)
  have UA := Lib.hid uA
  have UG := Lib.hid uwG
  have HFIN := Lib.hid (And.intro hFW.o (show B ≠ O by omega))
  have HBA := Lib.hid (show wA.heap.size ≤ B by omega)
  have hent := enter_fill
  clear hFW hOG hTG uwG uA hs1 u1F u1 uO uF uG hx hT hO hb0 hgrow hown
  clear hB
  go_upto_region 3 with (fail)
  rw [← hwO, ← hOO, ← hwF]
  clear hwO hwF hOO o0
  go_upto_region 4 with (fail)
  rw [← hwG]
  clear hwG f0 zf hhF sO
  go_wp2_with fail
  refine S1.out.mono ?_
  rintro e w2 ⟨rfl, hu, ho, hr⟩
  have c0 := hu.keepF (by simp; exact HFIN.out.2.symm) HFIN.out.1
  rw [HRES.out] at hr
  have HE := Lib.hid (And.intro hu (And.intro ho hr))
  clear hu ho hr S1 gf g1
  go_wp2_with fail
  go_ret
  obtain ⟨hu, ho, hr⟩ := HE.out
  have hBA := HBA.out
  have hua := UA.out.size
  exact ⟨⟨_, rfl, [B], hr, ho, by simp; omega⟩, (UA.out.trans UG.out).fresh hu (fun b hb => Or.inl (by simp at hb; omega))⟩

end Go.Proofs.YtnchmnjkmhfleaaGreat

/-
  Why a part of a body is not valid: what the program's call returns.
-/
namespace Go.Proofs.YtnchmnjkmhfleaaGreat
open Go.RowKit

theorem enter_reason1 (args : Array Value) (w : World) : Sem.run Tryz.prog (callFunc 227 args) w = .ok (.enter 227 args) w := by go_simp
set_option maxRecDepth 20000 in
set_option maxHeartbeats 2000000 in
theorem reason1I (u : Value) (x : List Tm) (sc : Int) (B : Nat) (W : World) (f : List Nat) (h0 : 0 ≤ sc) (h1 : sc ≤ 29) (hR : R_T1 f W [u] x) (c0 : W.cell? ⟨B, 0, none⟩ = some (ei sc)) :
    Calls Tryz.prog 227 #[u, .pointer (some ⟨B, 0, none⟩)] W fun e w' => e = .returned (.bool (!isE x sc 15)) ∧ Upd [] W w' := by
  have hv : validE x sc 15 = isE x sc 15 := by
    unfold validE; rw [inB_mk (by omega), inB_mk (by omega)]; rfl
  have S1 := Lib.hid (validTerms u x sc 15 W f hR)
  rw [hv] at S1
  clear hv hR
  generalize isE x sc 15 = q at *
  go_enter Tryz.func227, Tryz.ntmps227
  go_wp2_with fail
  refine S1.out.mono ?_
  rintro e w1 ⟨rfl, hu⟩
  have HU := Lib.hid hu
  clear hu S1
  go_wp2_with fail
  go_ret
  exact ⟨rfl, HU.out⟩

set_option maxRecDepth 20000 in
set_option maxHeartbeats 8000000 in
theorem reasonI (ds : List De) (dv : Value) (fd : List Nat) (cs : List Value) (p : Pa) (fp : List Nat) (sc : Int) (bh : Bool) (w : World) (hD : R_De1 fd w [dv] ds) (hR : R_Pa fp w cs p) (hdl : ds.length ≤ 1000000) (hnl : p.name.length ≤ 2000000) (hal : p.args.length ≤ 2000000) (hs0 : 0 ≤ sc) (hs1 : sc ≤ 29) :
    Calls Tryz.prog 209 #[.agg cs.toArray, dv, .agg #[ei sc, .bool bh]] w fun e w' => e = .returned (.int .i64 (reasonP ds p sc bh)) ∧ Upd [] w w' := by
  have hD' := hD
  obtain ⟨ad, dq, rfl, dg1, dg2, -⟩ := slQ_open hD
  unfold maxLen at dg2
  obtain ⟨v3, f3, rfl, h3, rfl⟩ := hR
  have h3' := h3
  obtain ⟨aa, aq, rfl, ag1, ag2, -⟩ := slP_open h3
  unfold maxLen at ag2
  have HM := Lib.hid (show reasonP ds p sc bh = (if (!kindP p) = true then 2 else if ((p.kind == 1) && (!(p.name == tauL) && !actF p.name)) = true then 3 else if ((p.kind == 4 && !inB p.num 1 7) || (p.kind == 5 && !inB p.num 0 ((ds.length : Int) - 1))) = true then 4 else if (!countP ds p) = true then 5 else if (p.kind == 5 && !bh) = true then 6 else if (p.kind == 4 && decide (6 ≤ sc)) = true then 7 else if (p.args.any (fun e => !isE e sc 15)) = true then 8 else 0) by
    have := name_act p.name
    simp only [bne] at this
    rw [this]; rfl)
  obtain ⟨wA, hwA⟩ : ∃ wA, wA = (w.alloc (.cells #[ei p.kind, ei p.num, es p.name, .slice aa p.args.length aq] 109)).alloc (.cells #[ei sc, .bool bh] 225) := ⟨_, rfl⟩
  obtain ⟨BA, hBA⟩ : ∃ BA, BA = w.heap.size := ⟨_, rfl⟩
  have uA : Upd [] w wA := by rw [hwA]; exact ((Upd.refl _ _).alloc _).alloc _
  have HC := Lib.hid (fun W (hu : Upd [] wA W) => show W.cell? ⟨BA, 0, none⟩ = some (ei p.kind) ∧ W.cell? ⟨BA, 1, none⟩ = some (ei p.num) ∧ W.cell? ⟨BA, 2, none⟩ = some (es p.name) ∧ W.cell? ⟨BA, 3, none⟩ = some (.slice aa p.args.length aq) ∧ W.cell? ⟨BA + 1, 0, none⟩ = some (ei sc) ∧ W.cell? ⟨BA + 1, 1, none⟩ = some (.bool bh) from by
    have s1 : (w.alloc (.cells #[ei p.kind, ei p.num, es p.name, .slice aa p.args.length aq] 109)).heap.size = BA + 1 := by rw [hBA]; simp
    have hk : ∀ (j : Nat) c, (#[ei p.kind, ei p.num, es p.name, .slice aa p.args.length aq] : Array Value)[j]? = some c → wA.cell? ⟨BA, j, none⟩ = some c := fun j c hc => by
      rw [hwA, hBA]; exact ((Upd.refl [] _).alloc _).keep (cell_new w _ _ _ rfl j _ hc)
    exact ⟨hu.keep (hk 0 _ rfl), hu.keep (hk 1 _ rfl), hu.keep (hk 2 _ rfl), hu.keep (hk 3 _ rfl), hu.keep (by rw [hwA]; exact cell_new _ _ _ _ s1 0 _ rfl), hu.keep (by rw [hwA]; exact cell_new _ _ _ _ s1 1 _ rfl)⟩)
  have SK := Lib.hid (kindOkI p aa aq wA)
  have SC := Lib.hid (fun (hn : p.kind = 5 → 0 ≤ p.num ∧ p.num < ds.length) W (hu : Upd [] w W) => countOkI ds (.slice ad ds.length dq) fd p aa aq W (R_De1k.upd hD' hu (by simp)) hn hal)
  have SA := Lib.hid (fun W => isActionI p.name W hnl)
  have SW := Lib.hid (fun W => within p.num 1 7 W)
  have SI := Lib.hid (fun W => idxI p.num ds.length W hdl)
  have SV := Lib.hid (fun W (hu : Upd [] wA W) (c3 : W.cell? ⟨BA + 1, 0, none⟩ = some (ei sc)) =>
    containsFuncE (fun e => !isE e sc 15) 227 #[.pointer (some ⟨BA + 1, 0, none⟩)] (.slice aa p.args.length aq) p.args W f3 (R_T2k.upd h3' (uA.trans hu) (by simp)) enter_reason1 (fun wr u f y hu2 hy => reason1I u y sc (BA + 1) wr f hs0 hs1 hy (hu2.keep c3)))
  have UA := Lib.hid uA
  have HI := Lib.hid (fun (h : inB p.num 0 ((ds.length : Int) - 1) = true) => show 0 ≤ p.num ∧ p.num < ds.length by have := inB_true h; omega)
  obtain ⟨c0, c1, c2, c3, d0, d1⟩ := HC.out wA (Upd.refl _ _)
  clear hD hD' h3 h3' uA
  obtain ⟨k, num, name, args⟩ := p
  simp only at *
  generalize reasonP ds ⟨k, num, name, args⟩ sc bh = Z at *
  generalize kindP ⟨k, num, name, args⟩ = qk at *
  generalize countP ds ⟨k, num, name, args⟩ = qc at *
  generalize actF name = qa at *
  generalize inB num 1 7 = r4 at *
  generalize inB num 0 ((ds.length : Int) - 1) = r5 at *
  generalize (args.any fun e => !isE e sc 15) = ga at *
  generalize args.length = n at *
  generalize ds.length = N at *
  obtain ⟨q1, h1⟩ : ∃ q, (k == 1) = q := ⟨_, rfl⟩
  obtain ⟨q4, h4⟩ : ∃ q, (k == 4) = q := ⟨_, rfl⟩
  obtain ⟨q5, h5⟩ : ∃ q, (k == 5) = q := ⟨_, rfl⟩
  obtain ⟨t0, ht⟩ : ∃ q, (name == tauL) = q := ⟨_, rfl⟩
  obtain ⟨s6, hs⟩ : ∃ q, decide (6 ≤ sc) = q := ⟨_, rfl⟩
  rw [h1, h4, h5, ht, hs] at HM
  have htb : (name == [116, 97, 117]) = t0 := ht
  obtain ⟨t1, htn⟩ : ∃ q, (name != [116, 97, 117]) = q := ⟨_, rfl⟩
  have ht1 : t1 = !t0 := by rw [← htn, ← ht]; rfl
  have hent := enter_reason1
  clear ht
  go_enter Tryz.func209, Tryz.ntmps209
  go_upto_region 1 with (fail)
  rw [← hwA, ← hBA]
  clear hwA hBA
  go_wp2_with fail
  refine SK.out.mono ?_
  rintro e w1 ⟨rfl, hu⟩
  have HU := Lib.hid hu
  clear hu SK c0 c1 c2 c3 d0 d1
  obtain ⟨c0, c1, c2, c3, d0, d1⟩ := HC.out w1 HU.out
  cases qk with
  | false =>
    have HZ := Lib.hid (UA.out.trans HU.out)
    clear HC HU UA
    go_wp2_with fail
    go_ret
    exact ⟨by rw [HM.out]; rfl, HZ.out⟩
  | true =>
    cases q1 with
    | false =>
      cases q4 with
      | false =>
        cases q5 with
        | false =>
          replace SC := Lib.hid (SC.out (fun h => absurd h (by simpa using h5)))
          have TT := Lib.hid (SC.out w1 (UA.out.trans HU.out))
          clear SC
          go_wp2_with fail
          refine TT.out.mono ?_
          rintro e w1 ⟨rfl, hu⟩
          replace HU := Lib.hid (HU.out.trans hu)
          clear hu TT c0 c1 c2 c3 d0 d1
          obtain ⟨c0, c1, c2, c3, d0, d1⟩ := HC.out w1 HU.out
          cases qc with
          | false =>
            have HZ := Lib.hid (UA.out.trans HU.out)
            clear HC HU UA
            go_wp2_with fail
            go_ret
            exact ⟨by rw [HM.out]; rfl, HZ.out⟩
          | true =>
            have TT := Lib.hid (SV.out w1 HU.out d0)
            go_wp2_with fail
            refine TT.out.mono ?_
            rintro e w2 ⟨rfl, hu⟩
            replace HU := Lib.hid (HU.out.trans hu)
            clear hu TT c0 c1 c2 c3 d0 d1
            obtain ⟨c0, c1, c2, c3, d0, d1⟩ := HC.out w2 HU.out
            cases ga with
            | false =>
              have HZ := Lib.hid (UA.out.trans HU.out)
              clear HC HU UA
              go_wp2_with fail
              go_ret
              exact ⟨by rw [HM.out]; rfl, HZ.out⟩
            | true =>
              have HZ := Lib.hid (UA.out.trans HU.out)
              clear HC HU UA
              go_wp2_with fail
              go_ret
              exact ⟨by rw [HM.out]; rfl, HZ.out⟩
        | true =>
          obtain rfl : k = 5 := by simpa using h5
          have TT := Lib.hid (SI.out w1)
          go_wp2_with fail
          refine TT.out.mono ?_
          rintro e wq ⟨rfl, rfl⟩
          clear TT
          cases r5 with
          | false =>
            have HZ := Lib.hid (UA.out.trans HU.out)
            clear HC HU UA
            go_wp2_with fail
            go_ret
            exact ⟨by rw [HM.out]; rfl, HZ.out⟩
          | true =>
            replace SC := Lib.hid (SC.out (fun _ => HI.out rfl))
            have TT := Lib.hid (SC.out w1 (UA.out.trans HU.out))
            clear SC
            go_wp2_with fail
            refine TT.out.mono ?_
            rintro e w9 ⟨rfl, hu⟩
            replace HU := Lib.hid (HU.out.trans hu)
            clear hu TT c0 c1 c2 c3 d0 d1
            obtain ⟨c0, c1, c2, c3, d0, d1⟩ := HC.out w9 HU.out
            cases qc with
            | false =>
              have HZ := Lib.hid (UA.out.trans HU.out)
              clear HC HU UA
              go_wp2_with fail
              go_ret
              exact ⟨by rw [HM.out]; rfl, HZ.out⟩
            | true =>
              cases bh with
              | false =>
                have HZ := Lib.hid (UA.out.trans HU.out)
                clear HC HU UA
                go_wp2_with fail
                go_ret
                exact ⟨by rw [HM.out]; rfl, HZ.out⟩
              | true =>
                have TT := Lib.hid (SV.out w9 HU.out d0)
                go_wp2_with fail
                refine TT.out.mono ?_
                rintro e w10 ⟨rfl, hu⟩
                replace HU := Lib.hid (HU.out.trans hu)
                clear hu TT c0 c1 c2 c3 d0 d1
                obtain ⟨c0, c1, c2, c3, d0, d1⟩ := HC.out w10 HU.out
                cases ga with
                | false =>
                  have HZ := Lib.hid (UA.out.trans HU.out)
                  clear HC HU UA
                  go_wp2_with fail
                  go_ret
                  exact ⟨by rw [HM.out]; rfl, HZ.out⟩
                | true =>
                  have HZ := Lib.hid (UA.out.trans HU.out)
                  clear HC HU UA
                  go_wp2_with fail
                  go_ret
                  exact ⟨by rw [HM.out]; rfl, HZ.out⟩
      | true =>
        obtain rfl : k = 4 := by simpa using h4
        obtain rfl : false = q5 := h5
        replace SC := Lib.hid (SC.out (fun h => absurd h (by decide)))
        have TT := Lib.hid (SW.out w1)
        go_wp2_with fail
        refine TT.out.mono ?_
        rintro e wq ⟨rfl, rfl⟩
        clear TT
        cases r4 with
        | false =>
          have HZ := Lib.hid (UA.out.trans HU.out)
          clear HC HU UA
          go_wp2_with fail
          go_ret
          exact ⟨by rw [HM.out]; rfl, HZ.out⟩
        | true =>
          have TT := Lib.hid (SC.out w1 (UA.out.trans HU.out))
          clear SC
          go_wp2_with fail
          refine TT.out.mono ?_
          rintro e w7 ⟨rfl, hu⟩
          replace HU := Lib.hid (HU.out.trans hu)
          clear hu TT c0 c1 c2 c3 d0 d1
          obtain ⟨c0, c1, c2, c3, d0, d1⟩ := HC.out w7 HU.out
          cases qc with
          | false =>
            have HZ := Lib.hid (UA.out.trans HU.out)
            clear HC HU UA
            go_wp2_with fail
            go_ret
            exact ⟨by rw [HM.out]; rfl, HZ.out⟩
          | true =>
            cases s6 with
            | false =>
              have hs2 : ¬ (6 ≤ sc) := of_decide_eq_false hs
              have TT := Lib.hid (SV.out w7 HU.out d0)
              go_wp2_with fail
              refine TT.out.mono ?_
              rintro e w8 ⟨rfl, hu⟩
              replace HU := Lib.hid (HU.out.trans hu)
              clear hu TT c0 c1 c2 c3 d0 d1
              obtain ⟨c0, c1, c2, c3, d0, d1⟩ := HC.out w8 HU.out
              cases ga with
              | false =>
                have HZ := Lib.hid (UA.out.trans HU.out)
                clear HC HU UA
                go_wp2_with fail
                go_ret
                exact ⟨by rw [HM.out]; rfl, HZ.out⟩
              | true =>
                have HZ := Lib.hid (UA.out.trans HU.out)
                clear HC HU UA
                go_wp2_with fail
                go_ret
                exact ⟨by rw [HM.out]; rfl, HZ.out⟩
            | true =>
              have hs2 : 6 ≤ sc := of_decide_eq_true hs
              have HZ := Lib.hid (UA.out.trans HU.out)
              clear HC HU UA
              go_wp2_with fail
              go_ret
              exact ⟨by rw [HM.out]; rfl, HZ.out⟩
    | true =>
      obtain rfl : k = 1 := by simpa using h1
      obtain rfl : false = q4 := h4
      obtain rfl : false = q5 := h5
      replace SC := Lib.hid (SC.out (fun h => absurd h (by decide)))
      cases t0 with
      | false =>
        obtain rfl := ht1
        simp only [Bool.not_false] at htn
        have TT := Lib.hid (SA.out w1)
        go_wp2_with fail
        refine TT.out.mono ?_
        rintro e wq ⟨rfl, rfl⟩
        clear TT
        cases qa with
        | false =>
          have HZ := Lib.hid (UA.out.trans HU.out)
          clear HC HU UA
          go_wp2_with fail
          go_ret
          exact ⟨by rw [HM.out]; rfl, HZ.out⟩
        | true =>
          have TT := Lib.hid (SC.out w1 (UA.out.trans HU.out))
          clear SC
          go_wp2_with fail
          refine TT.out.mono ?_
          rintro e w3 ⟨rfl, hu⟩
          replace HU := Lib.hid (HU.out.trans hu)
          clear hu TT c0 c1 c2 c3 d0 d1
          obtain ⟨c0, c1, c2, c3, d0, d1⟩ := HC.out w3 HU.out
          cases qc with
          | false =>
            have HZ := Lib.hid (UA.out.trans HU.out)
            clear HC HU UA
            go_wp2_with fail
            go_ret
            exact ⟨by rw [HM.out]; rfl, HZ.out⟩
          | true =>
            have TT := Lib.hid (SV.out w3 HU.out d0)
            go_wp2_with fail
            refine TT.out.mono ?_
            rintro e w4 ⟨rfl, hu⟩
            replace HU := Lib.hid (HU.out.trans hu)
            clear hu TT c0 c1 c2 c3 d0 d1
            obtain ⟨c0, c1, c2, c3, d0, d1⟩ := HC.out w4 HU.out
            cases ga with
            | false =>
              have HZ := Lib.hid (UA.out.trans HU.out)
              clear HC HU UA
              go_wp2_with fail
              go_ret
              exact ⟨by rw [HM.out]; rfl, HZ.out⟩
            | true =>
              have HZ := Lib.hid (UA.out.trans HU.out)
              clear HC HU UA
              go_wp2_with fail
              go_ret
              exact ⟨by rw [HM.out]; rfl, HZ.out⟩
      | true =>
        obtain rfl := ht1
        simp only [Bool.not_true] at htn
        have TT := Lib.hid (SC.out w1 (UA.out.trans HU.out))
        clear SC
        go_wp2_with fail
        refine TT.out.mono ?_
        rintro e w5 ⟨rfl, hu⟩
        replace HU := Lib.hid (HU.out.trans hu)
        clear hu TT c0 c1 c2 c3 d0 d1
        obtain ⟨c0, c1, c2, c3, d0, d1⟩ := HC.out w5 HU.out
        cases qc with
        | false =>
          have HZ := Lib.hid (UA.out.trans HU.out)
          clear HC HU UA
          go_wp2_with fail
          go_ret
          exact ⟨by rw [HM.out]; rfl, HZ.out⟩
        | true =>
          have TT := Lib.hid (SV.out w5 HU.out d0)
          go_wp2_with fail
          refine TT.out.mono ?_
          rintro e w6 ⟨rfl, hu⟩
          replace HU := Lib.hid (HU.out.trans hu)
          clear hu TT c0 c1 c2 c3 d0 d1
          obtain ⟨c0, c1, c2, c3, d0, d1⟩ := HC.out w6 HU.out
          cases ga with
          | false =>
            have HZ := Lib.hid (UA.out.trans HU.out)
            clear HC HU UA
            go_wp2_with fail
            go_ret
            exact ⟨by rw [HM.out]; rfl, HZ.out⟩
          | true =>
            have HZ := Lib.hid (UA.out.trans HU.out)
            clear HC HU UA
            go_wp2_with fail
            go_ret
            exact ⟨by rw [HM.out]; rfl, HZ.out⟩

end Go.Proofs.YtnchmnjkmhfleaaGreat

/-
  The first part of a body that is not valid: what the program's call returns.
-/
namespace Go.Proofs.YtnchmnjkmhfleaaGreat
open Go.RowKit

/-- what bounds a definition that is looked at. -/
def DeFit (d : De) : Prop := d.body.length ≤ 2000000 ∧ ∀ p ∈ d.body, p.name.length ≤ 2000000 ∧ p.args.length ≤ 2000000

set_option maxRecDepth 20000 in
set_option maxHeartbeats 8000000 in
theorem bodyFaultI (ds : List De) (dv : Value) (fd : List Nat) (cs : List Value) (d : De) (fp : List Nat) (w : World) (hD : R_De1 fd w [dv] ds) (hdl : ds.length ≤ 1000000) (hR : R_De fp w cs d) (hF : DeFit d) (hp0 : 0 ≤ d.pars) (hp1 : d.pars ≤ 3) :
    Calls Tryz.prog 171 #[dv, .agg cs.toArray] w fun e w' => e = .returned (.tuple #[.int .i64 (faultP ds d).1, .int .i64 (faultP ds d).2]) ∧ Upd [] w w' := by
  have hR' := hR
  obtain ⟨v2, f2, rfl, h2, rfl⟩ := hR
  have h2' := h2
  obtain ⟨a, cap, rfl, g1, g2, hc⟩ := slQ_open h2
  obtain ⟨ad, qd, rfl, -, -, -⟩ := slQ_open hD
  unfold maxLen at g2
  obtain ⟨wA, hwA⟩ : ∃ wA, wA = w.alloc (.cells #[es d.name, ei d.pars, .slice a d.body.length cap] 90) := ⟨_, rfl⟩
  obtain ⟨BA, hBA⟩ : ∃ BA, BA = w.heap.size := ⟨_, rfl⟩
  have uA : Upd [] w wA := by rw [hwA]; exact (Upd.refl _ _).alloc _
  have HC := Lib.hid (fun W (hu : Upd [] wA W) => show W.cell? ⟨BA, 0, none⟩ = some (es d.name) ∧ W.cell? ⟨BA, 1, none⟩ = some (ei d.pars) ∧ W.cell? ⟨BA, 2, none⟩ = some (.slice a d.body.length cap) from
    ⟨hu.keep (by rw [hwA, hBA]; exact cell_new w _ _ _ rfl 0 _ rfl), hu.keep (by rw [hwA, hBA]; exact cell_new w _ _ _ rfl 1 _ rfl), hu.keep (by rw [hwA, hBA]; exact cell_new w _ _ _ rfl 2 _ rfl)⟩)
  have HM := Lib.hid (show faultP ds d = if (inB (d.body.length : Int) 1 20 && shapeG folP 1 d.body) = true then faultFrom ds d d.body 0 d.body else (0, 1) by
    unfold faultP bodyOk inB
    rw [show decide ((1 : Int) ≤ (d.body.length : Int)) = decide (1 ≤ d.body.length) by congr 1; rw [eq_iff_iff]; omega, show decide ((d.body.length : Int) ≤ 20) = decide (d.body.length ≤ 20) by congr 1; rw [eq_iff_iff]; omega])
  have SW := Lib.hid (fun W => within (d.body.length : Int) 1 20 W)
  have SQ := Lib.hid (fun n => (show Calls Tryz.prog 100 #[.int .i64 (d.body.length : Int), .int .i64 1, .int .i64 20] (wA.drewN n) fun e w' => e = .returned (.bool (inB (d.body.length : Int) 1 20)) ∧ ∃ m, w' = wA.drewN m from (within (d.body.length : Int) 1 20 (wA.drewN n)).mono fun e w' ⟨h, hw⟩ => ⟨h, n, hw.symm⟩))
  have HRD := Lib.hid (fun W (hu : Upd [] w W) => R_Dek.upd hR' hu (by simp))
  have UA := Lib.hid uA
  have HFIT := Lib.hid hF
  obtain ⟨c0, c1, c2⟩ := HC.out wA (Upd.refl _ _)
  cases hin : inB (d.body.length : Int) 1 20 with
  | false =>
    rw [hin] at SQ
    have HZ := Lib.hid (show faultP ds d = (0, 1) by rw [HM.out, hin]; rfl)
    generalize faultP ds d = Z at *
    clear HM hin HRD HFIT hR' h2 h2' hc hF hD uA HC
    go_enter Tryz.func171, Tryz.ntmps171
    go_upto_region 1 with (fail)
    rw [← hwA, ← hBA]
    clear hwA hBA
    go_wp2_with fail
    go_quiet ((go_at_call 100; with_reducible exact SQ.out _))
    have HU := Lib.hid (UA.out.drewN nq)
    go_wp2_with fail
    go_ret2
    exact ⟨by rw [HZ.out]; rfl, HU.out⟩
  | true =>
    have h20 := inB_true hin
    rw [hin] at SW
    rw [hin, Bool.true_and] at HM
    have SE := Lib.hid (fun W (hu : Upd [] wA W) => endDI _ d W _ (HRD.out W (UA.out.trans hu)) (by omega))
    have hl20 : d.body.length ≤ 20 := by omega
    clear hin h20 SQ hR' h2 uA
    go_enter Tryz.func171, Tryz.ntmps171
    go_upto_region 1 with (fail)
    rw [← hwA, ← hBA]
    clear hwA hBA
    go_wp2_with fail
    go_region_held3 (fun w' => w'.cell? ⟨BA, 0, none⟩ = some (es d.name) ∧ w'.cell? ⟨BA, 1, none⟩ = some (ei d.pars) ∧ w'.cell? ⟨BA, 2, none⟩ = some (.slice a d.body.length cap)) (go_keep)
      (first
        | (go_at_call 100; (with_reducible refine (SW.out _).mono ?_); rintro e wq ⟨rfl, rfl⟩)
        | (go_at_call 207; (with_reducible refine (SE.out _ (by repeat (first | exact Upd.refl _ _ | refine Upd.drew ?_ | refine Upd.drewN ?_ _))).mono ?_); rintro e w1 ⟨⟨r, rfl, hr0, hr1, hr2⟩, hu1⟩; have d0 := hu1.keep c0; have d1 := hu1.keep c1; have d2 := hu1.keep c2))
    all_goals
      have hne : (r != (d.body.length : Int)) = !shapeG folP 1 d.body := by rw [← hr2]; rfl
      have HU := Lib.hid ((Upd.refl [] wA).drew.trans hu1)
      rw [hne]
      clear hne hr0 hr1 hr2 hu1 SW SE c0 c1 c2
      obtain ⟨sh, hsh⟩ : ∃ q, shapeG folP 1 d.body = q := ⟨_, rfl⟩
      rw [hsh] at HM ⊢
      cases sh with
      | false =>
        have HZ := Lib.hid (show faultP ds d = (0, 1) by rw [HM.out]; rfl)
        clear HM hsh HRD HFIT h2' hc hF hD HC
        go_wp2_with fail
        go_ret2
        exact ⟨by rw [HZ.out]; rfl, UA.out.trans HU.out⟩
      | true =>
        obtain ⟨x, -, hok, hfl⟩ := forestT_one folP_nn hsh
        have HZ := Lib.hid (show faultP ds d = faultFrom ds d d.body 0 d.body by rw [HM.out]; rfl)
        have SP := Lib.hid (placesI _ d x w1 _ (HRD.out w1 (UA.out.trans HU.out)) hok hfl hl20 hp0 hp1)
        have HPL := Lib.hid (fun i (hi : i < d.body.length) => place_at hok hfl i hi)
        have HPN := Lib.hid (show (plT x d.pars false).length = d.body.length by rw [plT_len, hfl])
        clear HM hsh hok hfl
        generalize plT x d.pars false = pl at *
        go_wp2_with fail
        refine SP.out.mono ?_
        rintro e w2 ⟨⟨v', rfl, hnew⟩, hu2⟩
        obtain ⟨apl, cpl, rfl⟩ := New.form hnew
        obtain ⟨fpl, hpr, -, -⟩ := hnew
        have HPR := Lib.hid hpr
        have e2 := hu2.keep d2
        have HU2 := Lib.hid ((UA.out.trans HU.out).trans hu2)
        clear SP hu2 hpr d0 d1 d2
        have hpl' := HPN.out
        rw [hpl']
        clear hpl'
        go_wp2_with fail
        go_loopw [28] (fun iv wr => ∃ k : Nat, k ≤ d.body.length ∧ iv = .int .i64 k ∧ Hid (Upd [] w2 wr) ∧ Hid (faultFrom ds d d.body k (d.body.drop k) = faultFrom ds d d.body 0 d.body)) (fun iv _ => d.body.length - (intOf iv).toNat)
        case atStart => exact ⟨0, Nat.zero_le _, rfl, Lib.hid (Upd.refl _ _), Lib.hid rfl⟩
        case round =>
          obtain ⟨wo, rfl⟩ : ∃ wo : World, wo = wr := ⟨_, rfl⟩
          obtain ⟨k, hk, rfl, HUk, HF⟩ := hrel
          by_cases hlt : k < d.body.length
          · obtain ⟨bb, off, u, f', rfl, -, -, -, hcell, -, hr⟩ := hc k hlt
            have hr' := hr
            obtain ⟨v3, f3, rfl, h3, rfl⟩ := hr
            obtain ⟨a3, c3, rfl, -, -, -⟩ := slP_open h3
            have UW := Lib.hid (HU2.out.trans HUk.out)
            have s0 := UW.out.keep (hcell 0 _ rfl)
            have s1 := UW.out.keep (hcell 1 _ rfl)
            have s2 := UW.out.keep (hcell 2 _ rfl)
            have s3 := UW.out.keep (hcell 3 _ rfl)
            simp only [Nat.add_zero] at s0
            obtain ⟨ap, qp, hvp, -, hqp, hrc⟩ := slF2_open HPR.out
            obtain ⟨bp, op, rfl, -, -, r1, r2⟩ := hrc k (by rw [HPN.out]; exact hlt)
            simp only [Value.slice.injEq] at hvp
            obtain ⟨rfl, -, -⟩ := hvp
            have hplk : pl[k]'(by rw [HPN.out]; exact hlt) = (d.pars + cntB folP sumP d.body k, behindP d.body k) := by
              have := HPL.out k hlt
              rw [List.getElem?_eq_getElem (by rw [HPN.out]; exact hlt)] at this
              exact Option.some.inj this
            rw [hplk] at r1 r2
            have r1 := HUk.out.keep r1
            have r2 := HUk.out.keep r2
            have hcb := cntB_bd folP sumP d.body k
            have hfk := HFIT.out.2 d.body[k] (List.getElem_mem hlt)
            have hf := HF.out
            rw [List.drop_eq_getElem_cons hlt, faultFrom] at hf
            have HFN := Lib.hid hf
            have hsc0 : 0 ≤ d.pars + cntB folP sumP d.body k := by omega
            have hsc1 : d.pars + cntB folP sumP d.body k ≤ 29 := by omega
            have HR := Lib.hid (fun W (hu : Upd [] wo W) => reasonI ds (.slice ad ds.length qd) fd _ d.body[k] _ (d.pars + cntB folP sumP d.body k) (behindP d.body k) W (R_De1k.upd hD (UW.out.trans hu) (by simp)) (R_Pak.upd hr' (UW.out.trans hu) (by simp)) hdl hfk.1 hfk.2 hsc0 hsc1)
            have hkl : (k : Int) < (d.body.length : Int) := by omega
            have hrn := reasonP_nn ds d.body[k] (d.pars + cntB folP sumP d.body k) (behindP d.body k)
            clear hf hrc hplk hcb hfk hr' hcell h3 hsc0 hsc1
            generalize reasonP ds d.body[k] (d.pars + cntB folP sumP d.body k) (behindP d.body k) = rz at *
            generalize d.pars + cntB folP sumP d.body k = sc at *
            generalize behindP d.body k = bh at *
            generalize d.body[k] = p at *
            obtain ⟨wP, hwP⟩ : ∃ q, q = wo.alloc (.cells #[ei p.kind, ei p.num, es p.name, .slice a3 p.args.length c3] 109) := ⟨_, rfl⟩
            obtain ⟨BP, hBP⟩ : ∃ q, q = wo.heap.size := ⟨_, rfl⟩
            have uP : Upd [] wo wP := by rw [hwP]; exact (Upd.refl _ _).alloc _
            have x0 : wP.cell? ⟨BP, 0, none⟩ = some (ei p.kind) := by rw [hwP, hBP]; exact cell_new wo _ _ _ rfl 0 _ rfl
            have x1 : wP.cell? ⟨BP, 1, none⟩ = some (ei p.num) := by rw [hwP, hBP]; exact cell_new wo _ _ _ rfl 1 _ rfl
            have x2 : wP.cell? ⟨BP, 2, none⟩ = some (es p.name) := by rw [hwP, hBP]; exact cell_new wo _ _ _ rfl 2 _ rfl
            have x3 : wP.cell? ⟨BP, 3, none⟩ = some (.slice a3 p.args.length c3) := by rw [hwP, hBP]; exact cell_new wo _ _ _ rfl 3 _ rfl
            have r1 := uP.keep r1
            have r2 := uP.keep r2
            have UP := Lib.hid uP
            clear uP
            go_upto_region 7 with (fail)
            rw [← hwP, ← hBP]
            clear hwP hBP s0 s1 s2 s3
            go_region_held3 (fun w' => w'.cell? ⟨BP, 0, none⟩ = some (ei p.kind) ∧ w'.cell? ⟨BP, 1, none⟩ = some (ei p.num) ∧ w'.cell? ⟨BP, 2, none⟩ = some (es p.name) ∧ w'.cell? ⟨BP, 3, none⟩ = some (.slice a3 p.args.length c3) ∧ w'.cell? ⟨bp, op + k * 2, none⟩ = some (ei sc) ∧ w'.cell? ⟨bp, op + k * 2 + 1, none⟩ = some (.bool bh)) (go_keep)
              (first
                | (go_at_call 209; (with_reducible refine (HR.out _ (UP.out.trans (by repeat (first | exact Upd.refl _ _ | refine Upd.drew ?_ | refine Upd.drewN ?_ _)))).mono ?_); rintro e w5 ⟨rfl, hu5⟩; have y0 := hu5.keep x0; have y1 := hu5.keep x1; have y2 := hu5.keep x2; have y3 := hu5.keep x3; have z1 := hu5.keep r1; have z2 := hu5.keep r2))
            all_goals
              have HU5 := Lib.hid (HUk.out.trans (UP.out.trans ((Upd.refl [] wP).drew.trans hu5)))
              clear hu5 y0 y1 y2 y3 z1 z2 x0 x1 x2 x3 r1 r2 HR UP UW HUk
              by_cases hz : rz = 0
              · have hzb : (rz != 0) = false := by simp [hz]
                have HK := Lib.hid (show faultFrom ds d d.body (k + 1) (d.body.drop (k + 1)) = faultFrom ds d d.body 0 d.body by rw [← HFN.out, if_pos hz])
                clear hz HFN
                go_wp2_with fail
                go_roundw
                case rel => exact ⟨k + 1, by omega, by go_num, HU5, HK⟩
                case measure => simp [intOf]; omega
              · have hzb : (rz != 0) = true := by simp [hz]
                have HK := Lib.hid (show faultP ds d = ((k : Int), rz) by rw [HZ.out, ← HFN.out, if_neg hz])
                clear hz HFN
                go_wp2_with fail
                go_ret2
                exact ⟨by rw [HK.out]; rfl, HU2.out.trans HU5.out⟩
          · have hkk : ¬ (k : Int) < (d.body.length : Int) := by omega
            have hf := HF.out
            rw [List.drop_of_length_le (by omega), faultFrom] at hf
            have HK := Lib.hid (show faultP ds d = (0, 0) by rw [HZ.out, ← hf])
            clear hf
            go_wp2_with fail
            go_ret2
            exact ⟨by rw [HK.out]; rfl, HU2.out.trans HUk.out⟩

end Go.Proofs.YtnchmnjkmhfleaaGreat

/-
  Slices of structs (Definition): the first element of which something is true, and whether there is one (the library's functions with a function's value).
-/
namespace Go.Proofs.YtnchmnjkmhfleaaGreat
open Go.RowKit

set_option maxRecDepth 20000 in
set_option maxHeartbeats 2000000 in
theorem idxFuncDe (P : De → Bool) (fn : FuncId) (caps : Array Value) (v : Value) (xs : List De) (w : World) (fp : List Nat) (hR : R_De1 fp w [v] xs)
    (hent : ∀ args w, Sem.run Tryz.prog (callFunc fn args) w = .ok (.enter fn args) w)
    (hby : ∀ wr us g s, s ∈ xs → Upd [] w wr → R_De g wr us s → Calls Tryz.prog fn (#[.agg us.toArray] ++ caps) wr fun e w' => e = .returned (.bool (P s)) ∧ Upd [] wr w') :
    Calls Tryz.prog 117 #[v, .func (.func fn) #[] caps] w fun e w' => e = .returned (.int .i64 (firstP P xs)) ∧ Upd [] w w' := by
  obtain ⟨a1, c1, rfl, hl1, hm1, hc1⟩ := slQ_open hR
  unfold maxLen at hm1
  have HBY := Lib.hid hby
  have HC := Lib.hid hc1
  have HF := Lib.hid (fun k (hk : k < xs.length) (h1 : ∀ j (_ : j < k) (hj : j < xs.length), P xs[j] = false) (h2 : P xs[k] = true) => firstP_at k hk h1 h2)
  have HN := Lib.hid (fun (h : ∀ j (hj : j < xs.length), P xs[j] = false) => firstP_none h)
  clear hR hby hc1
  generalize firstP P xs = Z at *
  go_enter Tryz.func117, Tryz.ntmps117
  go_wp2_with fail
  go_loopw [8] (fun i wr => ∃ k : Nat, k ≤ xs.length ∧ i = .int .i64 k ∧ Hid (Upd [] w wr) ∧ Hid (∀ j (_ : j < k) (hj : j < xs.length), P xs[j] = false)) (fun i _ => xs.length - (intOf i).toNat)
  case atStart => exact ⟨0, Nat.zero_le _, rfl, Lib.hid (Upd.refl _ _), Lib.hid (fun j hj => absurd hj (Nat.not_lt_zero _))⟩
  case round =>
    obtain ⟨wo, rfl⟩ : ∃ wo : World, wo = wr := ⟨_, rfl⟩
    obtain ⟨k, hk, rfl, HU, HI⟩ := hrel
    by_cases hlt : k < xs.length
    · obtain ⟨bb, off, u, f', rfl, -, -, hul, hcell, -, hr⟩ := HC.out k hlt
      have HFK := Lib.hid (HF.out k hlt HI.out)
      have HIK := Lib.hid (fun (h : P xs[k] = false) j (hjk : j < k + 1) (hj : j < xs.length) => (show P xs[j] = false by
        by_cases e : j = k
        · subst e; exact h
        · exact HI.out j (by omega) hj))
      have HS1 := Lib.hid (HBY.out wo u f' xs[k] (List.getElem_mem hlt) HU.out (R_Dek.upd hr HU.out (by simp)))
      have hcell' : ∀ (j : Nat) c, u[j]? = some c → wo.cell? ⟨bb, off + k * 3 + j, none⟩ = some c := fun j c hj => HU.out.keep (hcell j c hj)
      match u, hul with
      | [x0, x1, x2], _ =>
        have s0 := hcell' 0 _ rfl
        have s1 := hcell' 1 _ rfl
        have s2 := hcell' 2 _ rfl
        simp only [Nat.add_zero] at s0
        have hkl : (k : Int) < (xs.length : Int) := by omega
        clear hr hcell hcell' HF HN
        generalize xs[k] = s at *
        generalize P s = q at *
        go_wp2_with fail
        refine HS1.out.mono ?_
        rintro e w1 ⟨rfl, hu1⟩
        have HU1 := Lib.hid (HU.out.trans hu1)
        clear HS1 hu1 s0 s1 s2
        cases q with
        | false =>
          replace HIK := Lib.hid (HIK.out rfl)
          clear HFK
          go_wp2_with fail
          go_roundw
          case rel => exact ⟨k + 1, by omega, by go_num, HU1, HIK⟩
          case measure => simp [intOf]; omega
        | true =>
          have HZ := Lib.hid (HFK.out rfl)
          clear HIK HFK
          go_wp2_with fail
          go_ret
          exact ⟨by rw [HZ.out]; rfl, HU1.out⟩
    · have HZ := Lib.hid (HN.out (fun j hj => HI.out j (by omega) hj))
      clear HF HN
      go_wp2_with fail
      go_ret
      exact ⟨by rw [HZ.out]; rfl, HU.out⟩

set_option maxRecDepth 20000 in
theorem conFuncDe (P : De → Bool) (fn : FuncId) (caps : Array Value) (v : Value) (xs : List De) (w : World) (fp : List Nat) (hR : R_De1 fp w [v] xs)
    (hent : ∀ args w, Sem.run Tryz.prog (callFunc fn args) w = .ok (.enter fn args) w)
    (hby : ∀ wr us g s, s ∈ xs → Upd [] w wr → R_De g wr us s → Calls Tryz.prog fn (#[.agg us.toArray] ++ caps) wr fun e w' => e = .returned (.bool (P s)) ∧ Upd [] wr w') :
    Calls Tryz.prog 205 #[v, .func (.func fn) #[] caps] w fun e w' => e = .returned (.bool (xs.any P)) ∧ Upd [] w w' := by
  have S1 := Lib.hid (idxFuncDe P fn caps v xs w fp hR hent hby)
  have HB := Lib.hid (firstP_nonneg P xs)
  clear hR hent hby
  generalize firstP P xs = Z at *
  generalize xs.any P = q at *
  go_enter Tryz.func205, Tryz.ntmps205
  go_wp2_with fail
  refine S1.out.mono ?_
  rintro e w1 ⟨rfl, hu⟩
  have HU := Lib.hid hu
  clear hu
  go_wp2_with fail
  go_ret
  exact ⟨by show Ending.returned (.bool (decide (0 ≤ Z))) = _; rw [HB.out], HU.out⟩

end Go.Proofs.YtnchmnjkmhfleaaGreat

/-
  The program's check of a list of definitions: what the calls return.
-/
namespace Go.Proofs.YtnchmnjkmhfleaaGreat
open Go.RowKit

theorem enter_pars1 (args : Array Value) (w : World) : Sem.run Tryz.prog (callFunc 206 args) w = .ok (.enter 206 args) w := by go_simp
theorem enter_named1 (args : Array Value) (w : World) : Sem.run Tryz.prog (callFunc 118 args) w = .ok (.enter 118 args) w := by go_simp
set_option maxRecDepth 20000 in
set_option maxHeartbeats 1000000 in
theorem pars1I (cs : List Value) (d : De) (w : World) (fp : List Nat) (hR : R_De fp w cs d) :
    Calls Tryz.prog 206 #[.agg cs.toArray] w fun e w' => e = .returned (.bool (!inB d.pars 0 3)) ∧ Upd [] w w' := by
  obtain ⟨v2, f2, rfl, -, -⟩ := hR
  have S1 := Lib.hid (fun W => within d.pars 0 3 W)
  generalize inB d.pars 0 3 = q at *
  go_enter Tryz.func206, Tryz.ntmps206
  go_wp2_with fail
  refine (S1.out _).mono ?_
  rintro e w1 ⟨rfl, rfl⟩
  clear S1
  go_wp2_with fail
  go_ret
  exact ⟨rfl, (Upd.refl _ _).alloc _⟩
set_option maxRecDepth 20000 in
set_option maxHeartbeats 1000000 in
theorem parametersOkI (v : Value) (ds : List De) (w : World) (fp : List Nat) (hR : R_De1 fp w [v] ds) :
    Calls Tryz.prog 170 #[v] w fun e w' => e = .returned (.bool (ds.all fun d => inB d.pars 0 3)) ∧ Upd [] w w' := by
  have S1 := Lib.hid (conFuncDe (fun d => !inB d.pars 0 3) 206 #[] v ds w fp hR enter_pars1 (fun wr us g s _ _ hs => pars1I us s wr g hs))
  have HM := Lib.hid (show (ds.all fun d => inB d.pars 0 3) = !(ds.any fun d => !inB d.pars 0 3) by rw [List.all_eq_not_any_not])
  generalize (ds.all fun d => inB d.pars 0 3) = Z at *
  generalize (ds.any fun d => !inB d.pars 0 3) = q at *
  have hent := enter_pars1
  clear hR
  go_enter Tryz.func170, Tryz.ntmps170
  go_wp2_with fail
  refine S1.out.mono ?_
  rintro e w1 ⟨rfl, hu⟩
  have HU := Lib.hid hu
  clear S1 hu
  go_wp2_with fail
  go_ret
  exact ⟨by rw [HM.out]; rfl, HU.out⟩
set_option maxRecDepth 20000 in
set_option maxHeartbeats 1000000 in
theorem named1I (cs : List Value) (d : De) (nm : List UInt8) (B : Nat) (w : World) (fp : List Nat) (hR : R_De fp w cs d) (c0 : w.cell? ⟨B, 0, none⟩ = some (es nm)) :
    Calls Tryz.prog 118 #[.agg cs.toArray, .pointer (some ⟨B, 0, none⟩)] w fun e w' => e = .returned (.bool (d.name == nm)) ∧ Upd [] w w' := by
  obtain ⟨v2, f2, rfl, -, -⟩ := hR
  have c0 := ((Upd.refl [] w).alloc (.cells #[es d.name, ei d.pars, v2] 90)).keep c0
  obtain ⟨q, hq⟩ : ∃ q, (d.name == nm) = q := ⟨_, rfl⟩
  rw [hq]
  generalize d.name = m at *
  go_enter Tryz.func118, Tryz.ntmps118
  go_wp2_with fail
  go_ret
  exact ⟨by first | rfl | (rw [← hq]; rfl), (Upd.refl _ _).alloc _⟩
set_option maxRecDepth 20000 in
set_option maxHeartbeats 1000000 in
theorem definitionNamedI (v : Value) (ds : List De) (nm : List UInt8) (w : World) (fp : List Nat) (hR : R_De1 fp w [v] ds) :
    Calls Tryz.prog 77 #[v, es nm] w fun e w' => e = .returned (.int .i64 (firstP (fun d => d.name == nm) ds)) ∧ Upd [] w w' := by
  obtain ⟨a, c, rfl, -, -, -⟩ := slQ_open hR
  obtain ⟨wA, hwA⟩ : ∃ wA, wA = w.alloc (.cells #[es nm] 9) := ⟨_, rfl⟩
  obtain ⟨BA, hBA⟩ : ∃ BA, BA = w.heap.size := ⟨_, rfl⟩
  have uA : Upd [] w wA := by rw [hwA]; exact (Upd.refl _ _).alloc _
  have c0 : wA.cell? ⟨BA, 0, none⟩ = some (es nm) := by rw [hwA, hBA]; exact cell_new w _ _ _ rfl 0 _ rfl
  have S1 := Lib.hid (idxFuncDe (fun d => d.name == nm) 118 #[.pointer (some ⟨BA, 0, none⟩)] _ ds wA fp (R_De1k.upd hR uA (by simp)) enter_named1 (fun wr us g s _ hu hs => named1I us s nm BA wr g hs (hu.keep c0)))
  have UA := Lib.hid uA
  have hent := enter_named1
  clear hR uA c0
  generalize firstP (fun d : De => d.name == nm) ds = Z at *
  generalize ds.length = n at *
  go_enter Tryz.func77, Tryz.ntmps77
  go_upto_region 1 with (fail)
  rw [← hwA, ← hBA]
  clear hwA hBA
  go_wp2_with fail
  refine S1.out.mono ?_
  rintro e w1 ⟨rfl, hu⟩
  have HU := Lib.hid (UA.out.trans hu)
  clear S1 hu
  go_wp2_with fail
  go_ret
  exact ⟨rfl, HU.out⟩

/-- what bounds a list of definitions that is looked at. -/
def DesFit (ds : List De) : Prop := ds.length ≤ 2000000 ∧ ∀ d ∈ ds, d.name.length ≤ 2000000 ∧ DeFit d

theorem sizeD_eq (ds : List De) : sizeD ds = (inB (ds.length : Int) 1 4 && ds.all fun d => inB d.pars 0 3) := by
  unfold sizeD inB
  rw [show decide ((1 : Int) ≤ (ds.length : Int)) = decide (1 ≤ ds.length) by congr 1; rw [eq_iff_iff]; omega, show decide ((ds.length : Int) ≤ 4) = decide (ds.length ≤ 4) by congr 1; rw [eq_iff_iff]; omega]
set_option maxRecDepth 20000 in
set_option maxHeartbeats 8000000 in
theorem validDefsI (v : Value) (ds : List De) (w : World) (fp : List Nat) (hR : R_De1 fp w [v] ds) (hF : DesFit ds) :
    Calls Tryz.prog 127 #[v] w fun e w' => e = .returned (.bool (defsOk ds)) ∧ Upd [] w w' := by
  have hR' := hR
  obtain ⟨a, cap, rfl, g1, g2, hc⟩ := slQ_open hR
  unfold maxLen at g2
  have hHS := sizeD_eq ds
  have SW := Lib.hid (within (ds.length : Int) 1 4 w)
  have SP := Lib.hid (parametersOkI (.slice a ds.length cap) ds w fp hR')
  have HSZ := Lib.hid (fun (h : sizeD ds = false) => defsOk_size h)
  have HNO := Lib.hid (fun k (hk : k < ds.length) (h : goodD ds k ds[k] = false) => defsOk_no hk h)
  have HYE := Lib.hid (fun (h : ∀ j (hj : j < ds.length), goodD ds j ds[j] = true) => defsOk_yes h)
  have HC := Lib.hid hc
  have HRD := Lib.hid (fun W (hu : Upd [] w W) => R_De1k.upd hR' hu (by simp))
  have HFT := Lib.hid hF
  clear hR hR' hc hF
  generalize hZ : defsOk ds = Z at *
  clear hZ
  obtain ⟨q1, h1⟩ : ∃ q, inB (ds.length : Int) 1 4 = q := ⟨_, rfl⟩
  obtain ⟨q2, h2⟩ : ∃ q, (ds.all fun d => inB d.pars 0 3) = q := ⟨_, rfl⟩
  rw [h1, h2] at hHS
  rw [h1] at SW
  rw [h2] at SP
  cases q1 with
  | false =>
    have HZ := Lib.hid (HSZ.out (by rw [hHS]; rfl))
    clear HSZ HNO HYE HC HRD HFT h1 h2 hHS SP
    go_enter Tryz.func127, Tryz.ntmps127
    go_wp2_with fail
    refine SW.out.mono ?_
    rintro e w1 ⟨rfl, rfl⟩
    clear SW
    go_wp2_with fail
    go_ret
    exact ⟨by rw [HZ.out]; rfl, Upd.refl _ _⟩
  | true =>
    cases q2 with
    | false =>
      have HZ := Lib.hid (HSZ.out (by rw [hHS]; rfl))
      clear HSZ HNO HYE HC HRD HFT h1 h2 hHS
      go_enter Tryz.func127, Tryz.ntmps127
      go_wp2_with fail
      refine SW.out.mono ?_
      rintro e w1 ⟨rfl, rfl⟩
      clear SW
      go_wp2_with fail
      refine SP.out.mono ?_
      rintro e w1 ⟨rfl, hu⟩
      have HU := Lib.hid hu
      clear SP hu
      go_wp2_with fail
      go_ret
      exact ⟨by rw [HZ.out]; rfl, HU.out⟩
    | true =>
      have hl4 : ds.length ≤ 4 := by have := inB_true h1; omega
      have HPA := Lib.hid (fun d (hd : d ∈ ds) => (show 0 ≤ d.pars ∧ d.pars ≤ 3 from inB_true (List.all_eq_true.1 h2 d hd)))
      have HST := Lib.hid (show sizeD ds = true by rw [hHS]; rfl)
      clear HSZ h1 h2 hHS
      go_enter Tryz.func127, Tryz.ntmps127
      go_wp2_with fail
      refine SW.out.mono ?_
      rintro e w1 ⟨rfl, rfl⟩
      clear SW
      go_wp2_with fail
      refine SP.out.mono ?_
      rintro e w1 ⟨rfl, hu⟩
      have HU1 := Lib.hid hu
      clear SP hu
      go_wp2_with fail
      go_loopw [18] (fun iv wr => ∃ k : Nat, k ≤ ds.length ∧ iv = .int .i64 k ∧ Hid (Upd [] w1 wr) ∧ Hid (∀ j (_ : j < k) (hj : j < ds.length), goodD ds j ds[j] = true)) (fun iv _ => ds.length - (intOf iv).toNat)
      case atStart => exact ⟨0, Nat.zero_le _, rfl, Lib.hid (Upd.refl _ _), Lib.hid (fun j hj => absurd hj (Nat.not_lt_zero _))⟩
      case round =>
        obtain ⟨wo, rfl⟩ : ∃ wo : World, wo = wr := ⟨_, rfl⟩
        obtain ⟨k, hk, rfl, HUk, HG⟩ := hrel
        by_cases hlt : k < ds.length
        · obtain ⟨bb, off, u, f', rfl, -, -, -, hcell, -, hr⟩ := HC.out k hlt
          have hr' := hr
          obtain ⟨v2, f2, rfl, h2, rfl⟩ := hr
          obtain ⟨a2, c2, rfl, -, -, -⟩ := slQ_open h2
          have UW := Lib.hid (HU1.out.trans HUk.out)
          have s0 := UW.out.keep (hcell 0 _ rfl)
          have s1 := UW.out.keep (hcell 1 _ rfl)
          have s2 := UW.out.keep (hcell 2 _ rfl)
          simp only [Nat.add_zero] at s0
          have hfk := HFT.out.2 ds[k] (List.getElem_mem hlt)
          have hpk := HPA.out ds[k] (List.getElem_mem hlt)
          have HNK := Lib.hid (HNO.out k hlt)
          have HGK := Lib.hid (fun (h : goodD ds k ds[k] = true) j (hjk : j < k + 1) (hj : j < ds.length) => (show goodD ds j ds[j] = true by
            by_cases e : j = k
            · subst e; exact h
            · exact HG.out j (by omega) hj))
          have HGD := Lib.hid (show goodD ds k ds[k] = (nameF ds[k].name && !((ds.take k).any fun o => o.name == ds[k].name) && (faultP ds ds[k]).2 == 0) from rfl)
          have SN := Lib.hid (fun W => isNameI ds[k].name W hfk.1)
          have HRK := Lib.hid (fun W (hu : Upd [] wo W) => R_Dek.upd hr' (UW.out.trans hu) (by simp))
          have SB := Lib.hid (fun W (hu : Upd [] wo W) => bodyFaultI ds (.slice (some ⟨bb, off, none⟩) ds.length cap) fp _ ds[k] _ W (HRD.out W (UW.out.trans hu)) (by omega) (HRK.out W hu) hfk.2 hpk.1 hpk.2)
          have SD := Lib.hid (fun W (hu : Upd [] wo W) => show Calls Tryz.prog 77 #[.slice (some ⟨bb, off, none⟩) k cap, es ds[k].name] W (fun e w' => e = .returned (.int .i64 (firstP (fun d => d.name == ds[k].name) (ds.take k))) ∧ Upd [] W w') from by
            obtain ⟨f9, h9, -⟩ := slQ_take (HRD.out W (UW.out.trans hu)) k (by omega)
            exact definitionNamedI _ (ds.take k) ds[k].name W f9 h9)
          have hfa := firstP_nonneg (fun d : De => d.name == ds[k].name) (ds.take k)
          have HFA := Lib.hid hfa
          have hkl : (k : Int) < (ds.length : Int) := by omega
          have hkc : (k : Int) ≤ (cap : Int) := by omega
          have hkc2 : k ≤ cap := by omega
          clear hfk hpk hcell hr' h2 hfa HG
          generalize goodD ds k ds[k] = gz at *
          generalize firstP (fun d : De => d.name == ds[k].name) (ds.take k) = fz at *
          generalize ((ds.take k).any fun o : De => o.name == ds[k].name) = az at *
          generalize faultP ds ds[k] = fl at *
          generalize ds[k] = d at *
          obtain ⟨wP, hwP⟩ : ∃ q, q = wo.alloc (.cells #[es d.name, ei d.pars, .slice a2 d.body.length c2] 90) := ⟨_, rfl⟩
          obtain ⟨BP, hBP⟩ : ∃ q, q = wo.heap.size := ⟨_, rfl⟩
          have uP : Upd [] wo wP := by rw [hwP]; exact (Upd.refl _ _).alloc _
          have x0 : wP.cell? ⟨BP, 0, none⟩ = some (es d.name) := by rw [hwP, hBP]; exact cell_new wo _ _ _ rfl 0 _ rfl
          have x1 : wP.cell? ⟨BP, 1, none⟩ = some (ei d.pars) := by rw [hwP, hBP]; exact cell_new wo _ _ _ rfl 1 _ rfl
          have x2 : wP.cell? ⟨BP, 2, none⟩ = some (.slice a2 d.body.length c2) := by rw [hwP, hBP]; exact cell_new wo _ _ _ rfl 2 _ rfl
          have UP := Lib.hid uP
          have SQ := Lib.hid (fun n => (show Calls Tryz.prog 76 #[es d.name] (wP.drewN n) fun e w' => e = .returned (.bool (nameF d.name)) ∧ ∃ m, w' = wP.drewN m from (SN.out (wP.drewN n)).mono fun e w' ⟨h, hw⟩ => ⟨h, n, hw.symm⟩))
          clear uP
          go_upto_region 6 with (fail)
          rw [← hwP, ← hBP]
          clear hwP hBP s0 s1 s2
          cases hnm : nameF d.name with
          | false =>
            rw [hnm] at SQ
            have HZ := Lib.hid (HNK.out (by rw [HGD.out, hnm]; rfl))
            clear hnm HNK HGK HGD SN SB SD HRK HFA HYE HNO
            go_quiet ((go_at_call 76; with_reducible exact SQ.out _))
            have HU9 := Lib.hid (UW.out.trans (UP.out.drewN nq))
            go_wp2_with fail
            go_ret
            exact ⟨by rw [HZ.out]; rfl, HU9.out⟩
          | true =>
            rw [hnm] at SN
            rw [hnm, Bool.true_and] at HGD
            clear hnm SQ
            go_region_held3 (fun w' => w'.cell? ⟨BP, 0, none⟩ = some (es d.name)) (go_keep)
              (first
                | (go_at_call 76; (with_reducible refine (SN.out _).mono ?_); rintro e wq ⟨rfl, rfl⟩)
                | (go_at_call 77; (with_reducible refine (SD.out _ (UP.out.trans (by repeat (first | exact Upd.refl _ _ | refine Upd.drew ?_ | refine Upd.drewN ?_ _)))).mono ?_); rintro e w5 ⟨rfl, hu5⟩; have y0 := hu5.keep x0))
            all_goals
              have HU5 := Lib.hid (UP.out.trans ((Upd.refl [] wP).drew.trans hu5))
              have y1 := ((Upd.refl [] wP).drew.trans hu5).keep x1
              have y2 := ((Upd.refl [] wP).drew.trans hu5).keep x2
              rw [show decide (0 ≤ fz) = az from HFA.out]
              clear hu5 x0 x1 x2 SN SD HFA UP
              cases az with
              | true =>
                have HZ := Lib.hid (HNK.out (by rw [HGD.out]; rfl))
                clear HNK HGK HGD SB HRK HYE HNO
                go_wp2_with fail
                go_ret
                exact ⟨by rw [HZ.out]; rfl, UW.out.trans HU5.out⟩
              | false =>
                have SB5 := Lib.hid (SB.out w5 HU5.out)
                obtain ⟨f0, f1⟩ := fl
                clear SB HRK
                go_wp2_with fail
                refine SB5.out.mono ?_
                rintro e w6 ⟨rfl, hu6⟩
                have HU6 := Lib.hid (HUk.out.trans (HU5.out.trans hu6))
                clear hu6 SB5 y0 y1 y2 UW HUk HU5
                by_cases hf : f1 = 0
                · have hfb : (f1 != 0) = false := by simp [hf]
                  have HGN := Lib.hid (HGK.out (by rw [HGD.out, hf]; rfl))
                  clear HNK HGK HGD hf
                  go_wp2_with fail
                  go_roundw
                  case rel => exact ⟨k + 1, by omega, by go_num, HU6, HGN⟩
                  case measure => simp [intOf]; omega
                · have hfb : (f1 != 0) = true := by simp [hf]
                  have HZ := Lib.hid (HNK.out (by rw [HGD.out]; simp [hf]))
                  clear HNK HGK HGD hf
                  go_wp2_with fail
                  go_ret
                  exact ⟨by rw [HZ.out]; rfl, HU1.out.trans HU6.out⟩
        · have hkk : ¬ (k : Int) < (ds.length : Int) := by omega
          have HZ := Lib.hid ((HYE.out (fun j hj => HG.out j (by omega) hj)).trans HST.out)
          clear HG HNO HYE
          go_wp2_with fail
          go_ret
          exact ⟨by rw [HZ.out]; rfl, HU1.out.trans HUk.out⟩

end Go.Proofs.YtnchmnjkmhfleaaGreat

/-
  Slices of structs (Component): the first element of which something is true, and whether there is one (the library's functions with a function's value).
-/
namespace Go.Proofs.YtnchmnjkmhfleaaGreat
open Go.RowKit

set_option maxRecDepth 20000 in
set_option maxHeartbeats 2000000 in
theorem idxFuncCo (P : Co → Bool) (fn : FuncId) (caps : Array Value) (v : Value) (xs : List Co) (w : World) (fp : List Nat) (hR : R_Co1 fp w [v] xs)
    (hent : ∀ args w, Sem.run Tryz.prog (callFunc fn args) w = .ok (.enter fn args) w)
    (hby : ∀ wr us g s, s ∈ xs → Upd [] w wr → R_Co g wr us s → Calls Tryz.prog fn (#[.agg us.toArray] ++ caps) wr fun e w' => e = .returned (.bool (P s)) ∧ Upd [] wr w') :
    Calls Tryz.prog 172 #[v, .func (.func fn) #[] caps] w fun e w' => e = .returned (.int .i64 (firstP P xs)) ∧ Upd [] w w' := by
  obtain ⟨a1, c1, rfl, hl1, hm1, hc1⟩ := slQ_open hR
  unfold maxLen at hm1
  have HBY := Lib.hid hby
  have HC := Lib.hid hc1
  have HF := Lib.hid (fun k (hk : k < xs.length) (h1 : ∀ j (_ : j < k) (hj : j < xs.length), P xs[j] = false) (h2 : P xs[k] = true) => firstP_at k hk h1 h2)
  have HN := Lib.hid (fun (h : ∀ j (hj : j < xs.length), P xs[j] = false) => firstP_none h)
  clear hR hby hc1
  generalize firstP P xs = Z at *
  go_enter Tryz.func172, Tryz.ntmps172
  go_wp2_with fail
  go_loopw [8] (fun i wr => ∃ k : Nat, k ≤ xs.length ∧ i = .int .i64 k ∧ Hid (Upd [] w wr) ∧ Hid (∀ j (_ : j < k) (hj : j < xs.length), P xs[j] = false)) (fun i _ => xs.length - (intOf i).toNat)
  case atStart => exact ⟨0, Nat.zero_le _, rfl, Lib.hid (Upd.refl _ _), Lib.hid (fun j hj => absurd hj (Nat.not_lt_zero _))⟩
  case round =>
    obtain ⟨wo, rfl⟩ : ∃ wo : World, wo = wr := ⟨_, rfl⟩
    obtain ⟨k, hk, rfl, HU, HI⟩ := hrel
    by_cases hlt : k < xs.length
    · obtain ⟨bb, off, u, f', rfl, -, -, hul, hcell, -, hr⟩ := HC.out k hlt
      have HFK := Lib.hid (HF.out k hlt HI.out)
      have HIK := Lib.hid (fun (h : P xs[k] = false) j (hjk : j < k + 1) (hj : j < xs.length) => (show P xs[j] = false by
        by_cases e : j = k
        · subst e; exact h
        · exact HI.out j (by omega) hj))
      have HS1 := Lib.hid (HBY.out wo u f' xs[k] (List.getElem_mem hlt) HU.out (R_Cok.upd hr HU.out (by simp)))
      have hcell' : ∀ (j : Nat) c, u[j]? = some c → wo.cell? ⟨bb, off + k * 2 + j, none⟩ = some c := fun j c hj => HU.out.keep (hcell j c hj)
      match u, hul with
      | [x0, x1], _ =>
        have s0 := hcell' 0 _ rfl
        have s1 := hcell' 1 _ rfl
        simp only [Nat.add_zero] at s0
        have hkl : (k : Int) < (xs.length : Int) := by omega
        clear hr hcell hcell' HF HN
        generalize xs[k] = s at *
        generalize P s = q at *
        go_wp2_with fail
        refine HS1.out.mono ?_
        rintro e w1 ⟨rfl, hu1⟩
        have HU1 := Lib.hid (HU.out.trans hu1)
        clear HS1 hu1 s0 s1
        cases q with
        | false =>
          replace HIK := Lib.hid (HIK.out rfl)
          clear HFK
          go_wp2_with fail
          go_roundw
          case rel => exact ⟨k + 1, by omega, by go_num, HU1, HIK⟩
          case measure => simp [intOf]; omega
        | true =>
          have HZ := Lib.hid (HFK.out rfl)
          clear HIK HFK
          go_wp2_with fail
          go_ret
          exact ⟨by rw [HZ.out]; rfl, HU1.out⟩
    · have HZ := Lib.hid (HN.out (fun j hj => HI.out j (by omega) hj))
      clear HF HN
      go_wp2_with fail
      go_ret
      exact ⟨by rw [HZ.out]; rfl, HU.out⟩

set_option maxRecDepth 20000 in
theorem conFuncCo (P : Co → Bool) (fn : FuncId) (caps : Array Value) (v : Value) (xs : List Co) (w : World) (fp : List Nat) (hR : R_Co1 fp w [v] xs)
    (hent : ∀ args w, Sem.run Tryz.prog (callFunc fn args) w = .ok (.enter fn args) w)
    (hby : ∀ wr us g s, s ∈ xs → Upd [] w wr → R_Co g wr us s → Calls Tryz.prog fn (#[.agg us.toArray] ++ caps) wr fun e w' => e = .returned (.bool (P s)) ∧ Upd [] wr w') :
    Calls Tryz.prog 128 #[v, .func (.func fn) #[] caps] w fun e w' => e = .returned (.bool (xs.any P)) ∧ Upd [] w w' := by
  have S1 := Lib.hid (idxFuncCo P fn caps v xs w fp hR hent hby)
  have HB := Lib.hid (firstP_nonneg P xs)
  clear hR hent hby
  generalize firstP P xs = Z at *
  generalize xs.any P = q at *
  go_enter Tryz.func128, Tryz.ntmps128
  go_wp2_with fail
  refine S1.out.mono ?_
  rintro e w1 ⟨rfl, hu⟩
  have HU := Lib.hid hu
  clear hu
  go_wp2_with fail
  go_ret
  exact ⟨by show Ending.returned (.bool (decide (0 ≤ Z))) = _; rw [HB.out], HU.out⟩

end Go.Proofs.YtnchmnjkmhfleaaGreat

/-
  Slices of structs (Meeting): the first element of which something is true, and whether there is one (the library's functions with a function's value).
-/
namespace Go.Proofs.YtnchmnjkmhfleaaGreat
open Go.RowKit

set_option maxRecDepth 20000 in
set_option maxHeartbeats 2000000 in
theorem idxFuncMe (P : Me → Bool) (fn : FuncId) (caps : Array Value) (v : Value) (xs : List Me) (w : World) (fp : List Nat) (hR : R_Me1 fp w [v] xs)
    (hent : ∀ args w, Sem.run Tryz.prog (callFunc fn args) w = .ok (.enter fn args) w)
    (hby : ∀ wr us g s, s ∈ xs → Upd [] w wr → R_Me g wr us s → Calls Tryz.prog fn (#[.agg us.toArray] ++ caps) wr fun e w' => e = .returned (.bool (P s)) ∧ Upd [] wr w') :
    Calls Tryz.prog 210 #[v, .func (.func fn) #[] caps] w fun e w' => e = .returned (.int .i64 (firstP P xs)) ∧ Upd [] w w' := by
  obtain ⟨a1, c1, rfl, hl1, hm1, hc1⟩ := slQ_open hR
  unfold maxLen at hm1
  have HBY := Lib.hid hby
  have HC := Lib.hid hc1
  have HF := Lib.hid (fun k (hk : k < xs.length) (h1 : ∀ j (_ : j < k) (hj : j < xs.length), P xs[j] = false) (h2 : P xs[k] = true) => firstP_at k hk h1 h2)
  have HN := Lib.hid (fun (h : ∀ j (hj : j < xs.length), P xs[j] = false) => firstP_none h)
  clear hR hby hc1
  generalize firstP P xs = Z at *
  go_enter Tryz.func210, Tryz.ntmps210
  go_wp2_with fail
  go_loopw [8] (fun i wr => ∃ k : Nat, k ≤ xs.length ∧ i = .int .i64 k ∧ Hid (Upd [] w wr) ∧ Hid (∀ j (_ : j < k) (hj : j < xs.length), P xs[j] = false)) (fun i _ => xs.length - (intOf i).toNat)
  case atStart => exact ⟨0, Nat.zero_le _, rfl, Lib.hid (Upd.refl _ _), Lib.hid (fun j hj => absurd hj (Nat.not_lt_zero _))⟩
  case round =>
    obtain ⟨wo, rfl⟩ : ∃ wo : World, wo = wr := ⟨_, rfl⟩
    obtain ⟨k, hk, rfl, HU, HI⟩ := hrel
    by_cases hlt : k < xs.length
    · obtain ⟨bb, off, u, f', rfl, -, -, hul, hcell, -, hr⟩ := HC.out k hlt
      have HFK := Lib.hid (HF.out k hlt HI.out)
      have HIK := Lib.hid (fun (h : P xs[k] = false) j (hjk : j < k + 1) (hj : j < xs.length) => (show P xs[j] = false by
        by_cases e : j = k
        · subst e; exact h
        · exact HI.out j (by omega) hj))
      have HS1 := Lib.hid (HBY.out wo u f' xs[k] (List.getElem_mem hlt) HU.out (R_Mek.upd hr HU.out (by simp)))
      have hcell' : ∀ (j : Nat) c, u[j]? = some c → wo.cell? ⟨bb, off + k * 3 + j, none⟩ = some c := fun j c hj => HU.out.keep (hcell j c hj)
      match u, hul with
      | [x0, x1, x2], _ =>
        have s0 := hcell' 0 _ rfl
        have s1 := hcell' 1 _ rfl
        have s2 := hcell' 2 _ rfl
        simp only [Nat.add_zero] at s0
        have hkl : (k : Int) < (xs.length : Int) := by omega
        clear hr hcell hcell' HF HN
        generalize xs[k] = s at *
        generalize P s = q at *
        go_wp2_with fail
        refine HS1.out.mono ?_
        rintro e w1 ⟨rfl, hu1⟩
        have HU1 := Lib.hid (HU.out.trans hu1)
        clear HS1 hu1 s0 s1 s2
        cases q with
        | false =>
          replace HIK := Lib.hid (HIK.out rfl)
          clear HFK
          go_wp2_with fail
          go_roundw
          case rel => exact ⟨k + 1, by omega, by go_num, HU1, HIK⟩
          case measure => simp [intOf]; omega
        | true =>
          have HZ := Lib.hid (HFK.out rfl)
          clear HIK HFK
          go_wp2_with fail
          go_ret
          exact ⟨by rw [HZ.out]; rfl, HU1.out⟩
    · have HZ := Lib.hid (HN.out (fun j hj => HI.out j (by omega) hj))
      clear HF HN
      go_wp2_with fail
      go_ret
      exact ⟨by rw [HZ.out]; rfl, HU.out⟩

set_option maxRecDepth 20000 in
theorem conFuncMe (P : Me → Bool) (fn : FuncId) (caps : Array Value) (v : Value) (xs : List Me) (w : World) (fp : List Nat) (hR : R_Me1 fp w [v] xs)
    (hent : ∀ args w, Sem.run Tryz.prog (callFunc fn args) w = .ok (.enter fn args) w)
    (hby : ∀ wr us g s, s ∈ xs → Upd [] w wr → R_Me g wr us s → Calls Tryz.prog fn (#[.agg us.toArray] ++ caps) wr fun e w' => e = .returned (.bool (P s)) ∧ Upd [] wr w') :
    Calls Tryz.prog 173 #[v, .func (.func fn) #[] caps] w fun e w' => e = .returned (.bool (xs.any P)) ∧ Upd [] w w' := by
  have S1 := Lib.hid (idxFuncMe P fn caps v xs w fp hR hent hby)
  have HB := Lib.hid (firstP_nonneg P xs)
  clear hR hent hby
  generalize firstP P xs = Z at *
  generalize xs.any P = q at *
  go_enter Tryz.func173, Tryz.ntmps173
  go_wp2_with fail
  refine S1.out.mono ?_
  rintro e w1 ⟨rfl, hu⟩
  have HU := Lib.hid hu
  clear hu
  go_wp2_with fail
  go_ret
  exact ⟨by show Ending.returned (.bool (decide (0 ≤ Z))) = _; rw [HB.out], HU.out⟩

end Go.Proofs.YtnchmnjkmhfleaaGreat

/-
  Components and systems: what the program's checks return.
-/
namespace Go.Proofs.YtnchmnjkmhfleaaGreat
open Go.RowKit

set_option maxRecDepth 20000 in
set_option maxHeartbeats 4000000 in
theorem componentOkI (ds : List De) (dv : Value) (fd : List Nat) (cs : List Value) (c : Co) (fp : List Nat) (w : World) (hD : R_De1 fd w [dv] ds) (hdl : ds.length ≤ 1000000) (hR : R_Co fp w cs c) :
    Calls Tryz.prog 41 #[dv, .agg cs.toArray] w fun e w' => e = .returned (.bool (compOk ds c)) ∧ Upd [] w w' := by
  obtain ⟨v1, f1, rfl, h1, rfl⟩ := hR
  have h1' := h1
  obtain ⟨a1, c1, rfl, l1, m1, -⟩ := slF1_open h1
  obtain ⟨ad, qd, rfl, dl1, dm1, hc⟩ := slQ_open hD
  unfold maxLen at m1 dm1
  have HM := Lib.hid (show compOk ds c = (inB c.dfn 0 ((ds.length : Int) - 1) && ((c.vals.length : Int) == (ds.map De.pars).getD c.dfn.toNat 0) && c.vals.all isV) from rfl)
  obtain ⟨wA, hwA⟩ : ∃ q, q = w.alloc (.cells #[ei c.dfn, .slice a1 c.vals.length c1] 38) := ⟨_, rfl⟩
  obtain ⟨BA, hBA⟩ : ∃ q, q = w.heap.size := ⟨_, rfl⟩
  have uA : Upd [] w wA := by rw [hwA]; exact (Upd.refl _ _).alloc _
  have x0 : wA.cell? ⟨BA, 0, none⟩ = some (ei c.dfn) := by rw [hwA, hBA]; exact cell_new w _ _ _ rfl 0 _ rfl
  have x1 : wA.cell? ⟨BA, 1, none⟩ = some (.slice a1 c.vals.length c1) := by rw [hwA, hBA]; exact cell_new w _ _ _ rfl 1 _ rfl
  have SI := Lib.hid (fun n => Calls.quiet_of_same (n := n) ((idxI c.dfn ds.length (wA.drewN n) hdl).mono (fun e w' h => ⟨h.1, h.2.symm⟩)))
  have SV := Lib.hid (fun n => Calls.quiet_of_same (n := n) ((areValues (.slice a1 c.vals.length c1) c.vals (wA.drewN n) f1 (R_I1k.drewN (R_I1k.upd h1' uA (by simp)) n)).mono (fun e w' h => ⟨h.1, h.2.symm⟩)))
  have UA := Lib.hid uA
  clear h1 h1' hD
  generalize compOk ds c = Z at *
  obtain ⟨dfn, vals⟩ := c
  simp only at *
  generalize vals.all isV = qv at *
  generalize vals.length = n at *
  obtain ⟨q1, hq1⟩ : ∃ q, inB dfn 0 ((ds.length : Int) - 1) = q := ⟨_, rfl⟩
  rw [hq1] at SI HM
  cases q1 with
  | false =>
    clear hc hq1 SV
    go_enter Tryz.func41, Tryz.ntmps41
    go_upto_region 1 with (fail)
    rw [← hwA, ← hBA]
    clear hwA hBA
    go_quiet ((go_at_call 43; with_reducible exact SI.out _))
    have HU := Lib.hid (UA.out.drewN nq)
    go_wp2_with fail
    go_ret
    exact ⟨by rw [HM.out]; rfl, HU.out⟩
  | true =>
    have hb := inB_true hq1
    obtain ⟨j, rfl⟩ : ∃ j : Nat, dfn = j := ⟨dfn.toNat, by omega⟩
    have hj : j < ds.length := by omega
    obtain ⟨b, off, u, f, rfl, -, -, -, hcell, -, hr⟩ := hc j hj
    obtain ⟨v2, f2, rfl, -, -⟩ := hr
    have p1 := uA.keep (hcell 1 _ rfl)
    have hz : (ds.map De.pars).getD (Int.toNat (j : Int)) 0 = ds[j].pars := by
      rw [Int.toNat_natCast, List.getD_eq_getElem?_getD, List.getElem?_map, List.getElem?_eq_getElem hj]; rfl
    rw [hz] at HM
    have hjl : (j : Int) < (ds.length : Int) := by omega
    clear hc hcell hq1 hb hz uA
    generalize ds[j].pars = P at *
    obtain ⟨q2, hq2⟩ : ∃ q, ((n : Int) == P) = q := ⟨_, rfl⟩
    rw [hq2] at HM
    cases q2 with
    | false =>
      go_enter Tryz.func41, Tryz.ntmps41
      go_upto_region 1 with (fail)
      rw [← hwA, ← hBA]
      clear hwA hBA
      go_quiet ((go_at_call 43; with_reducible exact SI.out _))
      have HU := Lib.hid (UA.out.drewN nq)
      go_wp2_with fail
      go_ret
      exact ⟨by rw [HM.out]; rfl, HU.out⟩
    | true =>
      go_enter Tryz.func41, Tryz.ntmps41
      go_upto_region 1 with (fail)
      rw [← hwA, ← hBA]
      clear hwA hBA
      go_quiet (first | (go_at_call 43; with_reducible exact SI.out _) | (go_at_call 99; with_reducible exact SV.out _))
      have HU := Lib.hid (UA.out.drewN nq)
      go_wp2_with fail
      go_ret
      exact ⟨by rw [HM.out]; rfl, HU.out⟩

theorem enter_sysF1 (args : Array Value) (w : World) : Sem.run Tryz.prog (callFunc 129 args) w = .ok (.enter 129 args) w := by go_simp
theorem enter_meets1 (args : Array Value) (w : World) : Sem.run Tryz.prog (callFunc 174 args) w = .ok (.enter 174 args) w := by go_simp
set_option maxRecDepth 20000 in
set_option maxHeartbeats 2000000 in
theorem sysF1I (ds : List De) (dv : Value) (fd : List Nat) (T : Nat) (cs : List Value) (c : Co) (fp : List Nat) (w : World) (hD : R_De1 fd w [dv] ds) (hdl : ds.length ≤ 1000000) (hR : R_Co fp w cs c) (t0 : w.cell? ⟨T, 0, none⟩ = some dv) :
    Calls Tryz.prog 129 #[.agg cs.toArray, .pointer (some ⟨T, 0, none⟩)] w fun e w' => e = .returned (.bool (!compOk ds c)) ∧ Upd [] w w' := by
  have hR' := hR
  obtain ⟨v1, f1, rfl, h1, rfl⟩ := hR
  obtain ⟨wA, hwA⟩ : ∃ q, q = w.alloc (.cells #[ei c.dfn, v1] 38) := ⟨_, rfl⟩
  obtain ⟨BA, hBA⟩ : ∃ q, q = w.heap.size := ⟨_, rfl⟩
  have uA : Upd [] w wA := by rw [hwA]; exact (Upd.refl _ _).alloc _
  have x0 : wA.cell? ⟨BA, 0, none⟩ = some (ei c.dfn) := by rw [hwA, hBA]; exact cell_new w _ _ _ rfl 0 _ rfl
  have x1 : wA.cell? ⟨BA, 1, none⟩ = some v1 := by rw [hwA, hBA]; exact cell_new w _ _ _ rfl 1 _ rfl
  have y0 := uA.keep t0
  have S1 := Lib.hid (componentOkI ds dv fd _ c _ wA (R_De1k.upd hD uA (by simp)) hdl (R_Cok.upd hR' uA (by simp)))
  have UA := Lib.hid uA
  obtain ⟨a1, c1, rfl, -, -, -⟩ := slF1_open h1
  obtain ⟨ad, qd, rfl, -, -, -⟩ := slQ_open hD
  clear hD hR' h1 uA t0
  generalize compOk ds c = q at *
  generalize c.vals.length = n at *
  generalize c.dfn = d at *
  go_enter Tryz.func129, Tryz.ntmps129
  go_upto_region 1 with (fail)
  rw [← hwA, ← hBA]
  clear hwA hBA
  go_wp2_with fail
  refine S1.out.mono ?_
  rintro e w1 ⟨rfl, hu⟩
  have HU := Lib.hid (UA.out.trans hu)
  clear S1 hu
  go_wp2_with fail
  go_ret
  exact ⟨rfl, HU.out⟩
set_option maxRecDepth 20000 in
set_option maxHeartbeats 2000000 in
theorem meets1I (o : Me) (res : List UInt8) (T : Nat) (w : World) (t2 : w.cell? ⟨T, 2, none⟩ = some (es res)) :
    Calls Tryz.prog 174 #[.agg #[es o.left, es o.right, es o.result], .pointer (some ⟨T, 0, none⟩)] w fun e w' => e = .returned (.bool (o.left == res || o.right == res)) ∧ Upd [] w w' := by
  obtain ⟨l, r, s⟩ := o
  have y2 := ((Upd.refl [] w).alloc (.cells #[es l, es r, es s] 70)).keep t2
  obtain ⟨q1, h1⟩ : ∃ q, (l == res) = q := ⟨_, rfl⟩
  obtain ⟨q2, h2⟩ : ∃ q, (r == res) = q := ⟨_, rfl⟩
  simp only
  rw [h1, h2]
  clear t2
  cases q1 with
  | true =>
    go_enter Tryz.func174, Tryz.ntmps174
    go_wp2_with fail
    go_ret
    exact ⟨rfl, (Upd.refl _ _).alloc _⟩
  | false =>
    go_enter Tryz.func174, Tryz.ntmps174
    go_wp2_with fail
    go_ret
    exact ⟨rfl, (Upd.refl _ _).alloc _⟩

/-- the order of two meetings as a number. -/
def cmpM (a b : Me) : Int := cmpBs [a.left, a.right] [b.left, b.right]
theorem cmp_aux : ∀ p q r s e f : Bool, (p || e) = !q → (r || f) = !s → decide ((0 : Int) ≤ (if (if p = true then (-1 : Int) else if q = true then 1 else 0) = 0 then (if (if r = true then (-1 : Int) else if s = true then 1 else 0) = 0 then 0 else (if r = true then (-1 : Int) else if s = true then 1 else 0)) else (if p = true then (-1 : Int) else if q = true then 1 else 0))) = !(p || (e && r)) := by decide
theorem cmpM_less (a b : Me) : decide (0 ≤ cmpM a b) = !lessM a b :=
  cmp_aux _ _ _ _ _ _ (bl_total a.left b.left) (bl_total a.right b.right)
theorem cmpM_bd (a b : Me) : -1 ≤ cmpM a b ∧ cmpM a b ≤ 1 := by
  unfold cmpM
  simp only [cmpBs, cmpB]
  repeat' split
  all_goals omega

set_option maxRecDepth 20000 in
set_option maxHeartbeats 4000000 in
theorem compareMeetingsI (a b : Me) (w : World) :
    Calls Tryz.prog 38 #[.agg #[es a.left, es a.right, es a.result], .agg #[es b.left, es b.right, es b.result]] w fun e w' => e = .returned (.int .i64 (cmpM a b)) ∧ Upd [] w w' := by
  obtain ⟨wA, hwA⟩ : ∃ q, q = (w.alloc (.cells #[es a.left, es a.right, es a.result] 70)).alloc (.cells #[es b.left, es b.right, es b.result] 70) := ⟨_, rfl⟩
  obtain ⟨BA, hBA⟩ : ∃ q, q = w.heap.size := ⟨_, rfl⟩
  have uA : Upd [] w wA := by rw [hwA]; exact ((Upd.refl _ _).alloc _).alloc _
  have s1 : (w.alloc (.cells #[es a.left, es a.right, es a.result] 70)).heap.size = BA + 1 := by rw [hBA]; simp
  have hk : ∀ (j : Nat) c, (#[es a.left, es a.right, es a.result] : Array Value)[j]? = some c → wA.cell? ⟨BA, j, none⟩ = some c := fun j c hc => by
    rw [hwA, hBA]; exact ((Upd.refl [] _).alloc _).keep (cell_new w _ _ _ rfl j _ hc)
  have hk2 : ∀ (j : Nat) c, (#[es b.left, es b.right, es b.result] : Array Value)[j]? = some c → wA.cell? ⟨BA + 1, j, none⟩ = some c := fun j c hc => by
    rw [hwA]; exact cell_new _ _ _ _ s1 j _ hc
  obtain ⟨w1, hw1⟩ : ∃ q, q = wA.alloc (.cells #[es a.left, es a.right] 9) := ⟨_, rfl⟩
  have u1 : Upd [] wA w1 := by rw [hw1]; exact (Upd.refl _ _).alloc _
  obtain ⟨B1, hB1⟩ : ∃ q, q = wA.heap.size := ⟨_, rfl⟩
  obtain ⟨f1, r1, -, -⟩ : New R_S1 wA w1 (.slice (some ⟨B1, 0, none⟩) 2 2) [a.left, a.right] := by rw [hw1, hB1]; exact new_lit (enc := fun p : List UInt8 => es p) wA 9 [a.left, a.right] (by simp [maxLen])
  obtain ⟨w2, hw2⟩ : ∃ q, q = w1.alloc (.cells #[es b.left, es b.right] 9) := ⟨_, rfl⟩
  have u2 : Upd [] w1 w2 := by rw [hw2]; exact (Upd.refl _ _).alloc _
  obtain ⟨B2, hB2⟩ : ∃ q, q = w1.heap.size := ⟨_, rfl⟩
  have hB3 : wA.heap.size + 1 = B2 := by rw [hB2, hw1]; simp
  obtain ⟨f2, r2, -, -⟩ : New R_S1 w1 w2 (.slice (some ⟨B2, 0, none⟩) 2 2) [b.left, b.right] := by rw [hw2, hB2]; exact new_lit (enc := fun p : List UInt8 => es p) w1 9 [b.left, b.right] (by simp [maxLen])
  have S1 := Lib.hid (cmpStrs _ _ _ _ w2 f1 f2 (R_S1k.upd r1 u2 (by simp)) r2 rfl)
  have y0 : wA.cell? ⟨BA, 0, none⟩ = some (es a.left) := hk 0 _ rfl
  have y1 : wA.cell? ⟨BA, 1, none⟩ = some (es a.right) := hk 1 _ rfl
  have z0 : wA.cell? ⟨BA + 1, 0, none⟩ = some (es b.left) := hk2 0 _ rfl
  have z1 : wA.cell? ⟨BA + 1, 1, none⟩ = some (es b.right) := hk2 1 _ rfl
  have x0 := ((Upd.refl [] wA).alloc (.cells #[es a.left, es a.right] 9)).keep z0
  have x1 := ((Upd.refl [] wA).alloc (.cells #[es a.left, es a.right] 9)).keep z1
  have UU := Lib.hid ((uA.trans u1).trans u2)
  rw [show cmpBs [a.left, a.right] [b.left, b.right] = cmpM a b from rfl] at S1
  clear hk hk2 uA u1 u2 r1 r2 s1
  generalize cmpM a b = Z at *
  go_enter Tryz.func38, Tryz.ntmps38
  go_upto_region 1 with (fail)
  rw [← hwA, ← hBA]
  clear hwA hBA
  have HH := Lib.hid (And.intro hw1 (And.intro hw2 (And.intro hB1 hB3)))
  clear hw1 hw2 hB1 hB2 hB3
  go_wp2_with fail
  rw [← HH.out.1, ← HH.out.2.1, HH.out.2.2.2, ← HH.out.2.2.1]
  refine S1.out.mono ?_
  rintro e w3 ⟨rfl, rfl⟩
  clear S1 HH
  go_wp2_with fail
  go_ret
  exact ⟨rfl, UU.out⟩

end Go.Proofs.YtnchmnjkmhfleaaGreat

/-
  Meetings: what the program's check returns.
-/
namespace Go.Proofs.YtnchmnjkmhfleaaGreat
open Go.RowKit

set_option maxRecDepth 20000 in
set_option maxHeartbeats 16000000 in
theorem meetingsOkI (v : Value) (l : List Me) (w : World) (fp : List Nat) (hR : R_Me1 fp w [v] l) (hl : l.length ≤ 2000000) (ht : ∀ m ∈ l, m.left.length ≤ 2000000 ∧ m.right.length ≤ 2000000 ∧ m.result.length ≤ 2000000) :
    Calls Tryz.prog 130 #[v] w fun e w' => e = .returned (.bool (meetsF l)) ∧ Upd [] w w' := by
  have hR' := hR
  obtain ⟨a, cap, rfl, g1, g2, hc⟩ := slQ_open hR
  unfold maxLen at g2
  have HC := Lib.hid hc
  have HRD := Lib.hid (fun W (hu : Upd [] w W) => R_Me1k.upd hR' hu (by simp))
  have HT := Lib.hid ht
  have HNO := Lib.hid (fun k (hk : k < l.length) (h : goodM l k l[k] = false) => meetsF_no hk h)
  have HYE := Lib.hid (fun (h : ∀ j (hj : j < l.length), goodM l j l[j] = true) => meetsF_yes h)
  clear hR hR' hc ht
  generalize hZ : meetsF l = Z at *
  clear hZ
  go_enter Tryz.func130, Tryz.ntmps130
  go_wp2_with fail
  go_loopw [7] (fun iv wr => ∃ k : Nat, k ≤ l.length ∧ iv = .int .i64 k ∧ Hid (Upd [] w wr) ∧ Hid (∀ j (_ : j < k) (hj : j < l.length), goodM l j l[j] = true)) (fun iv _ => l.length - (intOf iv).toNat)
  case atStart => exact ⟨0, Nat.zero_le _, rfl, Lib.hid (Upd.refl _ _), Lib.hid (fun j hj => absurd hj (Nat.not_lt_zero _))⟩
  case round =>
    obtain ⟨wo, rfl⟩ : ∃ wo : World, wo = wr := ⟨_, rfl⟩
    obtain ⟨k, hk, rfl, HU, HG⟩ := hrel
    by_cases hlt : k < l.length
    · obtain ⟨bb, off, u, f', rfl, -, -, -, hcell, -, hr⟩ := HC.out k hlt
      obtain ⟨rfl, rfl⟩ := hr
      have s0 := HU.out.keep (hcell 0 _ rfl)
      have s1 := HU.out.keep (hcell 1 _ rfl)
      have s2 := HU.out.keep (hcell 2 _ rfl)
      simp only [Nat.add_zero] at s0
      have htk := HT.out l[k] (List.getElem_mem hlt)
      have HNK := Lib.hid (HNO.out k hlt)
      have HGK := Lib.hid (fun (h : goodM l k l[k] = true) j (hjk : j < k + 1) (hj : j < l.length) => (show goodM l j l[j] = true by
        by_cases e : j = k
        · subst e; exact h
        · exact HG.out j (by omega) hj))
      have HGD := Lib.hid (show goodM l k l[k] = ((actF l[k].left && actF l[k].right && actF l[k].result && !bl l[k].right l[k].left) && (decide (k = 0) || lessM (l.getD (k - 1) ⟨[], [], []⟩) l[k]) && l.all (fun o => !(o.left == l[k].result || o.right == l[k].result))) from rfl)
      have HPV := Lib.hid (fun i (hi : k = i + 1) => show ∃ pm : Me, l.getD (k - 1) ⟨[], [], []⟩ = pm ∧ wo.cell? ⟨bb, off + i * 3, none⟩ = some (es pm.left) ∧ wo.cell? ⟨bb, off + i * 3 + 1, none⟩ = some (es pm.right) ∧ wo.cell? ⟨bb, off + i * 3 + 2, none⟩ = some (es pm.result) from by
        subst hi
        have hil : i < l.length := by omega
        obtain ⟨b', o', u', f'', he, -, -, -, hc', -, hr'⟩ := HC.out i hil
        simp only [Option.some.injEq, Addr.mk.injEq, and_true] at he
        obtain ⟨rfl, rfl⟩ := he
        obtain ⟨rfl, rfl⟩ := hr'
        refine ⟨l[i], ?_, HU.out.keep (by simpa using hc' 0 _ rfl), HU.out.keep (hc' 1 _ rfl), HU.out.keep (hc' 2 _ rfl)⟩
        rw [Nat.add_sub_cancel, List.getD_eq_getElem?_getD, List.getElem?_eq_getElem hil]; rfl)
      have HAN := Lib.hid (show l.all (fun o => !(o.left == l[k].result || o.right == l[k].result)) = !(l.any fun o => (o.left == l[k].result || o.right == l[k].result)) by
        rw [List.all_eq_not_any_not]; simp)
      have hkl : (k : Int) < (l.length : Int) := by omega
      clear hcell HG
      generalize goodM l k l[k] = gz at *
      generalize l[k] = m at *
      obtain ⟨wP, hwP⟩ : ∃ q, q = wo.alloc (.cells #[es m.left, es m.right, es m.result] 70) := ⟨_, rfl⟩
      obtain ⟨BP, hBP⟩ : ∃ q, q = wo.heap.size := ⟨_, rfl⟩
      have uP : Upd [] wo wP := by rw [hwP]; exact (Upd.refl _ _).alloc _
      have x0 : wP.cell? ⟨BP, 0, none⟩ = some (es m.left) := by rw [hwP, hBP]; exact cell_new wo _ _ _ rfl 0 _ rfl
      have x1 : wP.cell? ⟨BP, 1, none⟩ = some (es m.right) := by rw [hwP, hBP]; exact cell_new wo _ _ _ rfl 1 _ rfl
      have x2 : wP.cell? ⟨BP, 2, none⟩ = some (es m.result) := by rw [hwP, hBP]; exact cell_new wo _ _ _ rfl 2 _ rfl
      have UP := Lib.hid uP
      have SQ0 := Lib.hid (fun n => Calls.quiet_of_same (n := n) ((isActionI m.left (wP.drewN n) htk.1).mono (fun e w' h => ⟨h.1, h.2.symm⟩)))
      have SQ1 := Lib.hid (fun n => Calls.quiet_of_same (n := n) ((isActionI m.right (wP.drewN n) htk.2.1).mono (fun e w' h => ⟨h.1, h.2.symm⟩)))
      have SQ2 := Lib.hid (fun n => Calls.quiet_of_same (n := n) ((isActionI m.result (wP.drewN n) htk.2.2).mono (fun e w' h => ⟨h.1, h.2.symm⟩)))
      have SA0 := Lib.hid (fun W => isActionI m.left W htk.1)
      have SA1 := Lib.hid (fun W => isActionI m.right W htk.2.1)
      have SA2 := Lib.hid (fun W => isActionI m.result W htk.2.2)
      have SC := Lib.hid (fun W (hu : Upd [] wP W) => show Calls Tryz.prog 173 #[.slice (some ⟨bb, off, none⟩) l.length cap, .func (.func 174) #[] #[.pointer (some ⟨BP, 0, none⟩)]] W (fun e w' => e = .returned (.bool (l.any fun o => (o.left == m.result || o.right == m.result))) ∧ Upd [] W w') from
        conFuncMe (fun o => o.left == m.result || o.right == m.result) 174 #[.pointer (some ⟨BP, 0, none⟩)] _ l W fp (HRD.out W (HU.out.trans (UP.out.trans hu))) enter_meets1 (fun wr us g s _ hu2 hs => by
          obtain ⟨rfl, -⟩ := hs
          exact meets1I s m.result BP wr (hu2.keep (hu.keep x2))))
      rw [HAN.out] at HGD
      generalize (l.any fun o => (o.left == m.result || o.right == m.result)) = qn at *
      obtain ⟨A0, hA0⟩ : ∃ q, actF m.left = q := ⟨_, rfl⟩
      obtain ⟨A1, hA1⟩ : ∃ q, actF m.right = q := ⟨_, rfl⟩
      obtain ⟨A2, hA2⟩ : ∃ q, actF m.result = q := ⟨_, rfl⟩
      obtain ⟨gg, hgg⟩ : ∃ q, bl m.right m.left = q := ⟨_, rfl⟩
      have hgt : (Op.bytesLess m.left m.right || m.left == m.right) = !gg := by rw [← hgg]; exact bl_total m.left m.right
      rw [hA0, hA1, hA2, hgg] at HGD
      rw [hA0] at SQ0 SA0
      rw [hA1] at SQ1 SA1
      rw [hA2] at SQ2 SA2
      have HPM := Lib.hid (fun (pm : Me) (h : l.getD (k - 1) ⟨[], [], []⟩ = pm) => show decide (0 ≤ cmpM pm m) = !lessM (l.getD (k - 1) ⟨[], [], []⟩) m by rw [h]; exact cmpM_less pm m)
      generalize lessM (l.getD (k - 1) ⟨[], [], []⟩) m = lz at *
      have hent := enter_meets1
      clear uP htk hA0 hA1 hA2 hgg HAN
      go_upto_region 4 with (fail)
      rw [← hwP, ← hBP]
      clear hwP hBP s0 s1 s2
      cases A0 with
      | false =>
        have HZ := Lib.hid (HNK.out (by rw [HGD.out]; rfl))
        clear HNK HGK HGD SC HPV
        go_quiet ((go_at_call 33; with_reducible exact SQ0.out _))
        have HU9 := Lib.hid (HU.out.trans (UP.out.drewN nq))
        go_wp2_with fail
        go_ret
        exact ⟨by rw [HZ.out]; rfl, HU9.out⟩
      | true =>
        cases A1 with
        | false =>
          have HZ := Lib.hid (HNK.out (by rw [HGD.out]; rfl))
          clear HNK HGK HGD SC HPV
          go_quiet ((go_at_call 33; first | (with_reducible exact SQ0.out _) | (with_reducible exact SQ1.out _)))
          have HU9 := Lib.hid (HU.out.trans (UP.out.drewN nq))
          go_wp2_with fail
          go_ret
          exact ⟨by rw [HZ.out]; rfl, HU9.out⟩
        | true =>
          cases A2 with
          | false =>
            have HZ := Lib.hid (HNK.out (by rw [HGD.out]; rfl))
            clear HNK HGK HGD SC HPV
            go_quiet ((go_at_call 33; first | (with_reducible exact SQ0.out _) | (with_reducible exact SQ1.out _) | (with_reducible exact SQ2.out _)))
            have HU9 := Lib.hid (HU.out.trans (UP.out.drewN nq))
            go_wp2_with fail
            go_ret
            exact ⟨by rw [HZ.out]; rfl, HU9.out⟩
          | true =>
            cases gg with
            | true =>
              have HZ := Lib.hid (HNK.out (by rw [HGD.out]; rfl))
              simp only [Bool.not_true] at hgt
              clear HNK HGK HGD SC HPV
              go_quiet ((go_at_call 33; first | (with_reducible exact SQ0.out _) | (with_reducible exact SQ1.out _) | (with_reducible exact SQ2.out _)))
              have HU9 := Lib.hid (HU.out.trans (UP.out.drewN nq))
              go_wp2_with fail
              go_ret
              exact ⟨by rw [HZ.out]; rfl, HU9.out⟩
            | false =>
              simp only [Bool.not_false] at hgt
              by_cases hk0 : k = 0
              · subst hk0
                have hki : ¬ (0 : Int) < ((0 : Nat) : Int) := by omega
                go_quiet ((go_at_call 33; first | (with_reducible exact SQ0.out _) | (with_reducible exact SQ1.out _) | (with_reducible exact SQ2.out _)))
                have TT := Lib.hid (SC.out (wP.drewN nq) ((Upd.refl [] wP).drewN nq))
                clear SC
                go_wp2_with fail
                refine TT.out.mono ?_
                rintro e w9 ⟨rfl, hu9⟩
                have HU9 := Lib.hid (HU.out.trans (UP.out.trans (((Upd.refl [] wP).drewN nq).trans hu9)))
                clear TT hu9 x0 x1 x2
                cases qn with
                | true =>
                  have HZ := Lib.hid (HNK.out (by rw [HGD.out]; simp))
                  clear HNK HGK HGD
                  go_wp2_with fail
                  go_ret
                  exact ⟨by rw [HZ.out]; rfl, HU9.out⟩
                | false =>
                  have HG2 := Lib.hid (HGK.out (by rw [HGD.out]; simp))
                  clear HNK HGK HGD
                  go_wp2_with fail
                  go_roundw
                  case rel => exact ⟨0 + 1, by omega, by go_num, HU9, HG2⟩
                  case measure => simp [intOf]; omega
              · obtain ⟨i, rfl⟩ : ∃ i, k = i + 1 := ⟨k - 1, by omega⟩
                obtain ⟨pm, hpm, r0, r1, r2⟩ := HPV.out i rfl
                have y0' := UP.out.keep r0
                have y1' := UP.out.keep r1
                have y2' := UP.out.keep r2
                have TC := Lib.hid (fun W => compareMeetingsI pm m W)
                have HLZ := HPM.out pm hpm
                have HLZ := Lib.hid HLZ
                obtain ⟨zc0, zc1⟩ := cmpM_bd pm m
                have hi0 : (0 : Int) ≤ (i : Int) := by omega
                have hi1 : (i : Int) < (l.length : Int) := by omega
                have hw1 : IntKind.i64.wrap (((i : Int) + 1) - 1) = (i : Int) := by rw [IntKind.wrap_i64]; omega
                have hw2 : IntKind.i64.wrap (i : Int) = (i : Int) := by rw [IntKind.wrap_i64]; omega
                have hp0 : (0 : Int) < (i : Int) + 1 := by omega
                clear HPV HPM r0 r1 r2 hpm
                generalize cmpM pm m = zc at *
                go_region_held3 (fun w' => w'.cell? ⟨BP, 0, none⟩ = some (es m.left) ∧ w'.cell? ⟨BP, 1, none⟩ = some (es m.right) ∧ w'.cell? ⟨BP, 2, none⟩ = some (es m.result) ∧ w'.cell? ⟨bb, off + i * 3, none⟩ = some (es pm.left) ∧ w'.cell? ⟨bb, off + i * 3 + 1, none⟩ = some (es pm.right) ∧ w'.cell? ⟨bb, off + i * 3 + 2, none⟩ = some (es pm.result)) (go_keep)
                  (first
                    | (go_at_call 33; (first | (with_reducible refine (SA0.out _).mono ?_) | (with_reducible refine (SA1.out _).mono ?_) | (with_reducible refine (SA2.out _).mono ?_)); rintro e wq ⟨rfl, rfl⟩)
                    | (go_at_call 38; (with_reducible refine (TC.out _).mono ?_); rintro e w5 ⟨rfl, hu5⟩; have k0 := hu5.keep x0; have k1 := hu5.keep x1; have k2 := hu5.keep x2; have k3 := hu5.keep y0'; have k4 := hu5.keep y1'; have k5 := hu5.keep y2'))
                all_goals
                  try rw [show decide (0 ≤ zc) = !lz from HLZ.out]
                  have hu6 := (Upd.refl [] wP).drew.trans hu5
                  clear k0 k1 k2 k3 k4 k5 y0' y1' y2' TC SA0 SA1 SA2 SQ0 SQ1 SQ2 HLZ hu5
                  cases lz with
                  | false =>
                    have HZ := Lib.hid (HNK.out (by rw [HGD.out]; simp))
                    have HU9 := Lib.hid (HU.out.trans (UP.out.trans hu6))
                    clear HNK HGK HGD SC
                    go_wp2_with fail
                    go_ret
                    exact ⟨by rw [HZ.out]; rfl, HU9.out⟩
                  | true =>
                    have TT := Lib.hid (SC.out w5 hu6)
                    clear SC
                    go_wp2_with fail
                    refine TT.out.mono ?_
                    rintro e w9 ⟨rfl, hu9⟩
                    have HU9 := Lib.hid (HU.out.trans (UP.out.trans ((hu6).trans hu9)))
                    clear TT hu9 x0 x1 x2 hu6
                    cases qn with
                    | true =>
                      have HZ := Lib.hid (HNK.out (by rw [HGD.out]; simp))
                      clear HNK HGK HGD
                      go_wp2_with fail
                      go_ret
                      exact ⟨by rw [HZ.out]; rfl, HU9.out⟩
                    | false =>
                      have HG2 := Lib.hid (HGK.out (by rw [HGD.out]; simp))
                      clear HNK HGK HGD
                      go_wp2_with fail
                      go_roundw
                      case rel => exact ⟨(i + 1) + 1, by omega, by go_num, HU9, HG2⟩
                      case measure => simp [intOf]; omega
    · have hkk : ¬ (k : Int) < (l.length : Int) := by omega
      have HZ := Lib.hid (HYE.out (fun j hj => HG.out j (by omega) hj))
      obtain ⟨qs, hqs⟩ : ∃ q, decide (l.length ≤ 6) = q := ⟨_, rfl⟩
      have hqi : decide ((l.length : Int) ≤ 6) = qs := by rw [← hqs]; congr 1; rw [eq_iff_iff]; omega
      rw [hqs] at HZ
      clear HG HNO HYE hqs
      go_wp2_with fail
      go_ret
      exact ⟨by rw [HZ.out]; first | rfl | (rw [← hqi]; rfl), HU.out⟩

end Go.Proofs.YtnchmnjkmhfleaaGreat

/-
  The program's check of a system: what the calls return.
-/
namespace Go.Proofs.YtnchmnjkmhfleaaGreat
open Go.RowKit

/-- what bounds a system that is looked at. -/
structure SyFit (s : Sy) : Prop where
  defs : DesFit s.defs
  comps : s.comps.length ≤ 2000000
  meets : s.meets.length ≤ 2000000 ∧ ∀ m ∈ s.meets, m.left.length ≤ 2000000 ∧ m.right.length ≤ 2000000 ∧ m.result.length ≤ 2000000
  allow : s.allow.length ≤ 2000000 ∧ ∀ p ∈ s.allow, p.length ≤ 2000000
  hide : s.hide.length ≤ 2000000 ∧ ∀ p ∈ s.hide, p.length ≤ 2000000
/-- in what a system is not valid; 0 if it is. -/
def faultSy (s : Sy) : Int := if !defsOk s.defs then 1 else if !compsOk s.defs s.comps then 2 else if !meetsF s.meets then 3 else if !namesF s.allow then 4 else if !namesF s.hide then 5 else 0
theorem faultSy_ok (s : Sy) : (faultSy s == 0) = sysOk s := by
  unfold faultSy sysOk
  cases defsOk s.defs <;> cases compsOk s.defs s.comps <;> cases meetsF s.meets <;> cases namesF s.allow <;> cases namesF s.hide <;> rfl

set_option maxRecDepth 20000 in
set_option maxHeartbeats 8000000 in
theorem sysFaultI (cs : List Value) (s : Sy) (w : World) (fp : List Nat) (hR : R_Sy fp w cs s) (hF : SyFit s) :
    Calls Tryz.prog 87 #[.agg cs.toArray] w fun e w' => e = .returned (.int .i64 (faultSy s)) ∧ Upd [] w w' := by
  obtain ⟨v0, v1, v2, v3, v4, f0, f1, f2, f3, f4, rfl, h0, h1, h2, h3, h4, rfl⟩ := hR
  have HM := Lib.hid (show faultSy s = if !defsOk s.defs then 1 else if !(inB (s.comps.length : Int) 1 3 && !(s.comps.any fun c => !compOk s.defs c)) then 2 else if !meetsF s.meets then 3 else if !namesF s.allow then 4 else if !namesF s.hide then 5 else 0 by
    have : compsOk s.defs s.comps = (inB (s.comps.length : Int) 1 3 && !(s.comps.any fun c => !compOk s.defs c)) := by
      unfold compsOk
      rw [show s.comps.all (compOk s.defs) = !(s.comps.any fun c => !compOk s.defs c) by rw [List.all_eq_not_any_not]]
    unfold faultSy
    rw [this])
  obtain ⟨wA, hwA⟩ : ∃ q, q = w.alloc (.cells #[v0, v1, v2, v3, v4] 29) := ⟨_, rfl⟩
  obtain ⟨BA, hBA⟩ : ∃ q, q = w.heap.size := ⟨_, rfl⟩
  have uA : Upd [] w wA := by rw [hwA]; exact (Upd.refl _ _).alloc _
  have HC := Lib.hid (fun W (hu : Upd [] wA W) => show W.cell? ⟨BA, 0, none⟩ = some v0 ∧ W.cell? ⟨BA, 1, none⟩ = some v1 ∧ W.cell? ⟨BA, 2, none⟩ = some v2 ∧ W.cell? ⟨BA, 3, none⟩ = some v3 ∧ W.cell? ⟨BA, 4, none⟩ = some v4 from
    ⟨hu.keep (by rw [hwA, hBA]; exact cell_new w _ _ _ rfl 0 _ rfl), hu.keep (by rw [hwA, hBA]; exact cell_new w _ _ _ rfl 1 _ rfl), hu.keep (by rw [hwA, hBA]; exact cell_new w _ _ _ rfl 2 _ rfl), hu.keep (by rw [hwA, hBA]; exact cell_new w _ _ _ rfl 3 _ rfl), hu.keep (by rw [hwA, hBA]; exact cell_new w _ _ _ rfl 4 _ rfl)⟩)
  have S0 := Lib.hid (validDefsI v0 s.defs wA f0 (R_De1k.upd h0 uA (by simp)) hF.defs)
  have SW := Lib.hid (fun W => within (s.comps.length : Int) 1 3 W)
  have SC := Lib.hid (fun W (hu : Upd [] wA W) (hdl : s.defs.length ≤ 1000000) => conFuncCo (fun c => !compOk s.defs c) 129 #[.pointer (some ⟨BA, 0, none⟩)] v1 s.comps W f1 (R_Co1k.upd h1 (uA.trans hu) (by simp)) enter_sysF1 (fun wr us g c _ hu2 hc => sysF1I s.defs v0 f0 BA us c g wr (R_De1k.upd h0 ((uA.trans hu).trans hu2) (by simp)) hdl hc (hu2.keep (HC.out W hu).1)))
  have SM := Lib.hid (fun W (hu : Upd [] wA W) => meetingsOkI v2 s.meets W f2 (R_Me1k.upd h2 (uA.trans hu) (by simp)) hF.meets.1 hF.meets.2)
  have SA := Lib.hid (fun W (hu : Upd [] wA W) => namesOkI v3 s.allow W f3 (R_S1k.upd h3 (uA.trans hu) (by simp)) hF.allow.1 hF.allow.2)
  have SH := Lib.hid (fun W (hu : Upd [] wA W) => namesOkI v4 s.hide W f4 (R_S1k.upd h4 (uA.trans hu) (by simp)) hF.hide.1 hF.hide.2)
  have UA := Lib.hid uA
  have HDL := Lib.hid (fun (h : defsOk s.defs = true) => show s.defs.length ≤ 1000000 from by
    unfold defsOk at h
    simp only [Bool.and_eq_true, decide_eq_true_eq] at h
    omega)
  have hcl := hF.comps
  obtain ⟨a0, q0, rfl, -, -, -⟩ := slQ_open h0
  obtain ⟨a1, q1, rfl, -, -, -⟩ := slQ_open h1
  obtain ⟨a2, q2, rfl, -, -, -⟩ := slQ_open h2
  obtain ⟨a3, q3, rfl, -, -, -⟩ := slF1_open h3
  obtain ⟨a4, q4, rfl, -, -, -⟩ := slF1_open h4
  obtain ⟨c0, c1, c2, c3, c4⟩ := HC.out wA (Upd.refl _ _)
  have hent := enter_sysF1
  clear h0 h1 h2 h3 h4 uA hF
  generalize faultSy s = Z at *
  obtain ⟨defs, comps, meets, allow, hide⟩ := s
  simp only at *
  generalize hg1 : (comps.any fun c => !compOk defs c) = g1 at *
  clear hg1
  generalize meetsF meets = g2 at *
  generalize namesF allow = g3 at *
  generalize namesF hide = g4 at *
  obtain ⟨g0, hg0⟩ : ∃ q, defsOk defs = q := ⟨_, rfl⟩
  rw [hg0] at S0 HM HDL
  clear hg0
  obtain ⟨gw, hgw⟩ : ∃ q, inB (comps.length : Int) 1 3 = q := ⟨_, rfl⟩
  rw [hgw] at SW HM
  clear hgw
  go_enter Tryz.func87, Tryz.ntmps87
  go_upto_region 1 with (fail)
  rw [← hwA, ← hBA]
  clear hwA hBA
  go_wp2_with fail
  refine S0.out.mono ?_
  rintro e w1 ⟨rfl, hu1⟩
  have HU := Lib.hid hu1
  clear S0 hu1 c0 c1 c2 c3 c4
  obtain ⟨c0, c1, c2, c3, c4⟩ := HC.out w1 HU.out
  cases g0 with
  | false =>
    go_wp2_with fail
    go_ret
    exact ⟨by rw [HM.out]; rfl, UA.out.trans HU.out⟩
  | true =>
    have S1 := Lib.hid (SW.out w1)
    have S2 := Lib.hid (SC.out w1 HU.out (HDL.out rfl))
    clear SW SC HDL
    go_wp2_with fail
    refine S1.out.mono ?_
    rintro e wq ⟨rfl, rfl⟩
    clear S1
    cases gw with
    | false =>
      go_wp2_with fail
      go_ret
      exact ⟨by rw [HM.out]; rfl, UA.out.trans HU.out⟩
    | true =>
      go_wp2_with fail
      refine S2.out.mono ?_
      rintro e w2 ⟨rfl, hu2⟩
      replace HU := Lib.hid (HU.out.trans hu2)
      clear S2 hu2 c0 c1 c2 c3 c4
      obtain ⟨c0, c1, c2, c3, c4⟩ := HC.out w2 HU.out
      cases g1 with
      | true =>
        go_wp2_with fail
        go_ret
        exact ⟨by rw [HM.out]; rfl, UA.out.trans HU.out⟩
      | false =>
        have S3 := Lib.hid (SM.out w2 HU.out)
        clear SM
        go_wp2_with fail
        refine S3.out.mono ?_
        rintro e w3 ⟨rfl, hu3⟩
        replace HU := Lib.hid (HU.out.trans hu3)
        clear S3 hu3 c0 c1 c2 c3 c4
        obtain ⟨c0, c1, c2, c3, c4⟩ := HC.out w3 HU.out
        cases g2 with
        | false =>
          go_wp2_with fail
          go_ret
          exact ⟨by rw [HM.out]; rfl, UA.out.trans HU.out⟩
        | true =>
          have S4 := Lib.hid (SA.out w3 HU.out)
          clear SA
          go_wp2_with fail
          refine S4.out.mono ?_
          rintro e w4 ⟨rfl, hu4⟩
          replace HU := Lib.hid (HU.out.trans hu4)
          clear S4 hu4 c0 c1 c2 c3 c4
          obtain ⟨c0, c1, c2, c3, c4⟩ := HC.out w4 HU.out
          cases g3 with
          | false =>
            go_wp2_with fail
            go_ret
            exact ⟨by rw [HM.out]; rfl, UA.out.trans HU.out⟩
          | true =>
            have S5 := Lib.hid (SH.out w4 HU.out)
            clear SH
            go_wp2_with fail
            refine S5.out.mono ?_
            rintro e w5 ⟨rfl, hu5⟩
            replace HU := Lib.hid (HU.out.trans hu5)
            clear S5 hu5 c0 c1 c2 c3 c4
            cases g4 with
            | false =>
              go_wp2_with fail
              go_ret
              exact ⟨by rw [HM.out]; rfl, UA.out.trans HU.out⟩
            | true =>
              go_wp2_with fail
              go_ret
              exact ⟨by rw [HM.out]; rfl, UA.out.trans HU.out⟩

set_option maxRecDepth 20000 in
set_option maxHeartbeats 1000000 in
theorem validSysI (cs : List Value) (s : Sy) (w : World) (fp : List Nat) (hR : R_Sy fp w cs s) (hF : SyFit s) :
    Calls Tryz.prog 32 #[.agg cs.toArray] w fun e w' => e = .returned (.bool (sysOk s)) ∧ Upd [] w w' := by
  have hR' := hR
  obtain ⟨v0, v1, v2, v3, v4, f0, f1, f2, f3, f4, rfl, h0, h1, h2, h3, h4, rfl⟩ := hR
  obtain ⟨wA, hwA⟩ : ∃ q, q = w.alloc (.cells #[v0, v1, v2, v3, v4] 29) := ⟨_, rfl⟩
  obtain ⟨BA, hBA⟩ : ∃ q, q = w.heap.size := ⟨_, rfl⟩
  have uA : Upd [] w wA := by rw [hwA]; exact (Upd.refl _ _).alloc _
  have c0 : wA.cell? ⟨BA, 0, none⟩ = some v0 := by rw [hwA, hBA]; exact cell_new w _ _ _ rfl 0 _ rfl
  have c1 : wA.cell? ⟨BA, 1, none⟩ = some v1 := by rw [hwA, hBA]; exact cell_new w _ _ _ rfl 1 _ rfl
  have c2 : wA.cell? ⟨BA, 2, none⟩ = some v2 := by rw [hwA, hBA]; exact cell_new w _ _ _ rfl 2 _ rfl
  have c3 : wA.cell? ⟨BA, 3, none⟩ = some v3 := by rw [hwA, hBA]; exact cell_new w _ _ _ rfl 3 _ rfl
  have c4 : wA.cell? ⟨BA, 4, none⟩ = some v4 := by rw [hwA, hBA]; exact cell_new w _ _ _ rfl 4 _ rfl
  have S1 := Lib.hid (sysFaultI _ s wA _ (R_Syk.upd hR' uA (by simp)) hF)
  have HM := Lib.hid (faultSy_ok s)
  have UA := Lib.hid uA
  clear h0 h1 h2 h3 h4 hR' uA
  generalize faultSy s = Z at *
  obtain ⟨q, hq⟩ : ∃ q, (Z == 0) = q := ⟨_, rfl⟩
  rw [hq] at HM
  go_enter Tryz.func32, Tryz.ntmps32
  go_upto_region 1 with (fail)
  rw [← hwA, ← hBA]
  clear hwA hBA
  go_wp2_with fail
  refine S1.out.mono ?_
  rintro e w1 ⟨rfl, hu⟩
  have HU := Lib.hid (UA.out.trans hu)
  clear S1 hu
  go_wp2_with fail
  go_ret
  exact ⟨by rw [← HM.out]; first | rfl | (rw [← hq]; rfl), HU.out⟩

end Go.Proofs.YtnchmnjkmhfleaaGreat

/-
  Shapes, ends and scopes of parts: what the reference's calls return.
-/
namespace Go.Proofs.YtnchmnjkmhfleaaGreat
open Go.RowKit

set_option maxRecDepth 20000 in
set_option maxHeartbeats 1000000 in
theorem folPS (p : Pa) (b o : Nat) (w : World) (c0 : w.cell? ⟨b, o, none⟩ = some (ei p.kind)) :
    Calls Tryz.prog 230 #[.pointer (some ⟨b, o, none⟩)] w fun e w' => e = .returned (.int .i64 (folP p)) ∧ w = w' := by
  have HM := Lib.hid (show folP p = (if (p.kind == 1) = true then 1 else if (p.kind == 3) = true then 1 else if (p.kind == 4) = true then 1 else if (p.kind == 2) = true then 2 else 0) by
    unfold folP; simp only [beq_iff_eq]; by_cases h1 : p.kind = 1 <;> by_cases h3 : p.kind = 3 <;> by_cases h4 : p.kind = 4 <;> simp [h1, h3, h4])
  generalize folP p = Z at *
  generalize p.kind = k at *
  obtain ⟨q1, h1⟩ : ∃ q, (k == 1) = q := ⟨_, rfl⟩
  obtain ⟨q3, h3⟩ : ∃ q, (k == 3) = q := ⟨_, rfl⟩
  obtain ⟨q4, h4⟩ : ∃ q, (k == 4) = q := ⟨_, rfl⟩
  obtain ⟨q2, h2⟩ : ∃ q, (k == 2) = q := ⟨_, rfl⟩
  rw [h1, h3, h4, h2] at HM
  cases q1 with
  | true =>
    go_enter Tryz.func230, Tryz.ntmps230
    go_wp2_with fail
    go_ret
    exact ⟨by rw [HM.out]; rfl, rfl⟩
  | false =>
    cases q3 with
    | true =>
      go_enter Tryz.func230, Tryz.ntmps230
      go_wp2_with fail
      go_ret
      exact ⟨by rw [HM.out]; rfl, rfl⟩
    | false =>
      cases q4 with
      | true =>
        go_enter Tryz.func230, Tryz.ntmps230
        go_wp2_with fail
        go_ret
        exact ⟨by rw [HM.out]; rfl, rfl⟩
      | false =>
        cases q2 with
        | true =>
          go_enter Tryz.func230, Tryz.ntmps230
          go_wp2_with fail
          go_ret
          exact ⟨by rw [HM.out]; rfl, rfl⟩
        | false =>
          go_enter Tryz.func230, Tryz.ntmps230
          go_wp2_with fail
          go_ret
          exact ⟨by rw [HM.out]; rfl, rfl⟩

set_option maxRecDepth 20000 in
set_option maxHeartbeats 4000000 in
theorem shapeDS (v : Value) (l : List Pa) (w : World) (fp : List Nat) (hR : R_Pa1 fp w [v] l) (hl : l.length ≤ 2000000) :
    Calls Tryz.prog 214 #[v] w fun e w' => e = .returned (.bool (inB (l.length : Int) 1 20 && shapeG folP 1 l)) ∧ w = w' := by
  obtain ⟨a, cap, rfl, g1, g2, hc⟩ := slQ_open hR
  unfold maxLen at g2
  have HC := Lib.hid hc
  clear hR hc
  by_cases h0 : l.length = 0
  · have HZ := Lib.hid (show (inB (l.length : Int) 1 20 && shapeG folP 1 l) = false by rw [inB_no (by omega)]; rfl)
    have hb : ((l.length : Int) == 0) = true := by rw [h0]; rfl
    clear h0
    go_enter Tryz.func214, Tryz.ntmps214
    go_wp2_with fail
    go_ret
    exact ⟨by rw [HZ.out]; rfl, rfl⟩
  · have hb : ((l.length : Int) == 0) = false := by simp; intro h; exact h0 (by rw [h]; rfl)
    by_cases h20 : 20 < l.length
    · have HZ := Lib.hid (show (inB (l.length : Int) 1 20 && shapeG folP 1 l) = false by rw [inB_no (by omega)]; rfl)
      have hb2 : (20 : Int) < (l.length : Int) := by omega
      clear h0 h20
      go_enter Tryz.func214, Tryz.ntmps214
      go_wp2_with fail
      go_ret
      exact ⟨by rw [HZ.out]; rfl, rfl⟩
    · have HZ := Lib.hid (show (inB (l.length : Int) 1 20 && shapeG folP 1 l) = shapeG folP 1 l by rw [inB_mk (by omega)]; rfl)
      have hb2 : ¬ (20 : Int) < (l.length : Int) := by omega
      go_enter Tryz.func214, Tryz.ntmps214
      go_wp2_with fail
      go_loopw [3, 4] (fun mv iv wr => ∃ (k : Nat) (m : Int), k ≤ l.length ∧ iv = .int .i64 k ∧ mv = .int .i64 m ∧ 0 ≤ m ∧ m ≤ 1 + k ∧ Hid (shapeG folP m (l.drop k) = shapeG folP 1 l) ∧ wr = w) (fun _ iv _ => l.length - (intOf iv).toNat)
      case atStart => exact ⟨0, 1, Nat.zero_le _, rfl, rfl, by omega, by omega, Lib.hid rfl, rfl⟩
      case round =>
        obtain ⟨k, m, hk, rfl, rfl, hm0, hm1, HS, rfl⟩ := hrel
        by_cases hlt : k < l.length
        · obtain ⟨b1, o1, u, f, rfl, -, -, -, hcell, -, hr⟩ := HC.out k hlt
          obtain ⟨v3, f3, rfl, -, -⟩ := hr
          have p0 := hcell 0 _ rfl
          simp only [Nat.add_zero] at p0
          have hS := HS.out
          rw [List.drop_eq_getElem_cons hlt, shapeG] at hS
          have hkl : (k : Int) < (l.length : Int) := by omega
          have S1 := Lib.hid (folPS l[k] b1 (o1 + k * 4) wr p0)
          have hf0 := folP_nn l[k]
          have hf1 := folP_le l[k]
          clear HS hcell p0
          generalize folP l[k] = q at *
          by_cases hz : m = 0
          · rw [if_pos hz] at hS
            have HN := Lib.hid hS
            have bz : (m == 0) = true := by simpa using hz
            clear hS hz S1
            go_wp2_with fail
            go_ret
            exact ⟨by rw [HZ.out, ← HN.out]; rfl, rfl⟩
          · rw [if_neg hz] at hS
            have HN := Lib.hid hS
            have bz : (m == 0) = false := by simpa using hz
            clear hS
            go_wp2_with fail
            refine S1.out.mono ?_
            rintro e w1 ⟨rfl, rfl⟩
            clear S1
            go_wp2_with fail
            go_roundw
            case rel => exact ⟨k + 1, m + (q - 1), by omega, by go_num, rfl, by omega, by omega, Lib.hid (by rw [← HN.out]; congr 1; omega), by trivial⟩
            case measure => simp [intOf]; omega
        · have hS := HS.out
          rw [List.drop_of_length_le (by omega), shapeG] at hS
          have HN := Lib.hid hS
          have hkl : ¬ (k : Int) < (l.length : Int) := by omega
          clear hS
          go_wp2_with fail
          go_ret
          exact ⟨by rw [HZ.out, ← HN.out]; rfl, rfl⟩

set_option maxRecDepth 20000 in
set_option maxHeartbeats 4000000 in
theorem endDS (v : Value) (l : List Pa) (k0 : Nat) (M0 : Int) (w : World) (fp : List Nat) (hR : R_Pa1 fp w [v] l) (hl : l.length ≤ 1000) (h0 : 1 ≤ M0) (hk0 : k0 < l.length) (hM : M0 ≤ 1000) (hsh : shapeG folP M0 (l.drop k0) = true) :
    Calls Tryz.prog 240 #[v, .int .i64 k0] w fun e w' => e = .returned (.int .i64 ((k0 : Int) + ((endN folP 1 (l.drop k0) : Nat) : Int))) ∧ w = w' := by
  obtain ⟨a, cap, rfl, g1, g2, hc⟩ := slQ_open hR
  unfold maxLen at g2
  have HC := Lib.hid hc
  clear hR hc
  go_enter Tryz.func240, Tryz.ntmps240
  go_wp2_with fail
  go_loopw [1, 5] (fun iv mv wr => ∃ (k : Nat) (m M : Int), k ≤ l.length ∧ iv = .int .i64 k ∧ mv = .int .i64 m ∧ 0 ≤ m ∧ m ≤ M ∧ M ≤ M0 + k ∧ Hid (shapeG folP M (l.drop k) = true) ∧ Hid (k + endN folP m (l.drop k) = k0 + endN folP 1 (l.drop k0)) ∧ wr = w) (fun iv _ _ => l.length - (intOf iv).toNat)
  case atStart => exact ⟨k0, 1, M0, by omega, rfl, rfl, by omega, h0, by omega, Lib.hid hsh, Lib.hid rfl, rfl⟩
  case round =>
    obtain ⟨k, m, M, hk, rfl, rfl, hm0, hmM, hMk, HS, HE, rfl⟩ := hrel
    by_cases hm : 0 < m
    · have hlt : k < l.length := by
        rcases Nat.lt_or_ge k l.length with h | h
        · exact h
        · have hS := HS.out
          rw [List.drop_of_length_le h, shapeG] at hS
          have : M = 0 := by simpa using hS
          omega
      obtain ⟨b1, o1, u, f, rfl, -, -, -, hcell, -, hr⟩ := HC.out k hlt
      obtain ⟨v3, f3, rfl, -, -⟩ := hr
      have p0 := hcell 0 _ rfl
      simp only [Nat.add_zero] at p0
      have hS := HS.out
      have hE := HE.out
      rw [List.drop_eq_getElem_cons hlt, shapeG, if_neg (by omega)] at hS
      rw [List.drop_eq_getElem_cons hlt, endN_step folP m _ _ hm] at hE
      have hkl : (k : Int) < (l.length : Int) := by omega
      have S1 := Lib.hid (folPS l[k] b1 (o1 + k * 4) wr p0)
      have hf0 := folP_nn l[k]
      have hf1 := folP_le l[k]
      clear HS HE hcell p0
      generalize folP l[k] = q at *
      have HS := Lib.hid hS
      have HE := Lib.hid hE
      clear hS hE
      go_wp2_with fail
      refine S1.out.mono ?_
      rintro e w1 ⟨rfl, rfl⟩
      clear S1
      go_wp2_with fail
      go_roundw
      case rel =>
        exact ⟨k + 1, m + (q - 1), M + q - 1, by omega, by go_num, rfl, by omega, by omega, by omega, HS, Lib.hid (by rw [← HE.out, show m + (q - 1) = m + q - 1 by omega]; omega), by trivial⟩
      case measure => simp [intOf]; omega
    · obtain rfl : m = 0 := by omega
      have HN := Lib.hid (show k = k0 + endN folP 1 (l.drop k0) by have := HE.out; rw [endN_done _ _ _ (Int.le_refl _)] at this; omega)
      go_wp2_with fail
      go_ret
      exact ⟨by rw [show ((k0 : Int) + ((endN folP 1 (l.drop k0) : Nat) : Int)) = (k : Int) by have := HN.out; omega]; rfl, rfl⟩

end Go.Proofs.YtnchmnjkmhfleaaGreat

/-
  The scope of a part: what the reference's call returns.
-/
namespace Go.Proofs.YtnchmnjkmhfleaaGreat
open Go.RowKit

theorem shapeG_le {α : Type} {ar : α → Int} (h0 : ∀ t, 0 ≤ ar t) : ∀ (l : List α) (m : Int), shapeG ar m l = true → m ≤ (l.length : Int)
  | [], m, h => by
    have : m = 0 := by simpa [shapeG] using h
    simp [this]
  | t :: l, m, h => by
    rw [shapeG] at h
    split at h
    · cases h
    · have := shapeG_le h0 l _ h
      have := h0 t
      rw [List.length_cons]; omega
/-- a definition lies at a place. -/
structure DeAt (b o : Nat) (f : List Nat) (w : World) (d : De) : Prop where
  c0 : w.cell? ⟨b, o, none⟩ = some (es d.name)
  c1 : w.cell? ⟨b, o + 1, none⟩ = some (ei d.pars)
  c2 : ∃ v, w.cell? ⟨b, o + 2, none⟩ = some v ∧ R_Pa1 f w [v] d.body
theorem DeAt.upd {b o : Nat} {f : List Nat} {w w' : World} {d : De} (h : DeAt b o f w d) (hu : Upd [] w w') : DeAt b o f w' d :=
  ⟨hu.keep h.c0, hu.keep h.c1, by obtain ⟨v, h1, h2⟩ := h.c2; exact ⟨v, hu.keep h1, R_Pa1k.upd h2 hu (by simp)⟩⟩
theorem DeAt.of {b o : Nat} {f : List Nat} {w : World} {d : De} {u : List Value} (hc : ∀ (j : Nat) c, u[j]? = some c → w.cell? ⟨b, o + j, none⟩ = some c) (hr : R_De f w u d) : ∃ f', DeAt b o f' w d := by
  obtain ⟨v2, f2, rfl, h2, rfl⟩ := hr
  exact ⟨f2, hc 0 _ rfl, hc 1 _ rfl, v2, hc 2 _ rfl, h2⟩

set_option maxRecDepth 20000 in
set_option maxHeartbeats 4000000 in
theorem scopeS (b o : Nat) (f : List Nat) (d : De) (part : Nat) (w : World) (hD : DeAt b o f w d) (hl : d.body.length ≤ 20) (hp : part < d.body.length) (hp0 : 0 ≤ d.pars) (hp1 : d.pars ≤ 3) (hsh : shapeG folP 1 d.body = true) :
    Calls Tryz.prog 232 #[.pointer (some ⟨b, o, none⟩), .int .i64 part] w fun e w' => e = .returned (.int .i64 (d.pars + cntB folP sumP d.body part)) ∧ w = w' := by
  obtain ⟨-, c1, v, c2, hR⟩ := hD
  have hR' := hR
  obtain ⟨a, cap, rfl, g1, g2, hc⟩ := slQ_open hR
  unfold maxLen at g2
  have HC := Lib.hid hc
  have HRR := Lib.hid hR'
  have HSH := Lib.hid hsh
  clear hR hc hR' hsh
  generalize d.body = l at *
  generalize d.pars = P at *
  go_enter Tryz.func232, Tryz.ntmps232
  go_wp2_with fail
  go_loopw [5, 6] (fun ov iv wr => ∃ (k : Nat) (c : Int), k ≤ part ∧ iv = .int .i64 k ∧ ov = .int .i64 c ∧ 0 ≤ c ∧ c ≤ 3 + k ∧ Hid (c + cntB folP sumP (l.drop k) (part - k) = P + cntB folP sumP l part) ∧ wr = w) (fun _ iv _ => part - (intOf iv).toNat)
  case atStart => exact ⟨0, P, Nat.zero_le _, rfl, rfl, hp0, by omega, Lib.hid (by simp), by trivial⟩
  case round =>
    obtain ⟨k, c, hk, rfl, rfl, hc0, hc1, HE, rfl⟩ := hrel
    by_cases hlt : k < part
    · have hkl0 : k < l.length := by omega
      obtain ⟨b1, o1, u, f1, rfl, -, -, -, hcell, -, hr⟩ := HC.out k hkl0
      obtain ⟨v3, f3, rfl, -, -⟩ := hr
      have p0 := hcell 0 _ rfl
      simp only [Nat.add_zero] at p0
      have hE := HE.out
      obtain ⟨i, hi⟩ : ∃ i, part - k = i + 1 := ⟨part - k - 1, by omega⟩
      have hdr := List.drop_eq_getElem_cons hkl0
      obtain ⟨q, q0, q1, q2⟩ := shapeG_drop folP_nn l 1 (by omega) HSH.out k (by omega)
      have hqle := shapeG_le folP_nn _ _ q2
      rw [List.length_drop] at hqle
      have S1 := Lib.hid (endDS (.slice (some ⟨b1, o1, none⟩) l.length cap) l k q wr f HRR.out (by omega) (q1 hkl0) hkl0 (by omega) q2)
      rw [hi, hdr, cntB, ← hdr, show i = part - (k + 1) by omega] at hE
      have hkp : (k : Int) < (part : Int) := by omega
      have hkl : (k : Int) < (l.length : Int) := by omega
      have HEN := Lib.hid (show (i + 1 < endN folP 1 (l.drop k)) ↔ (part : Int) < (k : Int) + ((endN folP 1 (l.drop k) : Nat) : Int) by omega)
      rw [show part - (k + 1) + 1 = i + 1 by omega] at hE
      have HE2 := Lib.hid hE
      have hle : endN folP 1 (l.drop k) ≤ 1000 := by
        have : ∀ (m : Int) (x : List Pa), endN folP m x ≤ x.length := by
          intro m x
          induction x generalizing m with
          | nil => simp [endN]
          | cons t x ih =>
            rw [endN]
            split
            · simp
            · have := ih (m + folP t - 1)
              simp; omega
        have := this 1 (l.drop k)
        rw [List.length_drop] at this
        omega
      clear HE hE hcell hdr q0 q1 q2 hqle hi
      generalize endN folP 1 (l.drop k) = E at *
      have HSU := Lib.hid (show sumP l[k] = (l[k].kind == 4) from rfl)
      generalize l[k] = p at *
      obtain ⟨q4, h4⟩ : ∃ q, (p.kind == 4) = q := ⟨_, rfl⟩
      cases q4 with
      | false =>
        have HN := Lib.hid (show c + cntB folP sumP (l.drop (k + 1)) (part - (k + 1)) = P + cntB folP sumP l part by
          rw [← HE2.out, if_neg (by rw [HSU.out, h4]; simp)]; omega)
        clear S1 HE2 HEN HSU
        go_wp2_with fail
        go_roundw
        case rel => exact ⟨k + 1, c, by omega, by go_num, rfl, by omega, by omega, HN, by trivial⟩
        case measure => simp [intOf]; omega
      | true =>
        by_cases hg : (part : Int) < (k : Int) + (E : Int)
        · have HN := Lib.hid (show c + 1 + cntB folP sumP (l.drop (k + 1)) (part - (k + 1)) = P + cntB folP sumP l part by
            rw [← HE2.out, if_pos ⟨by rw [HSU.out, h4], HEN.out.2 hg⟩]; omega)
          clear HE2 HEN HSU
          go_wp2_with fail
          refine S1.out.mono ?_
          rintro e w1 ⟨rfl, rfl⟩
          clear S1
          go_wp2_with fail
          go_roundw
          case rel => exact ⟨k + 1, c + 1, by omega, by go_num, by go_num, by omega, by omega, HN, by trivial⟩
          case measure => simp [intOf]; omega
        · have HN := Lib.hid (show c + cntB folP sumP (l.drop (k + 1)) (part - (k + 1)) = P + cntB folP sumP l part by
            rw [← HE2.out, if_neg (fun h => hg (HEN.out.1 h.2))]; omega)
          clear HE2 HEN HSU
          go_wp2_with fail
          refine S1.out.mono ?_
          rintro e w1 ⟨rfl, rfl⟩
          clear S1
          go_wp2_with fail
          go_roundw
          case rel => exact ⟨k + 1, c, by omega, by go_num, rfl, by omega, by omega, HN, by trivial⟩
          case measure => simp [intOf]; omega
    · obtain rfl : k = part := by omega
      have HN := Lib.hid (show P + cntB folP sumP l k = c by
        have := HE.out
        rw [Nat.sub_self] at this
        rw [← this]
        cases l.drop k with
        | nil => simp [cntB]
        | cons t x => simp [cntB])
      have hkp : ¬ (k : Int) < (k : Int) := by omega
      go_wp2_with fail
      go_ret
      exact ⟨by rw [HN.out]; rfl, rfl⟩

end Go.Proofs.YtnchmnjkmhfleaaGreat

/-
  Why a part of a body is not valid: what the reference's calls return.
-/
namespace Go.Proofs.YtnchmnjkmhfleaaGreat
open Go.RowKit

set_option maxRecDepth 20000 in
set_option maxHeartbeats 4000000 in
theorem kindS05 (p : Pa) (B : Nat) (a : Option Addr) (c : Nat) (w : World) (c0 : w.cell? ⟨B, 0, none⟩ = some (ei p.kind)) (c1 : w.cell? ⟨B, 1, none⟩ = some (ei p.num)) (c2 : w.cell? ⟨B, 2, none⟩ = some (es p.name)) (c3 : w.cell? ⟨B, 3, none⟩ = some (.slice a p.args.length c)) :
    Calls Tryz.prog 231 #[.pointer (some ⟨B, 0, none⟩)] w fun e w' => e = .returned (.bool (kindP p)) ∧ w = w' := by
  have HM := Lib.hid (show kindP p = (inB p.kind 0 5 && ((p.kind == 4 || p.kind == 5) || p.num == 0) && (p.kind == 1 || p.name == []) && ((p.kind == 1 || p.kind == 3 || p.kind == 5) || p.args.length == 0)) from rfl)
  obtain ⟨k, num, name, args⟩ := p
  simp only at *
  generalize kindP ⟨k, num, name, args⟩ = Z at *
  generalize args.length = n at *
  obtain ⟨q0, h0⟩ : ∃ q, (k == 0) = q := ⟨_, rfl⟩
  obtain ⟨q1, h1⟩ : ∃ q, (k == 1) = q := ⟨_, rfl⟩
  obtain ⟨q2, h2⟩ : ∃ q, (k == 2) = q := ⟨_, rfl⟩
  obtain ⟨q3, h3⟩ : ∃ q, (k == 3) = q := ⟨_, rfl⟩
  obtain ⟨q4, h4⟩ : ∃ q, (k == 4) = q := ⟨_, rfl⟩
  obtain ⟨q5, h5⟩ : ∃ q, (k == 5) = q := ⟨_, rfl⟩
  obtain ⟨n0, hn⟩ : ∃ q, (num == 0) = q := ⟨_, rfl⟩
  obtain ⟨e0, he⟩ : ∃ q, (name == []) = q := ⟨_, rfl⟩
  obtain ⟨a0, ha⟩ : ∃ q, (n == 0) = q := ⟨_, rfl⟩
  obtain ⟨qi, hi⟩ : ∃ q, inB k 0 5 = q := ⟨_, rfl⟩
  have ha2 : ((n : Int) == 0) = a0 := by rw [← ha]; cases n <;> rfl
  have HQ := Lib.hid (show q0 = false → q1 = false → q2 = false → q3 = false → q4 = false → q5 = false → false = qi from by
    intro g0 g1 g2 g3 g4 g5
    rw [← h0] at g0; rw [← h1] at g1; rw [← h2] at g2; rw [← h3] at g3; rw [← h4] at g4; rw [← h5] at g5
    simp only [beq_eq_false_iff_ne, ne_eq] at g0 g1 g2 g3 g4 g5
    rw [← hi, inB_no (by omega)])
  rw [h1, h3, h4, h5, hn, he, ha, hi] at HM
  clear ha
  cases q0 with
  | false =>
    cases q2 with
    | false =>
      cases q1 with
      | false =>
        cases q3 with
        | false =>
          cases q4 with
          | false =>
            cases q5 with
            | false =>
              obtain rfl : false = qi := HQ.out rfl rfl rfl rfl rfl rfl
              go_enter Tryz.func231, Tryz.ntmps231
              go_wp2_with fail
              go_ret
              exact ⟨by rw [HM.out]; rfl, rfl⟩
            | true =>
              clear HQ
              obtain rfl : k = 5 := by simpa using h5
              obtain rfl : true = qi := hi
              cases e0 with
              | false =>
                go_enter Tryz.func231, Tryz.ntmps231
                go_wp2_with fail
                go_ret
                exact ⟨by rw [HM.out]; rfl, rfl⟩
              | true =>
                go_enter Tryz.func231, Tryz.ntmps231
                go_wp2_with fail
                go_ret
                exact ⟨by rw [HM.out]; rfl, rfl⟩
          | true =>
            clear HQ
            obtain rfl : k = 4 := by simpa using h4
            obtain rfl : true = qi := hi
            obtain rfl : false = q5 := h5
            cases e0 with
            | false =>
              go_enter Tryz.func231, Tryz.ntmps231
              go_wp2_with fail
              go_ret
              exact ⟨by rw [HM.out]; rfl, rfl⟩
            | true =>
              cases a0 with
              | false =>
                go_enter Tryz.func231, Tryz.ntmps231
                go_wp2_with fail
                go_ret
                exact ⟨by rw [HM.out]; rfl, rfl⟩
              | true =>
                go_enter Tryz.func231, Tryz.ntmps231
                go_wp2_with fail
                go_ret
                exact ⟨by rw [HM.out]; rfl, rfl⟩
        | true =>
          clear HQ
          obtain rfl : k = 3 := by simpa using h3
          obtain rfl : true = qi := hi
          obtain rfl : false = q4 := h4
          obtain rfl : false = q5 := h5
          cases n0 with
          | false =>
            go_enter Tryz.func231, Tryz.ntmps231
            go_wp2_with fail
            go_ret
            exact ⟨by rw [HM.out]; rfl, rfl⟩
          | true =>
            cases e0 with
            | false =>
              go_enter Tryz.func231, Tryz.ntmps231
              go_wp2_with fail
              go_ret
              exact ⟨by rw [HM.out]; rfl, rfl⟩
            | true =>
              go_enter Tryz.func231, Tryz.ntmps231
              go_wp2_with fail
              go_ret
              exact ⟨by rw [HM.out]; rfl, rfl⟩
      | true =>
        clear HQ
        obtain rfl : k = 1 := by simpa using h1
        obtain rfl : true = qi := hi
        obtain rfl : false = q3 := h3
        obtain rfl : false = q4 := h4
        obtain rfl : false = q5 := h5
        cases n0 with
        | false =>
          go_enter Tryz.func231, Tryz.ntmps231
          go_wp2_with fail
          go_ret
          exact ⟨by rw [HM.out]; rfl, rfl⟩
        | true =>
          go_enter Tryz.func231, Tryz.ntmps231
          go_wp2_with fail
          go_ret
          exact ⟨by rw [HM.out]; rfl, rfl⟩
    | true =>
      clear HQ
      obtain rfl : k = 2 := by simpa using h2
      obtain rfl : true = qi := hi
      obtain rfl : false = q1 := h1
      obtain rfl : false = q3 := h3
      obtain rfl : false = q4 := h4
      obtain rfl : false = q5 := h5
      cases n0 with
      | false =>
        go_enter Tryz.func231, Tryz.ntmps231
        go_wp2_with fail
        go_ret
        exact ⟨by rw [HM.out]; rfl, rfl⟩
      | true =>
        cases e0 with
        | false =>
          go_enter Tryz.func231, Tryz.ntmps231
          go_wp2_with fail
          go_ret
          exact ⟨by rw [HM.out]; rfl, rfl⟩
        | true =>
          cases a0 with
          | false =>
            go_enter Tryz.func231, Tryz.ntmps231
            go_wp2_with fail
            go_ret
            exact ⟨by rw [HM.out]; rfl, rfl⟩
          | true =>
            go_enter Tryz.func231, Tryz.ntmps231
            go_wp2_with fail
            go_ret
            exact ⟨by rw [HM.out]; rfl, rfl⟩
  | true =>
    clear HQ
    obtain rfl : k = 0 := by simpa using h0
    obtain rfl : true = qi := hi
    obtain rfl : false = q2 := h2
    obtain rfl : false = q1 := h1
    obtain rfl : false = q3 := h3
    obtain rfl : false = q4 := h4
    obtain rfl : false = q5 := h5
    cases n0 with
    | false =>
      go_enter Tryz.func231, Tryz.ntmps231
      go_wp2_with fail
      go_ret
      exact ⟨by rw [HM.out]; rfl, rfl⟩
    | true =>
      cases e0 with
      | false =>
        go_enter Tryz.func231, Tryz.ntmps231
        go_wp2_with fail
        go_ret
        exact ⟨by rw [HM.out]; rfl, rfl⟩
      | true =>
        cases a0 with
        | false =>
          go_enter Tryz.func231, Tryz.ntmps231
          go_wp2_with fail
          go_ret
          exact ⟨by rw [HM.out]; rfl, rfl⟩
        | true =>
          go_enter Tryz.func231, Tryz.ntmps231
          go_wp2_with fail
          go_ret
          exact ⟨by rw [HM.out]; rfl, rfl⟩

set_option maxRecDepth 20000 in
set_option maxHeartbeats 16000000 in
theorem reasonS (ds : List De) (dv : Value) (fd : List Nat) (bd od : Nat) (fb : List Nat) (d : De) (at' : Nat) (w : World) (hDS : R_De1 fd w [dv] ds) (hD : DeAt bd od fb w d) (hdl : ds.length ≤ 1000000) (hl : d.body.length ≤ 20) (hat' : at' < d.body.length) (hsh : shapeG folP 1 d.body = true) (hp0 : 0 ≤ d.pars) (hp1 : d.pars ≤ 3)
    (hnl : d.body[at'].name.length ≤ 2000000) (hal : d.body[at'].args.length ≤ 2000000) :
    Calls Tryz.prog 215 #[dv, .pointer (some ⟨bd, od, none⟩), .int .i64 at'] w fun e w' => e = .returned (.int .i64 (reasonP ds d.body[at'] (d.pars + cntB folP sumP d.body at') (behindP d.body at'))) ∧ Upd [] w w' := by
  obtain ⟨ad, qd, rfl, dg1, dg2, hdc⟩ := slQ_open hDS
  unfold maxLen at dg2
  have hD' := hD
  obtain ⟨-, -, v, d2, hR⟩ := hD
  obtain ⟨a, cap, rfl, g1, g2, hc⟩ := slQ_open hR
  unfold maxLen at g2
  obtain ⟨bb, ob, u, f', rfl, -, -, -, hcell, -, hr⟩ := hc at' hat'
  obtain ⟨v3, f3, rfl, h3, rfl⟩ := hr
  have h3' := h3
  obtain ⟨a3, c3, rfl, ag1, ag2, hA⟩ := slP_open h3
  unfold maxLen at ag2
  have p0 := hcell 0 _ rfl
  have p1 := hcell 1 _ rfl
  have p2 := hcell 2 _ rfl
  have p3 := hcell 3 _ rfl
  simp only [Nat.add_zero] at p0
  have hal' : (at' : Int) < (d.body.length : Int) := by omega
  have hcb := cntB_bd folP sumP d.body at'
  have hs0 : 0 ≤ d.pars + cntB folP sumP d.body at' := by omega
  have hs1 : d.pars + cntB folP sumP d.body at' ≤ 29 := by omega
  obtain ⟨wP, hwP⟩ : ∃ q, q = w.alloc (.cells #[ei d.body[at'].kind, ei d.body[at'].num, es d.body[at'].name, .slice a3 d.body[at'].args.length c3] 109) := ⟨_, rfl⟩
  obtain ⟨BP, hBP⟩ : ∃ q, q = w.heap.size := ⟨_, rfl⟩
  have uP : Upd [] w wP := by rw [hwP]; exact (Upd.refl _ _).alloc _
  have x0 : wP.cell? ⟨BP, 0, none⟩ = some (ei d.body[at'].kind) := by rw [hwP, hBP]; exact cell_new w _ _ _ rfl 0 _ rfl
  have x1 : wP.cell? ⟨BP, 1, none⟩ = some (ei d.body[at'].num) := by rw [hwP, hBP]; exact cell_new w _ _ _ rfl 1 _ rfl
  have x2 : wP.cell? ⟨BP, 2, none⟩ = some (es d.body[at'].name) := by rw [hwP, hBP]; exact cell_new w _ _ _ rfl 2 _ rfl
  have x3 : wP.cell? ⟨BP, 3, none⟩ = some (.slice a3 d.body[at'].args.length c3) := by rw [hwP, hBP]; exact cell_new w _ _ _ rfl 3 _ rfl
  have e2 := uP.keep d2
  have hDP : DeAt bd od fb wP d := DeAt.upd hD' uP
  have SK := Lib.hid (kindS05 d.body[at'] BP a3 c3 wP x0 x1 x2 x3)
  have SN := Lib.hid (nameS d.body[at'].name wP hnl)
  have SW := Lib.hid (l00In d.body[at'].num 1 7 wP)
  have SI := Lib.hid (l00In d.body[at'].num 0 ((ds.length : Int) - 1) wP)
  have SS := Lib.hid (scopeS bd od fb d at' wP hDP hl hat' hp0 hp1 hsh)
  have HA := Lib.hid (fun j (hj : j < d.body[at'].args.length) => by
    obtain ⟨_, _, hv, _, _, h⟩ := slP_open (R_T2k.upd h3' uP (by simp))
    cases hv; exact h j hj)
  have HDS := Lib.hid (fun j (hj : j < ds.length) => by
    obtain ⟨_, _, hv, _, _, h⟩ := slQ_open (R_De1k.upd hDS uP (by simp))
    cases hv; exact h j hj)
  have HB0 := Lib.hid (fun (h : at' = 0) => show false = behindP d.body at' by rw [h]; rfl)
  have HB1 := Lib.hid (fun i (h : at' = i + 1) => show ∃ kb, wP.cell? ⟨bb, ob + i * 4, none⟩ = some (ei kb) ∧ (kb == 1) = behindP d.body at' by
    subst h
    obtain ⟨bb', ob', u', f'', he, -, -, -, hcell', -, hr'⟩ := hc i (by omega)
    simp only [Option.some.injEq, Addr.mk.injEq, and_true] at he
    obtain ⟨rfl, rfl⟩ := he
    obtain ⟨v4, f4, rfl, -, -⟩ := hr'
    refine ⟨d.body[i].kind, uP.keep (by simpa using hcell' 0 _ rfl), ?_⟩
    unfold behindP
    rw [decide_eq_true (by omega), Bool.true_and, Nat.add_sub_cancel, List.getD_eq_getElem?_getD, List.getElem?_map, List.getElem?_eq_getElem (show i < d.body.length by omega)]; rfl)
  have HM := Lib.hid (show reasonP ds d.body[at'] (d.pars + cntB folP sumP d.body at') (behindP d.body at') = (if (!kindP d.body[at']) = true then 2 else if (d.body[at'].kind == 1 && !nameF d.body[at'].name) = true then 3 else if ((d.body[at'].kind == 4 && !inB d.body[at'].num 1 7) || (d.body[at'].kind == 5 && !inB d.body[at'].num 0 ((ds.length : Int) - 1))) = true then 4
      else if (!(if (d.body[at'].kind == 1) = true then d.body[at'].args.length == 0 || (!(d.body[at'].name == tauL) && decide (d.body[at'].args.length ≤ 2)) else if (d.body[at'].kind == 3) = true then (d.body[at'].args.length : Int) == 1 else if (d.body[at'].kind == 5) = true then (d.body[at'].args.length : Int) == ((ds.map De.pars).getD d.body[at'].num.toNat 0) else true)) = true then 5
      else if (d.body[at'].kind == 5 && !behindP d.body at') = true then 6 else if (d.body[at'].kind == 4 && decide (6 ≤ d.pars + cntB folP sumP d.body at')) = true then 7 else if (d.body[at'].args.any (fun e => !isE e (d.pars + cntB folP sumP d.body at') 15)) = true then 8 else 0) by
    unfold reasonP
    have : countP ds d.body[at'] = (if (d.body[at'].kind == 1) = true then d.body[at'].args.length == 0 || (!(d.body[at'].name == tauL) && decide (d.body[at'].args.length ≤ 2)) else if (d.body[at'].kind == 3) = true then (d.body[at'].args.length : Int) == 1 else if (d.body[at'].kind == 5) = true then (d.body[at'].args.length : Int) == ((ds.map De.pars).getD d.body[at'].num.toNat 0) else true) := by
      unfold countP; simp only [beq_iff_eq, bne]
      split <;> try rfl
      split <;> try rfl
      cases d.body[at'].args.length with
      | zero => rfl
      | succ n => cases n <;> rfl
    rw [this])
  have HANY := Lib.hid (fun j (hj : j < d.body[at'].args.length) (h : isE d.body[at'].args[j] (d.pars + cntB folP sumP d.body at') 15 = false) => show (d.body[at'].args.any (fun e => !isE e (d.pars + cntB folP sumP d.body at') 15)) = true from
    List.any_eq_true.2 ⟨_, List.getElem_mem hj, by rw [h]; rfl⟩)
  have HALL := Lib.hid (fun (h : ∀ j (hj : j < d.body[at'].args.length), isE d.body[at'].args[j] (d.pars + cntB folP sumP d.body at') 15 = true) => show (d.body[at'].args.any (fun e => !isE e (d.pars + cntB folP sumP d.body at') 15)) = false from by
    rw [List.any_eq_false]
    intro e he
    obtain ⟨j, hj, rfl⟩ := List.mem_iff_getElem.1 he
    rw [h j hj]; simp)
  have UP := Lib.hid uP
  have hlb20 : d.body.length ≤ 20 := hl
  clear hcell hc hR h3 h3' hA hcb uP hDP hDS hdc hsh hnl hD'
  generalize reasonP ds d.body[at'] (d.pars + cntB folP sumP d.body at') (behindP d.body at') = Z at *
  generalize d.pars + cntB folP sumP d.body at' = sc at *
  generalize behindP d.body at' = bh at *
  generalize d.body[at'] = p at *
  generalize d.body.length = lb at *
  obtain ⟨k, num, name, args⟩ := p
  simp only at *
  have HI := Lib.hid (fun (h : inB num 0 ((ds.length : Int) - 1) = true) => show 0 ≤ num ∧ num < ds.length by have := inB_true h; omega)
  generalize kindP ⟨k, num, name, args⟩ = qk at *
  generalize nameF name = qa at *
  generalize inB num 1 7 = r4 at *
  generalize inB num 0 ((ds.length : Int) - 1) = r5 at *
  generalize hga : (args.any fun e => !isE e sc 15) = ga at *
  clear hga
  obtain ⟨n, hn⟩ : ∃ n, n = args.length := ⟨_, rfl⟩
  rw [← hn] at x3 p3 HM hal ag1
  have HLN := Lib.hid hn.symm
  rw [← hn] at hwP
  clear hn
  obtain ⟨q1, h1⟩ : ∃ q, (k == 1) = q := ⟨_, rfl⟩
  obtain ⟨q3, h3⟩ : ∃ q, (k == 3) = q := ⟨_, rfl⟩
  obtain ⟨q4, h4⟩ : ∃ q, (k == 4) = q := ⟨_, rfl⟩
  obtain ⟨q5, h5⟩ : ∃ q, (k == 5) = q := ⟨_, rfl⟩
  obtain ⟨t0, htb⟩ : ∃ q, (name == tauL) = q := ⟨_, rfl⟩
  obtain ⟨a0, ha⟩ : ∃ q, (n == 0) = q := ⟨_, rfl⟩
  obtain ⟨l2, hl2⟩ : ∃ q, decide (n ≤ 2) = q := ⟨_, rfl⟩
  obtain ⟨b1, hb1⟩ : ∃ q, ((n : Int) == 1) = q := ⟨_, rfl⟩
  obtain ⟨bP, hbP⟩ : ∃ q, ((n : Int) == (ds.map De.pars).getD num.toNat 0) = q := ⟨_, rfl⟩
  obtain ⟨s6, hs⟩ : ∃ q, decide (6 ≤ sc) = q := ⟨_, rfl⟩
  rw [h1, h3, h4, h5, htb, ha, hl2, hb1, hbP, hs] at HM
  have htb2 : (name == [116, 97, 117]) = t0 := htb
  clear htb
  go_enter Tryz.func215, Tryz.ntmps215
  go_upto_region 2 with (fail)
  rw [← hwP, ← hBP]
  clear hwP hBP p0 p1 p2 p3 d2
  go_wp2_with fail
  refine (SK.out).mono ?_
  rintro e wq ⟨rfl, rfl⟩
  cases qk with
  | false =>
    go_wp2_with fail
    go_ret
    exact ⟨by rw [HM.out]; rfl, UP.out⟩
  | true =>
    cases q1 with
    | false =>
      cases q4 with
      | false =>
        cases q5 with
        | false =>
          cases q3 with
          | false =>
            go_wp2_with fail
            refine (SS.out).mono ?_
            rintro e wq ⟨rfl, rfl⟩
            go_wp2_with fail
            go_loopw [10] (fun iv wr => ∃ j : Nat, j ≤ n ∧ iv = .int .i64 j ∧ Hid (∀ i (_ : i < j) (hi : i < args.length), isE args[i] sc 15 = true) ∧ wr = wP) (fun iv _ => n - (intOf iv).toNat)
            case atStart => exact ⟨0, Nat.zero_le _, rfl, Lib.hid (fun i hi => absurd hi (Nat.not_lt_zero _)), by trivial⟩
            case round =>
              obtain ⟨j, hj, rfl, HG, rfl⟩ := hrel
              by_cases hlt : j < n
              · have hla : j < args.length := by rw [HLN.out]; exact hlt
                obtain ⟨b1, o1, u, f9, rfl, -, -, s0, -, hr⟩ := HA.out j hla
                have S9 := Lib.hid (l03Is u args[j] sc 15 wr f9 hs0 hs1 (by omega) hr)
                have HNX := Lib.hid (fun (h : isE args[j] sc 15 = true) i (hij : i < j + 1) (hi : i < args.length) => (show isE args[i] sc 15 = true by
                  by_cases e : i = j
                  · subst e; exact h
                  · exact HG.out i (by omega) hi))
                have HNO := Lib.hid (fun (h : isE args[j] sc 15 = false) => HANY.out j hla h)
                have hjn : (j : Int) < (n : Int) := by omega
                clear hr HG
                generalize isE args[j] sc 15 = qe at *
                go_wp2_with fail
                refine S9.out.mono ?_
                rintro e wq ⟨rfl, rfl⟩
                clear S9
                cases qe with
                | false =>
                  have HZ2 := Lib.hid (HNO.out rfl)
                  clear HNX HNO
                  go_wp2_with fail
                  go_ret
                  exact ⟨by rw [HM.out, HZ2.out]; rfl, UP.out⟩
                | true =>
                  have HN2 := Lib.hid (HNX.out rfl)
                  clear HNX HNO
                  go_wp2_with fail
                  go_roundw
                  case rel => exact ⟨j + 1, by omega, by go_num, HN2, by trivial⟩
                  case measure => simp [intOf]; omega
              · have HZ2 := Lib.hid (HALL.out (fun i hi => HG.out i (by rw [HLN.out] at hi; omega) hi))
                have hjn : ¬ (j : Int) < (n : Int) := by omega
                clear HG
                go_wp2_with fail
                go_ret
                exact ⟨by rw [HM.out, HZ2.out]; rfl, UP.out⟩
          | true =>
            obtain rfl : k = 3 := by simpa using h3
            cases b1 with
            | false =>
              have gb : ((n : Int) != 1) = true := by simp [bne, hb1]
              go_wp2_with fail
              go_ret
              exact ⟨by rw [HM.out]; rfl, UP.out⟩
            | true =>
              have gb : ((n : Int) != 1) = false := by simp [bne, hb1]
              go_wp2_with fail
              refine (SS.out).mono ?_
              rintro e wq ⟨rfl, rfl⟩
              go_wp2_with fail
              go_loopw [10] (fun iv wr => ∃ j : Nat, j ≤ n ∧ iv = .int .i64 j ∧ Hid (∀ i (_ : i < j) (hi : i < args.length), isE args[i] sc 15 = true) ∧ wr = wP) (fun iv _ => n - (intOf iv).toNat)
              case atStart => exact ⟨0, Nat.zero_le _, rfl, Lib.hid (fun i hi => absurd hi (Nat.not_lt_zero _)), by trivial⟩
              case round =>
                obtain ⟨j, hj, rfl, HG, rfl⟩ := hrel
                by_cases hlt : j < n
                · have hla : j < args.length := by rw [HLN.out]; exact hlt
                  obtain ⟨b1, o1, u, f9, rfl, -, -, s0, -, hr⟩ := HA.out j hla
                  have S9 := Lib.hid (l03Is u args[j] sc 15 wr f9 hs0 hs1 (by omega) hr)
                  have HNX := Lib.hid (fun (h : isE args[j] sc 15 = true) i (hij : i < j + 1) (hi : i < args.length) => (show isE args[i] sc 15 = true by
                    by_cases e : i = j
                    · subst e; exact h
                    · exact HG.out i (by omega) hi))
                  have HNO := Lib.hid (fun (h : isE args[j] sc 15 = false) => HANY.out j hla h)
                  have hjn : (j : Int) < (n : Int) := by omega
                  clear hr HG
                  generalize isE args[j] sc 15 = qe at *
                  go_wp2_with fail
                  refine S9.out.mono ?_
                  rintro e wq ⟨rfl, rfl⟩
                  clear S9
                  cases qe with
                  | false =>
                    have HZ2 := Lib.hid (HNO.out rfl)
                    clear HNX HNO
                    go_wp2_with fail
                    go_ret
                    exact ⟨by rw [HM.out, HZ2.out]; rfl, UP.out⟩
                  | true =>
                    have HN2 := Lib.hid (HNX.out rfl)
                    clear HNX HNO
                    go_wp2_with fail
                    go_roundw
                    case rel => exact ⟨j + 1, by omega, by go_num, HN2, by trivial⟩
                    case measure => simp [intOf]; omega
                · have HZ2 := Lib.hid (HALL.out (fun i hi => HG.out i (by rw [HLN.out] at hi; omega) hi))
                  have hjn : ¬ (j : Int) < (n : Int) := by omega
                  clear HG
                  go_wp2_with fail
                  go_ret
                  exact ⟨by rw [HM.out, HZ2.out]; rfl, UP.out⟩
        | true =>
          obtain rfl : k = 5 := by simpa using h5
          obtain rfl : false = q3 := h3
          go_wp2_with fail
          refine (SI.out).mono ?_
          rintro e wq ⟨rfl, rfl⟩
          cases r5 with
          | false =>
            go_wp2_with fail
            go_ret
            exact ⟨by rw [HM.out]; rfl, UP.out⟩
          | true =>
            obtain ⟨hn0, hn1⟩ := HI.out rfl
            obtain ⟨m, rfl⟩ : ∃ m : Nat, num = m := ⟨num.toNat, by omega⟩
            have hm : m < ds.length := by omega
            obtain ⟨b5, o5, u5, f5, rfl, -, -, -, hcell5, -, hr5⟩ := HDS.out m hm
            obtain ⟨v5, f6, rfl, -, -⟩ := hr5
            have z1 := hcell5 1 _ rfl
            have hPm : (ds.map De.pars).getD (Int.toNat (m : Int)) 0 = ds[m].pars := by
              rw [Int.toNat_natCast, List.getD_eq_getElem?_getD, List.getElem?_map, List.getElem?_eq_getElem hm]; rfl
            rw [hPm] at hbP
            clear hPm hcell5
            generalize ds[m].pars = P5 at *
            have hml : (m : Int) < (ds.length : Int) := by omega
            cases bP with
            | false =>
              have gb : ((n : Int) != P5) = true := by simp [bne, hbP]
              go_wp2_with fail
              go_ret
              exact ⟨by rw [HM.out]; rfl, UP.out⟩
            | true =>
              have gb : ((n : Int) != P5) = false := by simp [bne, hbP]
              by_cases hat : at' = 0
              · subst hat
                obtain rfl : false = bh := HB0.out rfl
                go_wp2_with fail
                go_ret
                exact ⟨by rw [HM.out]; rfl, UP.out⟩
              · obtain ⟨i, rfl⟩ : ∃ i, at' = i + 1 := ⟨at' - 1, by omega⟩
                obtain ⟨kb, s1, hkb⟩ := HB1.out i rfl
                have gat : (((i + 1 : Nat) : Int) == 0) = false := by simp; omega
                have gat2 : ((i : Int) + 1 == 0) = false := by simp; omega
                have gil : (i : Int) < (lb : Int) := by omega
                obtain ⟨qb, hqb⟩ : ∃ q, (kb == 1) = q := ⟨_, rfl⟩
                rw [hqb] at hkb
                subst hkb
                cases qb with
                | false =>
                  have gkb : (kb != 1) = true := by simp [bne, hqb]
                  go_wp2_with fail
                  go_ret
                  exact ⟨by rw [HM.out]; rfl, UP.out⟩
                | true =>
                  have gkb : (kb != 1) = false := by simp [bne, hqb]
                  go_wp2_with fail
                  refine (SS.out).mono ?_
                  rintro e wq ⟨rfl, rfl⟩
                  go_wp2_with fail
                  go_loopw [10] (fun iv wr => ∃ j : Nat, j ≤ n ∧ iv = .int .i64 j ∧ Hid (∀ i (_ : i < j) (hi : i < args.length), isE args[i] sc 15 = true) ∧ wr = wP) (fun iv _ => n - (intOf iv).toNat)
                  case atStart => exact ⟨0, Nat.zero_le _, rfl, Lib.hid (fun i hi => absurd hi (Nat.not_lt_zero _)), by trivial⟩
                  case round =>
                    obtain ⟨j, hj, rfl, HG, rfl⟩ := hrel
                    by_cases hlt : j < n
                    · have hla : j < args.length := by rw [HLN.out]; exact hlt
                      obtain ⟨b1, o1, u, f9, rfl, -, -, s0, -, hr⟩ := HA.out j hla
                      have S9 := Lib.hid (l03Is u args[j] sc 15 wr f9 hs0 hs1 (by omega) hr)
                      have HNX := Lib.hid (fun (h : isE args[j] sc 15 = true) i (hij : i < j + 1) (hi : i < args.length) => (show isE args[i] sc 15 = true by
                        by_cases e : i = j
                        · subst e; exact h
                        · exact HG.out i (by omega) hi))
                      have HNO := Lib.hid (fun (h : isE args[j] sc 15 = false) => HANY.out j hla h)
                      have hjn : (j : Int) < (n : Int) := by omega
                      clear hr HG
                      generalize isE args[j] sc 15 = qe at *
                      go_wp2_with fail
                      refine S9.out.mono ?_
                      rintro e wq ⟨rfl, rfl⟩
                      clear S9
                      cases qe with
                      | false =>
                        have HZ2 := Lib.hid (HNO.out rfl)
                        clear HNX HNO
                        go_wp2_with fail
                        go_ret
                        exact ⟨by rw [HM.out, HZ2.out]; rfl, UP.out⟩
                      | true =>
                        have HN2 := Lib.hid (HNX.out rfl)
                        clear HNX HNO
                        go_wp2_with fail
                        go_roundw
                        case rel => exact ⟨j + 1, by omega, by go_num, HN2, by trivial⟩
                        case measure => simp [intOf]; omega
                    · have HZ2 := Lib.hid (HALL.out (fun i hi => HG.out i (by rw [HLN.out] at hi; omega) hi))
                      have hjn : ¬ (j : Int) < (n : Int) := by omega
                      clear HG
                      go_wp2_with fail
                      go_ret
                      exact ⟨by rw [HM.out, HZ2.out]; rfl, UP.out⟩
      | true =>
        obtain rfl : k = 4 := by simpa using h4
        obtain rfl : false = q5 := h5
        obtain rfl : false = q3 := h3
        go_wp2_with fail
        refine (SW.out).mono ?_
        rintro e wq ⟨rfl, rfl⟩
        cases r4 with
        | false =>
          go_wp2_with fail
          go_ret
          exact ⟨by rw [HM.out]; rfl, UP.out⟩
        | true =>
          go_wp2_with fail
          refine (SS.out).mono ?_
          rintro e wq ⟨rfl, rfl⟩
          cases s6 with
          | false =>
            have hs2 : ¬ (6 ≤ sc) := of_decide_eq_false hs
            go_wp2_with fail
            go_loopw [10] (fun iv wr => ∃ j : Nat, j ≤ n ∧ iv = .int .i64 j ∧ Hid (∀ i (_ : i < j) (hi : i < args.length), isE args[i] sc 15 = true) ∧ wr = wP) (fun iv _ => n - (intOf iv).toNat)
            case atStart => exact ⟨0, Nat.zero_le _, rfl, Lib.hid (fun i hi => absurd hi (Nat.not_lt_zero _)), by trivial⟩
            case round =>
              obtain ⟨j, hj, rfl, HG, rfl⟩ := hrel
              by_cases hlt : j < n
              · have hla : j < args.length := by rw [HLN.out]; exact hlt
                obtain ⟨b1, o1, u, f9, rfl, -, -, s0, -, hr⟩ := HA.out j hla
                have S9 := Lib.hid (l03Is u args[j] sc 15 wr f9 hs0 hs1 (by omega) hr)
                have HNX := Lib.hid (fun (h : isE args[j] sc 15 = true) i (hij : i < j + 1) (hi : i < args.length) => (show isE args[i] sc 15 = true by
                  by_cases e : i = j
                  · subst e; exact h
                  · exact HG.out i (by omega) hi))
                have HNO := Lib.hid (fun (h : isE args[j] sc 15 = false) => HANY.out j hla h)
                have hjn : (j : Int) < (n : Int) := by omega
                clear hr HG
                generalize isE args[j] sc 15 = qe at *
                go_wp2_with fail
                refine S9.out.mono ?_
                rintro e wq ⟨rfl, rfl⟩
                clear S9
                cases qe with
                | false =>
                  have HZ2 := Lib.hid (HNO.out rfl)
                  clear HNX HNO
                  go_wp2_with fail
                  go_ret
                  exact ⟨by rw [HM.out, HZ2.out]; rfl, UP.out⟩
                | true =>
                  have HN2 := Lib.hid (HNX.out rfl)
                  clear HNX HNO
                  go_wp2_with fail
                  go_roundw
                  case rel => exact ⟨j + 1, by omega, by go_num, HN2, by trivial⟩
                  case measure => simp [intOf]; omega
              · have HZ2 := Lib.hid (HALL.out (fun i hi => HG.out i (by rw [HLN.out] at hi; omega) hi))
                have hjn : ¬ (j : Int) < (n : Int) := by omega
                clear HG
                go_wp2_with fail
                go_ret
                exact ⟨by rw [HM.out, HZ2.out]; rfl, UP.out⟩
          | true =>
            have hs2 : 6 ≤ sc := of_decide_eq_true hs
            go_wp2_with fail
            go_ret
            exact ⟨by rw [HM.out]; rfl, UP.out⟩
    | true =>
      obtain rfl : k = 1 := by simpa using h1
      obtain rfl : false = q4 := h4
      obtain rfl : false = q5 := h5
      obtain rfl : false = q3 := h3
      go_wp2_with fail
      refine (SN.out).mono ?_
      rintro e wq ⟨rfl, rfl⟩
      cases qa with
      | false =>
        go_wp2_with fail
        go_ret
        exact ⟨by rw [HM.out]; rfl, UP.out⟩
      | true =>
        cases l2 with
        | false =>
          have g2 : (2 : Int) < (n : Int) := by have := of_decide_eq_false hl2; omega
          obtain rfl : false = a0 := by rw [← ha]; have := of_decide_eq_false hl2; exact (beq_eq_false_iff_ne.2 (by omega)).symm
          go_wp2_with fail
          go_ret
          exact ⟨by rw [HM.out]; cases t0 <;> rfl, UP.out⟩
        | true =>
          have g2 : ¬ (2 : Int) < (n : Int) := by have := of_decide_eq_true hl2; omega
          cases a0 with
          | false =>
            have g0 : (0 : Int) < (n : Int) := by have := beq_eq_false_iff_ne.1 ha; omega
            cases t0 with
            | false =>
              go_wp2_with fail
              refine (SS.out).mono ?_
              rintro e wq ⟨rfl, rfl⟩
              go_wp2_with fail
              go_loopw [10] (fun iv wr => ∃ j : Nat, j ≤ n ∧ iv = .int .i64 j ∧ Hid (∀ i (_ : i < j) (hi : i < args.length), isE args[i] sc 15 = true) ∧ wr = wP) (fun iv _ => n - (intOf iv).toNat)
              case atStart => exact ⟨0, Nat.zero_le _, rfl, Lib.hid (fun i hi => absurd hi (Nat.not_lt_zero _)), by trivial⟩
              case round =>
                obtain ⟨j, hj, rfl, HG, rfl⟩ := hrel
                by_cases hlt : j < n
                · have hla : j < args.length := by rw [HLN.out]; exact hlt
                  obtain ⟨b1, o1, u, f9, rfl, -, -, s0, -, hr⟩ := HA.out j hla
                  have S9 := Lib.hid (l03Is u args[j] sc 15 wr f9 hs0 hs1 (by omega) hr)
                  have HNX := Lib.hid (fun (h : isE args[j] sc 15 = true) i (hij : i < j + 1) (hi : i < args.length) => (show isE args[i] sc 15 = true by
                    by_cases e : i = j
                    · subst e; exact h
                    · exact HG.out i (by omega) hi))
                  have HNO := Lib.hid (fun (h : isE args[j] sc 15 = false) => HANY.out j hla h)
                  have hjn : (j : Int) < (n : Int) := by omega
                  clear hr HG
                  generalize isE args[j] sc 15 = qe at *
                  go_wp2_with fail
                  refine S9.out.mono ?_
                  rintro e wq ⟨rfl, rfl⟩
                  clear S9
                  cases qe with
                  | false =>
                    have HZ2 := Lib.hid (HNO.out rfl)
                    clear HNX HNO
                    go_wp2_with fail
                    go_ret
                    exact ⟨by rw [HM.out, HZ2.out]; rfl, UP.out⟩
                  | true =>
                    have HN2 := Lib.hid (HNX.out rfl)
                    clear HNX HNO
                    go_wp2_with fail
                    go_roundw
                    case rel => exact ⟨j + 1, by omega, by go_num, HN2, by trivial⟩
                    case measure => simp [intOf]; omega
                · have HZ2 := Lib.hid (HALL.out (fun i hi => HG.out i (by rw [HLN.out] at hi; omega) hi))
                  have hjn : ¬ (j : Int) < (n : Int) := by omega
                  clear HG
                  go_wp2_with fail
                  go_ret
                  exact ⟨by rw [HM.out, HZ2.out]; rfl, UP.out⟩
            | true =>
              go_wp2_with fail
              go_ret
              exact ⟨by rw [HM.out]; rfl, UP.out⟩
          | true =>
            have g0 : ¬ (0 : Int) < (n : Int) := by have := beq_iff_eq.1 ha; omega
            go_wp2_with fail
            refine (SS.out).mono ?_
            rintro e wq ⟨rfl, rfl⟩
            go_wp2_with fail
            go_loopw [10] (fun iv wr => ∃ j : Nat, j ≤ n ∧ iv = .int .i64 j ∧ Hid (∀ i (_ : i < j) (hi : i < args.length), isE args[i] sc 15 = true) ∧ wr = wP) (fun iv _ => n - (intOf iv).toNat)
            case atStart => exact ⟨0, Nat.zero_le _, rfl, Lib.hid (fun i hi => absurd hi (Nat.not_lt_zero _)), by trivial⟩
            case round =>
              obtain ⟨j, hj, rfl, HG, rfl⟩ := hrel
              by_cases hlt : j < n
              · omega
              · have HZ2 := Lib.hid (HALL.out (fun i hi => HG.out i (by rw [HLN.out] at hi; omega) hi))
                have hjn : ¬ (j : Int) < (n : Int) := by omega
                clear HG
                go_wp2_with fail
                go_ret
                exact ⟨by rw [HM.out, HZ2.out]; rfl, UP.out⟩

end Go.Proofs.YtnchmnjkmhfleaaGreat

/-
  The reference's check of a list of definitions: what the calls return.
-/
namespace Go.Proofs.YtnchmnjkmhfleaaGreat
open Go.RowKit

/-- what bounds a definition that is looked at. -/
def DeFitS (d : De) : Prop := d.body.length ≤ 2000000 ∧ ∀ p ∈ d.body, p.name.length ≤ 2000000 ∧ p.args.length ≤ 2000000

set_option maxRecDepth 20000 in
set_option maxHeartbeats 8000000 in
theorem bodyS (ds : List De) (dv : Value) (fd : List Nat) (bd od : Nat) (fb : List Nat) (d : De) (w : World) (hDS : R_De1 fd w [dv] ds) (hD : DeAt bd od fb w d) (hdl : ds.length ≤ 1000000) (hF : DeFitS d) (hp0 : 0 ≤ d.pars) (hp1 : d.pars ≤ 3) :
    Calls Tryz.prog 186 #[dv, .pointer (some ⟨bd, od, none⟩)] w fun e w' => e = .returned (.tuple #[.int .i64 (faultP ds d).1, .int .i64 (faultP ds d).2]) ∧ Upd [] w w' := by
  have hD' := hD
  obtain ⟨-, -, v, d2, hR⟩ := hD
  have hR' := hR
  obtain ⟨a, cap, rfl, g1, g2, -⟩ := slQ_open hR
  obtain ⟨ad, qd, rfl, -, -, -⟩ := slQ_open hDS
  unfold maxLen at g2
  have S1 := Lib.hid (shapeDS (.slice a d.body.length cap) d.body w fb hR' hF.1)
  have HM := Lib.hid (show faultP ds d = if (inB (d.body.length : Int) 1 20 && shapeG folP 1 d.body) = true then faultFrom ds d d.body 0 d.body else (0, 1) by
    unfold faultP bodyOk inB
    rw [show decide ((1 : Int) ≤ (d.body.length : Int)) = decide (1 ≤ d.body.length) by congr 1; rw [eq_iff_iff]; omega, show decide ((d.body.length : Int) ≤ 20) = decide (d.body.length ≤ 20) by congr 1; rw [eq_iff_iff]; omega])
  cases hin : (inB (d.body.length : Int) 1 20 && shapeG folP 1 d.body) with
  | false =>
    rw [hin] at S1
    have HZ := Lib.hid (show faultP ds d = (0, 1) by rw [HM.out, hin]; rfl)
    generalize faultP ds d = Z at *
    clear HM hin hR hR' hDS hD' hF
    go_enter Tryz.func186, Tryz.ntmps186
    go_wp2_with fail
    refine S1.out.mono ?_
    rintro e w1 ⟨rfl, rfl⟩
    clear S1
    go_wp2_with fail
    go_ret2
    exact ⟨by rw [HZ.out]; rfl, Upd.refl _ _⟩
  | true =>
    rw [hin] at S1
    have HZ := Lib.hid (show faultP ds d = faultFrom ds d d.body 0 d.body by rw [HM.out, hin]; rfl)
    simp only [Bool.and_eq_true] at hin
    obtain ⟨hin, hsh⟩ := hin
    have h20 := inB_true hin
    have hl20 : d.body.length ≤ 20 := by omega
    have HRE := Lib.hid (fun (k : Nat) (hk : k < d.body.length) W (hu : Upd [] w W) => reasonS ds (.slice ad ds.length qd) fd bd od fb d k W (R_De1k.upd hDS hu (by simp)) (hD'.upd hu) hdl hl20 hk hsh hp0 hp1 (hF.2 _ (List.getElem_mem hk)).1 (hF.2 _ (List.getElem_mem hk)).2)
    have HD2 := Lib.hid (fun W (hu : Upd [] w W) => hu.keep d2)
    clear HM hin hR hR' hDS hD' hF h20 hsh
    go_enter Tryz.func186, Tryz.ntmps186
    go_wp2_with fail
    refine S1.out.mono ?_
    rintro e w1 ⟨rfl, rfl⟩
    clear S1
    go_wp2_with fail
    go_loopw [6] (fun iv wr => ∃ k : Nat, k ≤ d.body.length ∧ iv = .int .i64 k ∧ Hid (faultFrom ds d d.body k (d.body.drop k) = faultFrom ds d d.body 0 d.body) ∧ Hid (Upd [] w wr)) (fun iv _ => d.body.length - (intOf iv).toNat)
    case atStart => exact ⟨0, Nat.zero_le _, rfl, Lib.hid rfl, Lib.hid (Upd.refl _ _)⟩
    case round =>
      clear d2
      obtain ⟨wo, rfl⟩ : ∃ wo : World, wo = wr := ⟨_, rfl⟩
      obtain ⟨k, hk, rfl, HF, HU⟩ := hrel
      have e2 := HD2.out wo HU.out
      by_cases hlt : k < d.body.length
      · have hf := HF.out
        rw [List.drop_eq_getElem_cons hlt, faultFrom] at hf
        have HFN := Lib.hid hf
        have S2 := Lib.hid (HRE.out k hlt wo HU.out)
        have hrn := reasonP_nn ds d.body[k] (d.pars + cntB folP sumP d.body k) (behindP d.body k)
        have hkl : (k : Int) < (d.body.length : Int) := by omega
        clear hf HF
        generalize reasonP ds d.body[k] (d.pars + cntB folP sumP d.body k) (behindP d.body k) = rz at *
        go_wp2_with fail
        refine S2.out.mono ?_
        rintro e w2 ⟨rfl, hu⟩
        have HU2 := Lib.hid (HU.out.trans hu)
        clear S2 hu e2
        by_cases hz : rz = 0
        · have hzb : ¬ (0 : Int) < rz := by omega
          have HK := Lib.hid (show faultFrom ds d d.body (k + 1) (d.body.drop (k + 1)) = faultFrom ds d d.body 0 d.body by rw [← HFN.out, if_pos hz])
          clear hz HFN
          go_wp2_with fail
          go_roundw
          case rel => exact ⟨k + 1, by omega, by go_num, HK, HU2⟩
          case measure => simp [intOf]; omega
        · have hzb : (0 : Int) < rz := by omega
          have HK := Lib.hid (show faultP ds d = ((k : Int), rz) by rw [HZ.out, ← HFN.out, if_neg hz])
          clear hz HFN
          go_wp2_with fail
          go_ret2
          exact ⟨by rw [HK.out]; rfl, HU2.out⟩
      · have hf := HF.out
        rw [List.drop_of_length_le (by omega), faultFrom] at hf
        have HK := Lib.hid (show faultP ds d = (0, 0) by rw [HZ.out, ← hf])
        have hkl : ¬ (k : Int) < (d.body.length : Int) := by omega
        clear hf
        go_wp2_with fail
        go_ret2
        exact ⟨by rw [HK.out]; rfl, HU.out⟩

theorem defsOk_noname {ds : List De} {k : Nat} (hk : k < ds.length) (h : nameF ds[k].name = false) : defsOk ds = false :=
  defsOk_no hk (by unfold goodD; rw [h]; rfl)
theorem defsOk_nopars {ds : List De} {k : Nat} (hk : k < ds.length) (h : inB ds[k].pars 0 3 = false) : defsOk ds = false :=
  defsOk_size (by
    unfold sizeD
    rw [show (ds.all fun d => inB d.pars 0 3) = false from by
      rw [List.all_eq_false]; exact ⟨_, List.getElem_mem hk, by simp [h]⟩]
    simp)
theorem defsOk_nodup {ds : List De} {j k : Nat} (hj : j < k) (hk : k < ds.length) (h : (ds[j].name == ds[k].name) = true) : defsOk ds = false :=
  defsOk_no hk (by
    unfold goodD
    rw [show ((ds.take k).any fun o => o.name == ds[k].name) = true from List.any_eq_true.2 ⟨ds[j], List.mem_iff_getElem.2 ⟨j, by simp; omega, by simp⟩, h⟩]
    simp)
theorem defsOk_nofault {ds : List De} {k : Nat} (hk : k < ds.length) (h : (faultP ds ds[k]).2 ≠ 0) : defsOk ds = false :=
  defsOk_no hk (by unfold goodD; simp [h])
/-- names and parameters of a definition, and its name in no earlier one. -/
def headD (ds : List De) (k : Nat) (d : De) : Bool := nameF d.name && inB d.pars 0 3 && !((ds.take k).any fun o => o.name == d.name)
theorem defsOk_all {ds : List De} (hs : inB (ds.length : Int) 1 4 = true) (h1 : ∀ j (hj : j < ds.length), headD ds j ds[j] = true) (h2 : ∀ j (hj : j < ds.length), (faultP ds ds[j]).2 = 0) : defsOk ds = true := by
  have hh : ∀ j (hj : j < ds.length), nameF ds[j].name = true ∧ inB ds[j].pars 0 3 = true ∧ ((ds.take j).any fun o => o.name == ds[j].name) = false := fun j hj => by
    have := h1 j hj
    unfold headD at this
    simp only [Bool.and_eq_true, Bool.not_eq_true'] at this
    exact ⟨this.1.1, this.1.2, this.2⟩
  rw [defsOk_yes (fun j hj => by
    unfold goodD
    obtain ⟨a, b, c⟩ := hh j hj
    rw [a, c, h2 j hj]; rfl)]
  have hs := inB_true hs
  unfold sizeD
  rw [decide_eq_true (by omega), decide_eq_true (by omega), List.all_eq_true.2 (fun d hd => by obtain ⟨j, hj, rfl⟩ := List.mem_iff_getElem.1 hd; exact (hh j hj).2.1)]
  rfl
theorem defsOk_len {ds : List De} (h : inB (ds.length : Int) 1 4 = false) : defsOk ds = false := by
  have := inB_false h
  refine defsOk_size ?_
  unfold sizeD
  by_cases h1 : 1 ≤ ds.length
  · rw [decide_eq_true h1, decide_eq_false (by omega)]; rfl
  · rw [decide_eq_false h1]; rfl

end Go.Proofs.YtnchmnjkmhfleaaGreat
