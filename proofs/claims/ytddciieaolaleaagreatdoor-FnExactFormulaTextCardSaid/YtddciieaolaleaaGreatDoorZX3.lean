/-
  Texts joined in one file: FxS, ForT, ForU, ForW, FxE, LawFormulaText, OpenF, LabZ.
-/
import Derived.Test.YtddciieaolaleaaGreatDoorZX1
import Derived.Test.YtddciieaolaleaaGreatDoorZX2
import Derived.Deep.DeepCutAuto
import Derived.Lib.SmallJoins
import Derived.Deep.Strs
import Derived.Lib.LaidTab
import Derived.Stop.LaidErr
import Derived.HandedShaped
import Derived.Handed
import Derived.Shelf.Vars
/-
  The text of a formula: what the reference's calls return.
-/
namespace Go.Proofs.YtddciieaolaleaaGreatDoor
open Go.RowKit

theorem es_parS (T : List UInt8) : ((⟨#[40]⟩ : ByteArray) ++ ⟨T.toArray⟩ ++ ⟨#[41]⟩) = ⟨(([40] ++ T) ++ [41]).toArray⟩ := by rw [← es_catX, ← es_catX]
theorem wrapS (T : List UInt8) (b : Bool) (hl : T.length ≤ 1000000) (w : World) : Calls Tryz.prog 53 #[es T, .bool b] w fun e w' => e = .returned (es (parX b T)) ∧ w = w' := by
  cases b
  · go_enter Tryz.func53, Tryz.ntmps53
    go_wp2_with fail
    go_ret
    exact ⟨rfl, rfl⟩
  · go_enter Tryz.func53, Tryz.ntmps53
    go_wp2_with fail
    go_ret
    exact ⟨by simp only [parX, if_true, es_parS]; rfl, rfl⟩

set_option maxRecDepth 20000 in
set_option maxHeartbeats 2000000 in
theorem testS (s : List UInt8) (nt : Bool) (w : World) (hl : s.length ≤ 1000000) : Calls Tryz.prog 52 #[es s, .bool nt] w fun e w' => e = .returned (es (testF s nt)) ∧ w = w' := by
  have hT := Lib.hid (show testF s nt = if nt then [33] ++ (if s = [] then [95] else if Lib.hasSuffix s [42] then s.dropLast ++ [40, 42, 41] else s) else (if s = [] then [95] else if Lib.hasSuffix s [42] then s.dropLast ++ [40, 42, 41] else s) from rfl)
  by_cases h0 : s = []
  · subst h0
    cases nt
    all_goals
      go_enter Tryz.func52, Tryz.ntmps52
      go_wp2_with fail
      go_ret
      exact ⟨rfl, rfl⟩
  · rw [if_neg h0, suf_last] at hT
    obtain ⟨l, x, rfl⟩ : ∃ l x, s = l ++ [x] := by
      rcases List.eq_nil_or_concat s with h | ⟨l, x, h⟩
      · exact absurd h h0
      · exact ⟨l, x, by rw [h]; simp⟩
    rw [show (l ++ [x]).getLast? = some x by simp, show (l ++ [x]).dropLast = l by simp] at hT
    have hlen : (l ++ [x]).length = l.length + 1 := by simp
    have hll : l.length ≤ 1000000 := by rw [hlen] at hl; omega
    have hext := extract_list (l ++ [x]) 0 l.length
    have e1 : ((l ++ [x]).drop 0).take (l.length - 0) = l := by simp
    rw [e1] at hext
    have hix : (⟨(l ++ [x]).toArray⟩ : ByteArray)[l.length]'(by simp [ByteArray.size]) = x := by simp [ByteArray.getElem_eq_getElem_data]
    have hm1 : ((l.length : Int) + 1) - 1 = (l.length : Int) := by omega
    have hm4 : (l.length : Int) ≤ (l.length : Int) + 1 := by omega
    have hzz : l.length < (l ++ [x]).length := by omega
    clear h0 e1
    obtain ⟨S, hS⟩ : ∃ S, S = l ++ [x] := ⟨_, rfl⟩
    have hix2 : ∃ hh, (⟨S.toArray⟩ : ByteArray)[l.length]'hh = x := by subst hS; exact ⟨_, hix⟩
    rw [← hS] at hT hlen hext hzz hl
    rw [← hS]
    clear hix hS
    obtain ⟨hh, hix⟩ := hix2
    by_cases hx : x = 42
    · have bx : ((x.toNat : Int) == 42) = true := by rw [hx]; rfl
      obtain ⟨M, hM⟩ : ∃ M, M = l ++ [40, 42, 41] := ⟨_, rfl⟩
      have hcat : (ByteArray.mk l.toArray ++ ByteArray.mk #[40, 42, 41]) = ByteArray.mk M.toArray := by rw [hM, ← es_catX]
      have hml : M.length ≤ 1000003 := by rw [hM, List.length_append]; simp; omega
      cases nt
      · have HR := Lib.hid (show testF S false = M by rw [hT.out, hx, hM]; simp)
        clear hT hx hM
        go_enter Tryz.func52, Tryz.ntmps52
        go_wp2_with fail
        go_ret
        exact ⟨by rw [HR.out]; rfl, rfl⟩
      · have HR := Lib.hid (show testF S true = [33] ++ M by rw [hT.out, hx, hM]; simp)
        clear hT hx hM
        go_enter Tryz.func52, Tryz.ntmps52
        go_wp2_with fail
        go_ret
        exact ⟨by rw [HR.out, es_catX]; rfl, rfl⟩
    · have bx : ((x.toNat : Int) == 42) = false := by
        simp; intro h; apply hx; exact UInt8.toNat_inj.1 (by rw [show (42 : UInt8).toNat = 42 from rfl]; omega)
      have hx' : (some x == some (42 : UInt8)) = false := by simpa using hx
      cases nt
      · have HR := Lib.hid (show testF S false = S by rw [hT.out, hx']; simp)
        clear hT hx hx'
        go_enter Tryz.func52, Tryz.ntmps52
        go_wp2_with fail
        go_ret
        exact ⟨by rw [HR.out]; rfl, rfl⟩
      · have HR := Lib.hid (show testF S true = [33] ++ S by rw [hT.out, hx']; simp)
        clear hT hx hx'
        go_enter Tryz.func52, Tryz.ntmps52
        go_wp2_with fail
        go_ret
        exact ⟨by rw [HR.out, es_catX]; rfl, rfl⟩

theorem Tryz.infoStrX : (Tryz.prog.info? 9).map (fun i => (i.zero, i.size, i.bytes)) = some (some (.string ⟨#[]⟩), 1, 16) := by kernel_rfl

theorem nodeF_congr (n : Nd) {k0 k1 k0' k1' : Int} {t0 t1 t0' t1' : List UInt8} (h0 : 1 ≤ arI n.kd → k0 = k0' ∧ t0 = t0') (h1 : 2 ≤ arI n.kd → k1 = k1' ∧ t1 = t1') : nodeF n k0 k1 t0 t1 = nodeF n k0' k1' t0' t1' := by
  obtain ⟨kd, vr, lb, nt⟩ := n
  simp only at h0 h1
  unfold nodeF
  simp only
  by_cases c0 : kd = 0
  · simp only [c0, if_true]
  by_cases c1 : kd = 1
  · subst c1; simp
  by_cases c2 : kd = 2
  · subst c2
    obtain ⟨rfl, rfl⟩ := h0 (by decide)
    obtain ⟨rfl, rfl⟩ := h1 (by decide)
    rfl
  by_cases c3 : kd = 3
  · subst c3
    obtain ⟨rfl, rfl⟩ := h0 (by decide)
    obtain ⟨rfl, rfl⟩ := h1 (by decide)
    rfl
  by_cases c4 : kd = 4
  · subst c4
    obtain ⟨rfl, rfl⟩ := h0 (by decide)
    rfl
  by_cases c5 : kd = 5
  · subst c5
    obtain ⟨rfl, rfl⟩ := h0 (by decide)
    rfl
  by_cases c7 : kd = 7
  · subst c7
    obtain ⟨rfl, rfl⟩ := h0 (by decide)
    rfl
  by_cases c8 : kd = 8
  · subst c8
    obtain ⟨rfl, rfl⟩ := h0 (by decide)
    rfl
  simp only [c0, c1, c2, c3, c4, c5, c7, c8, if_false]
theorem getD_take {γ : Type} (xs : List γ) (a i : Nat) (d : γ) (h : i < a) : (xs.take a).getD i d = xs.getD i d := by
  rw [List.getD_eq_getElem?_getD, List.getD_eq_getElem?_getD, List.getElem?_take, if_pos h]
theorem textX_take (t : Nd) (xs : List (Tr Nd)) : textX (.mk t (xs.take (arI t.kd).toNat)) = nodeF t ((xs.map kdT).getD 0 0) ((xs.map kdT).getD 1 0) ((xs.map textX).getD 0 []) ((xs.map textX).getD 1 []) := by
  rw [textX, textXs_map]
  refine nodeF_congr t (fun h => ?_) (fun h => ?_)
  · rw [List.map_take, List.map_take]
    exact ⟨getD_take _ _ _ _ (by omega), getD_take _ _ _ _ (by omega)⟩
  · rw [List.map_take, List.map_take]
    exact ⟨getD_take _ _ _ _ (by omega), getD_take _ _ _ _ (by omega)⟩
theorem forestT_le {α : Type} : ∀ xs : List (Tr α), xs.length ≤ (flatTs xs).length
  | [] => by simp
  | x :: xs => by simp only [flatTs, List.length_append, List.length_cons]; have := flatT_pos x; have := forestT_le xs; omega
theorem getD_lt {γ δ : Type} (xs : List γ) (F : γ → δ) (i : Nat) (d : δ) (h : i < xs.length) : (xs.map F).getD i d = F xs[i] := by
  rw [List.getD_eq_getElem?_getD, List.getElem?_map, List.getElem?_eq_getElem h]; rfl

/-- what stands on the reference's stacks: the forest of the nodes from k on. -/
structure FoS (w0 w : World) (tv lv : Value) (n g ct gl cl : Nat) (xs : List (Tr Nd)) : Prop where
  st : StkG textX kdT w0 w tv lv xs
  tv : tv = .slice (some ⟨g, 0, none⟩) n ct
  lv : lv = .slice (some ⟨gl, 0, none⟩) n cl
  tc : n ≤ ct ∧ ct ≤ 9223372036854775807
  lc : n ≤ cl ∧ cl ≤ 9223372036854775807

set_option maxRecDepth 20000 in
set_option maxHeartbeats 8000000 in
theorem formS (v : Value) (f : List Nd) (x : Tr Nd) (w : World) (fp : List Nat) (hR : R_F1 fp w [v] f) (hs : shapeF arI 1 f = true) (hln : f.length ≤ 30) (hfit : ∀ n ∈ f, ndFit n) (hx : forestT arN f = [x]) :
    Calls Tryz.prog 44 #[v] w fun e w' => e = .returned (es (textX x)) ∧ Upd [] w w' := by
  obtain ⟨i1, ki, kz0, kz1, kz2⟩ := info_parts Tryz.info2
  obtain ⟨i2, ji, jz0, jz1, jz2⟩ := info_parts Tryz.infoStrX
  obtain ⟨a1, c1, rfl, hl1, hm1, hc1⟩ := slF4_open hR
  unfold maxLen at hm1
  have hsg : shapeG arN 1 f = true := by rw [shapeG_F]; exact hs
  have HST := Lib.hid (fun k hk => forestT_step arN_nonneg hsg k hk)
  have HFL := Lib.hid (fun k (hk : k ≤ f.length) => by
    obtain ⟨q, q0, -, q2⟩ := shapeG_drop arN_nonneg f 1 (by omega) hsg k hk
    exact (forestT_ok arN_nonneg _ q q0 q2).2.2 : ∀ k, k ≤ f.length → flatTs (forestT arN (f.drop k)) = f.drop k)
  have HX0 := Lib.hid (show forestT arN (f.drop 0) = [x] from hx)
  have HXE := Lib.hid (show forestT arN (f.drop f.length) = [] by rw [List.drop_length]; rfl)
  have HFIT := Lib.hid hfit
  have HC := Lib.hid hc1
  have HL0 := Lib.hid (fun (w : World) (T : TypeId) => World.ownsRow_lit (base := w.heap.size) (e := T) (size := 1) w #[] 0 (Nat.le_refl _) (by simp [maxLen]) (by simp))
  generalize hFO : (fun k => forestT arN (f.drop k)) = FO at *
  have HFO := Lib.hid (show ∀ k, forestT arN (f.drop k) = FO k from fun k => by rw [← hFO])
  clear hR hs hfit hx hsg hc1 hFO
  go_enter Tryz.func44, Tryz.ntmps44
  go_wp2_with fail
  go_loopw [3, 4, 5] (fun tv lv iv wr => ∃ (k n g ct gl cl : Nat), k ≤ f.length ∧ iv = .int .i64 ((k : Int) - 1) ∧ tv = .slice (some ⟨g, 0, none⟩) n ct ∧ lv = .slice (some ⟨gl, 0, none⟩) n cl ∧ n = (FO k).length ∧ Upd [] w wr ∧ Hid (FoS w wr tv lv n g ct gl cl (FO k))) (fun _ _ iv _ => (intOf iv + 1).toNat)
  case atStart =>
    have h0 : FO f.length = [] := by rw [← HFO.out]; exact HXE.out
    refine ⟨f.length, 0, w.heap.size, 0, w.heap.size + 1, 0, Nat.le_refl _, rfl, rfl, rfl, by rw [h0]; rfl, ((Upd.refl _ _).alloc _).alloc _, Lib.hid ?_⟩
    rw [h0]
    refine ⟨⟨?_, ?_, ?_⟩, rfl, rfl, by omega, by omega⟩
    · simpa [txG] using ownsRow_upd (HL0.out w 9) ((Upd.refl [] _).alloc (.cells #[] 2))
    · have := World.ownsRow_lit (base := w.heap.size) (e := 2) (size := 1) (w.alloc (.cells #[] 9)) #[] 0 (by simp) (by simp [maxLen]) (by simp)
      simpa [lvG] using this
    · intro b hb hb2
      simp [Value.ownBlock] at hb hb2
      omega
  case round =>
    clear HL0
    obtain ⟨k, n, g, ct, gl, cl, hk, rfl, rfl, rfl, hn, hU, hS⟩ := hrel
    obtain ⟨htc1, htc2⟩ := hS.out.tc
    obtain ⟨hlc1, hlc2⟩ := hS.out.lc
    match k, hk, hS with
    | 0, hk, hS =>
      have h0 : FO 0 = [x] := by rw [← HFO.out]; exact HX0.out
      rw [h0] at hn
      subst hn
      have hS1 := hS.out
      rw [h0] at hS1
      have hc0 : wr.cell? ⟨g, 0, none⟩ = some (es (textX x)) := by
        have := hS1.st.t.cellAt 0 (by simp)
        simpa [txG] using this
      have HU := Lib.hid hU
      simp only [List.length_cons, List.length_nil, Nat.zero_add] at htc1 htc2 ⊢
      clear hS hS1 hU h0
      go_wp2_with fail
      go_ret
      exact ⟨rfl, HU.out⟩
    | k + 1, hk, hS =>
      subst hn
      obtain ⟨b1, o1, rfl, -, -, p1, p2, p3, p4⟩ := HC.out k (by omega)
      have p1 := hU.keep p1
      have p2 := hU.keep p2
      have p3 := hU.keep p3
      have p4 := hU.keep p4
      obtain ⟨hstep, hle⟩ := HST.out k (by omega)
      rw [HFO.out, HFO.out] at hstep
      rw [HFO.out] at hle
      have hfit := HFIT.out f[k] (List.getElem_mem _)
      have hfl := HFL.out (k + 1) (by omega)
      rw [HFO.out] at hfl
      have hall : ∀ y ∈ FO (k + 1), (textX y).length ≤ 3600 := by
        intro y hy
        have h1 : ∀ t ∈ flatT y, ndFit t := fun t ht => HFIT.out t (List.mem_of_mem_drop (hfl ▸ flatTs_mem hy t ht))
        have h2 := textX_len y h1
        obtain ⟨i, hi, rfl⟩ := List.getElem_of_mem hy
        have h3 := flatT_arg_le (FO (k + 1)) i hi
        rw [hfl, List.length_drop] at h3
        omega
      have hnx : (FO (k + 1)).length ≤ 30 := by
        have h1 := forestT_le (FO (k + 1))
        rw [hfl, List.length_drop] at h1
        omega
      generalize FO (k + 1) = xs at *
      have htx := textX_take f[k] xs
      have harN : arN f[k] = arI f[k].kd := rfl
      rw [harN] at hle hstep
      generalize f[k] = t at *
      obtain ⟨t1, t2, t3, t4⟩ := t
      obtain ⟨hk1, hv, hl⟩ := hfit
      simp only at hk1 hv hl htx hle hstep p1 p2 p3 p4
      have hai := arI_in t1
      obtain ⟨a, ha⟩ : ∃ a : Nat, arI t1 = a := ⟨(arI t1).toNat, by omega⟩
      have hat : (arI t1).toNat = a := by omega
      rw [hat] at hle hstep htx
      obtain ⟨ys, hys⟩ : ∃ ys, ys = xs.drop a := ⟨_, rfl⟩
      have hmx : ys.length = xs.length - a := by rw [hys, List.length_drop]
      have hm : xs.length = ys.length + a := by omega
      have htk := ownsRow_take hS.out.st.t ys.length (by omega)
      have hlk := ownsRow_take hS.out.st.l ys.length (by omega)
      rw [hmx, txG_take, ← hmx, ← hys] at htk
      rw [hmx, lvG_take, ← hmx, ← hys] at hlk
      rw [← hys] at hstep
      have hcells : ∀ i, (hi : i < xs.length) → wr.cell? ⟨g, ys.length + a - 1 - i, none⟩ = some (es (textX xs[i])) ∧ wr.cell? ⟨gl, ys.length + a - 1 - i, none⟩ = some (ei (kdT xs[i])) := fun i hi => by
        have q1 := hS.out.st.t.cellAt (xs.length - 1 - i) (by omega)
        have q2 := hS.out.st.l.cellAt (xs.length - 1 - i) (by omega)
        rw [txG_at xs i hi] at q1
        rw [lvG_at xs i hi] at q2
        rw [← hm]
        exact ⟨q1, q2⟩
      have C0 := Lib.hid (show 1 ≤ a → wr.cell? ⟨g, ys.length + a - 1, none⟩ = some (es ((xs.map textX).getD 0 [])) ∧ wr.cell? ⟨gl, ys.length + a - 1, none⟩ = some (ei ((xs.map kdT).getD 0 0)) from fun h => by
        have h0 : 0 < xs.length := by omega
        rw [getD_lt xs _ 0 _ h0, getD_lt xs _ 0 _ h0]
        exact hcells 0 h0)
      have C1 := Lib.hid (show 2 ≤ a → wr.cell? ⟨g, ys.length + a - 2, none⟩ = some (es ((xs.map textX).getD 1 [])) ∧ wr.cell? ⟨gl, ys.length + a - 2, none⟩ = some (ei ((xs.map kdT).getD 1 0)) from fun h => by
        have h0 : 1 < xs.length := by omega
        rw [getD_lt xs _ 1 _ h0, getD_lt xs _ 1 _ h0]
        exact hcells 1 h0)
      have hT0 : ((xs.map textX).getD 0 []).length ≤ 3600 ∧ ((xs.map textX).getD 1 []).length ≤ 3600 := by
        constructor
        · by_cases h0 : 0 < xs.length
          · rw [getD_lt xs _ 0 _ h0]; exact hall _ (List.getElem_mem h0)
          · have : xs = [] := List.eq_nil_of_length_eq_zero (by omega)
            subst this; simp
        · by_cases h0 : 1 < xs.length
          · rw [getD_lt xs _ 1 _ h0]; exact hall _ (List.getElem_mem h0)
          · rw [List.getD_eq_getElem?_getD, List.getElem?_eq_none (by simp; omega)]; simp
      obtain ⟨tr, htr⟩ : ∃ tr, tr = Tr.mk (⟨t1, t2, t3, t4⟩ : Nd) (xs.take a) := ⟨_, rfl⟩
      rw [← htr] at hstep htx
      have hkt : kdT tr = t1 := by rw [htr]; rfl
      have HTK := Lib.hid htk
      have HLK := Lib.hid hlk
      have HFK := Lib.hid (And.intro hstep hkt)
      have HAP := Lib.hid hS.out.st.apart
      have hgT := (hS.out.st.t.lt g rfl).2
      have HU := Lib.hid hU
      generalize (xs.map textX).getD 0 [] = T0 at *
      generalize (xs.map textX).getD 1 [] = T1 at *
      generalize (xs.map kdT).getD 0 0 = K0 at *
      generalize (xs.map kdT).getD 1 0 = K1 at *
      have HTX := Lib.hid htx
      have hSl := nodeF_len ⟨t1, t2, t3, t4⟩ ⟨hk1, hv, hl⟩ K0 K1 T0 T1
      obtain ⟨S, hSd⟩ : ∃ S, S = nodeF ⟨t1, t2, t3, t4⟩ K0 K1 T0 T1 := ⟨_, rfl⟩
      rw [← hSd] at hSl
      have HSD := Lib.hid hSd
      obtain ⟨Y, hYd⟩ : ∃ Y, Y = if a = 1 then parX (isAO K0) T0 else [] := ⟨_, rfl⟩
      have HYD := Lib.hid hYd
      have har := ar_same (k := t1) (by unfold inB; simp; omega)
      have AR := Lib.hid (fun W => arityS t1 W)
      rw [har, ha] at AR
      have HA := Lib.hid ha
      have ha2 : a ≤ 2 := by omega
      have hT0l := hT0.1
      have hT1l := hT0.2
      clear hU hS htk hlk hstep hle htx hall hcells hfl harN hat har ha hai hmx hSd hYd hT0 hkt htr hys
      generalize xs.length = n at *
      subst hm
      obtain ⟨wo, hwo⟩ : ∃ wo, wo = wr.alloc (.cells #[ei t1, ei t2, es t3, .bool t4] 54) := ⟨_, rfl⟩
      obtain ⟨TN, hTN⟩ : ∃ TN, TN = wr.heap.size := ⟨_, rfl⟩
      have hgTN : g < TN := by rw [hTN]; exact hgT
      have uo : Upd [] wr wo := by rw [hwo]; exact (Upd.refl _ _).alloc _
      have e0 : wo.cell? ⟨TN, 0, none⟩ = some (ei t1) := by rw [hwo]; exact cell_new _ _ _ _ hTN.symm 0 _ rfl
      have e1 : wo.cell? ⟨TN, 1, none⟩ = some (ei t2) := by rw [hwo]; exact cell_new _ _ _ _ hTN.symm 1 _ rfl
      have e2 : wo.cell? ⟨TN, 2, none⟩ = some (es t3) := by rw [hwo]; exact cell_new _ _ _ _ hTN.symm 2 _ rfl
      have e3 : wo.cell? ⟨TN, 3, none⟩ = some (.bool t4) := by rw [hwo]; exact cell_new _ _ _ _ hTN.symm 3 _ rfl
      have UO := Lib.hid uo
      have C0' := Lib.hid (fun h => And.intro (uo.keep (C0.out h).1) (uo.keep (C0.out h).2))
      have C1' := Lib.hid (fun h => And.intro (uo.keep (C1.out h).1) (uo.keep (C1.out h).2))
      clear uo C0 C1
      go_upto_if 30 with ((go_at_call 33; (with_reducible refine (AR.out _).mono ?_); rintro e w2 ⟨rfl, rfl⟩))
      rw [← hwo, ← hTN]
      clear hwo hTN p1 p2 p3 p4 AR
      go_cut [8] (fun s8 wx => s8 = es Y ∧ Upd [] wo wx)
      case first =>
        by_cases h1 : a = 1
        · subst h1
          obtain ⟨d0, d1⟩ := C0'.out (by omega)
          rw [Nat.add_sub_cancel] at d0 d1
          have HYE := Lib.hid (show Y = parX (isAO K0) T0 by rw [HYD.out, if_pos rfl])
          have WS0 := Lib.hid (fun (b : Bool) n' => Calls.quiet_of_same (n := n') ((wrapS T0 b (by omega) (wo.drewN n')).mono (fun e w' h => ⟨h.1, h.2.symm⟩)))
          have hw1 : IntKind.i64.wrap ((ys.length : Int) + 1 - 1) = (ys.length : Int) := by rw [IntKind.wrap_i64]; omega
          have hw2 : IntKind.i64.wrap (ys.length : Int) = (ys.length : Int) := by rw [IntKind.wrap_i64]; omega
          clear C0' C1' HTK HLK HFK HAP HTX HSD HYD HA
          rcases (show K0 = 2 ∨ K0 ≠ 2 by omega) with rfl | n2
          · skip
            go_wp2_with fail
            go_quiet ((go_at_call 53; with_reducible exact WS0.out true _))
            go_wp2_with fail
            go_meet
            exact ⟨by rw [HYE.out]; rfl, (Upd.refl _ _).drewN _⟩
          · have b2 : (K0 == 2) = false := by simpa using n2
            obtain ⟨q0, b3⟩ : ∃ q, (K0 == 3) = q := ⟨_, rfl⟩
            have HB := Lib.hid (show isAO K0 = q0 by unfold isAO; rw [b2, b3]; rfl)
            clear n2
            go_wp2_with fail
            go_quiet ((go_at_call 53; with_reducible exact WS0.out q0 _))
            go_wp2_with fail
            go_meet
            exact ⟨by rw [HYE.out, HB.out], (Upd.refl _ _).drewN _⟩
        · have h1b : ((a : Int) == 1) = false := by simp; omega
          have HYE := Lib.hid (show Y = [] by rw [HYD.out, if_neg h1])
          clear C0' C1' HTK HLK HFK HAP HTX HSD HYD HA
          go_wp2_with fail
          go_meet
          exact ⟨by rw [HYE.out], Upd.refl _ _⟩
      case rest =>
        obtain ⟨rfl, hu⟩ := hcut
        have e0 := hu.keep e0
        have e1 := hu.keep e1
        have e2 := hu.keep e2
        have e3 := hu.keep e3
        have D0 := Lib.hid (fun h => And.intro (hu.keep (C0'.out h).1) (hu.keep (C0'.out h).2))
        have D1 := Lib.hid (fun h => And.intro (hu.keep (C1'.out h).1) (hu.keep (C1'.out h).2))
        have UC := Lib.hid (UO.out.trans hu)
        obtain ⟨wp, rfl⟩ : ∃ wp : World, wp = wc := ⟨_, rfl⟩
        have hYl : Y.length ≤ 4000 := by
          rw [HYD.out]
          have := parX_len (isAO K0) T0
          split
          · omega
          · simp
        clear hu C0' C1' UO
        go_upto_block 2 with (fail)
        go_cut [8] (fun s8 wx => s8 = es S ∧ Upd [] wp wx)
        case first =>
          clear HTK HLK HFK HAP HTX UC
          rcases (by omega : t1 = 0 ∨ t1 = 1 ∨ t1 = 2 ∨ t1 = 3 ∨ t1 = 4 ∨ t1 = 5 ∨ t1 = 6 ∨ t1 = 7 ∨ t1 = 8) with rfl | rfl | rfl | rfl | rfl | rfl | rfl | rfl | rfl
          · have HE := Lib.hid (show S = [116, 114, 117, 101] by rw [HSD.out]; simp [nodeF])
            clear HSD HYD HA D0 D1
            go_wp2_with fail
            go_meet
            exact ⟨by rw [HE.out], Upd.refl _ _⟩
          · have HE := Lib.hid (show S = [102, 97, 108, 115, 101] by rw [HSD.out]; simp [nodeF])
            clear HSD HYD HA D0 D1
            go_wp2_with fail
            go_meet
            exact ⟨by rw [HE.out], Upd.refl _ _⟩
          · obtain rfl : a = 2 := by have := HA.out; simp [arI] at this; omega
            obtain ⟨d0, d1⟩ := D0.out (by omega)
            obtain ⟨d2, d3⟩ := D1.out (by omega)
            rw [show ys.length + 2 - 1 = ys.length + 1 by omega] at d0 d1
            rw [show ys.length + 2 - 2 = ys.length by omega] at d2 d3
            have hw1 : IntKind.i64.wrap ((ys.length : Int) + 2 - 1) = (ys.length : Int) + 1 := by rw [IntKind.wrap_i64]; omega
            have hw2 : IntKind.i64.wrap ((ys.length : Int) + 1) = (ys.length : Int) + 1 := by rw [IntKind.wrap_i64]; omega
            have hw3 : IntKind.i64.wrap ((ys.length : Int) + 1 - 1) = (ys.length : Int) := by rw [IntKind.wrap_i64]; omega
            have hw4 : IntKind.i64.wrap (ys.length : Int) = (ys.length : Int) := by rw [IntKind.wrap_i64]; omega
            have hw5 : IntKind.i64.wrap ((ys.length : Int) + 2 - 1 - 1) = (ys.length : Int) := by rw [IntKind.wrap_i64]; omega
            have hn1 : ((ys.length : Int) + 1).toNat = ys.length + 1 := by omega
            have WS0 := Lib.hid (fun (b : Bool) n' => Calls.quiet_of_same (n := n') ((wrapS T0 b (by omega) (wp.drewN n')).mono (fun e w' h => ⟨h.1, h.2.symm⟩)))
            have WS1 := Lib.hid (fun (b : Bool) n' => Calls.quiet_of_same (n := n') ((wrapS T1 b (by omega) (wp.drewN n')).mono (fun e w' h => ⟨h.1, h.2.symm⟩)))
            rcases (show K0 = 2 ∨ K0 ≠ 2 by omega) with rfl | n2
            · skip
              have HB0 := Lib.hid (show isAO 2 = true by rfl)
              obtain ⟨A, hA⟩ : ∃ A, A = parX true T0 := ⟨_, rfl⟩
              have hAl : A.length ≤ 3602 := by rw [hA]; have := parX_len true T0; omega
              have WA := Lib.hid (fun n' => WS0.out true n')
              rw [← hA] at WA
              clear WS0
              obtain ⟨AO, hAO⟩ : ∃ AO, AO = A ++ [32, 38, 32] := ⟨_, rfl⟩
              have hcat1 : (ByteArray.mk A.toArray ++ ByteArray.mk #[32, 38, 32]) = ByteArray.mk AO.toArray := by rw [hAO, ← es_catX]
              have haol : AO.length ≤ 3605 := by rw [hAO, List.length_append]; simp; omega
              have hz1 : ¬ (9223372036854775807 < A.length + 3) := by omega
              obtain ⟨q1, b4⟩ : ∃ q, (K1 == 3) = q := ⟨_, rfl⟩
              have HB1 := Lib.hid (show isO K1 = q1 by unfold isO; rw [b4])
              obtain ⟨B, hB⟩ : ∃ B, B = parX q1 T1 := ⟨_, rfl⟩
              have hBl : B.length ≤ 3602 := by rw [hB]; have := parX_len q1 T1; omega
              have WB := Lib.hid (fun n' => WS1.out q1 n')
              rw [← hB] at WB
              clear WS1
              obtain ⟨SS, hSS⟩ : ∃ SS, SS = AO ++ B := ⟨_, rfl⟩
              have hcat2 : (ByteArray.mk AO.toArray ++ ByteArray.mk B.toArray) = ByteArray.mk SS.toArray := by rw [hSS, ← es_catX]
              have hz2 : ¬ (9223372036854775807 < AO.length + B.length) := by omega
              have HE := Lib.hid (show S = SS by rw [HSD.out, hSS, hAO, hA, hB]; simp only [nodeF]; rw [HB0.out, HB1.out]; simp)
              clear hSS hAO hA hB HSD HYD HA D0 D1
              go_wp2_with fail
              go_quiet ((go_at_call 53; first | (with_reducible exact WA.out _) | (with_reducible exact WB.out _)))
              go_wp2_with fail
              go_meet
              exact ⟨by rw [HE.out], (Upd.refl _ _).drewN _⟩
            · skip
              have b2 : (K0 == 2) = false := by simpa using n2
              obtain ⟨q0, b3⟩ : ∃ q, (K0 == 3) = q := ⟨_, rfl⟩
              have HB0 := Lib.hid (show isAO K0 = q0 by unfold isAO; rw [b2, b3]; rfl)
              clear n2
              obtain ⟨A, hA⟩ : ∃ A, A = parX q0 T0 := ⟨_, rfl⟩
              have hAl : A.length ≤ 3602 := by rw [hA]; have := parX_len q0 T0; omega
              have WA := Lib.hid (fun n' => WS0.out q0 n')
              rw [← hA] at WA
              clear WS0
              obtain ⟨AO, hAO⟩ : ∃ AO, AO = A ++ [32, 38, 32] := ⟨_, rfl⟩
              have hcat1 : (ByteArray.mk A.toArray ++ ByteArray.mk #[32, 38, 32]) = ByteArray.mk AO.toArray := by rw [hAO, ← es_catX]
              have haol : AO.length ≤ 3605 := by rw [hAO, List.length_append]; simp; omega
              have hz1 : ¬ (9223372036854775807 < A.length + 3) := by omega
              obtain ⟨q1, b4⟩ : ∃ q, (K1 == 3) = q := ⟨_, rfl⟩
              have HB1 := Lib.hid (show isO K1 = q1 by unfold isO; rw [b4])
              obtain ⟨B, hB⟩ : ∃ B, B = parX q1 T1 := ⟨_, rfl⟩
              have hBl : B.length ≤ 3602 := by rw [hB]; have := parX_len q1 T1; omega
              have WB := Lib.hid (fun n' => WS1.out q1 n')
              rw [← hB] at WB
              clear WS1
              obtain ⟨SS, hSS⟩ : ∃ SS, SS = AO ++ B := ⟨_, rfl⟩
              have hcat2 : (ByteArray.mk AO.toArray ++ ByteArray.mk B.toArray) = ByteArray.mk SS.toArray := by rw [hSS, ← es_catX]
              have hz2 : ¬ (9223372036854775807 < AO.length + B.length) := by omega
              have HE := Lib.hid (show S = SS by rw [HSD.out, hSS, hAO, hA, hB]; simp only [nodeF]; rw [HB0.out, HB1.out]; simp)
              clear hSS hAO hA hB HSD HYD HA D0 D1
              go_wp2_with fail
              go_quiet ((go_at_call 53; first | (with_reducible exact WA.out _) | (with_reducible exact WB.out _)))
              go_wp2_with fail
              go_meet
              exact ⟨by rw [HE.out], (Upd.refl _ _).drewN _⟩
          · obtain rfl : a = 2 := by have := HA.out; simp [arI] at this; omega
            obtain ⟨d0, d1⟩ := D0.out (by omega)
            obtain ⟨d2, d3⟩ := D1.out (by omega)
            rw [show ys.length + 2 - 1 = ys.length + 1 by omega] at d0 d1
            rw [show ys.length + 2 - 2 = ys.length by omega] at d2 d3
            have hw1 : IntKind.i64.wrap ((ys.length : Int) + 2 - 1) = (ys.length : Int) + 1 := by rw [IntKind.wrap_i64]; omega
            have hw2 : IntKind.i64.wrap ((ys.length : Int) + 1) = (ys.length : Int) + 1 := by rw [IntKind.wrap_i64]; omega
            have hw3 : IntKind.i64.wrap ((ys.length : Int) + 1 - 1) = (ys.length : Int) := by rw [IntKind.wrap_i64]; omega
            have hw4 : IntKind.i64.wrap (ys.length : Int) = (ys.length : Int) := by rw [IntKind.wrap_i64]; omega
            have hw5 : IntKind.i64.wrap ((ys.length : Int) + 2 - 1 - 1) = (ys.length : Int) := by rw [IntKind.wrap_i64]; omega
            have hn1 : ((ys.length : Int) + 1).toNat = ys.length + 1 := by omega
            have WS0 := Lib.hid (fun (b : Bool) n' => Calls.quiet_of_same (n := n') ((wrapS T0 b (by omega) (wp.drewN n')).mono (fun e w' h => ⟨h.1, h.2.symm⟩)))
            have WS1 := Lib.hid (fun (b : Bool) n' => Calls.quiet_of_same (n := n') ((wrapS T1 b (by omega) (wp.drewN n')).mono (fun e w' h => ⟨h.1, h.2.symm⟩)))
            obtain ⟨q0, b3⟩ : ∃ q, (K0 == 3) = q := ⟨_, rfl⟩
            have HB0 := Lib.hid (show isO K0 = q0 by unfold isO; rw [b3])
            obtain ⟨A, hA⟩ : ∃ A, A = parX q0 T0 := ⟨_, rfl⟩
            have hAl : A.length ≤ 3602 := by rw [hA]; have := parX_len q0 T0; omega
            have WA := Lib.hid (fun n' => WS0.out q0 n')
            rw [← hA] at WA
            clear WS0
            obtain ⟨AO, hAO⟩ : ∃ AO, AO = A ++ [32, 124, 32] := ⟨_, rfl⟩
            have hcat1 : (ByteArray.mk A.toArray ++ ByteArray.mk #[32, 124, 32]) = ByteArray.mk AO.toArray := by rw [hAO, ← es_catX]
            have haol : AO.length ≤ 3605 := by rw [hAO, List.length_append]; simp; omega
            have hz1 : ¬ (9223372036854775807 < A.length + 3) := by omega
            clear WS1
            obtain ⟨SS, hSS⟩ : ∃ SS, SS = AO ++ T1 := ⟨_, rfl⟩
            have hcat2 : (ByteArray.mk AO.toArray ++ ByteArray.mk T1.toArray) = ByteArray.mk SS.toArray := by rw [hSS, ← es_catX]
            have hz2 : ¬ (9223372036854775807 < AO.length + T1.length) := by omega
            have HE := Lib.hid (show S = SS by rw [HSD.out, hSS, hAO, hA]; simp only [nodeF]; rw [HB0.out]; simp)
            clear hSS hAO hA HSD HYD HA D0 D1
            go_wp2_with fail
            go_quiet ((go_at_call 53; with_reducible exact WA.out _))
            go_wp2_with fail
            go_meet
            exact ⟨by rw [HE.out], (Upd.refl _ _).drewN _⟩
          · have HYE := Lib.hid (show Y = parX (isAO K0) T0 by rw [HYD.out, if_pos (by have := HA.out; simp [arI] at this; omega)])
            have hml := testF_len t3 t4
            obtain ⟨M, hM⟩ : ∃ M, M = testF t3 t4 := ⟨_, rfl⟩
            have T0' := Lib.hid (fun W => testS t3 t4 W (by omega))
            rw [← hM] at T0' hml
            obtain ⟨M1, hM1⟩ : ∃ M1, M1 = [60] ++ M := ⟨_, rfl⟩
            have hc1 : (ByteArray.mk #[60] ++ ByteArray.mk M.toArray) = ByteArray.mk M1.toArray := by rw [hM1, ← es_catX]
            have hm1 : M1.length ≤ 200 := by rw [hM1, List.length_append]; simp; omega
            obtain ⟨M2, hM2⟩ : ∃ M2, M2 = M1 ++ [62] := ⟨_, rfl⟩
            have hc2 : (ByteArray.mk M1.toArray ++ ByteArray.mk #[62]) = ByteArray.mk M2.toArray := by rw [hM2, ← es_catX]
            have hm2 : M2.length ≤ 201 := by rw [hM2, List.length_append]; simp; omega
            obtain ⟨SS, hSS⟩ : ∃ SS, SS = M2 ++ Y := ⟨_, rfl⟩
            have hc3 : (ByteArray.mk M2.toArray ++ ByteArray.mk Y.toArray) = ByteArray.mk SS.toArray := by rw [hSS, ← es_catX]
            have HE := Lib.hid (show S = SS by rw [HSD.out, hSS, hM2, hM1, hM, HYE.out]; simp [nodeF])
            clear hSS hM2 hM1 hM HSD HYD HA D0 D1 HYE
            go_wp2_with fail
            refine (T0'.out _).mono ?_
            rintro r w9 ⟨rfl, rfl⟩
            clear T0'
            go_wp2_with fail
            go_meet
            exact ⟨by rw [HE.out], Upd.refl _ _⟩
          · have HYE := Lib.hid (show Y = parX (isAO K0) T0 by rw [HYD.out, if_pos (by have := HA.out; simp [arI] at this; omega)])
            have hml := testF_len t3 t4
            obtain ⟨M, hM⟩ : ∃ M, M = testF t3 t4 := ⟨_, rfl⟩
            have T0' := Lib.hid (fun W => testS t3 t4 W (by omega))
            rw [← hM] at T0' hml
            obtain ⟨M1, hM1⟩ : ∃ M1, M1 = [91] ++ M := ⟨_, rfl⟩
            have hc1 : (ByteArray.mk #[91] ++ ByteArray.mk M.toArray) = ByteArray.mk M1.toArray := by rw [hM1, ← es_catX]
            have hm1 : M1.length ≤ 200 := by rw [hM1, List.length_append]; simp; omega
            obtain ⟨M2, hM2⟩ : ∃ M2, M2 = M1 ++ [93] := ⟨_, rfl⟩
            have hc2 : (ByteArray.mk M1.toArray ++ ByteArray.mk #[93]) = ByteArray.mk M2.toArray := by rw [hM2, ← es_catX]
            have hm2 : M2.length ≤ 201 := by rw [hM2, List.length_append]; simp; omega
            obtain ⟨SS, hSS⟩ : ∃ SS, SS = M2 ++ Y := ⟨_, rfl⟩
            have hc3 : (ByteArray.mk M2.toArray ++ ByteArray.mk Y.toArray) = ByteArray.mk SS.toArray := by rw [hSS, ← es_catX]
            have HE := Lib.hid (show S = SS by rw [HSD.out, hSS, hM2, hM1, hM, HYE.out]; simp [nodeF])
            clear hSS hM2 hM1 hM HSD HYD HA D0 D1 HYE
            go_wp2_with fail
            refine (T0'.out _).mono ?_
            rintro r w9 ⟨rfl, rfl⟩
            clear T0'
            go_wp2_with fail
            go_meet
            exact ⟨by rw [HE.out], Upd.refl _ _⟩
          · obtain ⟨q, rfl⟩ : ∃ q : Nat, t2 = q := ⟨t2.toNat, by omega⟩
            have hml := itoaX_small (n := q) (by omega) (by omega)
            obtain ⟨M, hM⟩ : ∃ M, M = Lib.itoa (q : Int) := ⟨_, rfl⟩
            have T0' := Lib.hid (fun W => l01DecP q W (by omega))
            rw [← hM] at T0' hml
            obtain ⟨M1, hM1⟩ : ∃ M1, M1 = [88] ++ M := ⟨_, rfl⟩
            have hc1 : (ByteArray.mk #[88] ++ ByteArray.mk M.toArray) = ByteArray.mk M1.toArray := by rw [hM1, ← es_catX]
            have HE := Lib.hid (show S = M1 by rw [HSD.out, hM1, hM]; simp [nodeF])
            clear hM1 hM HSD HYD HA D0 D1
            go_wp2_with fail
            refine (T0'.out _).mono ?_
            rintro r w9 ⟨rfl, hu9⟩
            have HU9 := Lib.hid hu9
            clear T0' hu9
            go_wp2_with fail
            go_meet
            exact ⟨by rw [HE.out], HU9.out⟩
          · have HYE := Lib.hid (show Y = parX (isAO K0) T0 by rw [HYD.out, if_pos (by have := HA.out; simp [arI] at this; omega)])
            obtain ⟨q, rfl⟩ : ∃ q : Nat, t2 = q := ⟨t2.toNat, by omega⟩
            have hml := itoaX_small (n := q) (by omega) (by omega)
            obtain ⟨M, hM⟩ : ∃ M, M = Lib.itoa (q : Int) := ⟨_, rfl⟩
            have T0' := Lib.hid (fun W => l01DecP q W (by omega))
            rw [← hM] at T0' hml
            obtain ⟨M1, hM1⟩ : ∃ M1, M1 = [109, 117, 32, 88] ++ M := ⟨_, rfl⟩
            have hc1 : (ByteArray.mk #[109, 117, 32, 88] ++ ByteArray.mk M.toArray) = ByteArray.mk M1.toArray := by rw [hM1, ← es_catX]
            have hm1 : M1.length ≤ 200 := by rw [hM1, List.length_append]; simp; omega
            obtain ⟨M2, hM2⟩ : ∃ M2, M2 = M1 ++ [46] := ⟨_, rfl⟩
            have hc2 : (ByteArray.mk M1.toArray ++ ByteArray.mk #[46]) = ByteArray.mk M2.toArray := by rw [hM2, ← es_catX]
            have hm2 : M2.length ≤ 201 := by rw [hM2, List.length_append]; simp; omega
            obtain ⟨SS, hSS⟩ : ∃ SS, SS = M2 ++ Y := ⟨_, rfl⟩
            have hc3 : (ByteArray.mk M2.toArray ++ ByteArray.mk Y.toArray) = ByteArray.mk SS.toArray := by rw [hSS, ← es_catX]
            have HE := Lib.hid (show S = SS by rw [HSD.out, hSS, hM2, hM1, hM, HYE.out]; simp [nodeF])
            clear hSS hM2 hM1 hM HSD HYD HA D0 D1 HYE
            go_wp2_with fail
            refine (T0'.out _).mono ?_
            rintro r w9 ⟨rfl, hu9⟩
            have HU9 := Lib.hid hu9
            clear T0' hu9
            go_wp2_with fail
            go_meet
            exact ⟨by rw [HE.out], HU9.out⟩
          · have HYE := Lib.hid (show Y = parX (isAO K0) T0 by rw [HYD.out, if_pos (by have := HA.out; simp [arI] at this; omega)])
            obtain ⟨q, rfl⟩ : ∃ q : Nat, t2 = q := ⟨t2.toNat, by omega⟩
            have hml := itoaX_small (n := q) (by omega) (by omega)
            obtain ⟨M, hM⟩ : ∃ M, M = Lib.itoa (q : Int) := ⟨_, rfl⟩
            have T0' := Lib.hid (fun W => l01DecP q W (by omega))
            rw [← hM] at T0' hml
            obtain ⟨M1, hM1⟩ : ∃ M1, M1 = [110, 117, 32, 88] ++ M := ⟨_, rfl⟩
            have hc1 : (ByteArray.mk #[110, 117, 32, 88] ++ ByteArray.mk M.toArray) = ByteArray.mk M1.toArray := by rw [hM1, ← es_catX]
            have hm1 : M1.length ≤ 200 := by rw [hM1, List.length_append]; simp; omega
            obtain ⟨M2, hM2⟩ : ∃ M2, M2 = M1 ++ [46] := ⟨_, rfl⟩
            have hc2 : (ByteArray.mk M1.toArray ++ ByteArray.mk #[46]) = ByteArray.mk M2.toArray := by rw [hM2, ← es_catX]
            have hm2 : M2.length ≤ 201 := by rw [hM2, List.length_append]; simp; omega
            obtain ⟨SS, hSS⟩ : ∃ SS, SS = M2 ++ Y := ⟨_, rfl⟩
            have hc3 : (ByteArray.mk M2.toArray ++ ByteArray.mk Y.toArray) = ByteArray.mk SS.toArray := by rw [hSS, ← es_catX]
            have HE := Lib.hid (show S = SS by rw [HSD.out, hSS, hM2, hM1, hM, HYE.out]; simp [nodeF])
            clear hSS hM2 hM1 hM HSD HYD HA D0 D1 HYE
            go_wp2_with fail
            refine (T0'.out _).mono ?_
            rintro r w9 ⟨rfl, hu9⟩
            have HU9 := Lib.hid hu9
            clear T0' hu9
            go_wp2_with fail
            go_meet
            exact ⟨by rw [HE.out], HU9.out⟩
        case rest =>
          obtain ⟨rfl, hu⟩ := hcut
          obtain ⟨wq, rfl⟩ : ∃ wq : World, wq = wc := ⟨_, rfl⟩
          have e0 := hu.keep e0
          have UQ := Lib.hid (UC.out.trans hu)
          have ht2 := ownsRow_upd HTK.out UQ.out
          have hl2 := ownsRow_upd HLK.out UQ.out
          have HU2 := Lib.hid (HU.out.trans UQ.out)
          have hsz2 := HU2.out.size
          have HTL := Lib.hid (And.intro HTX.out HSD.out)
          clear hu D0 D1 UC e1 e2 e3 HYD HTK HLK UQ HTX HSD HA hYl
          go_wp2_with (first
            | (at_builtin; refine wpList_append_lies _ rfl _ _ 68 rfl w.heap.size 9 i2 (.string ⟨#[]⟩) 1 16 Tryz.underlying68 ji jz0 jz1 jz2 rfl (by decide) (.slice (some ⟨g, 0, none⟩) ys.length ct) ys.length (txG textX ys) rfl (ht2.alloc _) ⟨wq.heap.size, 0, none⟩ 1 1 [es S] rfl rfl (fun j u hj => by rw [addr_add]; exact cell_new wq #[es S] _ _ rfl _ _ (by simpa using hj)) (by simp [Value.oneCell']) (by decide) (by unfold maxLen; omega) (by omega) (by simp; omega) (wq.heap.size + 1) (by simp) ?_)
            | fail)
          intro g3 cap3 w3 hown3 hg3 hat3 hlt3
          obtain ⟨_, _, hv3, mm1, mm2, -, -, -⟩ := own_cellsX hown3 (by omega)
          simp only [Value.slice.injEq] at hv3
          obtain ⟨-, -, rfl⟩ := hv3
          unfold maxLen at mm2
          have e0w : w3.cell? ⟨TN, 0, none⟩ = some (ei t1) := by
            rw [hg3.cell_far _ (show TN < _ by have : TN < wq.heap.size := World.block_lt_of_cell? wq _ e0; simp; omega) (by simp [Value.ownBlock]; omega)]
            exact ((Upd.refl [] wq).alloc _).keep e0
          have hla := ownsRow_upd hl2 ((Upd.refl [] wq).alloc (.cells #[es S] 9))
          have hl3 := StkG.levels (o := .cells #[ei t1] 2) (tvc := Value.slice (some ⟨g, 0, none⟩) ys.length ct) hla HAP.out hg3
          have hU3 := (HU2.out.alloc (.cells #[es S] 9)).grown hg3 (fun b hb => Or.inl ((ht2.lt b hb).1))
          have hsz3 := hU3.size
          have HU3 := Lib.hid hU3
          have HLA := Lib.hid hla
          have HT3 := Lib.hid (show ∀ b, (Value.slice (some ⟨g3, 0, none⟩) (ys.length + 1) cap3).ownBlock = some b → (Value.slice (some ⟨g, 0, none⟩) ys.length ct).ownBlock = some b ∨ (wq.alloc (.cells #[es S] 9)).heap.size ≤ b from fun b hb => by
            simp only [Value.ownBlock, Option.some.injEq] at hb
            subst hb
            rcases hat3 with h | h
            · exact Or.inl h
            · exact Or.inr (by simp; omega))
          have HO3 := Lib.hid hown3
          have hw1 : IntKind.i64.wrap ((ys.length : Int) + (a : Int) - (a : Int)) = (ys.length : Int) := by rw [IntKind.wrap_i64]; omega
          have hw2 : IntKind.i64.wrap (ys.length : Int) = (ys.length : Int) := by rw [IntKind.wrap_i64]; omega
          have s1 : (0 : Int) ≤ (ys.length : Int) := by omega
          have s2 : (ys.length : Int) ≤ (cl : Int) := by omega
          clear hg3 hat3 hlt3 ht2 hl2 hown3 hla hU3 e0
          go_wp2_with fail
          go_region_law ((refine step_append_lies _ (by rfl) _ _ 69 (by rfl) w.heap.size 2 i1 (.int .i64 0) 1 8 Tryz.underlying69 ki kz0 kz1 kz2 rfl (by decide) (.slice (some ⟨gl, 0, none⟩) ys.length cl) ys.length (lvG kdT ys) (by rfl) hl3 ⟨w3.heap.size, 0, none⟩ 1 1 [ei t1] (by rfl) (by rfl) (by intro j u hj; rw [addr_add]; exact cell_new w3 #[ei t1] _ _ rfl _ _ (by simpa using hj)) (by simp [Value.oneCell']) (by decide) (by unfold maxLen; omega) (by omega) (by simp; omega) (w3.heap.size + 1) (by simp) ?_; intro g4 cap4 w4 hown4 hg4 hat4 hlt4))
          all_goals
            obtain ⟨_, _, hv4, nn1, nn2, -, -, -⟩ := own_cellsX hown4 (by omega)
            simp only [Value.slice.injEq] at hv4
            obtain ⟨-, -, rfl⟩ := hv4
            unfold maxLen at nn2
            have hg4 : (w3.alloc (.cells #[ei t1] 2)).grownBy w4 (Value.slice (some ⟨gl, 0, none⟩) ys.length cl).ownBlock := ⟨hg4.os, hg4.tape, hg4.output, hg4.size, hg4.block⟩
            have hS4 : StkG textX kdT w w4 (.slice (some ⟨g3, 0, none⟩) (ys.length + 1) cap3) (.slice (some ⟨g4, 0, none⟩) (ys.length + 1) cap4) (tr :: ys) := StkG.done (o := .cells #[ei t1] 2) HLA.out HAP.out (by rw [HTL.out.1, ← HTL.out.2]; exact HO3.out) HT3.out (by rw [HFK.out.2]; exact hown4) hg4 (fun b hb => by
              simp only [Value.ownBlock, Option.some.injEq] at hb
              subst hb
              rcases hat4 with h | h
              · exact Or.inl h
              · exact Or.inr (by simp; omega))
            have hU4 : Upd [] w w4 := (HU3.out.alloc (.cells #[ei t1] 2)).grown hg4 (fun b hb => Or.inl ((hl3.lt b hb).1))
            have HP := Lib.hid (And.intro hS4 hU4)
            clear hown4 hg4 hat4 hlt4 hS4 hU4 hl3 HTL HLA HT3 HO3 HU3 hw1 hw2 s1 s2 e0w
            go_wp2_with fail
            go_roundw
            case rel => exact ⟨k, ys.length + 1, g3, cap3, g4, cap4, by omega, by go_num, rfl, rfl, by rw [HFK.out.1]; rfl, HP.out.2, Lib.hid ⟨by rw [HFK.out.1]; exact HP.out.1, rfl, rfl, ⟨mm1, mm2⟩, ⟨nn1, nn2⟩⟩⟩
            case measure => simp [intOf]

end Go.Proofs.YtddciieaolaleaaGreatDoor

/-
  The reference's check of a formula: what the calls return.
-/
namespace Go.Proofs.YtddciieaolaleaaGreatDoor
open Go.RowKit

theorem shapeS_ar : ∀ (l : List Nd) (m : Int), shapeS m l = true → shapeF arS m l = true
  | [], m, h => h
  | n :: l, m, h => by
    rw [shapeS] at h
    split at h
    · cases h
    · next h1 =>
      split at h
      · cases h
      · rw [shapeF, if_neg (fun e => h1 (Or.inl e))]
        exact shapeS_ar l _ h

set_option maxRecDepth 20000 in
set_option maxHeartbeats 4000000 in
theorem bindS (v : Value) (f : List Nd) (k : Nat) (w : World) (fp : List Nat) (hR : R_F1 fp w [v] f) (hlen : f.length ≤ 2000000) (hk : k < f.length) (hs : shapeF arS 1 f = true) :
    Calls Tryz.prog 71 #[v, .int .i64 k] w fun e w' => e = .returned (.int .i64 (bindF arS f k k)) ∧ Upd [] w w' := by
  have HR := Lib.hid hR
  have HSH := Lib.hid (shape_drop arS_in f 1 (by omega) hs)
  obtain ⟨a, cap, rfl, h1, h2, hc⟩ := slF4_open hR
  unfold maxLen at h2
  obtain ⟨b1, o1, rfl, -, -, hcs⟩ := hc 0 (by omega)
  have HC := Lib.hid (fun i (hi : i < f.length) => show w.cell? ⟨b1, o1 + i * 4, none⟩ = some (ei f[i].kd) ∧ w.cell? ⟨b1, o1 + i * 4 + 1, none⟩ = some (ei f[i].vr) from by
    obtain ⟨b, o, hbo, -, -, q⟩ := hc i hi
    cases hbo
    exact ⟨q.1, q.2.1⟩)
  clear hR hc hcs hs
  go_enter Tryz.func71, Tryz.ntmps71
  go_wp2_with fail
  go_loopw [5] (fun zv wr => ∃ z : Int, zv = .int .i64 z ∧ -1 ≤ z ∧ z < k ∧ Hid (bindF arS f k (z + 1).toNat = bindF arS f k k) ∧ Hid (Upd [] w wr)) (fun zv _ => (intOf zv + 1).toNat)
  case atStart => exact ⟨(k : Int) - 1, rfl, by omega, by omega, Lib.hid (by congr 1; omega), Lib.hid (Upd.refl _ _)⟩
  case round =>
    obtain ⟨wo, rfl⟩ : ∃ wo : World, wo = wr := ⟨_, rfl⟩
    obtain ⟨z, rfl, hz1, hzk, HB, HU⟩ := hrel
    by_cases hz : z < 0
    · obtain rfl : z = -1 := by omega
      have HE := Lib.hid (show bindF arS f k k = -1 by rw [← HB.out]; rfl)
      clear HB hz
      go_wp2_with fail
      go_ret
      exact ⟨by rw [HE.out]; rfl, HU.out⟩
    · obtain ⟨j, rfl⟩ : ∃ j : Nat, z = j := ⟨z.toNat, by omega⟩
      have hjf : j < f.length := by omega
      obtain ⟨p1, p2⟩ := HC.out j hjf
      obtain ⟨-, p5⟩ := HC.out k hk
      have q1 := HU.out.keep p1
      have q2 := HU.out.keep p2
      have q5 := HU.out.keep p5
      have gj : f.getD j nd0 = f[j] := by rw [List.getD_eq_getElem?_getD, List.getElem?_eq_getElem hjf]; rfl
      have gk : f.getD k nd0 = f[k] := by rw [List.getD_eq_getElem?_getD, List.getElem?_eq_getElem hk]; rfl
      have HB2 := Lib.hid (show bindF arS f k k = if fixF f[j].kd && (f[j].vr == f[k].vr) && decide (k < j + endF arS 1 (f.drop j)) then (j : Int) else bindF arS f k j by
        rw [← HB.out, show ((j : Int) + 1).toNat = j + 1 by omega, bindF]
        unfold bndP
        rw [gj, gk])
      have SE := Lib.hid (fun n : Nat => (endS _ f j (wo.drewN n) fp (R_F1k.upd HR.out (HU.out.drewN n) (by simp)) hlen hjf (by obtain ⟨q, g1, -, g3⟩ := HSH.out j hjf; exact ⟨q, g1, g3⟩)).mono (fun e w' h => (⟨h.1, n, h.2.symm⟩ : _ ∧ ∃ m, w' = wo.drewN m)))
      have SF := Lib.hid (fun n : Nat => (fixS b1 (o1 + j * 4) f[j].kd (wo.drewN n) (((Upd.refl [] wo).drewN n).keep q1)).mono (fun e w' h => (⟨h.1, n, h.2.symm⟩ : _ ∧ ∃ m, w' = wo.drewN m)))
      have HJ := Lib.hid (show ((j : Int) - 1 + 1).toNat = j by omega)
      have jl : (j : Int) < f.length := by omega
      have kl : (k : Int) < f.length := by omega
      have j0 : 0 ≤ (j : Int) := by omega
      clear gj gk HB hz p1 p2 p5
      generalize endF arS 1 (f.drop j) = en at *
      generalize f[k].vr = y2 at *
      generalize f[j].vr = x2 at *
      generalize f[j].kd = x1 at *
      cases hfx : fixF x1 with
      | false =>
        rw [hfx] at SF
        have HE := Lib.hid (show bindF arS f k j = bindF arS f k k by rw [HB2.out, hfx]; simp)
        clear HB2 hfx SE
        go_upto_region 4 with (fail)
        go_quiet ((go_at_call 70; exact SF.out _))
        have HU9 := Lib.hid (HU.out.drewN nq)
        clear HU SF q1 q2 q5
        go_wp2_with fail
        go_roundw
        case rel => exact ⟨(j : Int) - 1, rfl, by omega, by omega, Lib.hid (by rw [HJ.out]; exact HE.out), HU9⟩
        case measure => simp [intOf]
      | true =>
        rw [hfx] at SF
        cases heq : (x2 == y2) with
        | false =>
          have HE := Lib.hid (show bindF arS f k j = bindF arS f k k by rw [HB2.out, hfx, heq]; simp)
          clear HB2 hfx SE
          go_upto_region 4 with (fail)
          go_quiet ((go_at_call 70; exact SF.out _))
          have HU9 := Lib.hid (HU.out.drewN nq)
          clear HU SF q1 q2 q5
          go_wp2_with fail
          go_roundw
          case rel => exact ⟨(j : Int) - 1, rfl, by omega, by omega, Lib.hid (by rw [HJ.out]; exact HE.out), HU9⟩
          case measure => simp [intOf]
        | true =>
          by_cases hen : k < j + en
          · have HE := Lib.hid (show bindF arS f k k = (j : Int) by rw [HB2.out, hfx, heq, decide_eq_true hen]; rfl)
            have heni : (k : Int) < ((j + en : Nat) : Int) := by omega
            generalize ((j + en : Nat) : Int) = zz at *
            clear HB2 hfx hen
            go_upto_region 4 with (fail)
            go_quiet (first | (go_at_call 70; exact SF.out _) | (go_at_call 77; exact SE.out _))
            have HU9 := Lib.hid (HU.out.drewN nq)
            clear HU SF SE q1 q2 q5
            go_wp2_with fail
            go_ret
            exact ⟨by rw [HE.out]; rfl, HU9.out⟩
          · have hend := decide_eq_false hen
            have HE := Lib.hid (show bindF arS f k j = bindF arS f k k by rw [HB2.out, hfx, heq, hend]; simp)
            have heni : ¬ (k : Int) < ((j + en : Nat) : Int) := by omega
            generalize ((j + en : Nat) : Int) = zz at *
            clear HB2 hfx hen hend
            go_upto_region 4 with (fail)
            go_quiet (first | (go_at_call 70; exact SF.out _) | (go_at_call 77; exact SE.out _))
            have HU9 := Lib.hid (HU.out.drewN nq)
            clear HU SF SE q1 q2 q5
            go_wp2_with fail
            go_roundw
            case rel => exact ⟨(j : Int) - 1, rfl, by omega, by omega, Lib.hid (by rw [HJ.out]; exact HE.out), HU9⟩
            case measure => simp [intOf]

end Go.Proofs.YtddciieaolaleaaGreatDoor

/-
  The reference's check of a formula's shape and of a whole formula: what the calls return.
-/
namespace Go.Proofs.YtddciieaolaleaaGreatDoor
open Go.RowKit

set_option maxRecDepth 20000 in
set_option maxHeartbeats 4000000 in
theorem shapeCS (v : Value) (f : List Nd) (w : World) (fp : List Nat) (hR : R_F1 fp w [v] f) (hlen : f.length ≤ 2000000) (hl : ∀ n ∈ f, n.lb.length ≤ 2000000) :
    Calls Tryz.prog 61 #[v, .int .i64 30, .int .i64 8] w fun e w' => e = .returned (.bool (inB f.length 1 30 && shapeS 1 f)) ∧ Upd [] w w' := by
  obtain ⟨a, cap, rfl, h1, h2, hc⟩ := slF4_open hR
  unfold maxLen at h2
  have HC := Lib.hid hc
  have HL := Lib.hid hl
  clear hR hc hl
  by_cases hlt1 : f.length < 1
  · have HR := Lib.hid (show (inB (f.length : Int) 1 30 && shapeS 1 f) = false by rw [inB_no (by omega)]; rfl)
    have g1 : (f.length : Int) < 1 := by omega
    clear hlt1
    go_enter Tryz.func61, Tryz.ntmps61
    go_wp2_with fail
    go_ret
    exact ⟨by rw [HR.out]; rfl, Upd.refl _ _⟩
  · have g1 : ¬ (f.length : Int) < 1 := by omega
    by_cases hgt : 30 < f.length
    · have HR := Lib.hid (show (inB (f.length : Int) 1 30 && shapeS 1 f) = false by rw [inB_no (by omega)]; rfl)
      have g2 : (30 : Int) < (f.length : Int) := by omega
      clear hlt1 hgt
      go_enter Tryz.func61, Tryz.ntmps61
      go_wp2_with fail
      go_ret
      exact ⟨by rw [HR.out]; rfl, Upd.refl _ _⟩
    · have HR := Lib.hid (show (inB (f.length : Int) 1 30 && shapeS 1 f) = shapeS 1 f by rw [inB_mk (by omega)]; rfl)
      have g2 : ¬ (30 : Int) < (f.length : Int) := by omega
      clear hlt1 hgt
      go_enter Tryz.func61, Tryz.ntmps61
      go_wp2_with fail
      go_loopw [7, 8] (fun mv iv wr => ∃ (k : Nat) (m : Int), k ≤ f.length ∧ iv = .int .i64 k ∧ mv = .int .i64 m ∧ 0 ≤ m ∧ m ≤ 1 + 2 * k ∧ Hid (shapeS m (f.drop k) = shapeS 1 f) ∧ Hid (Upd [] w wr)) (fun _ iv _ => f.length - (intOf iv).toNat)
      case atStart => exact ⟨0, 1, Nat.zero_le _, rfl, rfl, by omega, by omega, Lib.hid rfl, Lib.hid (Upd.refl _ _)⟩
      case round =>
        obtain ⟨wo, rfl⟩ : ∃ wo : World, wo = wr := ⟨_, rfl⟩
        obtain ⟨k, m, hk, rfl, rfl, hm0, hm1, HS, HU⟩ := hrel
        by_cases hlt : k < f.length
        · obtain ⟨b1, o1, rfl, -, -, p1, p2, p3, p4⟩ := HC.out k hlt
          have q1 := HU.out.keep p1
          have q3 := HU.out.keep p3
          have q4 := HU.out.keep p4
          have hcl := HL.out f[k] (List.getElem_mem hlt)
          have hS := HS.out
          rw [List.drop_eq_getElem_cons hlt, shapeS] at hS
          have hkl : (k : Int) < (f.length : Int) := by omega
          have har := arS_in f[k].kd
          have S2 := Lib.hid (fun W : World => arityS f[k].kd W)
          have hff : fieldsF f[k] = if modF f[k].kd then patF f[k].lb else f[k].lb == [] && !f[k].nt := rfl
          rw [hff] at hS
          generalize hdd : f.drop (k + 1) = dd at *
          have HDD := Lib.hid hdd
          clear p1 p2 p3 p4 HS hff hdd
          generalize arS f[k].kd = ar at *
          generalize f[k] = x at *
          obtain ⟨x1, x2, x3, x4⟩ := x
          simp only at q1 q3 q4 S2 hS hcl
          have S1 := Lib.hid (fun W : World => l00In x1 0 8 W)
          have S3 := Lib.hid (fun W : World => patS x3 W hcl)
          by_cases hz : m = 0
          · rw [if_pos (Or.inl hz)] at hS
            have HZ := Lib.hid hS
            have bz : (m == 0) = true := by simpa using hz
            clear hS hz S1 S2 S3 har
            go_wp2_with fail
            go_ret
            exact ⟨by rw [HR.out, ← HZ.out]; rfl, HU.out⟩
          · have bz : (m == 0) = false := by simpa using hz
            cases hin : inB x1 0 8 with
            | false =>
              rw [if_pos (Or.inr hin)] at hS
              rw [hin] at S1
              have HZ := Lib.hid hS
              clear hS hz hin S2 S3 har
              go_wp2_with fail
              refine (S1.out _).mono ?_
              rintro e w1 ⟨rfl, rfl⟩
              clear S1
              go_wp2_with fail
              go_ret
              exact ⟨by rw [HR.out, ← HZ.out]; rfl, HU.out⟩
            | true =>
              rw [if_neg (by intro h; rcases h with h | h; exact hz h; rw [hin] at h; cases h)] at hS
              rw [hin] at S1
              have HZ := Lib.hid hS
              have hmz : m ≠ 0 := hz
              obtain ⟨m2, hm2⟩ : ∃ m2 : Int, m2 = m + ar - 1 := ⟨_, rfl⟩
              have hm3 : m + (ar - 1) = m2 := by omega
              rw [← hm2] at HZ
              have hm4 : 0 ≤ m2 := by omega
              have hm5 : m2 ≤ 1 + 2 * (k + 1) := by omega
              clear hS hz hin hm2
              go_wp2_with fail
              refine (S1.out _).mono ?_
              rintro e w1 ⟨rfl, rfl⟩
              clear S1
              go_wp2_with fail
              refine (S2.out _).mono ?_
              rintro e w1 ⟨rfl, rfl⟩
              clear S2
              go_upto_region 10 with (fail)
              go_cut [9] (fun s9 wx => s9 = .bool (modF x1) ∧ wx = wo)
              case first =>
                by_cases h4 : x1 = 4
                · have HM := Lib.hid (show modF x1 = true by rw [h4]; rfl)
                  have b4 : (x1 == 4) = true := by simpa using h4
                  clear h4
                  go_wp2_with fail
                  go_meet
                  exact ⟨by rw [HM.out], rfl⟩
                · have b4 : (x1 == 4) = false := by simpa using h4
                  have HM := Lib.hid (show modF x1 = (x1 == 5) by unfold modF; rw [b4]; rfl)
                  clear h4
                  generalize hq : (x1 == 5) = q at *
                  go_wp2_with fail
                  go_meet
                  exact ⟨by rw [HM.out], rfl⟩
              case rest =>
                obtain ⟨rfl, rfl⟩ := hcut
                cases hmod : modF x1 with
                | true =>
                  rw [hmod] at HZ
                  clear hmod
                  cases hp : patF x3 with
                  | false =>
                    rw [hp] at S3
                    have HY := Lib.hid (show shapeS 1 f = false by rw [← HZ.out, hp]; rfl)
                    clear HZ hp
                    go_wp2_with fail
                    refine (S3.out _).mono ?_
                    rintro e w2 ⟨rfl, hu2⟩
                    have HU2 := Lib.hid (HU.out.trans hu2)
                    clear S3 hu2
                    go_wp2_with fail
                    go_ret
                    exact ⟨by rw [HR.out, HY.out]; rfl, HU2.out⟩
                  | true =>
                    rw [hp] at S3
                    have HY := Lib.hid (show shapeS m2 dd = shapeS 1 f by rw [← HZ.out, hp]; rfl)
                    clear HZ hp
                    go_wp2_with fail
                    refine (S3.out _).mono ?_
                    rintro e w2 ⟨rfl, hu2⟩
                    have HU2 := Lib.hid (HU.out.trans hu2)
                    clear S3 hu2
                    go_wp2_with fail
                    go_roundw
                    case rel => exact ⟨k + 1, m2, by omega, by go_num, rfl, hm4, by omega, Lib.hid (by rw [HDD.out]; exact HY.out), HU2⟩
                    case measure => simp [intOf]; omega
                | false =>
                  rw [hmod] at HZ
                  clear hmod S3
                  by_cases h0 : x3 = []
                  · subst h0
                    cases x4 with
                    | true =>
                      have HY := Lib.hid (show shapeS 1 f = false by rw [← HZ.out]; rfl)
                      clear HZ
                      go_wp2_with fail
                      go_ret
                      exact ⟨by rw [HR.out, HY.out]; rfl, HU.out⟩
                    | false =>
                      have HY := Lib.hid (show shapeS m2 dd = shapeS 1 f by rw [← HZ.out]; rfl)
                      clear HZ
                      go_wp2_with fail
                      go_roundw
                      case rel => exact ⟨k + 1, m2, by omega, by go_num, rfl, hm4, by omega, Lib.hid (by rw [HDD.out]; exact HY.out), HU⟩
                      case measure => simp [intOf]; omega
                  · have b0 : (x3 == ([] : List UInt8)) = false := by simpa using h0
                    have b0' : (x3 != ([] : List UInt8)) = true := by simpa using h0
                    have HY := Lib.hid (show shapeS 1 f = false by rw [← HZ.out, b0]; rfl)
                    clear HZ h0
                    go_wp2_with fail
                    go_ret
                    exact ⟨by rw [HR.out, HY.out]; rfl, HU.out⟩
        · obtain rfl : k = f.length := by omega
          have HZ := Lib.hid (show (m == 0) = shapeS 1 f by rw [← HS.out, List.drop_length]; rfl)
          clear HS
          generalize hq : (m == 0) = q at *
          go_wp2_with fail
          go_ret
          exact ⟨by rw [HR.out, ← HZ.out]; rfl, HU.out⟩

end Go.Proofs.YtddciieaolaleaaGreatDoor

/-
  The reference's check of a whole formula, and its image: what the calls return.
-/
namespace Go.Proofs.YtddciieaolaleaaGreatDoor
open Go.RowKit

theorem frmS_step (f : List Nd) (k : Nat) (h : k < f.length) : allF (ndkS f) k (f.length - k) = (ndkS f k && allF (ndkS f) (k + 1) (f.length - (k + 1))) := allF_step (ndkS f) k f.length h

set_option maxRecDepth 20000 in
set_option maxHeartbeats 4000000 in
theorem isFS (v : Value) (f : List Nd) (w : World) (fp : List Nat) (hR : R_F1 fp w [v] f) (hlen : f.length ≤ 2000000) (hl : ∀ n ∈ f, n.lb.length ≤ 2000000) :
    Calls Tryz.prog 43 #[v] w fun e w' => e = .returned (.bool (frmOk f)) ∧ Upd [] w w' := by
  rw [← frmOk_same]
  have HR := Lib.hid hR
  have S1 := Lib.hid (shapeCS v f w fp hR hlen hl)
  obtain ⟨a, cap, rfl, h1, h2, hc⟩ := slF4_open hR
  unfold maxLen at h2
  have HC := Lib.hid hc
  have HOK := Lib.hid (show frmOkS f = ((inB f.length 1 30 && shapeS 1 f) && allF (ndkS f) 0 f.length) from rfl)
  clear hR hc hl
  cases hsh : (inB (f.length : Int) 1 30 && shapeS 1 f) with
  | false =>
    rw [hsh] at S1
    have HF := Lib.hid (show frmOkS f = false by rw [HOK.out, hsh]; rfl)
    clear hsh HOK
    go_enter Tryz.func43, Tryz.ntmps43
    go_wp2_with fail
    refine S1.out.mono ?_
    rintro e w1 ⟨rfl, hu⟩
    have HU := Lib.hid hu
    clear S1 hu
    go_wp2_with fail
    go_ret
    exact ⟨by rw [HF.out]; rfl, HU.out⟩
  | true =>
    rw [hsh] at S1 HOK
    have HSH := Lib.hid (show shapeF arS 1 f = true from by
      simp only [Bool.and_eq_true] at hsh
      exact shapeS_ar f 1 hsh.2)
    have HF := Lib.hid (show frmOkS f = allF (ndkS f) 0 f.length by rw [HOK.out]; rfl)
    clear hsh HOK
    go_enter Tryz.func43, Tryz.ntmps43
    go_wp2_with fail
    refine S1.out.mono ?_
    rintro e w1 ⟨rfl, hu⟩
    have HU := Lib.hid hu
    clear S1 hu
    go_wp2_with fail
    go_loopw [3] (fun iv wr => ∃ k : Nat, k ≤ f.length ∧ iv = .int .i64 k ∧ Hid (allF (ndkS f) k (f.length - k) = frmOkS f) ∧ Hid (Upd [] w wr)) (fun iv _ => f.length - (intOf iv).toNat)
    case atStart => exact ⟨0, Nat.zero_le _, rfl, Lib.hid (by rw [HF.out]; rfl), HU⟩
    case round =>
      clear HU HF
      obtain ⟨wo, rfl⟩ : ∃ wo : World, wo = wr := ⟨_, rfl⟩
      obtain ⟨k, hk, rfl, HA, HU⟩ := hrel
      by_cases hlt : k < f.length
      · obtain ⟨b1, o1, rfl, -, -, p1, p2, -, -⟩ := HC.out k hlt
        have q1 := HU.out.keep p1
        have q2 := HU.out.keep p2
        have gk : f.getD k nd0 = f[k] := by rw [List.getD_eq_getElem?_getD, List.getElem?_eq_getElem hlt]; rfl
        have HN := Lib.hid (show frmOkS f = ((if fixF f[k].kd || f[k].kd == 6 then inB f[k].vr 0 2 else f[k].vr == 0) && !(f[k].kd == 6 && decide (bindF arS f k k < 0)) && allF (ndkS f) (k + 1) (f.length - (k + 1))) by
          rw [← HA.out, frmS_step f k hlt]
          unfold ndkS varP boundF
          rw [gk])
        have SB := Lib.hid (bindS _ f k wo fp (R_F1k.upd HR.out HU.out (by simp)) hlen hlt HSH.out)
        have SF := Lib.hid (fixS b1 (o1 + k * 4) f[k].kd wo q1)
        have hkl : (k : Int) < (f.length : Int) := by omega
        have H67 := Lib.hid (show fixF f[k].kd = true → (f[k].kd == 6) = false from fun h => by
          unfold fixF at h
          simp at h
          simp; omega)
        clear p1 p2 HA gk
        generalize bindF arS f k k = B at *
        generalize f[k].kd = x1 at *
        generalize f[k].vr = x2 at *
        have SW := Lib.hid (fun W : World => l00In x2 0 2 W)
        cases hfx : fixF x1 with
        | true =>
          rw [hfx] at SF HN
          have b6 := H67.out hfx
          have HN2 := Lib.hid (show frmOkS f = (inB x2 0 2 && allF (ndkS f) (k + 1) (f.length - (k + 1))) by rw [HN.out, b6]; simp)
          clear HN hfx H67 SB
          cases hin : inB x2 0 2 with
          | false =>
            rw [hin] at SW
            have HZ := Lib.hid (show frmOkS f = false by rw [HN2.out, hin]; rfl)
            clear HN2 hin
            go_wp2_with fail
            refine SF.out.mono ?_
            rintro e w1 ⟨rfl, rfl⟩
            clear SF
            go_wp2_with fail
            refine (SW.out _).mono ?_
            rintro e w1 ⟨rfl, rfl⟩
            clear SW
            go_wp2_with fail
            go_ret
            exact ⟨by rw [HZ.out]; rfl, HU.out⟩
          | true =>
            rw [hin] at SW
            have HZ := Lib.hid (show allF (ndkS f) (k + 1) (f.length - (k + 1)) = frmOkS f by rw [HN2.out, hin]; rfl)
            clear HN2 hin
            go_wp2_with fail
            refine SF.out.mono ?_
            rintro e w1 ⟨rfl, rfl⟩
            clear SF
            go_wp2_with fail
            refine (SW.out _).mono ?_
            rintro e w1 ⟨rfl, rfl⟩
            clear SW
            go_wp2_with fail
            go_roundw
            case rel => exact ⟨k + 1, by omega, by go_num, HZ, HU⟩
            case measure => simp [intOf]; omega
        | false =>
          rw [hfx] at SF HN
          clear hfx H67
          by_cases h6 : x1 = 6
          · have b6 : (x1 == 6) = true := by simpa using h6
            have HN2 := Lib.hid (show frmOkS f = (inB x2 0 2 && !decide (B < 0) && allF (ndkS f) (k + 1) (f.length - (k + 1))) by rw [HN.out, b6]; simp)
            clear HN h6
            cases hin : inB x2 0 2 with
            | false =>
              rw [hin] at SW
              have HZ := Lib.hid (show frmOkS f = false by rw [HN2.out, hin]; rfl)
              clear HN2 hin SB
              go_wp2_with fail
              refine SF.out.mono ?_
              rintro e w1 ⟨rfl, rfl⟩
              clear SF
              go_wp2_with fail
              refine (SW.out _).mono ?_
              rintro e w1 ⟨rfl, rfl⟩
              clear SW
              go_wp2_with fail
              go_ret
              exact ⟨by rw [HZ.out]; rfl, HU.out⟩
            | true =>
              rw [hin] at SW
              by_cases hB : B < 0
              · have HZ := Lib.hid (show frmOkS f = false by rw [HN2.out, hin, decide_eq_true hB]; rfl)
                clear HN2 hin
                go_wp2_with fail
                refine SF.out.mono ?_
                rintro e w1 ⟨rfl, rfl⟩
                clear SF
                go_wp2_with fail
                refine (SW.out _).mono ?_
                rintro e w1 ⟨rfl, rfl⟩
                clear SW
                go_wp2_with fail
                refine SB.out.mono ?_
                rintro e w1 ⟨rfl, hu1⟩
                have HU1 := Lib.hid (HU.out.trans hu1)
                clear SB hu1
                go_wp2_with fail
                go_ret
                exact ⟨by rw [HZ.out]; rfl, HU1.out⟩
              · have HZ := Lib.hid (show allF (ndkS f) (k + 1) (f.length - (k + 1)) = frmOkS f by rw [HN2.out, hin, decide_eq_false hB]; rfl)
                clear HN2 hin
                go_wp2_with fail
                refine SF.out.mono ?_
                rintro e w1 ⟨rfl, rfl⟩
                clear SF
                go_wp2_with fail
                refine (SW.out _).mono ?_
                rintro e w1 ⟨rfl, rfl⟩
                clear SW
                go_wp2_with fail
                refine SB.out.mono ?_
                rintro e w1 ⟨rfl, hu1⟩
                have HU1 := Lib.hid (HU.out.trans hu1)
                clear SB hu1
                go_wp2_with fail
                go_roundw
                case rel => exact ⟨k + 1, by omega, by go_num, HZ, HU1⟩
                case measure => simp [intOf]; omega
          · have b6 : (x1 == 6) = false := by simpa using h6
            have HN2 := Lib.hid (show frmOkS f = ((x2 == 0) && allF (ndkS f) (k + 1) (f.length - (k + 1))) by rw [HN.out, b6]; simp)
            clear HN h6 SB SW
            by_cases h0 : x2 = 0
            · have b0 : (x2 != 0) = false := by simpa using h0
              have HZ := Lib.hid (show allF (ndkS f) (k + 1) (f.length - (k + 1)) = frmOkS f by rw [HN2.out, h0]; rfl)
              clear HN2 h0
              go_wp2_with fail
              refine SF.out.mono ?_
              rintro e w1 ⟨rfl, rfl⟩
              clear SF
              go_wp2_with fail
              go_roundw
              case rel => exact ⟨k + 1, by omega, by go_num, HZ, HU⟩
              case measure => simp [intOf]; omega
            · have b0 : (x2 != 0) = true := by simpa using h0
              have HZ := Lib.hid (show frmOkS f = false by rw [HN2.out, beq_eq_false_iff_ne.2 h0]; rfl)
              clear HN2 h0
              go_wp2_with fail
              refine SF.out.mono ?_
              rintro e w1 ⟨rfl, rfl⟩
              clear SF
              go_wp2_with fail
              go_ret
              exact ⟨by rw [HZ.out]; rfl, HU.out⟩
      · obtain rfl : k = f.length := by omega
        have HZ := Lib.hid (show frmOkS f = true by rw [← HA.out]; exact allF_end _ _)
        clear HA
        go_wp2_with fail
        go_ret
        exact ⟨by rw [HZ.out]; rfl, HU.out⟩

end Go.Proofs.YtddciieaolaleaaGreatDoor

/-
  FormulaText: what the program's call and the reference's call return.
-/
namespace Go.Proofs.YtddciieaolaleaaGreatDoor
open Go.RowKit

/-- the text of a formula, or none. -/
def fText (f : List Nd) : List UInt8 := if frmOk f then ((forestT arN f).map textX).headD [] else []
theorem frm_tree {f : List Nd} (h : frmOk f = true) : ∃ x : Tr Nd, forestT arN f = [x] ∧ okT arN x = true ∧ flatT x = f := by
  refine forestT_one arN_nonneg ?_
  rw [shapeG_F]; exact (shape_of h).1

set_option maxRecDepth 20000 in
set_option maxHeartbeats 4000000 in
theorem fTextI (v : Value) (f : List Nd) (w : World) (fp : List Nat) (hR : R_F1 fp w [v] f) (hlen : f.length ≤ 2000000) (hl : ∀ n ∈ f, n.lb.length ≤ 2000000) (he : Env w) :
    Calls Tryz.prog 20 #[v] w fun e w' => e = .returned (es (fText f)) ∧ Upd [] w w' := by
  have S1 := Lib.hid (validFI v f w fp hR hlen hl he)
  have HR := Lib.hid (fun W (hu : Upd [] w W) => R_F1k.upd hR hu (by simp))
  clear hR hl he
  cases hok : frmOk f with
  | false =>
    rw [hok] at S1
    have HE := Lib.hid (show fText f = [] by unfold fText; rw [hok]; rfl)
    clear hok HR
    go_enter Tryz.func20, Tryz.ntmps20
    go_wp2_with fail
    refine S1.out.mono ?_
    rintro e w1 ⟨rfl, hu⟩
    have HU := Lib.hid hu
    clear S1 hu
    go_wp2_with fail
    go_ret
    exact ⟨by rw [HE.out]; rfl, HU.out⟩
  | true =>
    obtain ⟨x, hx, hokx, hfx⟩ := frm_tree hok
    obtain ⟨hln, hfit⟩ := frm_parts hok
    rw [hok] at S1
    have HE := Lib.hid (show fText f = textX x by unfold fText; rw [hok, hx]; rfl)
    have S2 := Lib.hid (fun W (hu : Upd [] w W) => formOf x W v fp hokx (by rw [hfx]; omega) (by rw [hfx]; exact HR.out W hu))
    have S3 := Lib.hid (fun W v' fp' (hr : R_X fp' W [v'] x) => textXI _ x W v' fp' (Nat.le_refl _) (by rw [hfx]; omega) hokx (by rw [hfx]; exact hfit) hr)
    clear hok hx hokx hfx hfit HR
    go_enter Tryz.func20, Tryz.ntmps20
    go_wp2_with fail
    refine S1.out.mono ?_
    rintro e w1 ⟨rfl, hu⟩
    have T2 := Lib.hid (S2.out w1 hu)
    have HU := Lib.hid hu
    clear S1 S2 hu
    go_wp2_with fail
    refine T2.out.mono ?_
    rintro e w2 ⟨⟨v', rfl, fp', hr, -, -⟩, hu2⟩
    have T3 := Lib.hid (S3.out w2 v' fp' hr)
    have HU2 := Lib.hid (HU.out.trans hu2)
    obtain ⟨pb, rfl⟩ := R_T_form hr
    clear T2 S3 hu2 hr HU
    go_wp2_with fail
    refine T3.out.mono ?_
    rintro e w3 ⟨rfl, hu3⟩
    have HU3 := Lib.hid (HU2.out.trans hu3)
    clear T3 hu3
    go_wp2_with fail
    go_ret
    exact ⟨by rw [HE.out]; rfl, HU3.out⟩

set_option maxRecDepth 20000 in
set_option maxHeartbeats 4000000 in
theorem fTextS (v : Value) (f : List Nd) (w : World) (fp : List Nat) (hR : R_F1 fp w [v] f) (hlen : f.length ≤ 2000000) (hl : ∀ n ∈ f, n.lb.length ≤ 2000000) :
    Calls Tryz.prog 19 #[v] w fun e w' => e = .returned (es (fText f)) ∧ Upd [] w w' := by
  have S1 := Lib.hid (isFS v f w fp hR hlen hl)
  cases hok : frmOk f with
  | false =>
    rw [hok] at S1
    have HE := Lib.hid (show fText f = [] by unfold fText; rw [hok]; rfl)
    clear hok hR hl
    go_enter Tryz.func19, Tryz.ntmps19
    go_wp2_with fail
    refine S1.out.mono ?_
    rintro e w1 ⟨rfl, hu⟩
    have HU := Lib.hid hu
    clear S1 hu
    go_wp2_with fail
    go_ret
    exact ⟨by rw [HE.out]; rfl, HU.out⟩
  | true =>
    obtain ⟨x, hx, hokx, hfx⟩ := frm_tree hok
    obtain ⟨hln, hfit⟩ := frm_parts hok
    rw [hok] at S1
    have HE := Lib.hid (show fText f = textX x by unfold fText; rw [hok, hx]; rfl)
    have S2 := Lib.hid (fun W (hu : Upd [] w W) => formS v f x W fp (R_F1k.upd hR hu (by simp)) (shape_of hok).1 hln.2 hfit hx)
    clear hok hR hl hfit hx hokx hfx
    go_enter Tryz.func19, Tryz.ntmps19
    go_wp2_with fail
    refine S1.out.mono ?_
    rintro e w1 ⟨rfl, hu⟩
    have T2 := Lib.hid (S2.out w1 hu)
    have HU := Lib.hid hu
    clear S1 S2 hu
    go_wp2_with fail
    refine T2.out.mono ?_
    rintro e w2 ⟨rfl, hu2⟩
    have HU2 := Lib.hid (HU.out.trans hu2)
    clear T2 hu2 HU
    go_wp2_with fail
    go_ret
    exact ⟨by rw [HE.out]; rfl, HU2.out⟩

end Go.Proofs.YtddciieaolaleaaGreatDoor

/-
  The law FnExactFormulaText: the call returns true for every input, and writes nothing that was there.
-/
namespace Go.Proofs.YtddciieaolaleaaGreatDoor
open Go.RowKit Go.ChangeShapes

set_option maxRecDepth 20000 in
set_option maxHeartbeats 4000000 in
theorem lawFormulaText (v : Value) (f : List Nd) (w : World) (fp : List Nat) (hR : R_F1 fp w [v] f) (hS : ndsOk f) (hE : Env w) :
    Calls Tryz.prog 5 #[v] w fun e w' => e = .returned (.bool true) ∧ Upd [] w w' := by
  have HRX := Lib.hid (fun W (hu : Upd [] w W) => R_F1k.upd hR hu (by simp))
  have HE := Lib.hid hE
  have S1 := Lib.hid (sz_F1 v f 1048576 w fp (by omega) (by omega) hR hS)
  obtain ⟨a, cap, rfl, h1, h2, -⟩ := slF4_open hR
  unfold maxLen at h2
  clear hR hS hE
  go_enter Tryz.func5, Tryz.ntmps5
  go_wp2_with fail
  refine S1.out.mono ?_
  rintro e w1 ⟨⟨r, rfl, hr⟩, hu1⟩
  have HU1 := Lib.hid hu1
  rcases hr with rfl | ⟨hr0, hr1⟩
  · clear S1 hu1
    go_wp2_with fail
    go_ret
    exact ⟨rfl, HU1.out⟩
  · have hsz : szF_F1 f ≤ 1048576 := by omega
    have htot := totS_nonneg (f.map Nd.lb)
    have hb : ∀ n ∈ f, n.lb.length ≤ 2000000 := by
      intro n hn
      have h1 := totS_mem (f.map Nd.lb) n.lb (List.mem_map.2 ⟨n, hn, rfl⟩)
      unfold szF_F1 at hsz
      omega
    have hlen : f.length ≤ 2000000 := by unfold szF_F1 at hsz; omega
    have HSZ := Lib.hid hsz
    have HB := Lib.hid hb
    have HR0 := Lib.hid hr1
    have S2 := Lib.hid (to_F1 _ f w1 _ hsz (HRX.out w1 hu1))
    clear S1 hu1 hr1 hsz hb htot
    go_wp2_with fail
    refine S2.out.mono ?_
    rintro e w2 ⟨⟨v', rfl, gp, r1, -, -⟩, hu2⟩
    have S3 := Lib.hid (fTextS v' f w2 gp r1 hlen HB.out)
    have HU2 := Lib.hid (HU1.out.trans hu2)
    obtain ⟨a2, c2, rfl, -, -, -⟩ := slF4_open r1
    clear S2 r1 hu2
    go_wp2_with fail
    refine S3.out.mono ?_
    rintro e w3 ⟨rfl, hu3⟩
    have HU3 := Lib.hid (HU2.out.trans hu3)
    have S4 := Lib.hid (to_F1 _ f w3 _ HSZ.out (HRX.out w3 HU3.out))
    have HX := Lib.hid (fun W v gp h he => fTextI v f W gp h hlen HB.out he)
    generalize fText f = Z at *
    clear S3 hu3 HU2
    go_wp2_with fail
    refine S4.out.mono ?_
    rintro e w4 ⟨⟨v', rfl, gp, r1, -, -⟩, hu4⟩
    have HU4 := Lib.hid (HU3.out.trans hu4)
    have S5 := Lib.hid (HX.out w4 v' gp r1 (HE.out.upd HU4.out))
    have HRY := Lib.hid (fun W (hu : Upd [] w4 W) => R_F1k.upd r1 hu (by simp))
    obtain ⟨a3, c3, rfl, -, -, -⟩ := slF4_open r1
    have hzz : (Z != Z) = false := by simp
    clear S4 HX r1 hu4
    go_wp2_with fail
    refine S5.out.mono ?_
    rintro e w5 ⟨rfl, hu5⟩
    have HU5 := Lib.hid (HU4.out.trans hu5)
    have S6 := Lib.hid (to_F1 _ f w5 _ HSZ.out (HRX.out w5 HU5.out))
    have HRZ := Lib.hid (fun W (hu : Upd [] w5 W) => HRY.out W (hu5.trans hu))
    clear S5 hu5
    go_wp2_with fail
    refine S6.out.mono ?_
    rintro e w6 ⟨⟨v', rfl, gp, r1, -, -⟩, hu6⟩
    have S7 := Lib.hid (eq_F1 _ v' f w6 _ gp (HRZ.out w6 hu6) r1)
    have HU6 := Lib.hid (HU5.out.trans hu6)
    clear S6 r1 hu6
    go_wp2_with fail
    refine S7.out.mono ?_
    rintro e w7 ⟨rfl, hu7⟩
    have HU7 := Lib.hid (HU6.out.trans hu7)
    clear S7 hu7
    go_wp2_with fail
    go_ret
    exact ⟨rfl, HU7.out⟩

end Go.Proofs.YtddciieaolaleaaGreatDoor

/-
  The form's reading of lists of nodes.
-/
namespace Go.Proofs.YtddciieaolaleaaGreatDoor
open Go.RowKit Go.ChangeShapes Go.WideShapes Go.Deep

theorem cells4 {w : World} {a : Addr} {cs : List Value} (h : w.cells? 0 a 4 = some cs) : ∃ c0 c1 c2 c3, cs = [c0, c1, c2, c3] ∧ w.cell? a = some c0 ∧ w.cell? (a.add 1) = some c1 ∧ w.cell? (a.add 2) = some c2 ∧ w.cell? (a.add 3) = some c3 := by
  rw [World.cells?, if_pos (Nat.zero_le _), show List.range 4 = [0, 1, 2, 3] from rfl] at h
  simp only [List.mapM_cons, List.mapM_nil, Addr.add, if_true] at h
  cases h0 : w.cell? a with
  | none => simp [h0] at h
  | some c0 =>
    cases h1 : w.cell? (a.add 1) with
    | none => simp [Addr.add] at h1; simp [h0, h1] at h
    | some c1 =>
      cases h2 : w.cell? (a.add 2) with
      | none => simp [Addr.add] at h1 h2; simp [h0, h1, h2] at h
      | some c2 =>
        cases h3 : w.cell? (a.add 3) with
        | none => simp [Addr.add] at h1 h2 h3; simp [h0, h1, h2, h3] at h
        | some c3 =>
          refine ⟨c0, c1, c2, c3, ?_, rfl, rfl, rfl, rfl⟩
          simp [Addr.add] at h1 h2 h3
          simpa [h0, h1, h2, h3] using h.symm

/-- slices of structs of four plain fields. -/
theorem opens_slF4 {α : Type} {P : Program} {t e : TypeId} {e1 e2 e3 e4 : α → Value} {φ : α → Prop} (ht : P.underlying t = some (.slice e)) (hc : P.cellsOf e = 4)
    (h : ∀ {H : Type} {enc : TypeId × Value → H} {w : World} {fuel : Nat} {u v z y : Value} {x : DataW H × List MemPlace}, DataW.trod enc P w 0 (fun _ => true) true fuel e [u, v, z, y] = some x → ∃ a, u = e1 a ∧ v = e2 a ∧ z = e3 a ∧ y = e4 a ∧ φ a) :
    Opens P t (slF 4 (fun x => [e1 x, e2 x, e3 x, e4 x])) (fun xs => ∀ x ∈ xs, φ x) := by
  intro H enc w fuel cs x hx
  rcases open_slice ht hx with ⟨rfl, -⟩ | ⟨a, len, cap, m, n, D, Pl, rfl, -, hl, hm, hmm, -, hel⟩
  · exact ⟨[], [], ⟨_, rfl, flat_nil w 4⟩, by simp⟩
  · have hlm : len ≤ m := by subst hmm; simpa using hl
    rw [hc] at hel
    obtain ⟨l, hll, hlq⟩ := list_choice (fun i (y : α) => w.cell? (a.add (i * 4)) = some (e1 y) ∧ w.cell? ((a.add (i * 4)).add 1) = some (e2 y) ∧ w.cell? ((a.add (i * 4)).add 2) = some (e3 y) ∧ w.cell? ((a.add (i * 4)).add 3) = some (e4 y) ∧ φ y) len (fun i hi => by
      obtain ⟨cs', h1, h2⟩ := hel i (by omega)
      obtain ⟨c0, c1, c2, c3, rfl, g0, g1, g2, g3⟩ := cells4 h1
      obtain ⟨y, rfl, rfl, rfl, rfl, hy⟩ := h h2
      exact ⟨y, g0, g1, g2, g3, hy⟩)
    by_cases h0 : len = 0
    · subst h0
      obtain rfl : l = [] := List.eq_nil_of_length_eq_zero hll
      exact ⟨[], [], ⟨_, rfl, some a, cap, rfl, hl, hm, by simp, Or.inl ⟨rfl, rfl⟩⟩, by simp⟩
    · have hc0 := (hlq 0 l[0] (by simp)).1
      have hs : a.spot = none := by simpa [Addr.add] using World.cell?_spot hc0
      obtain ⟨b, off, spot⟩ := a
      simp at hs
      subst hs
      refine ⟨l, [b], ⟨_, rfl, some ⟨b, off, none⟩, cap, by rw [hll], by omega, hm, by rw [flatMap_four_length], Or.inr ⟨b, off, rfl, rfl, ?_, fun j u hu => ?_⟩⟩, fun x hx => ?_⟩
      · exact World.block_lt_of_cell? w ⟨b, off, none⟩ (by simpa [Addr.add] using hc0)
      · have hj : j < l.length * 4 := by rw [← flatMap_four_length e1 e2 e3 e4]; exact (List.getElem?_eq_some_iff.1 hu).1
        have hi : j / 4 < l.length := by omega
        obtain ⟨g1, g2, g3, g4⟩ := flatMap_four_get e1 e2 e3 e4 l (j / 4) hi
        obtain ⟨q1, q2, q3, q4, -⟩ := hlq (j / 4) l[j / 4] (by simp)
        have ha : (⟨b, off, none⟩ : Addr).add (j / 4 * 4) = ⟨b, off + j / 4 * 4, none⟩ := by simp only [Addr.add]; split <;> simp_all
        rw [ha] at q1 q2 q3 q4
        have hmod : j % 4 = 0 ∨ j % 4 = 1 ∨ j % 4 = 2 ∨ j % 4 = 3 := by omega
        rcases hmod with hmod | hmod | hmod | hmod
        · have e : j / 4 * 4 = j := by omega
          rw [e] at g1 q1
          rw [g1] at hu; cases hu; exact q1
        · have e : j / 4 * 4 + 1 = j := by omega
          rw [e] at g2
          rw [g2] at hu; cases hu
          simp [Addr.add] at q2
          rw [show off + j = off + j / 4 * 4 + 1 from by omega]; exact q2
        · have e : j / 4 * 4 + 2 = j := by omega
          rw [e] at g3
          rw [g3] at hu; cases hu
          simp [Addr.add] at q3
          rw [show off + j = off + j / 4 * 4 + 2 from by omega]; exact q3
        · have e : j / 4 * 4 + 3 = j := by omega
          rw [e] at g4
          rw [g4] at hu; cases hu
          simp [Addr.add] at q4
          rw [show off + j = off + j / 4 * 4 + 3 from by omega]; exact q4
      · obtain ⟨i, hi, rfl⟩ := List.mem_iff_getElem.1 hx
        exact (hlq i _ (by simp)).2.2.2.2

theorem opens_F1 : Opens Tryz.prog 29 R_F1 (fun xs => ∀ x ∈ xs, x.lb.length ≤ maxLen) :=
  opens_slF4 Tryz.underlying29 (by kernel_rfl) (by
    intro H enc w fuel u v z y x hx
    obtain ⟨y0, y1, y2, y3, n, -, -, h0, h1, h2, h3⟩ := Go.Joins.trod_struct4 Tryz.underlying51 hx
    obtain ⟨a, e0, -, -⟩ := DataW.trod_int Tryz.underlying2 h0
    obtain ⟨b, e1, -, -⟩ := DataW.trod_int Tryz.underlying2 h1
    obtain ⟨s, e2, -, hs⟩ := DataW.trod_string Tryz.underlying9 h2
    obtain ⟨d, e3, -⟩ := DataW.trod_bool Tryz.underlying4 h3
    have c1 : Tryz.prog.cellsOf 2 = 1 := by kernel_rfl
    have c2 : Tryz.prog.cellsOf 9 = 1 := by kernel_rfl
    have c3 : Tryz.prog.cellsOf 4 = 1 := by kernel_rfl
    simp [c1, c2, c3] at e0 e1 e2 e3
    exact ⟨⟨a, b, s.data.toList, d⟩, e0, e1, e2, e3, hs⟩)

theorem nds_of {xs : List Nd} (h : ∀ x ∈ xs, x.lb.length ≤ maxLen) : ndsOk xs := fun n hn => by
  have := h n hn
  simp only [maxLen] at this
  omega

end Go.Proofs.YtddciieaolaleaaGreatDoor

/-
  What the listed variables and the world's shape give the walks of labels.
-/
namespace Go.Proofs.YtddciieaolaleaaGreatDoor
open Go.RowKit Go.ChangeShapes

theorem errStar : "*" ++ "errors.errorString" = "*errors.errorString" := by decide
theorem errRow (u : TypeId) (h : Tryz.prog.typeName? 3 u = some "*errors.errorString") : u = 179 :=
  typeName_ptr_named (nm := "errors.errorString") (by rw [errStar]; kernel_rfl) (by kernel_rfl) (by decide) u (by rw [errStar]; exact h)

theorem env_of {W : World} {r1 r2 r3 : List (String × DataW Unit)} {d : DataW Unit} {x1 x2 : List UInt8} (hd : d = Lib.tabData .u64 Lib.pow10Tab)
    (h1 : laidMet Tryz.prog (("internal/strconv.uint64pow10", d) :: r1) W)
    (h2 : laidMet Tryz.prog (("strconv.ErrRange", .iface "*errors.errorString" (.ptr (.agg [.lit (.string x1)]))) :: r2) W)
    (h3 : laidMet Tryz.prog (("strconv.ErrSyntax", .iface "*errors.errorString" (.ptr (.agg [.lit (.string x2)]))) :: r3) W)
    (hs : W.ShapedOpen Tryz.prog) : Env W := by
  subst hd
  refine ⟨?_, ?_, ?_, ?_⟩
  · exact cell_of_shapedOpen_int (g := 1) (zero := #[.int .i64 0]) (t := 3) hs (of_decide_eq_true (by kernel_rfl)) (by kernel_rfl) rfl (by kernel_rfl) (by kernel_rfl) Tryz.underlying3
  · exact Lib.tabIs_of_head (g := 0) (t := 130) (e := 120) (n := 20) (by kernel_rfl) (by kernel_rfl) Tryz.underlying130 Tryz.underlying120 (by kernel_rfl) (by kernel_rfl) h1
  · obtain ⟨a, s, hv, -⟩ := laid_sentinel (g := 4) (ti := 138) (tp := 179) (te := 181) (ts := 9) h3 (by kernel_rfl) (by kernel_rfl) Tryz.underlying138 errRow Tryz.underlying179 Tryz.underlying181 rfl rfl Tryz.underlying9 (by kernel_rfl) (by kernel_rfl)
    exact ⟨_, _, hv⟩
  · obtain ⟨a, s, hv, -⟩ := laid_sentinel (g := 5) (ti := 138) (tp := 179) (te := 181) (ts := 9) h2 (by kernel_rfl) (by kernel_rfl) Tryz.underlying138 errRow Tryz.underlying179 Tryz.underlying181 rfl rfl Tryz.underlying9 (by kernel_rfl) (by kernel_rfl)
    exact ⟨_, _, hv⟩

/-- the wrap with a condition on the world, the world's shape kept. -/
theorem handed_and_shaped {H : Type} {enc : TypeId × Value → H} {a : Assume} {C : Checked} {os : Os} {f : FuncId} {fn : Func} {s : ChangeSpec} {conds : List PathCond} {apart fresh handsOn twice : Bool} {X : World → Array Value → Prop}
    (hX : ∀ (w w' : World) (args : Array Value), w.heap = w'.heap → X w args → X w' args)
    (own : ownKnob C.prog.godebug = none) (started : os.Started) (noInit : C.prog.inits.idxOf? f = none) (hfn : C.prog.funcs[f]? = some fn)
    (witness : ∃ (w : World) (tape : Tape) (i : Input), w.os = os ∧ (w.forCall tape i).Shaped C.prog ∧ i.vars = [] ∧ Input.okWide C.prog (w.forCall tape i) .any w.heap.size f i ∧
      ((s.pre enc C.prog fn conds apart (w.forCall tape i).memory i.args ∧ X (w.forCall tape i).memory i.args) ∧ sizedMet enc C.prog fn (OpenSpec.ofChange s) apart (w.forCall tape i).memory i.args) ∧ a.holds C.prog (lone (Frame.enter C.prog f i.args CallKind.normal) [] (w.forCall tape i)))
    (contract : ∀ (W : World) (base : Nat) (args : Array Value) (ds gs : List (DataW H)) (before : List MemPlace),
      (∀ (j : Nat) t v, fn.params[j]? = some t → args[j]? = some v → Value.okWide C.prog W .any base t v) →
      DataW.Whole enc C.prog fn.params.toList s.vars apart W args.toList ds gs before →
      conds.all (PathCond.test C.prog ⟨fn.params.toList, ds, s.plain.varTypes C.prog, gs⟩) = true → X W args →
      W.ShapedOpen C.prog →
      Calls C.prog f args W fun e W' => ∃ v, e = .returned v ∧ s.post enc C.prog fn apart fresh handsOn twice W args v W') :
    ReturnsInHanded a C os f .any (fun w args => (s.pre enc C.prog fn conds apart w args ∧ X w args) ∧ sizedMet enc C.prog fn (OpenSpec.ofChange s) apart w args) (s.post enc C.prog fn apart fresh handsOn twice) := by
  refine returnsInHanded_of_calls own started noInit witness ?_
  intro w tape i _ hsh _ hok hpre _
  obtain ⟨_, _, _, fn', hfn', _, _, _, _, hval⟩ := hok
  have e : fn' = fn := Option.some.inj (hfn'.symm.trans hfn)
  subst e
  obtain ⟨⟨⟨ds, gs, before, hw, hc⟩, hx⟩, hz⟩ := hpre
  have hw' := DataW.Whole.of_heap (w' := w.forCall tape i) (by rfl) hw
  refine (contract (w.forCall tape i) w.heap.size i.args ds gs before hval hw' hc (hX _ _ _ (by rfl) hx) hsh).mono fun e W' ⟨v, he, hp⟩ => ?_
  subst he
  exact ChangeSpec.post_blind hp

end Go.Proofs.YtddciieaolaleaaGreatDoor
