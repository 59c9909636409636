/-
  Texts joined in one file: PfEg, PfEi, PfB, PfBo, PfD, PfEj, HarnG, PfEw, LawParseFor, LabZ.
-/
import Derived.Test.YtaahjpmndkcijaaGreatDoorZF2
import Derived.Test.YtaahjpmndkcijaaGreatDoorZF3
import Derived.Test.YtaahjpmndkcijaaGreatDoorZF4
import Derived.Lib.LaidTab
import Derived.Stop.LaidErr
import Derived.HandedShaped
import Derived.Handed
import Derived.Shelf.Vars
/-
  Formulas parsed: the reference replaces a regular modality by a formula: repetition; all together.
-/
namespace Go.Proofs.YtaahjpmndkcijaaGreatDoor
open Go.RowKit

set_option maxRecDepth 20000 in
set_option maxHeartbeats 1000000 in
/-- l00Own of any readable list gives a row of its own. -/
theorem ownIR (v : Value) (xs : List Int) (w : World) (fp : List Nat) (hl : xs.length ≤ 2000000) (hR : R_I1 fp w [v] xs) :
    Calls Tryz.prog 47 #[v] w fun r w' => (∃ a c, r = .returned (.slice a xs.length c) ∧ w'.ownsRow w.heap.size 2 1 (.slice a xs.length c) xs.length (xs.map ei)) ∧ Upd [] w w' := by
  obtain ⟨i0, hi, hz0, hz1, hz2⟩ := info_parts Tryz.info2
  have hown : (w.alloc (.cells #[] 2)).ownsRow w.heap.size 2 1 (.slice (some ⟨w.heap.size, 0, none⟩) 0 0) 0 [] := by
    simpa using World.ownsRow_lit (base := w.heap.size) (e := 2) (size := 1) w #[] 0 (Nat.le_refl _) (by simp [maxLen]) (by simp)
  have HF := Lib.hid (Flat.ofI1 (R_I1k.upd hR ((Upd.refl [] w).alloc (.cells #[] 2)) (by simp)))
  obtain ⟨a, cap, rfl, -, -, -⟩ := slF1_open hR
  clear hR
  go_enter Tryz.func47, Tryz.ntmps47
  go_wp2_with (first
    | (at_builtin; refine wpList_append_flat rfl _ _ 76 rfl w.heap.size 2 i0 (.int .i64 0) 1 8 Tryz.underlying76 hi hz0 hz1 hz2 rfl (by decide) _ _ _ rfl hown _ xs.length _ rfl _ HF.out (one_I1 xs) (by unfold maxLen; omega) (by omega) (by simp) ?_)
    | fail)
  intro v2 w2 hown2 hg2 ht2
  have hU : Upd [] w w2 := ((Upd.refl [] w).alloc _).grown hg2 (fun k hk => Or.inl (hown.lt k hk).1)
  have ho2 : w2.ownsRow w.heap.size 2 1 v2 xs.length (xs.map ei) := by simpa using hown2
  obtain ⟨a2, c2, rfl⟩ := ownsRow_form ho2
  have HE := Lib.hid (And.intro ho2 hU)
  clear hown2 hg2 ht2 hown ho2 hU
  go_wp2_with fail
  go_ret
  exact ⟨⟨a2, c2, rfl, HE.out.1⟩, HE.out.2⟩

theorem MdS.from {w0 w w' : World} {M : Option (List Nd)} {e : Ending} (h : MdS w M e w') (hu : Upd [] w0 w) : MdS w0 M e w' := by
  obtain ⟨⟨v, o, h1, h2, h3⟩, h4⟩ := h
  exact ⟨⟨v, o, h1, h2.mono hu.size, h3⟩, hu.trans h4⟩
/-- a new number at an address. -/
def LitI (W : World) (ad : Addr) (q : Int) : Prop := ∀ j u, [Value.int .i64 q][j]? = some u → W.cell? (ad.add j) = some u
theorem LitI.new (W : World) (q : Int) : LitI (W.alloc (.cells #[.int .i64 q] 2)) ⟨W.heap.size, 0, none⟩ q := fun j u hj => by
  rw [addr_add]; exact cell_new W #[.int .i64 q] _ _ rfl _ _ (by simpa using hj)
theorem LitI.newH (W : World) (H : Nat) (hH : W.heap.size = H) (q : Int) : LitI (W.alloc (.cells #[.int .i64 q] 2)) ⟨H, 0, none⟩ q := by subst hH; exact LitI.new W q
theorem LitI.upd {W W' : World} {ad : Addr} {q : Int} (h : LitI W ad q) (hu : Upd [] W W') : LitI W' ad q := fun j u hj => hu.keep (h j u hj)
theorem LitI.drew {W : World} {ad : Addr} {q : Int} (h : LitI W ad q) : LitI W.drew ad q := h.upd ((Upd.refl _ _).drew)
theorem LitI.alloc {W : World} {ad : Addr} {q : Int} (h : LitI W ad q) (o : Obj) : LitI (W.alloc o) ad q := h.upd ((Upd.refl _ _).alloc o)
theorem row_alloc {W : World} {base : Nat} {e : TypeId} {size : Nat} {v : Value} {n : Nat} {xs : List Value} (h : W.ownsRow base e size v n xs) (o : Obj) : (W.alloc o).ownsRow base e size v n xs := ownsRow_upd h ((Upd.refl _ _).alloc o)
theorem NdR.up0 {W W' : World} {v : Value} {f : List Nd} (h : NdR W v f) (hu : Upd [] W W') : NdR W' v f := NdR.upd h hu (by simp)
theorem NdR.alloc1 {W : World} {v : Value} {f : List Nd} (h : NdR W v f) (o : Obj) : NdR (W.alloc o) v f := h.up0 ((Upd.refl _ _).alloc o)
theorem NdR.litNV (W : World) (k v : Int) : NdR (W.alloc (.cells #[.int .i64 k, .int .i64 v, .string ⟨#[]⟩, .bool false] 58)) (.slice (some ⟨W.heap.size, 0, none⟩) 1 1) [ndV k v] := NdR.lit W (ndV k v)
theorem NdR.litNH (W : World) (H : Nat) (hH : W.heap.size = H) (k v : Int) : NdR (W.alloc (.cells #[.int .i64 k, .int .i64 v, .string ⟨#[]⟩, .bool false] 58)) (.slice (some ⟨H, 0, none⟩) 1 1) [ndV k v] := by subst hH; exact NdR.lit W (ndV k v)
theorem NdR.grow {W W' : World} {base : Nat} {v : Value} {n : Nat} {xs : List Value} (hg : W.grownBy W' v.ownBlock) (hr : W.ownsRow base 2 1 v n xs) {x : Value} {f : List Nd} (h : NdR W x f) : NdR W' x f :=
  h.upd ((Upd.refl v.ownBlock.toList W).grown hg (fun k hk => Or.inr (by rw [hk]; simp))) (fun b hb c z e => by
    obtain ⟨c', z', hc⟩ := Lib.ownsRow_kind hr b (by simpa using hb)
    rw [hc] at e
    cases e)
theorem one_sub {w : World} {fr : List Nat} {b off cap : Nat} {n : Rg} {x : Tr Rg} (hR : R_G1 fr w [.slice (some ⟨b, off, none⟩) (flatT (Tr.mk n [x])).length cap] (flatT (Tr.mk n [x]))) :
    ∃ f1, R_G1 f1 w [.slice (some ⟨b, off + 3, none⟩) ((flatT (Tr.mk n [x])).length - 1) (cap - 1)] (flatT x) := by
  have hl : (flatT (Tr.mk n [x])).length = 1 + (flatT x).length := by simp [flatT, flatTs]; omega
  obtain ⟨f1, h1, -⟩ := slF_sub (n := 3) (by intro x; rfl) hR 1 (flatT (Tr.mk n [x])).length (by omega) (Nat.le_refl _)
  have e1 : ((flatT (Tr.mk n [x])).take (flatT (Tr.mk n [x])).length).drop 1 = flatT x := by rw [List.take_length]; simp [flatT, flatTs]
  rw [e1] at h1
  exact ⟨f1, h1⟩

set_option maxRecDepth 20000 in
set_option maxHeartbeats 8000000 in
theorem modStarS (N : Nat) (hI : ModC N) (x : Tr Rg) (lb : List UInt8) (nt : Bool) (w : World) (vr vf vb : Value) (fr ff fb : List Nat) (box : Bool) (used : List Int) (f : List Nd) (hN : (flatT (Tr.mk (⟨3, lb, nt⟩ : Rg) [x])).length ≤ N + 1) (hx : TOk x) (hf : f.length ≤ 30)
    (h20 : (flatT (Tr.mk (⟨3, lb, nt⟩ : Rg) [x])).length ≤ 20) (hus : used.length + (flatT (Tr.mk (⟨3, lb, nt⟩ : Rg) [x])).length ≤ 1000) (hux : ∀ x ∈ used, 0 ≤ x ∧ x < 3)
    (hR : R_G1 fr w [vr] (flatT (.mk ⟨3, lb, nt⟩ [x]))) (hF : R_F1 ff w [vf] f) (hB : R_I1 fb w [vb] used) :
    Calls Tryz.prog 46 #[vr, .bool box, vf, vb] w (MdS w (mdF box (.mk ⟨3, lb, nt⟩ [x]) used f)) := by
  obtain ⟨i0, hi, hz0, hz1, hz2⟩ := info_parts Tryz.infoNd
  obtain ⟨iu, hui, huz0, huz1, huz2⟩ := info_parts Tryz.info2
  have hLN : (flatT (Tr.mk (⟨3, lb, nt⟩ : Rg) [x])).length = 1 + (flatT x).length := by simp [flatT, flatTs]; omega
  obtain ⟨a, cap, rfl, g1, g2, hc⟩ := slF3_open hR
  obtain ⟨b, off, rfl, -, -, t0, -⟩ := hc 0 (by simp [flatT])
  simp only [flatT, List.getElem_cons_zero, Nat.zero_mul, Nat.add_zero] at t0
  obtain ⟨f1, hs1⟩ := one_sub hR
  obtain ⟨q, hqe⟩ : ∃ q : Nat, frV used = q := ⟨(frV used).toNat, by have := frV_le used; omega⟩
  have hq3 : q ≤ 3 := by have := frV_le used; omega
  obtain ⟨d, hd⟩ : ∃ d, kdB box 3 2 = d := ⟨_, rfl⟩
  obtain ⟨m, hm⟩ : ∃ m, kdB box 7 8 = m := ⟨_, rfl⟩
  have HX := Lib.hid (show mdF box (.mk ⟨3, lb, nt⟩ [x]) used f = (if 3 ≤ q then none else match mdF box x (used ++ [(q : Int)]) [ndV 6 q] with | none => none | some i => if 2 + f.length + i.length ≤ 30 then some (ndV m q :: ndK d :: (f ++ i)) else none) from by
    rw [mdF.eq_def]
    simp only [hqe, hd, hm, show ((3 : Int) ≤ (q : Int)) = (3 ≤ q) by simp; omega]
    rfl)
  generalize mdF box (.mk ⟨3, lb, nt⟩ [x]) used f = M at *
  have C1 := Lib.hid (fun (n : Int) W (hu : Upd [] w W) => hasNS vb used n W fb (R_I1k.upd hB hu (by simp)) (by omega))
  have SO := Lib.hid (fun W (hu : Upd [] w W) => show Calls Tryz.prog 47 #[vb] W (fun r w' => ∃ a c, r = .returned (.slice a used.length c) ∧ w'.ownsRow W.heap.size 2 1 (.slice a used.length c) used.length (used.map ei) ∧ Upd [] W w' ∧ Upd [] w w') from
    (ownIR vb used W fb (by omega) (R_I1k.upd hB hu (by simp))).mono (fun r w' ⟨⟨a, c, h1, h2⟩, h3⟩ => ⟨a, c, h1, h2, h3, hu.trans h3⟩))
  have SX := Lib.hid (fun (hq2 : q < 3) W (hu : Upd [] w W) vN vB (hN' : NdR W vN [ndV 6 q]) {base : Nat} (hB' : W.ownsRow base 2 1 vB (used.length + 1) (used.map ei ++ [ei q])) => show Calls Tryz.prog 46 #[.slice (some ⟨b, off + 3, none⟩) ((flatT (Tr.mk (⟨3, lb, nt⟩ : Rg) [x])).length - 1) (cap - 1), .bool box, vN, vB] W (MdS W (mdF box x (used ++ [(q : Int)]) [ndV 6 q])) from by
    obtain ⟨fN, h1, -⟩ := hN'
    obtain ⟨fB, h2, -⟩ := Flat.ofOwns hB'
    exact hI x W _ vN vB f1 fN fB box (used ++ [(q : Int)]) [ndV 6 q] (by omega) hx (by simp) (by omega) (by simp; omega) (fun z hz => by
      rcases List.mem_append.1 hz with hz | hz
      · exact hux z hz
      · have := List.mem_singleton.1 hz
        omega) (R_G1k.upd hs1 hu (by simp)) h1 ⟨_, rfl, by rw [flatMap_single, List.length_append, List.map_append]; exact h2⟩)
  have HFF := Lib.hid (fun S W (hu : Upd S w W) (hS : ∀ b ∈ S, w.heap.size ≤ b) => Flat.ofF1 (R_F1k.upd hF hu (fun b hb e => by have := R_F1k.lt hF b hb; have := hS b e; omega)))
  obtain ⟨af, cf, rfl⟩ : ∃ af cf, vf = .slice af f.length cf := by obtain ⟨v', hv, af, cf, rfl, -⟩ := hF; cases hv; exact ⟨_, _, rfl⟩
  have HFA := Lib.hid (fun k h1 h2 h3 => frV_at used k h1 h2 h3)
  have HUX := Lib.hid hux
  have HQE := Lib.hid hqe
  have hpx := flatT_pos x
  unfold maxLen at g2
  have HD := Lib.hid hd
  have HMM := Lib.hid hm
  clear hc hR hF hB hs1 hI hux hd hm hqe
  generalize (flatT (Tr.mk (⟨3, lb, nt⟩ : Rg) [x])).length = LN at *
  generalize hLX : (flatT x).length = LX at *
  have s1 : (1 : Int) ≤ (LN : Int) := by omega
  have s2 : (LN : Int) ≤ (cap : Int) := by omega
  have s6 : ¬ (cap = 1) := by omega
  have HLN := Lib.hid hLN
  have hln2 : 2 ≤ LN := by omega
  clear hLN hLX
  obtain ⟨wA, hwA⟩ : ∃ wA, wA = w.alloc (.cells #[] 58) := ⟨_, rfl⟩
  have uA : Upd [] w wA := by rw [hwA]; exact (Upd.refl _ _).alloc _
  have UA := Lib.hid uA
  obtain ⟨B, hB⟩ : ∃ B, B = w.heap.size := ⟨_, rfl⟩
  have HOA := Lib.hid (show wA.ownsRow B 58 4 (.slice (some ⟨B, 0, none⟩) 0 0) 0 [] from by rw [hwA, hB]; exact row_empty w)
  have HB := Lib.hid hB
  have HSA := Lib.hid (show B < wA.heap.size from by rw [hwA, hB]; simp)
  go_enter Tryz.func46, Tryz.ntmps46
  go_upto_if 25 with (fail)
  go_cut [10, 11, 12] (fun s10 s11 s12 wx => s10 = .int .i64 (kdB box 4 5) ∧ s11 = .int .i64 (kdB box 3 2) ∧ s12 = .int .i64 (kdB box 7 8) ∧ wx = w)
  case first =>
    cases box
    all_goals
      go_wp2_with fail
      go_meet
      exact ⟨rfl, rfl, rfl, rfl⟩
  case rest =>
    obtain ⟨rfl, rfl, rfl, hww⟩ := hcut
    replace hww := hww.symm
    subst hww
    rw [HD.out, HMM.out]
    go_upto_region 9 with (fail)
    rw [← hwA, ← hB]
    have y0 := uA.keep t0
    clear hwA hB
    go_upto_block 1 with (fail)
    go_cut [22] (fun s22 wx => s22 = .int .i64 q ∧ wx = wA)
    case first =>
      clear HX SO SX HFF
      go_wp2_with fail
      go_loopw [22] (fun iv wr => ∃ k : Nat, k ≤ 3 ∧ iv = .int .i64 k ∧ Hid (∀ j : Nat, j < k → used.contains (j : Int) = true) ∧ wr = wA) (fun iv _ => 3 - (intOf iv).toNat)
      case atStart => exact ⟨0, by omega, rfl, Lib.hid (fun j hj => by omega), rfl⟩
      case round =>
        obtain ⟨k, hk, rfl, HJ, hww⟩ := hrel
        replace hww := hww.symm
        subst hww
        have D1 := C1.out (k : Int) wA UA.out
        cases hcn : used.contains (k : Int) with
        | true =>
          rw [hcn] at D1
          have hk3 : k < 3 := by
            have := HUX.out (k : Int) (by simpa using hcn)
            omega
          have HJ2 := Lib.hid (show ∀ j : Nat, j < k + 1 → used.contains (j : Int) = true from fun j hj => by
            rcases (by omega : j < k ∨ j = k) with h | rfl
            · exact HJ.out j h
            · exact hcn)
          have HDD := Lib.hid D1
          clear HJ D1 hcn
          go_wp2_with fail
          refine HDD.out.mono ?_
          rintro e w2 ⟨rfl, rfl⟩
          clear HDD
          go_wp2_with fail
          go_roundw
          case rel => exact ⟨k + 1, by omega, by go_num, HJ2, by first | rfl | trivial⟩
          case measure => simp [intOf]; omega
        | false =>
          rw [hcn] at D1
          have HXX := Lib.hid (show k = q by have := HFA.out k HJ.out hcn hk; have := HQE.out; omega)
          have HDD := Lib.hid D1
          clear HJ D1 hcn
          go_wp2_with fail
          refine HDD.out.mono ?_
          rintro e w2 ⟨rfl, rfl⟩
          clear HDD
          go_wp2_with fail
          go_meet
          exact ⟨by rw [HXX.out], rfl⟩
    case rest =>
      obtain ⟨rfl, hww⟩ := hcut
      replace hww := hww.symm
      subst hww
      clear C1 HFA HQE
      by_cases hq : 3 ≤ q
      · have hqi : (3 : Int) ≤ (q : Int) := by omega
        have HM := Lib.hid (show M = none by rw [HX.out, if_pos hq])
        clear HX SO SX HFF
        go_wp2_with fail
        go_ret2
        exact MdS.mk false (by rw [HM.out]; rfl) (New.nilF 4 _ _ _) (by simp) (fun x hx => by rw [HM.out] at hx; cases hx) UA.out
      · have hqi : ¬ (3 : Int) ≤ (q : Int) := by omega
        have hq2 : q < 3 := by omega
        have HM := Lib.hid (show M = (match mdF box x (used ++ [(q : Int)]) [ndV 6 q] with | none => none | some i => if 2 + f.length + i.length ≤ 30 then some (ndV m q :: ndK d :: (f ++ i)) else none) from by rw [HX.out, if_neg hq])
        have SX2 := Lib.hid (SX.out hq2)
        clear HX SX
        have HR30 := Lib.hid (fun z (h : mdF box x (used ++ [(q : Int)]) [ndV 6 q] = some z) => mdF_le h)
        generalize mdF box x (used ++ [(q : Int)]) [ndV 6 q] = R at *
        go_upto_region 34 with (fail)
        go_cut [23, 24] (fun s23 s24 wx => ∃ (a : Option Addr) (c : Nat) (o : List Nd) (fo : List Nat), s23 = .slice a o.length c ∧ s24 = .bool R.isSome ∧ R_F1 fo wx [.slice a o.length c] o ∧ (∀ b ∈ fo, wA.heap.size ≤ b) ∧ o.length ≤ 100 ∧ (∀ z, R = some z → o = z) ∧ Upd [] wA wx)
        case first =>
          clear HM HFF HOA
          have hwB : w.heap.size ≤ wA.heap.size := uA.size
          go_region_held3 (fun w' => w'.cell? ⟨b, off, none⟩ = some (ei 3)) (go_keep)
            (first
              | (go_at_call 47; (with_reducible refine (SO.out _ (by repeat (first | with_reducible exact Upd.refl _ _ | with_reducible assumption | with_reducible refine Upd.drew ?_ | with_reducible refine Upd.alloc ?_ _))).mono ?_); rintro e w1 ⟨a1, c1, rfl, hob, hu1, hV1⟩; have ho1 := row_base (base' := wA.heap.size) hob (by first | exact Nat.le_refl _ | (simp; done) | (simp; omega)); have hA1 : Upd [] wA w1 := Upd.trans (by repeat (first | with_reducible exact Upd.refl _ _ | with_reducible assumption | with_reducible refine Upd.drew ?_ | with_reducible refine Upd.alloc ?_ _)) hu1; have x1 := hV1.keep t0)
              | (refine step_append_lies _ (by rfl) _ _ 76 (by rfl) wA.heap.size 2 iu (.int .i64 0) 1 8 Tryz.underlying76 hui huz0 huz1 huz2 rfl (by decide) (.slice a1 used.length c1) used.length (used.map ei) (by rfl) (by repeat (first | with_reducible exact ho1 | with_reducible refine row_alloc ?_ _)) _ 1 1 [.int .i64 q] (by rfl) rfl (show LitI _ _ _ from by repeat (first | with_reducible exact LitI.new _ _ | ((with_reducible refine LitI.newH _ _ ?_ _); first | with_reducible rfl | (focus (simp; done))) | with_reducible refine LitI.drew ?_ | with_reducible refine LitI.alloc ?_ _ | with_reducible refine LitI.upd ?_ hu1)) (by intro u hu; simp at hu; subst hu; rfl) (by decide) (by unfold maxLen; omega) (by omega) (by have := hA1.size; simp; omega) _ rfl ?_; intro g gcap w4 hown4 hg4 hat4 hlt4; have hV4 : Upd [] w w4 := Upd.grown (by repeat (first | with_reducible exact Upd.refl _ _ | with_reducible assumption | with_reducible refine Upd.drew ?_ | with_reducible refine Upd.alloc ?_ _)) hg4 (fun k hk => Or.inl (Nat.le_trans hwB (ho1.lt k hk).1)); have hA4 : Upd [] wA w4 := Upd.grown (by repeat (first | with_reducible exact Upd.refl _ _ | with_reducible assumption | with_reducible refine Upd.drew ?_ | with_reducible refine Upd.alloc ?_ _)) hg4 (fun k hk => Or.inl (ho1.lt k hk).1); have x4 := hV4.keep t0)
              | (go_at_call 46; (with_reducible refine (SX2.out _ (by repeat (first | with_reducible exact Upd.refl _ _ | with_reducible assumption | with_reducible refine Upd.drew ?_ | with_reducible refine Upd.alloc ?_ _)) _ _ ?_ (base := wA.heap.size) ?_).mono ?_); (repeat (first | with_reducible exact NdR.litNV _ _ _ | ((with_reducible refine NdR.litNH _ _ ?_ _ _); first | with_reducible rfl | (focus (simp; done))) | with_reducible refine NdR.drew ?_ | with_reducible refine NdR.alloc1 ?_ _ | with_reducible refine NdR.up0 ?_ hu1 | (refine NdR.grow (base := wA.heap.size) (n := used.length) (xs := used.map ei) hg4 (by repeat (first | with_reducible exact ho1 | with_reducible refine row_alloc ?_ _)) ?_))); (repeat (first | with_reducible exact hown4 | with_reducible refine row_alloc ?_ _)); rintro e w5 h5; have h6 := MdS.from (w0 := wA) h5 (by repeat (first | with_reducible exact Upd.refl _ _ | with_reducible assumption | with_reducible refine Upd.drew ?_ | with_reducible refine Upd.alloc ?_ _)); obtain ⟨a5, c5, o5, rfl, hn5, hl5, hx5, hu5⟩ := h6.form; have x5 := hu5.keep y0))
          all_goals
            have HN5 := Lib.hid hn5
            have HA5 := Lib.hid hu5
            have HX5 := Lib.hid hx5
            clear hn5 hx5 hu5 x1 x4 x5 h5 h6 hV1 hV4 hA1 hA4 hu1 hob ho1 hown4 hg4 y0 t0
            go_wp2_with fail
            go_meet
            obtain ⟨fo, z1, -, z3⟩ := HN5.out
            exact ⟨a5, c5, o5, fo, rfl, rfl, z1, z3, hl5, HX5.out, HA5.out⟩
        case rest =>
          obtain ⟨a5, c5, o5, fo, rfl, rfl, q4, r4, hl5, hx5, hu5⟩ := hcut
          have HV5 := Lib.hid (UA.out.trans hu5)
          clear SO SX2 y0
          cases hR : R with
          | none =>
            have HM2 := Lib.hid (show M = none from by rw [HM.out, hR])
            clear HM HFF hx5 q4
            go_wp2_with fail
            go_ret2
            exact MdS.mk false (by rw [HM2.out]; rfl) (New.nilF 4 _ _ _) (by simp) (fun x hx => by rw [HM2.out] at hx; cases hx) HV5.out
          | some z5 =>
            have hz30 := HR30.out z5 hR
            obtain rfl := hx5 z5 hR
            have HM2 := Lib.hid (show M = (if 2 + f.length + o5.length ≤ 30 then some (ndV m q :: ndK d :: (f ++ o5)) else none) from by rw [HM.out, hR])
            have hlit : (wc.alloc (.cells #[.int .i64 m, .int .i64 q, .string ⟨#[]⟩, .bool false, .int .i64 d, .int .i64 0, .string ⟨#[]⟩, .bool false] 58)).ownsRow wc.heap.size 58 4 (.slice (some ⟨wc.heap.size, 0, none⟩) 2 2) 2 [.int .i64 m, .int .i64 q, .string ⟨#[]⟩, .bool false, .int .i64 d, .int .i64 0, .string ⟨#[]⟩, .bool false] :=
              World.ownsRow_lit (base := wc.heap.size) (e := 58) (size := 4) wc #[.int .i64 m, .int .i64 q, .string ⟨#[]⟩, .bool false, .int .i64 d, .int .i64 0, .string ⟨#[]⟩, .bool false] 2 (Nat.le_refl _) (by simp [maxLen]) (by simp)
            obtain ⟨fv, hfv, -⟩ := Flat.ofOwns hlit
            have HFV := Lib.hid hfv
            have hal := (Upd.refl [] wc).alloc (.cells #[.int .i64 m, .int .i64 q, .string ⟨#[]⟩, .bool false, .int .i64 d, .int .i64 0, .string ⟨#[]⟩, .bool false] 58)
            have HOW := Lib.hid (ownsRow_upd HOA.out (hu5.trans hal))
            have hb4 : B ≤ (wc.alloc (.cells #[.int .i64 m, .int .i64 q, .string ⟨#[]⟩, .bool false, .int .i64 d, .int .i64 0, .string ⟨#[]⟩, .bool false] 58)).heap.size := by rw [HB.out]; exact (HV5.out.trans hal).size
            have HF4 := Lib.hid (fun W (hu : Upd [B] wc W) => Flat.ofF1 (R_F1k.upd q4 hu (fun b hb e => by have := r4 b hb; have := HSA.out; simp at e; omega)))
            clear HM hx5 hR hlit hfv hal HOA q4 r4 hu5
            go_wp2_with (first
              | (at_builtin; refine wpList_append_flat rfl _ _ 28 rfl B 58 i0 (.agg #[.int .i64 0, .int .i64 0, .string ⟨#[]⟩, .bool false]) 4 40 Tryz.underlying28 hi hz0 hz1 hz2 rfl (by decide) _ _ _ rfl HOW.out _ 2 _ rfl _ HFV.out (fun u hu => by simp at hu; rcases hu with rfl | rfl | rfl | rfl | rfl | rfl | rfl | rfl <;> rfl) (by unfold maxLen; omega) (by omega) hb4 ?_)
              | fail)
            intro v6 w6 hown6 hg6 ht6
            obtain ⟨a6, c6, rfl⟩ := ownsRow_form hown6
            have hv6 : Upd [] w w6 := (HV5.out.alloc _).grown hg6 (fun k hk => Or.inl (by have := (HOW.out.lt k hk).1; have := HB.out; omega))
            have HO6 := Lib.hid (show w6.ownsRow B 58 4 (.slice a6 2 c6) 2 [.int .i64 m, .int .i64 q, .string ⟨#[]⟩, .bool false, .int .i64 d, .int .i64 0, .string ⟨#[]⟩, .bool false] from by simpa using hown6)
            have hw56 : Upd [B] wc w6 := ((Upd.refl _ wc).alloc _).grown hg6 (fun k hk => Or.inr (by simp [Value.ownBlock] at hk; simp [hk]))
            have HW56 := Lib.hid hw56
            have HV6 := Lib.hid hv6
            have HOB6 := Lib.hid (show ∀ g, (Value.slice a6 2 c6).ownBlock = some g → g = B ∨ wc.heap.size ≤ g from fun g hg => by
              rcases ht6 g hg with h | h
              · left; simp [Value.ownBlock] at h; exact h.symm
              · right; have h9 : wc.heap.size + 1 ≤ g := by simpa using h
                omega)
            have HF6 := Lib.hid (HFF.out [] w6 hv6 (by simp))
            have hb6 : B ≤ w6.heap.size := by rw [HB.out]; exact hv6.size
            clear hown6 hg6 ht6 hv6 hw56 HOW HFV hb4 HFF
            go_wp2_with (first
              | (at_builtin; refine wpList_append_flat rfl _ _ 28 rfl B 58 i0 (.agg #[.int .i64 0, .int .i64 0, .string ⟨#[]⟩, .bool false]) 4 40 Tryz.underlying28 hi hz0 hz1 hz2 rfl (by decide) _ _ _ rfl HO6.out _ f.length _ rfl _ HF6.out (one_F1 f) (by unfold maxLen; omega) (by omega) hb6 ?_)
              | fail)
            intro v7 w7 hown7 hg7 ht7
            obtain ⟨a7, c7, rfl⟩ := ownsRow_form hown7
            have hv7 : Upd [] w w7 := HV6.out.grown hg7 (fun k hk => Or.inl (by have := (HO6.out.lt k hk).1; have := HB.out; omega))
            have hu7 : Upd (Value.slice a6 2 c6).ownBlock.toList w6 w7 := (Upd.refl _ w6).grown hg7 (fun k hk => Or.inr (by rw [hk]; simp))
            have hw57 : Upd [B] wc w7 := HW56.out.fresh hu7 (fun b hb => by
              rcases HOB6.out b (by simpa using hb) with h | h
              · exact Or.inr (by simp [h])
              · exact Or.inl h)
            have HO7 := Lib.hid hown7
            have HV7 := Lib.hid hv7
            have HF7 := Lib.hid (HF4.out w7 hw57)
            have hb7 : B ≤ w7.heap.size := by rw [HB.out]; exact hv7.size
            clear hown7 hg7 ht7 hv7 hu7 hw57 HO6 HF6 hb6 HF4 HOB6 HW56
            generalize hl7 : 2 + f.length = l7 at *
            go_wp2_with (first
              | (at_builtin; refine wpList_append_flat rfl _ _ 28 rfl B 58 i0 (.agg #[.int .i64 0, .int .i64 0, .string ⟨#[]⟩, .bool false]) 4 40 Tryz.underlying28 hi hz0 hz1 hz2 rfl (by decide) _ _ _ rfl HO7.out _ o5.length _ rfl _ HF7.out (one_F1 o5) (by unfold maxLen; omega) (by omega) hb7 ?_)
              | fail)
            intro v8 w8 hown8 hg8 ht8
            obtain ⟨a8, c8, rfl⟩ := ownsRow_form hown8
            have HV8 := Lib.hid (show Upd [] w w8 from HV7.out.grown hg8 (fun k hk => Or.inl (by have := (HO7.out.lt k hk).1; have := HB.out; omega)))
            have HN8 := Lib.hid (show New R_F1 w w8 (.slice a8 (l7 + o5.length) c8) (ndV m q :: ndK d :: (f ++ o5)) from New.ofF1 (by
              rw [← HB.out]
              have hl : (ndV m q :: ndK d :: (f ++ o5)).length = l7 + o5.length := by simp; omega
              rw [hl, List.flatMap_cons, List.flatMap_cons, List.flatMap_append, ← List.append_assoc, ← List.append_assoc]
              exact hown8))
            clear hown8 hg8 ht8 HO7 HF7 hb7
            generalize hl8 : l7 + o5.length = l8 at *
            by_cases h30 : l8 ≤ 30
            · have h30i : (l8 : Int) ≤ 30 := by omega
              go_wp2_with fail
              go_ret2
              exact MdS.mk true (by rw [HM2.out, if_pos (by omega)]; rfl) HN8.out (by simp; omega) (fun x hx => by rw [HM2.out, if_pos (by omega)] at hx; cases hx; rfl) HV8.out
            · have h30i : ¬ (l8 : Int) ≤ 30 := by omega
              go_wp2_with fail
              go_ret2
              exact MdS.mk false (by rw [HM2.out, if_neg (by omega)]; rfl) HN8.out (by simp; omega) (fun x hx => by rw [HM2.out, if_neg (by omega)] at hx; cases hx) HV8.out

theorem modS : ∀ N : Nat, ModC N
  | 0 => fun r w vr vf vb fr ff fb box used f hn => by have := flatT_pos r; omega
  | N + 1 => fun r w vr vf vb fr ff fb box used f hn hok hf h20 hus hux hR hF hB => by
    obtain ⟨⟨kd, lb, nt⟩, args⟩ := r
    have hkd : 0 ≤ kd ∧ kd ≤ 3 := hok.2 ⟨kd, lb, nt⟩ (by simp [flatT])
    have h1 := hok.1
    rw [okT, Bool.and_eq_true, decide_eq_true_eq] at h1
    have hk2 : ∀ t ∈ flatTs args, 0 ≤ t.kd ∧ t.kd ≤ 3 := fun t ht => hok.2 t (by rw [flatT]; exact List.mem_cons_of_mem _ ht)
    rcases (by omega : kd = 0 ∨ kd = 1 ∨ kd = 2 ∨ kd = 3) with rfl | rfl | rfl | rfl
    · match args, h1 with
      | [], _ => exact modTestS w vr vf vb fr ff box used f lb nt hf hR hF
    · match args, h1, hk2 with
      | [x, y], h1, hk2 =>
        simp only [okTs, Bool.and_eq_true, Bool.and_true] at h1
        exact modThenS N (modS N) x y lb nt w vr vf vb fr ff fb box used f hn ⟨h1.2.1, fun t ht => hk2 t (by simp [flatTs, ht])⟩ ⟨h1.2.2, fun t ht => hk2 t (by simp [flatTs, ht])⟩ hf h20 hus hux hR hF hB
    · match args, h1, hk2 with
      | [x, y], h1, hk2 =>
        simp only [okTs, Bool.and_eq_true, Bool.and_true] at h1
        exact modEitherS N (modS N) x y lb nt w vr vf vb fr ff fb box used f hn ⟨h1.2.1, fun t ht => hk2 t (by simp [flatTs, ht])⟩ ⟨h1.2.2, fun t ht => hk2 t (by simp [flatTs, ht])⟩ hf h20 hus hux hR hF hB
    · match args, h1, hk2 with
      | [x], h1, hk2 =>
        simp only [okTs, Bool.and_eq_true, Bool.and_true] at h1
        exact modStarS N (modS N) x lb nt w vr vf vb fr ff fb box used f hn ⟨h1.2, fun t ht => hk2 t (by simp [flatTs, ht])⟩ hf h20 hus hux hR hF hB

end Go.Proofs.YtaahjpmndkcijaaGreatDoor

/-
  Formulas parsed: the reference builds the nodes: a modality, a fixpoint; all together.
-/
namespace Go.Proofs.YtaahjpmndkcijaaGreatDoor
open Go.RowKit

theorem it_tail (x : Itm) (A : List Itm) : ((x :: A).take (x :: A).length).drop 1 = A := by rw [List.take_length]; rfl
def fixO (k vn : Int) : Option (List Nd) → Option (List Nd)
  | none => none
  | some x => if 1 + x.length ≤ 30 then some (ndV k vn :: x) else none
theorem BdS.from {w0 w w' : World} {n : Nat} {M : Option (List Nd)} {e : Ending} (h : BdS w n M e w') (hu : Upd [] w0 w) : BdS w0 n M e w' := by
  obtain ⟨⟨v, o, h1, h2, h3⟩, h4⟩ := h
  exact ⟨⟨v, o, h1, h2.mono hu.size, h3⟩, hu.trans h4⟩

set_option maxRecDepth 20000 in
set_option maxHeartbeats 4000000 in
theorem bldModalS (w : World) (v vb : Value) (fb : List Nat) (box : Bool) (r : Tr Rg) (at' : Nat) (A : List Itm) (f : Fm) (u : List Int) (hA : ItF f A) (hf : okF f) (hr : TOk r) (hlen : (⟨ndK (if box then 5 else 4), flatT r, at'⟩ :: A : List Itm).length ≤ 400)
    (hR : HasIt w v (⟨ndK (if box then 5 else 4), flatT r, at'⟩ :: A)) (hB : R_I1 fb w [vb] u) (hul : u.length ≤ 900) (hux : ∀ x ∈ u, 0 ≤ x ∧ x < 3)
    (hI : ∀ W v', Upd [] w W → HasIt W v' A → Calls Tryz.prog 35 #[v', vb] W (BdS W A.length (bldF f u))) :
    Calls Tryz.prog 35 #[v, vb] w (BdS w (⟨ndK (if box then 5 else 4), flatT r, at'⟩ :: A : List Itm).length (bldF (.modal box r at' f) u)) := by
  have hLN : (⟨ndK (if box then 5 else 4), flatT r, at'⟩ :: A : List Itm).length = 1 + A.length := by simp; omega
  have hpA := hA.pos hf
  obtain ⟨b, off, cap, rfl, g1, g2, hc⟩ := hR.open1 (by simp)
  obtain ⟨rv, fp, t0, t1, t2, t3, t4, t5, hrg⟩ := hc 0 (by simp)
  simp only [List.getElem_cons_zero, Nat.zero_mul, Nat.add_zero, ndK] at t0 t1 t2 t3 t4 t5 hrg
  obtain ⟨ar, cr, rfl⟩ := g1_form hrg
  have hpr := flatT_pos r
  obtain ⟨kd, hkd⟩ : ∃ kd : Int, (if box then 5 else 4) = kd := ⟨_, rfl⟩
  have hk5 : (kd == 5) = box := by rw [← hkd]; cases box <;> rfl
  have ha : arS kd = 1 := by rw [← hkd]; cases box <;> rfl
  have AR := Lib.hid (fun W => arityS kd W)
  rw [ha] at AR
  have hsA := hR.sub 1 (⟨ndK (if box then 5 else 4), flatT r, at'⟩ :: A : List Itm).length (by omega) (Nat.le_refl _)
  rw [it_tail] at hsA
  have SA := Lib.hid (fun W (hu : Upd [] w W) => hI W _ hu (hsA.upd hu))
  have SM := Lib.hid (fun (h20 : (flatT r).length ≤ 20) W (hu : Upd [] w W) vf ff f' (hl : f'.length ≤ 30) (hF : R_F1 ff W [vf] f') => modS (flatT r).length r W _ vf vb fp ff fb box u f' (Nat.le_refl _) hr hl h20 (by omega) hux (R_G1k.upd hrg hu (by simp)) hF (R_I1k.upd hB hu (by simp)))
  have HX := Lib.hid (show bldF (.modal box r at' f) u = (if 20 < (flatT r).length then none else match bldF f u with | none => none | some x => mdF box r u x) from by
    rw [bldF]
    split
    · rfl
    · cases bldF f u with
      | none => rfl
      | some x => rfl)
  have HLE := Lib.hid (fun (x o : List Nd) (h : bldF f u = some x) => show x.length ≤ 30 from by
    rw [bld_imp] at h
    cases hq : impF f u with
    | none => rw [hq] at h; cases h
    | some y =>
      rw [hq, fitF_some] at h
      split at h
      · cases h; assumption
      · cases h)
  generalize bldF (.modal box r at' f) u = M at *
  obtain ⟨lr, hlr⟩ : ∃ lr, (flatT r).length = lr := ⟨_, rfl⟩
  rw [hlr] at t4 SM HX hpr
  rw [hkd] at t0
  obtain ⟨wA, hwA⟩ : ∃ wA, wA = w.alloc (.cells #[ei kd, ei 0, es [], .bool false, .slice ar lr cr, ei at'] 82) := ⟨_, rfl⟩
  have uA : Upd [] w wA := by rw [hwA]; exact (Upd.refl _ _).alloc _
  obtain ⟨B, hB'⟩ : ∃ B, B = w.heap.size := ⟨_, rfl⟩
  have rA : RowAt wA B 82 [ei kd, ei 0, es [], .bool false, .slice ar lr cr, ei at'] := by rw [hwA, hB']; exact RowAt.new w _ _
  have d0 := rA.cell 0 _ rfl
  have d4 := rA.cell 4 _ rfl
  have RA := Lib.hid rA
  have UA := Lib.hid uA
  unfold maxLen at g2
  clear hc hR ha rA uA hI hsA hA hf hr hrg hB hkd hlr hux
  generalize (⟨ndK (if box then 5 else 4), flatT r, at'⟩ :: A : List Itm).length = LN at *
  generalize A.length = LA at *
  have s1 : (1 : Int) ≤ (LN : Int) := by omega
  have s2 : (LN : Int) ≤ (cap : Int) := by omega
  have s6 : ¬ (cap = 1) := by omega
  have hln2 : 2 ≤ LN := by omega
  have hlA : LA ≤ 400 := by omega
  have hlA2 : LA ≤ LN := by omega
  have HLN := Lib.hid hLN
  clear hLN
  go_enter Tryz.func35, Tryz.ntmps35
  go_upto_region 2 with (fail)
  rw [← hwA, ← hB']
  clear hwA hB' t0 t1 t2 t3 t4 t5
  go_wp2_with fail
  refine (AR.out _).mono ?_
  rintro e w2 ⟨rfl, hww⟩
  subst hww
  clear AR
  by_cases h20 : 20 < lr
  · have h20i : (20 : Int) < (lr : Int) := by omega
    have HM := Lib.hid (show M = none from by rw [HX.out, if_pos h20])
    clear HX SA SM
    go_wp2_with fail
    go_ret2
    exact BdS.mk false (by rw [HM.out]; rfl) (New.nilF 4 _ _ _) (by simp) (fun x hx => by rw [HM.out] at hx; cases hx) UA.out
  · have h20i : ¬ (20 : Int) < (lr : Int) := by omega
    have h0i : (0 : Int) < (lr : Int) := by omega
    have HM := Lib.hid (show M = (match bldF f u with | none => none | some x => mdF box r u x) from by rw [HX.out, if_neg h20])
    have SM2 := Lib.hid (SM.out (by omega))
    clear HX SM h20
    go_wp2_with fail
    (with_reducible refine (SA.out wA UA.out).mono ?_)
    rintro e w3 h3
    obtain ⟨a3, c3, o3, rfl, hn3, hl3, hx3, hu3⟩ := h3.form
    have HU3 := Lib.hid (UA.out.trans hu3)
    have r5 := RA.out.upd hu3 (by simp)
    have e0 := r5.cell 0 _ rfl
    have e4 := r5.cell 4 _ rfl
    have HN3 := Lib.hid hn3
    clear h3 SA hu3 hn3 d0 d4 r5 RA
    cases hq : bldF f u with
    | none =>
      have HM2 := Lib.hid (show M = none from by rw [HM.out, hq])
      clear HM SM2 hx3 hq
      go_wp2_with fail
      go_ret2
      exact BdS.mk false (by rw [HM2.out]; rfl) (New.nilF 4 _ _ _) (by simp) (fun x hx => by rw [HM2.out] at hx; cases hx) HU3.out
    | some z =>
      have hz30 := HLE.out z [] hq
      obtain rfl := hx3 z hq
      have HM2 := Lib.hid (show M = mdF box r u o3 from by rw [HM.out, hq])
      obtain ⟨f3, q3, -⟩ := HN3.out
      have HS := Lib.hid (SM2.out w3 HU3.out _ f3 o3 hz30 q3)
      clear HM SM2 hx3 hq HN3 q3 HLE
      go_wp2_with fail
      (with_reducible refine HS.out.mono ?_)
      rintro e w4 h4
      obtain ⟨a4, c4, o4, rfl, hn4, hl4, hx4, hu4⟩ := h4.form
      have HU4 := Lib.hid (HU3.out.trans hu4)
      have HN4 := Lib.hid (hn4.mono HU3.out.size)
      have HX4 := Lib.hid hx4
      clear h4 hn4 hu4 hx4 HS e0 e4
      go_wp2_with fail
      go_ret2
      exact BdS.mk _ (by rw [HM2.out]) HN4.out (by omega) (fun z hz => HX4.out z (by rw [← HM2.out]; exact hz)) HU4.out

set_option maxRecDepth 20000 in
set_option maxHeartbeats 8000000 in
theorem bldFixS (w : World) (v vb : Value) (fb : List Nat) (k vn : Int) (at' : Nat) (A : List Itm) (f : Fm) (u : List Int) (hk : k = 7 ∨ k = 8) (hA : ItF f A) (hf : okF f) (hlen : (⟨ndV k vn, [], at'⟩ :: A : List Itm).length ≤ 400)
    (hR : HasIt w v (⟨ndV k vn, [], at'⟩ :: A)) (hB : R_I1 fb w [vb] u) (hul : u.length ≤ 900)
    (hI : ∀ W v' vb' fb', Upd [] w W → HasIt W v' A → R_I1 fb' W [vb'] (u ++ [vn]) → Calls Tryz.prog 35 #[v', vb'] W (BdS W A.length (bldF f (u ++ [vn])))) :
    Calls Tryz.prog 35 #[v, vb] w (BdS w (⟨ndV k vn, [], at'⟩ :: A : List Itm).length (bldF (.fix k vn f) u)) := by
  obtain ⟨i0, hi, hz0, hz1, hz2⟩ := info_parts Tryz.infoNd
  obtain ⟨iu, hui, huz0, huz1, huz2⟩ := info_parts Tryz.info2
  have hLN : (⟨ndV k vn, [], at'⟩ :: A : List Itm).length = 1 + A.length := by simp; omega
  have hpA := hA.pos hf
  obtain ⟨b, off, cap, rfl, g1, g2, hc⟩ := hR.open1 (by simp)
  obtain ⟨rv, fp, t0, t1, t2, t3, t4, t5, hrg⟩ := hc 0 (by simp)
  simp only [List.getElem_cons_zero, Nat.zero_mul, Nat.add_zero, ndV] at t0 t1 t2 t3 t4 t5 hrg
  obtain ⟨ar, cr, rfl⟩ := g1_form hrg
  simp only [List.length_nil] at t4
  have ha : arS k = 1 := by rcases hk with rfl | rfl <;> rfl
  have AR := Lib.hid (fun W => arityS k W)
  rw [ha] at AR
  have hsA := hR.sub 1 (⟨ndV k vn, [], at'⟩ :: A : List Itm).length (by omega) (Nat.le_refl _)
  rw [it_tail] at hsA
  have SO := Lib.hid (fun W (hu : Upd [] w W) => show Calls Tryz.prog 47 #[vb] W (fun r w' => ∃ a c, r = .returned (.slice a u.length c) ∧ w'.ownsRow W.heap.size 2 1 (.slice a u.length c) u.length (u.map ei) ∧ Upd [] W w' ∧ Upd [] w w') from
    (ownIR vb u W fb (by omega) (R_I1k.upd hB hu (by simp))).mono (fun r w' ⟨⟨a, c, h1, h2⟩, h3⟩ => ⟨a, c, h1, h2, h3, hu.trans h3⟩))
  obtain ⟨R, hRR⟩ : ∃ R, bldF f (u ++ [vn]) = R := ⟨_, rfl⟩
  have SX := Lib.hid (fun W (hu : Upd [] w W) vB {base : Nat} (hB' : W.ownsRow base 2 1 vB (u.length + 1) (u.map ei ++ [ei vn])) => show Calls Tryz.prog 35 #[.slice (some ⟨b, off + 6, none⟩) ((⟨ndV k vn, [], at'⟩ :: A : List Itm).length - 1) (cap - 1), vB] W (BdS W A.length R) from by
    obtain ⟨fB, h2, -⟩ := Flat.ofOwns hB'
    rw [← hRR]
    exact hI W _ vB fB hu (hsA.upd hu) ⟨_, rfl, by rw [flatMap_single, List.length_append, List.map_append]; exact h2⟩)
  have HX := Lib.hid (show bldF (.fix k vn f) u = fixO k vn R from by
    rw [← hRR, bldF]
    cases bldF f (u ++ [vn]) with
    | none => rfl
    | some x => rfl)
  generalize bldF (.fix k vn f) u = M at *
  obtain ⟨wA, hwA⟩ : ∃ wA, wA = w.alloc (.cells #[ei k, ei vn, es [], .bool false, .slice ar 0 cr, ei at'] 82) := ⟨_, rfl⟩
  have uA : Upd [] w wA := by rw [hwA]; exact (Upd.refl _ _).alloc _
  obtain ⟨B, hB'⟩ : ∃ B, B = w.heap.size := ⟨_, rfl⟩
  have rA : RowAt wA B 82 [ei k, ei vn, es [], .bool false, .slice ar 0 cr, ei at'] := by rw [hwA, hB']; exact RowAt.new w _ _
  have d0 := rA.cell 0 _ rfl
  have d1 := rA.cell 1 _ rfl
  have d4 := rA.cell 4 _ rfl
  have RA := Lib.hid rA
  have UA := Lib.hid uA
  have hwB : w.heap.size ≤ wA.heap.size := uA.size
  unfold maxLen at g2
  clear hc hR ha rA hI hsA hA hf hrg hB hk hRR
  generalize (⟨ndV k vn, [], at'⟩ :: A : List Itm).length = LN at *
  generalize A.length = LA at *
  have s1 : (1 : Int) ≤ (LN : Int) := by omega
  have s2 : (LN : Int) ≤ (cap : Int) := by omega
  have s6 : ¬ (cap = 1) := by omega
  have hln2 : 2 ≤ LN := by omega
  have hlA : LA ≤ 400 := by omega
  have HLN := Lib.hid hLN
  clear hLN
  go_enter Tryz.func35, Tryz.ntmps35
  go_upto_region 2 with (fail)
  rw [← hwA, ← hB']
  clear hwA hB' t0 t1 t2 t3 t4 t5
  go_wp2_with fail
  refine (AR.out _).mono ?_
  rintro e w2 ⟨rfl, hww⟩
  subst hww
  clear AR
  go_upto_region 19 with (fail)
  go_cut [15, 16] (fun s15 s16 wx => ∃ (a : Option Addr) (c : Nat) (o : List Nd) (fo : List Nat), s15 = .slice a o.length c ∧ s16 = .bool R.isSome ∧ R_F1 fo wx [.slice a o.length c] o ∧ o.length ≤ 200 * LA ∧ (∀ z, R = some z → o = z) ∧ Upd [] wA wx)
  case first =>
    clear HX RA d0 d4
    go_region_held3 (fun w' => w'.cell? ⟨B, 1, none⟩ = some (ei vn)) (go_keep)
      (first
        | (go_at_call 47; (with_reducible refine (SO.out _ (by repeat (first | with_reducible exact Upd.refl _ _ | with_reducible assumption | with_reducible refine Upd.drew ?_ | with_reducible refine Upd.alloc ?_ _))).mono ?_); rintro e w1 ⟨a1, c1, rfl, hob, hu1, hV1⟩; have ho1 := row_base (base' := wA.heap.size) hob (by first | exact Nat.le_refl _ | (simp; done) | (simp; omega)); have hA1 : Upd [] wA w1 := Upd.trans (by repeat (first | with_reducible exact Upd.refl _ _ | with_reducible assumption | with_reducible refine Upd.drew ?_ | with_reducible refine Upd.alloc ?_ _)) hu1; have x1 := hA1.keep d1)
        | (refine step_append_lies _ (by rfl) _ _ 76 (by rfl) wA.heap.size 2 iu (.int .i64 0) 1 8 Tryz.underlying76 hui huz0 huz1 huz2 rfl (by decide) (.slice a1 u.length c1) u.length (u.map ei) (by rfl) (by repeat (first | with_reducible exact ho1 | with_reducible refine row_alloc ?_ _)) _ 1 1 [.int .i64 vn] (by rfl) rfl (show LitI _ _ _ from by repeat (first | with_reducible exact LitI.new _ _ | ((with_reducible refine LitI.newH _ _ ?_ _); first | with_reducible rfl | (focus (simp; done))) | with_reducible refine LitI.drew ?_ | with_reducible refine LitI.alloc ?_ _ | with_reducible refine LitI.upd ?_ hu1)) (by intro u hu; simp at hu; subst hu; rfl) (by decide) (by unfold maxLen; omega) (by omega) (by have := hA1.size; simp; omega) _ rfl ?_; intro g gcap w4 hown4 hg4 hat4 hlt4; have hV4 : Upd [] w w4 := Upd.grown (by repeat (first | with_reducible exact Upd.refl _ _ | with_reducible assumption | with_reducible refine Upd.drew ?_ | with_reducible refine Upd.alloc ?_ _)) hg4 (fun k hk => Or.inl (Nat.le_trans hwB (ho1.lt k hk).1)); have hA4 : Upd [] wA w4 := Upd.grown (by repeat (first | with_reducible exact Upd.refl _ _ | with_reducible assumption | with_reducible refine Upd.drew ?_ | with_reducible refine Upd.alloc ?_ _)) hg4 (fun k hk => Or.inl (ho1.lt k hk).1); have x4 := hA4.keep d1)
        | (go_at_call 35; (with_reducible refine (SX.out _ (by repeat (first | with_reducible exact Upd.refl _ _ | with_reducible assumption | with_reducible refine Upd.drew ?_ | with_reducible refine Upd.alloc ?_ _)) _ (base := wA.heap.size) ?_).mono ?_); (repeat (first | with_reducible exact hown4 | with_reducible refine row_alloc ?_ _)); rintro e w5 h5; have h6 := BdS.from (w0 := wA) h5 (by repeat (first | with_reducible exact Upd.refl _ _ | with_reducible assumption | with_reducible refine Upd.drew ?_ | with_reducible refine Upd.alloc ?_ _)); obtain ⟨a5, c5, o5, rfl, hn5, hl5, hx5, hu5⟩ := h6.form; have x5 := hu5.keep d1))
    all_goals
      have HN5 := Lib.hid hn5
      have HA5 := Lib.hid hu5
      have HX5 := Lib.hid hx5
      clear hn5 hx5 hu5 x1 x4 x5 h5 h6 hV1 hV4 hA1 hA4 hu1 hob ho1 hown4 hg4 d1
      go_wp2_with fail
      go_meet
      obtain ⟨fo, z1, -, z3⟩ := HN5.out
      exact ⟨a5, c5, o5, fo, rfl, rfl, z1, hl5, HX5.out, HA5.out⟩
  case rest =>
    obtain ⟨a5, c5, o5, fo, rfl, rfl, q4, hl5, hx5, hu5⟩ := hcut
    have HV5 := Lib.hid (UA.out.trans hu5)
    have r5 := RA.out.upd hu5 (by simp)
    have e0 := r5.cell 0 _ rfl
    have e1 := r5.cell 1 _ rfl
    have e2 := r5.cell 2 _ rfl
    have e3 := r5.cell 3 _ rfl
    obtain ⟨q1, hq1⟩ : ∃ q1, R.isSome = q1 := ⟨_, rfl⟩
    rw [hq1]
    have HX2 := Lib.hid (show (q1 && decide (1 + o5.length ≤ 30)) = M.isSome ∧ ∀ z, M = some z → ndV k vn :: o5 = z from by
      rw [HX.out]
      cases hz1 : R with
      | none => rw [hz1] at hq1; subst hq1; exact ⟨rfl, fun z hz => by cases hz⟩
      | some z1 =>
        rw [hz1] at hq1
        subst hq1
        obtain rfl := hx5 z1 hz1
        rw [fixO]
        by_cases h : 1 + o5.length ≤ 30
        · simp only [if_pos h]; exact ⟨by simp [h], fun z hz => by cases hz; rfl⟩
        · simp only [if_neg h]; exact ⟨by simp [h], fun z hz => by cases hz⟩)
    have HOW := Lib.hid (row_node wc wc (Nat.le_refl _) k vn [] false)
    have HF5 := Lib.hid (Flat.ofF1 (R_F1k.upd q4 ((Upd.refl [] wc).alloc (.cells #[ei k, ei vn, es [], .bool false] 58)) (by simp)))
    clear SO SX HX hx5 hq1 q4 hu5 r5 d0 d1 d4 RA
    go_wp2_with (first
      | (at_builtin; refine wpList_append_flat rfl _ _ 28 rfl wc.heap.size 58 i0 (.agg #[.int .i64 0, .int .i64 0, .string ⟨#[]⟩, .bool false]) 4 40 Tryz.underlying28 hi hz0 hz1 hz2 rfl (by decide) _ _ _ rfl HOW.out _ o5.length _ rfl _ HF5.out (one_F1 o5) (by unfold maxLen; omega) (by omega) (by simp) ?_)
      | fail)
    intro v6 w6 hown6 hg6 ht6
    obtain ⟨a6, c6, rfl⟩ := ownsRow_form hown6
    have HV6 := Lib.hid (HV5.out.trans (((Upd.refl [] wc).alloc _).grown hg6 (fun k hk => Or.inl (HOW.out.lt k hk).1)))
    have HN6 := Lib.hid (show New R_F1 w w6 (.slice a6 (1 + o5.length) c6) (ndV k vn :: o5) from New.mono (w := wc) (New.ofF1 (by
      have hl : (ndV k vn :: o5).length = 1 + o5.length := by simp; omega
      rw [hl, List.flatMap_cons]
      exact hown6)) HV5.out.size)
    have hle : (ndV k vn :: o5).length ≤ 200 * LN := by have := HLN.out; simp; omega
    clear hown6 hg6 ht6 HOW HF5 e0 e1 e2 e3
    generalize hl6 : 1 + o5.length = l6 at *
    cases q1 with
    | false =>
      go_wp2_with fail
      go_ret2
      exact BdS.mk false (by rw [← HX2.out.1]; rfl) HN6.out hle HX2.out.2 HV6.out
    | true =>
      by_cases h30 : l6 ≤ 30
      · have h30i : (l6 : Int) ≤ 30 := by omega
        go_wp2_with fail
        go_ret2
        exact BdS.mk true (by rw [← HX2.out.1]; simp [h30]) HN6.out hle HX2.out.2 HV6.out
      · have h30i : ¬ (l6 : Int) ≤ 30 := by omega
        go_wp2_with fail
        go_ret2
        exact BdS.mk false (by rw [← HX2.out.1]; simp; omega) HN6.out hle HX2.out.2 HV6.out

theorem buildS : ∀ (f : Fm) (L : List Itm) (w : World) (v vb : Value) (fb : List Nat) (u : List Int), ItF f L → okF f → L.length ≤ 400 → u.length + L.length ≤ 900 → (∀ x ∈ u, 0 ≤ x ∧ x < 3) → HasIt w v L → R_I1 fb w [vb] u →
    Calls Tryz.prog 35 #[v, vb] w (BdS w L.length (bldF f u)) := by
  intro f
  induction f with
  | leaf k =>
    intro L w v vb fb u h ho hl hul hux hR hB
    obtain ⟨a, rfl⟩ := h
    exact bldOneS w v vb ⟨ndK k, [], a⟩ hR (by rcases ho with rfl | rfl <;> rfl)
  | var n p =>
    intro L w v vb fb u h ho hl hul hux hR hB
    cases h
    exact bldOneS w v vb ⟨ndV 6 n, [], p⟩ hR rfl
  | two k f g ihf ihg =>
    intro L w v vb fb u h ho hl hul hux hR hB
    obtain ⟨A, C, rfl, h1, h2⟩ := h
    have hL : (⟨ndK k, [], 0⟩ :: (A ++ C) : List Itm).length = 1 + A.length + C.length := by simp; omega
    exact bldTwoS w v vb k A C f g u ho.1 h1 h2 ho.2.1 ho.2.2 hl hR
      (fun W v' hu hR' => ihf A W v' vb fb u h1 ho.2.1 (by omega) (by omega) hux hR' (R_I1k.upd hB hu (by simp)))
      (fun W v' hu hR' => ihg C W v' vb fb u h2 ho.2.2 (by omega) (by omega) hux hR' (R_I1k.upd hB hu (by simp)))
  | fix k vn f ih =>
    intro L w v vb fb u h ho hl hul hux hR hB
    obtain ⟨A, a, rfl, h1⟩ := h
    have hL : (⟨ndV k vn, [], a⟩ :: A : List Itm).length = 1 + A.length := by simp; omega
    exact bldFixS w v vb fb k vn a A f u ho.1 h1 ho.2.2 hl hR hB (by omega)
      (fun W v' vb' fb' hu hR' hB' => ih A W v' vb' fb' (u ++ [vn]) h1 ho.2.2 (by omega) (by simp; omega) (fun x hx => by
        rcases List.mem_append.1 hx with hx | hx
        · exact hux x hx
        · rw [List.mem_singleton.1 hx]; exact ho.2.1) hR' hB')
  | modal box r p f ih =>
    intro L w v vb fb u h ho hl hul hux hR hB
    obtain ⟨A, rfl, h1⟩ := h
    have hL : (⟨ndK (if box then 5 else 4), flatT r, p⟩ :: A : List Itm).length = 1 + A.length := by simp; omega
    exact bldModalS w v vb fb box r p A f u h1 ho.2 ho.1 hl hR hB (by omega) hux
      (fun W v' hu hR' => ih A W v' vb fb u h1 ho.2 (by omega) (by omega) hux hR' (R_I1k.upd hB hu (by simp)))

end Go.Proofs.YtaahjpmndkcijaaGreatDoor

/-
  Formulas parsed: the reference joins parts by an operator (first loop: the parts).
-/
namespace Go.Proofs.YtaahjpmndkcijaaGreatDoor
open Go.RowKit

theorem Tryz.infoItL : (Tryz.prog.info? 70).map (fun i => (i.zero, i.size, i.bytes)) = some (some (.slice none 0 0), 1, 24) := by kernel_rfl

set_option maxRecDepth 20000 in
set_option maxHeartbeats 8000000 in
theorem bothAndS (k : Nat) (w : World) (s : List UInt8) (n : Nat) (hs : s.length ≤ 400) (hn : n ≤ s.length) (hk : 3 * (s.length - n) + 2 ≤ k + 1)
    (hI : ∀ W n' k', n ≤ n' → n' ≤ s.length → k' ≤ k → 3 * (s.length - n') + 1 ≤ k' → Calls Tryz.prog 52 #[es s, .int .i64 n'] W (FmS n' (simF s k' n') W)) :
    Calls Tryz.prog 43 #[es s, .int .i64 n, .bool false] w (FmS n (andF s (k + 1) n) w) := by
  obtain ⟨i0, hi, jz0, jz1, jz2⟩ := info_parts Tryz.infoItL
  obtain ⟨A, hA⟩ : ∃ A, andF s (k + 1) n = A := ⟨_, rfl⟩
  have HA := Lib.hid hA
  have HI := Lib.hid hI
  have HSK := Lib.hid (fun (x : Nat) (W : World) (h : x ≤ s.length) => l04SkipS s x W (by omega) h)
  have HIS := Lib.hid (fun (x : Nat) (W : World) (h : x ≤ s.length) => isBS s x 38 38 rfl W (by omega) h)
  rw [hA]
  clear hA hI
  go_enter Tryz.func43, Tryz.ntmps43
  go_upto_block 0 with (fail)
  obtain ⟨B, hB⟩ : ∃ B, w.heap.size = B := ⟨_, rfl⟩
  have hown0 : (w.alloc (.cells #[] 70)).ownsRow B 70 1 (.slice (some ⟨B, 0, none⟩) 0 0) 0 [] := by
    rw [← hB]
    simpa using World.ownsRow_lit (base := w.heap.size) (e := 70) (size := 1) w #[] 0 (Nat.le_refl _) (by simp [maxLen]) (by simp)
  obtain ⟨w0, hw0⟩ : ∃ w0, w.alloc (.cells #[] 70) = w0 := ⟨_, rfl⟩
  have hu0 : Upd [] w w0 := by rw [← hw0]; exact (Upd.refl _ _).alloc _
  have hsz0 : w0.heap.size = B + 1 := by rw [← hw0, ← hB]; simp
  rw [hw0] at hown0
  obtain ⟨w1, hw1⟩ : ∃ w1, w0.alloc (.cells #[ei 2, ei 0, es [], .bool false, .slice none 0 0, ei 0] 82) = w1 := ⟨_, rfl⟩
  have r1 : RowAt w1 (B + 1) 82 [ei 2, ei 0, es [], .bool false, .slice none 0 0, ei 0] := by rw [← hw1, ← hsz0]; exact RowAt.new w0 _ _
  have hu1 : Upd [] w0 w1 := by rw [← hw1]; exact (Upd.refl _ _).alloc _
  have HO1 := Lib.hid (ownsRow_upd hown0 hu1)
  have HR1 := Lib.hid r1
  have HU1 := Lib.hid (hu0.trans hu1)
  have hT : (w.alloc (.cells #[] 70)).heap.size = B + 1 := by rw [hw0]; exact hsz0
  rw [hw0, hw1, hB]
  clear hown0 hu0 hu1 r1 hw0 hw1 hT hsz0
  go_cut [1, 9] (fun av pv wx => ∃ (m : Nat) (P : List Fm) (f : Fm) (Ls : List (List Itm)) (L : List Itm) (us : List Value) (vv : Value), vv = pv ∧ av = .int .i64 m ∧ n ≤ m ∧ m ≤ s.length ∧ Hid (A = .ok (jnL 2 P f, m)) ∧ ItP P Ls ∧ ItF f L ∧ wx.ownsRow B 70 1 vv (Ls ++ [L]).length us ∧ PtC (fun b => w1.heap.size ≤ b ∧ vv.ownBlock ≠ some b) wx (Ls ++ [L]) us ∧ Upd [B] w1 wx ∧ (∀ g, vv.ownBlock = some g → g = B ∨ w1.heap.size ≤ g) ∧ ((Ls ++ [L]).map List.length).sum + Ls.length ≤ m - n)
  case first =>
    go_wp2_with fail
    go_loopw [1, 9] (fun av pv wr => ∃ (n0 k0 : Nat) (P : List Fm) (Ls : List (List Itm)) (us : List Value) (vv : Value), vv = pv ∧ av = .int .i64 n0 ∧ n ≤ n0 ∧ n0 ≤ s.length ∧ k0 ≤ k ∧ 3 * (s.length - n0) + 2 ≤ k0 + 1 ∧ Hid (jnF 2 P (andF s (k0 + 1) n0) = A) ∧ ItP P Ls ∧ wr.ownsRow B 70 1 vv Ls.length us ∧ PtC (fun b => w1.heap.size ≤ b ∧ vv.ownBlock ≠ some b) wr Ls us ∧ Upd [B] w1 wr ∧ (∀ g, vv.ownBlock = some g → g = B ∨ w1.heap.size ≤ g) ∧ (Ls.map List.length).sum + Ls.length ≤ n0 - n) (fun av _ _ => s.length - (intOf av).toNat)
    case atStart => exact ⟨n, k, [], [], [], _, rfl, rfl, Nat.le_refl _, hn, Nat.le_refl _, hk, HA, rfl, HO1.out, rfl, Upd.refl _ _, fun g hg => Or.inl (by simpa [Value.ownBlock] using hg.symm), by simp⟩
    case round =>
      obtain ⟨wo, rfl⟩ : ∃ wo : World, wo = wr := ⟨_, rfl⟩
      obtain ⟨n0, k0, P, Ls, us, vv, rfl, rfl, hn0, hn1, hk0, hk1, HJ, hP, hrow, hpt, hu, hgb, hlen⟩ := hrel
      have hal := (Upd.refl [] wo).alloc (.cells #[] 82)
      have S1 := HI.out (wo.alloc (.cells #[] 82)) n0 k0 hn0 hn1 hk0 (by omega)
      have HAN := Lib.hid (show andF s (k0 + 1) n0 = _ from by rw [andF])
      generalize andF s (k0 + 1) n0 = A0 at *
      have hrl : ∀ g, vv.ownBlock = some g → g < (wo.alloc (.cells #[] 82)).heap.size := fun g hg => Nat.lt_of_lt_of_le (hrow.lt g hg).2 hal.size
      have HRL := Lib.hid hrl
      have hso : w1.heap.size ≤ (wo.alloc (.cells #[] 82)).heap.size := Nat.le_trans hu.size hal.size
      have HSO := Lib.hid hso
      have HROW := Lib.hid (ownsRow_upd hrow hal)
      have HPT := Lib.hid (PtC.upd hal _ _ hpt)
      have HUO := Lib.hid (hu.trans (hal.mono (by simp)))
      have HGB := Lib.hid hgb
      have HP := Lib.hid hP
      obtain ⟨av, cv, rfl⟩ := ownsRow_form hrow
      clear hrow hpt hu hal hP HO1 HA hgb hrl hso
      cases hsm : simF s k0 n0 with
      | error a =>
        rw [hsm] at S1 HAN
        have HZ := Lib.hid (show A = .error a from by rw [← HJ.out, HAN.out]; exact jnF_err 2 a P)
        have HS1 := Lib.hid S1
        clear S1 hsm HAN HJ HI HSK HIS
        go_wp2_with fail
        refine HS1.out.mono ?_
        rintro e w2 ⟨rfl, hu2⟩
        have HU2 := Lib.hid ((HU1.out.fresh HUO.out (fun b hb => Or.inl (by rw [List.mem_singleton.1 hb, ← hB]; exact Nat.le_refl _))).trans hu2)
        clear HS1 hu2
        go_wp2_with fail
        go_ret3
        rw [HZ.out]
        exact ⟨rfl, HU2.out⟩
      | ok r =>
        obtain ⟨f, q⟩ := r
        rw [hsm] at S1 HAN
        have hq := simF_pos k0 n0 f q hn1 hsm
        have hq1 := hq.1
        have hq2 := hq.2
        have hskq := skR_le (s := s) hq2
        have HAN2 := Lib.hid (show A0 = (if isB s (skR s q) 38 then (match andF s k0 (skR s q + 1) with | .error e => .error e | .ok (g, p) => .ok (.two 2 f g, p)) else .ok (f, skR s q)) from HAN.out)
        have K1 := Lib.hid (fun W => HSK.out q W hq2)
        rw [show skF s q = skR s q from rfl] at K1
        generalize skR s q = m at *
        have hm1 := hskq.1
        have hm2 := hskq.2
        have J1 := Lib.hid (fun W => HIS.out m W hm2)
        have HS1 := Lib.hid S1
        clear S1 hsm HAN hq hskq HSK HIS
        go_wp2_with fail
        refine HS1.out.mono ?_
        rintro e w2 ⟨⟨v2, L, rfl, hn2, hf2, hl2⟩, hu2⟩
        obtain ⟨a2, c2, rfl⟩ := hn2.form
        have hal2 := (Upd.refl [] w2).alloc (.cells #[.slice a2 L.length c2] 70)
        have hlit : (w2.alloc (.cells #[.slice a2 L.length c2] 70)).ownsRow w2.heap.size 70 1 (.slice (some ⟨w2.heap.size, 0, none⟩) 1 1) 1 [.slice a2 L.length c2] :=
          World.ownsRow_lit (base := w2.heap.size) (e := 70) (size := 1) w2 #[.slice a2 L.length c2] 1 (Nat.le_refl _) (by simp [maxLen]) (by simp)
        obtain ⟨fv, hfv, -⟩ := Flat.ofOwns hlit
        have HFV := Lib.hid hfv
        have HROW3 := Lib.hid (ownsRow_upd HROW.out (hu2.trans hal2))
        have HPT2 := Lib.hid (PtC.upd hu2 _ _ HPT.out)
        obtain ⟨fp2, vs2, p1, p2, p3⟩ := hn2.part
        have hz2 : ∀ b, (wo.alloc (.cells #[] 82)).heap.size ≤ b → w1.heap.size ≤ b ∧ (Value.slice av Ls.length cv).ownBlock ≠ some b := fun b hb => ⟨Nat.le_trans HSO.out hb, fun e => by have := HRL.out b e; omega⟩
        have hp2 := PtC.snoc (Z := fun b => w1.heap.size ≤ b ∧ (Value.slice av Ls.length cv).ownBlock ≠ some b) ⟨fp2, vs2, p1, fun b hb => hz2 b (p2 b hb), ItC.mono (fun b _ h => hz2 b h) _ _ p3⟩ Ls us HPT2.out
        have HPA := Lib.hid (PtC.upd hal2 _ _ (PtC.mono (Z' := fun b => (w1.heap.size ≤ b ∧ (Value.slice av Ls.length cv).ownBlock ≠ some b) ∧ b < w2.heap.size) (fun b hb h => ⟨h, hb⟩) _ _ hp2))
        have HF2 := Lib.hid hf2
        have HU02 := Lib.hid (HUO.out.trans (hu2.mono (by simp)))
        have HAL2 := Lib.hid hal2
        have hb2 : B ≤ (w2.alloc (.cells #[.slice a2 L.length c2] 70)).heap.size := by have := HUO.out.size; have := hu2.size; have := HU1.out.size; simp at *; omega
        clear HS1 hn2 hf2 hu2 hal2 hlit hfv HROW HPT HUO p1 p2 p3 hz2 hp2 HPT2
        go_wp2_with (first
          | (at_builtin; refine wpList_append_flat rfl _ _ 91 rfl B 70 i0 (.slice none 0 0) 1 24 Tryz.underlying91 hi jz0 jz1 jz2 rfl (by decide) _ _ _ rfl HROW3.out _ 1 _ rfl _ HFV.out (fun u hu => by rw [List.mem_singleton.1 hu]; rfl) (by unfold maxLen; omega) (by omega) hb2 ?_)
          | fail)
        intro v3 w3 hown3 hg3 ht3
        have hu3 : Upd (Value.slice av Ls.length cv).ownBlock.toList (w2.alloc (.cells #[.slice a2 L.length c2] 70)) w3 := (Upd.refl _ _).grown hg3 (fun k hk => Or.inr (by rw [hk]; simp))
        have hpt3 := PtC.updS hu3 (fun b h hm => h.1.2 (by simpa using hm)) _ _ HPA.out
        have hpt4 := PtC.mono (Z' := fun b => w1.heap.size ≤ b ∧ v3.ownBlock ≠ some b) (fun b _ h => ⟨h.1.1, fun e => by
          rcases ht3 b e with h2 | h2
          · exact h.1.2 h2
          · have := h.2
            omega⟩) _ _ hpt3
        have HPT4 := Lib.hid hpt4
        have HGB3 := Lib.hid (show ∀ g, v3.ownBlock = some g → g = B ∨ w1.heap.size ≤ g from fun g hg => by
          rcases ht3 g hg with h2 | h2
          · exact HGB.out g h2
          · have := HAL2.out.size
            have := HU02.out.size
            omega)
        have HU3 := Lib.hid (show Upd [B] w1 w3 from (HU02.out.trans (HAL2.out.mono (by simp))).fresh hu3 (fun b hb => by
          rcases HGB.out b (by simpa using hb) with h2 | h2
          · exact Or.inr (by simp [h2])
          · exact Or.inl h2))
        obtain ⟨a3, c3, rfl⟩ := ownsRow_form hown3
        have hown4 : w3.ownsRow B 70 1 (.slice a3 (Ls.length + 1) c3) (Ls ++ [L]).length (us ++ [.slice a2 L.length c2]) := by rw [List.length_append]; exact hown3
        have HROW4 := Lib.hid hown4
        clear hown3 hg3 ht3 hu3 hpt3 hpt4 hown4 HROW3 HPA HU02 HAL2 HFV HGB hb2
        obtain ⟨z, hz⟩ : ∃ z, isB s m 38 = z := ⟨_, rfl⟩
        rw [hz] at HAN2 J1
        go_wp2_with fail
        refine (K1.out w3).mono ?_
        rintro e w4 ⟨rfl, hww⟩
        subst hww
        clear K1
        go_wp2_with fail
        refine (J1.out _).mono ?_
        rintro e w4 ⟨rfl, hww⟩
        subst hww
        clear J1
        cases z with
        | false =>
          have HX := Lib.hid (show A = .ok (jnL 2 P f, m) by rw [← HJ.out, HAN2.out, if_neg (by decide)]; exact jnF_ok 2 f m P)
          clear HAN2 HJ HI
          go_wp2_with fail
          go_meet
          exact ⟨m, P, f, Ls, L, _, _, rfl, rfl, by omega, hm2, HX, HP.out, HF2.out, HROW4.out, HPT4.out, HU3.out, HGB3.out, by simp; omega⟩
        | true =>
          have hlm := isB_lt hz
          obtain ⟨k1, rfl⟩ : ∃ k1, k0 = k1 + 1 := ⟨k0 - 1, by omega⟩
          have HJ2 := Lib.hid (show jnF 2 (P ++ [f]) (andF s (k1 + 1) (m + 1)) = A by rw [jnF_snoc]; exact (congrArg (jnF 2 P) (HAN2.out.trans (if_pos rfl)).symm).trans HJ.out)
          clear HAN2 HJ HI hz
          go_wp2_with fail
          go_roundw
          case rel => exact ⟨m + 1, k1, P ++ [f], Ls ++ [L], _, _, rfl, by go_num, by omega, by omega, by omega, by omega, HJ2, ItP.snoc HF2.out P Ls HP.out, HROW4.out, HPT4.out, HU3.out, HGB3.out, by simp; omega⟩
          case measure => simp [intOf]; omega
  case rest =>
    obtain ⟨i1, hi1, kz0, kz1, kz2⟩ := info_parts Tryz.infoIt
    obtain ⟨m, P, f, Ls, L, us, vv, rfl, rfl, hnm, hms, HX, hP, hf, hrow, hpt, hu, hgb, hlen⟩ := hcut
    obtain ⟨Q, hQ⟩ : ∃ Q, Ls ++ [L] = Q := ⟨_, rfl⟩
    obtain ⟨hd, hhd⟩ : ∃ hd : Itm, hd = ⟨ndK 2, [], 0⟩ := ⟨_, rfl⟩
    have HHD := Lib.hid hhd
    have hQ0 : 0 < Q.length := by rw [← hQ]; simp
    have hJL : (jnI hd Q).length ≤ m - n := by rw [← hQ, jnI_len2]; exact hlen
    have HIT := Lib.hid (show ItF (jnL 2 P f) (jnI hd Q) from by rw [← hQ, hhd]; exact ItP.join hf P Ls hP)
    have hQl : Q.length ≤ 401 := by rw [← hQ]; simp; omega
    rw [hQ] at hrow hpt
    have hw1s := HR1.out.lt
    have HRW := Lib.hid (HR1.out.upd hu (by simp))
    have HWU := Lib.hid (show Upd [] w wc from HU1.out.fresh hu (fun b hb => Or.inl (by rw [List.mem_singleton.1 hb, ← hB]; exact Nat.le_refl _)))
    obtain ⟨fpr, ⟨av, cv, rfl, -, -, -, h4⟩, -⟩ := Flat.ofOwns hrow
    rcases h4 with ⟨h0, -⟩ | ⟨b, off, rfl, -, hbl, hcell⟩
    · omega
    have HC := Lib.hid (fun (k : Nat) (hk : k < Q.length) => show ∃ (v : Value) (fp : List Nat) (vs : List Value), wc.cell? ⟨b, off + k, none⟩ = some v ∧ Flat fp wc v 6 Q[k].length vs ∧ ItC (fun b => w1.heap.size ≤ b) wc Q[k] vs from by
      obtain ⟨v, fp, vs, e1, e2, -, e4⟩ := PtC.get Q us hpt k hk
      exact ⟨v, fp, vs, hcell k v e1, e2, ItC.mono (fun b hb h => h.1) _ _ e4⟩)
    obtain ⟨C, hC⟩ : ∃ C, wc.heap.size = C := ⟨_, rfl⟩
    have HCC := Lib.hid hC
    have hwC : w.heap.size ≤ C := by rw [← hC]; exact HWU.out.size
    have HWC := Lib.hid hwC
    have hw1w : w.heap.size ≤ w1.heap.size := HU1.out.size
    have HW1 := Lib.hid hw1w
    have hown0 : (wc.alloc (.cells #[] 82)).ownsRow C 82 6 (.slice (some ⟨C, 0, none⟩) 0 0) 0 [] := by
      rw [← hC]
      simpa using World.ownsRow_lit (base := wc.heap.size) (e := 82) (size := 6) wc #[] 0 (Nat.le_refl _) (by simp [maxLen]) (by simp)
    have hupd0 : Upd [] wc (wc.alloc (.cells #[] 82)) := (Upd.refl _ _).alloc _
    clear hrow hpt hu hgb hlen hP hf HO1 HR1 HU1 hQ hhd HA HI HSK HIS hcell hwC hw1w hw1s
    go_wp2_with fail
    clear hC
    go_loopw [15, 16] (fun ov iv wr => ∃ (k : Nat) (O : List Itm) (uo : List Value) (vo : Value), vo = ov ∧ k ≤ Q.length ∧ iv = .int .i64 k ∧ Upd [] wc wr ∧ wr.ownsRow C 82 6 vo O.length uo ∧ ItC (fun b => w1.heap.size ≤ b) wc O uo ∧ Hid (O ++ jnI hd (Q.drop k) = jnI hd Q)) (fun _ iv _ => Q.length - (intOf iv).toNat)
    case atStart => exact ⟨0, [], [], _, rfl, Nat.zero_le _, rfl, hupd0, by simpa using hown0, rfl, Lib.hid rfl⟩
    case round =>
      clear hown0 hupd0
      obtain ⟨k, O, uo, vo, rfl, hk, rfl, hur, hown, hic, HJ⟩ := hrel
      obtain ⟨ao, co, rfl⟩ := ownsRow_form hown
      have hol : O.length ≤ 400 := by have := congrArg List.length HJ.out; rw [List.length_append] at this; omega
      have hCr : C ≤ wr.heap.size := by rw [← HCC.out]; exact hur.size
      have HCR := Lib.hid hCr
      by_cases hlt : k < Q.length
      · obtain ⟨v, fp, vs, hcl, hfl, hci⟩ := HC.out k hlt
        have hcl' : wr.cell? ⟨b, off + k, none⟩ = some v := hur.keep hcl
        have hfl' := hfl.upd hur (by simp)
        have hkl : (k : Int) < (Q.length : Int) := by omega
        have hcd := jnI_drop hd Q k hlt
        have hlen := congrArg List.length HJ.out
        rw [hcd, List.length_append, List.length_append, List.length_append] at hlen
        obtain ⟨ap, cp, rfl⟩ : ∃ ap cp, v = .slice ap Q[k].length cp := by obtain ⟨ap, cp, rfl, -⟩ := hfl'; exact ⟨_, _, rfl⟩
        generalize hPk : Q[k] = pk at *
        have HCI := Lib.hid hci
        have HIC := Lib.hid hic
        have HUR := Lib.hid hur
        by_cases hk1 : k + 1 < Q.length
        · rw [if_pos hk1] at hcd hlen
          simp only [List.length_cons, List.length_nil] at hlen
          have hki : (k : Int) + 1 < (Q.length : Int) := by omega
          have HJ2 := Lib.hid (show ((O ++ [hd]) ++ pk) ++ jnI hd (Q.drop (k + 1)) = jnI hd Q by rw [← HJ.out, hcd]; simp)
          have r5 := HRW.out.upd hur (by simp)
          have d0 := r5.cell 0 _ rfl
          have d1 := r5.cell 1 _ rfl
          have d2 := r5.cell 2 _ rfl
          have d3 := r5.cell 3 _ rfl
          have d4 := r5.cell 4 _ rfl
          have d5 := r5.cell 5 _ rfl
          have hlit : (wr.alloc (.cells #[ei 2, ei 0, es [], .bool false, .slice none 0 0, ei 0] 82)).ownsRow wr.heap.size 82 6 (.slice (some ⟨wr.heap.size, 0, none⟩) 1 1) 1 [ei 2, ei 0, es [], .bool false, .slice none 0 0, ei 0] :=
            World.ownsRow_lit (base := wr.heap.size) (e := 82) (size := 6) wr #[ei 2, ei 0, es [], .bool false, .slice none 0 0, ei 0] 1 (Nat.le_refl _) (by simp [maxLen]) (by simp)
          obtain ⟨fv, hfv, -⟩ := Flat.ofOwns hlit
          have HFV := Lib.hid hfv
          have hal := (Upd.refl [] wr).alloc (.cells #[ei 2, ei 0, es [], .bool false, .slice none 0 0, ei 0] 82)
          have HOW := Lib.hid (ownsRow_upd hown hal)
          have HFL := Lib.hid hfl
          have HCL := Lib.hid hcl
          have hCa : C ≤ (wr.alloc (.cells #[ei 2, ei 0, es [], .bool false, .slice none 0 0, ei 0] 82)).heap.size := Nat.le_trans hCr hal.size
          clear r5 hlit hfv hal hown hcd HJ hcl hfl hfl' hci hic hur hCr hcl'
          go_wp2_with (first
            | (at_builtin; refine wpList_append_flat rfl _ _ 70 rfl C 82 i1 (.agg #[.int .i64 0, .int .i64 0, .string ⟨#[]⟩, .bool false, .slice none 0 0, .int .i64 0]) 6 72 Tryz.underlying70 hi1 kz0 kz1 kz2 rfl (by decide) _ _ _ rfl HOW.out _ 1 _ rfl _ HFV.out (fun u hu => by simp at hu; rcases hu with rfl | rfl | rfl | rfl | rfl | rfl <;> rfl) (by unfold maxLen; omega) (by omega) hCa ?_)
            | fail)
          intro v2 w2 hown2 hg2 ht2
          have hur2 : Upd [] wc w2 := (HUR.out.alloc _).grown hg2 (fun k hk => Or.inl (by rw [HCC.out]; exact (HOW.out.lt k hk).1))
          have hown3 : w2.ownsRow C 82 6 v2 (O ++ [hd]).length (uo ++ [ei 2, ei 0, es [], .bool false, .slice none 0 0, ei 0]) := by simpa using hown2
          obtain ⟨a2, c2, rfl⟩ := ownsRow_form hown3
          have hcl2 := hur2.keep HCL.out
          have HF2 := Lib.hid (HFL.out.upd hur2 (by simp))
          have hol2 : (O ++ [hd]).length ≤ 401 := by simp; omega
          have hpl2 : pk.length ≤ 400 := by omega
          have hC2 : C ≤ w2.heap.size := by rw [← HCC.out]; exact hur2.size
          have HIC2 := Lib.hid (ItC.append (show ItC (fun b => w1.heap.size ≤ b) wc [hd] [ei 2, ei 0, es [], .bool false, .slice none 0 0, ei 0] from by rw [HHD.out]; exact ⟨.slice none 0 0, [], rfl, nilG _ _, rfl⟩) _ _ HIC.out)
          have HUR2 := Lib.hid hur2
          have HOW3 := Lib.hid hown3
          clear hown2 hg2 ht2 hur2 hown3 HOW HFV HFL HCL HIC HUR hCa d0 d1 d2 d3 d4 d5
          generalize hO : O ++ [hd] = O2 at *
          generalize uo ++ [ei 2, ei 0, es [], .bool false, .slice none 0 0, ei 0] = uo2 at *
          go_wp2_with (first
            | (at_builtin; refine wpList_append_flat rfl _ _ 70 rfl C 82 i1 (.agg #[.int .i64 0, .int .i64 0, .string ⟨#[]⟩, .bool false, .slice none 0 0, .int .i64 0]) 6 72 Tryz.underlying70 hi1 kz0 kz1 kz2 rfl (by decide) _ _ _ rfl HOW3.out _ pk.length vs rfl _ HF2.out (ItC.one _ _ HCI.out) (by unfold maxLen; omega) (by omega) hC2 ?_)
            | fail)
          intro v3 w3 hown4 hg3 ht3
          have HUR3 := Lib.hid (show Upd [] wc w3 from HUR2.out.grown hg3 (fun k hk => Or.inl (by rw [HCC.out]; exact (HOW3.out.lt k hk).1)))
          have HOW4 := Lib.hid (show w3.ownsRow C 82 6 v3 (O2 ++ pk).length (uo2 ++ vs) from by simpa using hown4)
          have HIC3 := Lib.hid (ItC.append HCI.out _ _ HIC2.out)
          clear hown4 hg3 ht3 hcl2 HF2 hC2
          go_wp2_with fail
          go_roundw
          case rel => exact ⟨k + 1, O2 ++ pk, uo2 ++ vs, _, rfl, by omega, by go_num, HUR3.out, HOW4.out, HIC3.out, HJ2⟩
          case measure => simp [intOf]; omega
        · rw [if_neg hk1] at hcd hlen
          simp only [List.length_nil] at hlen
          have hki : ¬ ((k : Int) + 1 < (Q.length : Int)) := by omega
          have HJ2 := Lib.hid (show (O ++ pk) ++ jnI hd (Q.drop (k + 1)) = jnI hd Q by rw [← HJ.out, hcd]; simp)
          have HF2 := Lib.hid hfl'
          have HOW := Lib.hid hown
          have hpl2 : pk.length ≤ 400 := by omega
          clear hown hcd HJ hcl hfl hfl' hci hic hur
          go_wp2_with (first
            | (at_builtin; refine wpList_append_flat rfl _ _ 70 rfl C 82 i1 (.agg #[.int .i64 0, .int .i64 0, .string ⟨#[]⟩, .bool false, .slice none 0 0, .int .i64 0]) 6 72 Tryz.underlying70 hi1 kz0 kz1 kz2 rfl (by decide) _ _ _ rfl HOW.out _ pk.length vs rfl _ HF2.out (ItC.one _ _ HCI.out) (by unfold maxLen; omega) (by omega) hCr ?_)
            | fail)
          intro v3 w3 hown4 hg3 ht3
          have HUR3 := Lib.hid (show Upd [] wc w3 from HUR.out.grown hg3 (fun k hk => Or.inl (by rw [HCC.out]; exact (HOW.out.lt k hk).1)))
          have HOW4 := Lib.hid (show w3.ownsRow C 82 6 v3 (O ++ pk).length (uo ++ vs) from by simpa using hown4)
          have HIC3 := Lib.hid (ItC.append HCI.out _ _ HIC.out)
          clear hown4 hg3 ht3 hcl' HF2
          go_wp2_with fail
          go_roundw
          case rel => exact ⟨k + 1, O ++ pk, uo ++ vs, _, rfl, by omega, by go_num, HUR3.out, HOW4.out, HIC3.out, HJ2⟩
          case measure => simp [intOf]; omega
      · obtain rfl : k = Q.length := by omega
        have hX : O = jnI hd Q := by have := HJ.out; rw [List.drop_of_length_le (Nat.le_refl _)] at this; simpa [jnI] using this
        have HE := Lib.hid (show NwI w wr (.slice ao O.length co) (jnI hd Q) from by
          rw [← hX]
          exact ⟨uo, row_base hown HWC.out, ItC.mono (fun b _ h => Nat.le_trans HW1.out h) _ _ (ItC.upd hur _ _ hic)⟩)
        have HUF := Lib.hid (HWU.out.trans hur)
        clear HJ HC hur hown hic hX
        go_wp2_with fail
        go_ret3
        rw [HX.out]
        exact ⟨⟨_, _, rfl, HE.out, HIT.out, hJL⟩, HUF.out⟩

end Go.Proofs.YtaahjpmndkcijaaGreatDoor

/-
  Formulas parsed: the reference joins parts by | (printed by tools/genpfc.py).
-/
namespace Go.Proofs.YtaahjpmndkcijaaGreatDoor
open Go.RowKit

set_option maxRecDepth 20000 in
set_option maxHeartbeats 8000000 in
theorem bothOrS (k : Nat) (w : World) (s : List UInt8) (n : Nat) (hs : s.length ≤ 400) (hn : n ≤ s.length) (hk : 3 * (s.length - n) + 3 ≤ k + 1)
    (hI : ∀ W n' k', n ≤ n' → n' ≤ s.length → k' ≤ k → 3 * (s.length - n') + 2 ≤ k' → Calls Tryz.prog 43 #[es s, .int .i64 n', .bool false] W (FmS n' (andF s k' n') W)) :
    Calls Tryz.prog 43 #[es s, .int .i64 n, .bool true] w (FmS n (orF s (k + 1) n) w) := by
  obtain ⟨i0, hi, jz0, jz1, jz2⟩ := info_parts Tryz.infoItL
  obtain ⟨A, hA⟩ : ∃ A, orF s (k + 1) n = A := ⟨_, rfl⟩
  have HA := Lib.hid hA
  have HI := Lib.hid hI
  have HSK := Lib.hid (fun (x : Nat) (W : World) (h : x ≤ s.length) => l04SkipS s x W (by omega) h)
  have HIS := Lib.hid (fun (x : Nat) (W : World) (h : x ≤ s.length) => isBS s x 124 124 rfl W (by omega) h)
  rw [hA]
  clear hA hI
  go_enter Tryz.func43, Tryz.ntmps43
  go_upto_block 0 with (fail)
  obtain ⟨B, hB⟩ : ∃ B, w.heap.size = B := ⟨_, rfl⟩
  have hown0 : (w.alloc (.cells #[] 70)).ownsRow B 70 1 (.slice (some ⟨B, 0, none⟩) 0 0) 0 [] := by
    rw [← hB]
    simpa using World.ownsRow_lit (base := w.heap.size) (e := 70) (size := 1) w #[] 0 (Nat.le_refl _) (by simp [maxLen]) (by simp)
  obtain ⟨w0, hw0⟩ : ∃ w0, w.alloc (.cells #[] 70) = w0 := ⟨_, rfl⟩
  have hu0 : Upd [] w w0 := by rw [← hw0]; exact (Upd.refl _ _).alloc _
  have hsz0 : w0.heap.size = B + 1 := by rw [← hw0, ← hB]; simp
  rw [hw0] at hown0
  obtain ⟨w1, hw1⟩ : ∃ w1, w0.alloc (.cells #[ei 3, ei 0, es [], .bool false, .slice none 0 0, ei 0] 82) = w1 := ⟨_, rfl⟩
  have r1 : RowAt w1 (B + 1) 82 [ei 3, ei 0, es [], .bool false, .slice none 0 0, ei 0] := by rw [← hw1, ← hsz0]; exact RowAt.new w0 _ _
  have hu1 : Upd [] w0 w1 := by rw [← hw1]; exact (Upd.refl _ _).alloc _
  have HO1 := Lib.hid (ownsRow_upd hown0 hu1)
  have HR1 := Lib.hid r1
  have HU1 := Lib.hid (hu0.trans hu1)
  have hT : (w.alloc (.cells #[] 70)).heap.size = B + 1 := by rw [hw0]; exact hsz0
  rw [hw0, hw1, hB]
  clear hown0 hu0 hu1 r1 hw0 hw1 hT hsz0
  go_cut [1, 9] (fun av pv wx => ∃ (m : Nat) (P : List Fm) (f : Fm) (Ls : List (List Itm)) (L : List Itm) (us : List Value) (vv : Value), vv = pv ∧ av = .int .i64 m ∧ n ≤ m ∧ m ≤ s.length ∧ Hid (A = .ok (jnL 3 P f, m)) ∧ ItP P Ls ∧ ItF f L ∧ wx.ownsRow B 70 1 vv (Ls ++ [L]).length us ∧ PtC (fun b => w1.heap.size ≤ b ∧ vv.ownBlock ≠ some b) wx (Ls ++ [L]) us ∧ Upd [B] w1 wx ∧ (∀ g, vv.ownBlock = some g → g = B ∨ w1.heap.size ≤ g) ∧ ((Ls ++ [L]).map List.length).sum + Ls.length ≤ m - n)
  case first =>
    go_wp2_with fail
    go_loopw [1, 9] (fun av pv wr => ∃ (n0 k0 : Nat) (P : List Fm) (Ls : List (List Itm)) (us : List Value) (vv : Value), vv = pv ∧ av = .int .i64 n0 ∧ n ≤ n0 ∧ n0 ≤ s.length ∧ k0 ≤ k ∧ 3 * (s.length - n0) + 3 ≤ k0 + 1 ∧ Hid (jnF 3 P (orF s (k0 + 1) n0) = A) ∧ ItP P Ls ∧ wr.ownsRow B 70 1 vv Ls.length us ∧ PtC (fun b => w1.heap.size ≤ b ∧ vv.ownBlock ≠ some b) wr Ls us ∧ Upd [B] w1 wr ∧ (∀ g, vv.ownBlock = some g → g = B ∨ w1.heap.size ≤ g) ∧ (Ls.map List.length).sum + Ls.length ≤ n0 - n) (fun av _ _ => s.length - (intOf av).toNat)
    case atStart => exact ⟨n, k, [], [], [], _, rfl, rfl, Nat.le_refl _, hn, Nat.le_refl _, hk, HA, rfl, HO1.out, rfl, Upd.refl _ _, fun g hg => Or.inl (by simpa [Value.ownBlock] using hg.symm), by simp⟩
    case round =>
      obtain ⟨wo, rfl⟩ : ∃ wo : World, wo = wr := ⟨_, rfl⟩
      obtain ⟨n0, k0, P, Ls, us, vv, rfl, rfl, hn0, hn1, hk0, hk1, HJ, hP, hrow, hpt, hu, hgb, hlen⟩ := hrel
      have hal := (Upd.refl [] wo).alloc (.cells #[] 82)
      have S1 := HI.out (wo.alloc (.cells #[] 82)) n0 k0 hn0 hn1 hk0 (by omega)
      have HAN := Lib.hid (show orF s (k0 + 1) n0 = _ from by rw [orF])
      generalize orF s (k0 + 1) n0 = A0 at *
      have hrl : ∀ g, vv.ownBlock = some g → g < (wo.alloc (.cells #[] 82)).heap.size := fun g hg => Nat.lt_of_lt_of_le (hrow.lt g hg).2 hal.size
      have HRL := Lib.hid hrl
      have hso : w1.heap.size ≤ (wo.alloc (.cells #[] 82)).heap.size := Nat.le_trans hu.size hal.size
      have HSO := Lib.hid hso
      have HROW := Lib.hid (ownsRow_upd hrow hal)
      have HPT := Lib.hid (PtC.upd hal _ _ hpt)
      have HUO := Lib.hid (hu.trans (hal.mono (by simp)))
      have HGB := Lib.hid hgb
      have HP := Lib.hid hP
      obtain ⟨av, cv, rfl⟩ := ownsRow_form hrow
      clear hrow hpt hu hal hP HO1 HA hgb hrl hso
      cases hsm : andF s k0 n0 with
      | error a =>
        rw [hsm] at S1 HAN
        have HZ := Lib.hid (show A = .error a from by rw [← HJ.out, HAN.out]; exact jnF_err 3 a P)
        have HS1 := Lib.hid S1
        clear S1 hsm HAN HJ HI HSK HIS
        go_wp2_with fail
        refine HS1.out.mono ?_
        rintro e w2 ⟨rfl, hu2⟩
        have HU2 := Lib.hid ((HU1.out.fresh HUO.out (fun b hb => Or.inl (by rw [List.mem_singleton.1 hb, ← hB]; exact Nat.le_refl _))).trans hu2)
        clear HS1 hu2
        go_wp2_with fail
        go_ret3
        rw [HZ.out]
        exact ⟨rfl, HU2.out⟩
      | ok r =>
        obtain ⟨f, q⟩ := r
        rw [hsm] at S1 HAN
        have hq := andF_pos k0 n0 f q hn1 hsm
        have hq1 := hq.1
        have hq2 := hq.2.1
        have hq3 := hq.2.2
        have HAN2 := Lib.hid (show A0 = (if isB s q 124 then (match orF s k0 (q + 1) with | .error e => .error e | .ok (g, p) => .ok (.two 3 f g, p)) else .ok (f, q)) from HAN.out)
        have K1 := Lib.hid (fun W => HSK.out q W hq2)
        rw [show skF s q = q from hq3] at K1
        have J1 := Lib.hid (fun W => HIS.out q W hq2)
        generalize q = m at *
        have hm2 : m ≤ s.length := hq2
        have HS1 := Lib.hid S1
        clear S1 hsm HAN hq hq3 HSK HIS
        go_wp2_with fail
        refine HS1.out.mono ?_
        rintro e w2 ⟨⟨v2, L, rfl, hn2, hf2, hl2⟩, hu2⟩
        obtain ⟨a2, c2, rfl⟩ := hn2.form
        have hal2 := (Upd.refl [] w2).alloc (.cells #[.slice a2 L.length c2] 70)
        have hlit : (w2.alloc (.cells #[.slice a2 L.length c2] 70)).ownsRow w2.heap.size 70 1 (.slice (some ⟨w2.heap.size, 0, none⟩) 1 1) 1 [.slice a2 L.length c2] :=
          World.ownsRow_lit (base := w2.heap.size) (e := 70) (size := 1) w2 #[.slice a2 L.length c2] 1 (Nat.le_refl _) (by simp [maxLen]) (by simp)
        obtain ⟨fv, hfv, -⟩ := Flat.ofOwns hlit
        have HFV := Lib.hid hfv
        have HROW3 := Lib.hid (ownsRow_upd HROW.out (hu2.trans hal2))
        have HPT2 := Lib.hid (PtC.upd hu2 _ _ HPT.out)
        obtain ⟨fp2, vs2, p1, p2, p3⟩ := hn2.part
        have hz2 : ∀ b, (wo.alloc (.cells #[] 82)).heap.size ≤ b → w1.heap.size ≤ b ∧ (Value.slice av Ls.length cv).ownBlock ≠ some b := fun b hb => ⟨Nat.le_trans HSO.out hb, fun e => by have := HRL.out b e; omega⟩
        have hp2 := PtC.snoc (Z := fun b => w1.heap.size ≤ b ∧ (Value.slice av Ls.length cv).ownBlock ≠ some b) ⟨fp2, vs2, p1, fun b hb => hz2 b (p2 b hb), ItC.mono (fun b _ h => hz2 b h) _ _ p3⟩ Ls us HPT2.out
        have HPA := Lib.hid (PtC.upd hal2 _ _ (PtC.mono (Z' := fun b => (w1.heap.size ≤ b ∧ (Value.slice av Ls.length cv).ownBlock ≠ some b) ∧ b < w2.heap.size) (fun b hb h => ⟨h, hb⟩) _ _ hp2))
        have HF2 := Lib.hid hf2
        have HU02 := Lib.hid (HUO.out.trans (hu2.mono (by simp)))
        have HAL2 := Lib.hid hal2
        have hb2 : B ≤ (w2.alloc (.cells #[.slice a2 L.length c2] 70)).heap.size := by have := HUO.out.size; have := hu2.size; have := HU1.out.size; simp at *; omega
        clear HS1 hn2 hf2 hu2 hal2 hlit hfv HROW HPT HUO p1 p2 p3 hz2 hp2 HPT2
        go_wp2_with (first
          | (at_builtin; refine wpList_append_flat rfl _ _ 91 rfl B 70 i0 (.slice none 0 0) 1 24 Tryz.underlying91 hi jz0 jz1 jz2 rfl (by decide) _ _ _ rfl HROW3.out _ 1 _ rfl _ HFV.out (fun u hu => by rw [List.mem_singleton.1 hu]; rfl) (by unfold maxLen; omega) (by omega) hb2 ?_)
          | fail)
        intro v3 w3 hown3 hg3 ht3
        have hu3 : Upd (Value.slice av Ls.length cv).ownBlock.toList (w2.alloc (.cells #[.slice a2 L.length c2] 70)) w3 := (Upd.refl _ _).grown hg3 (fun k hk => Or.inr (by rw [hk]; simp))
        have hpt3 := PtC.updS hu3 (fun b h hm => h.1.2 (by simpa using hm)) _ _ HPA.out
        have hpt4 := PtC.mono (Z' := fun b => w1.heap.size ≤ b ∧ v3.ownBlock ≠ some b) (fun b _ h => ⟨h.1.1, fun e => by
          rcases ht3 b e with h2 | h2
          · exact h.1.2 h2
          · have := h.2
            omega⟩) _ _ hpt3
        have HPT4 := Lib.hid hpt4
        have HGB3 := Lib.hid (show ∀ g, v3.ownBlock = some g → g = B ∨ w1.heap.size ≤ g from fun g hg => by
          rcases ht3 g hg with h2 | h2
          · exact HGB.out g h2
          · have := HAL2.out.size
            have := HU02.out.size
            omega)
        have HU3 := Lib.hid (show Upd [B] w1 w3 from (HU02.out.trans (HAL2.out.mono (by simp))).fresh hu3 (fun b hb => by
          rcases HGB.out b (by simpa using hb) with h2 | h2
          · exact Or.inr (by simp [h2])
          · exact Or.inl h2))
        obtain ⟨a3, c3, rfl⟩ := ownsRow_form hown3
        have hown4 : w3.ownsRow B 70 1 (.slice a3 (Ls.length + 1) c3) (Ls ++ [L]).length (us ++ [.slice a2 L.length c2]) := by rw [List.length_append]; exact hown3
        have HROW4 := Lib.hid hown4
        clear hown3 hg3 ht3 hu3 hpt3 hpt4 hown4 HROW3 HPA HU02 HAL2 HFV HGB hb2
        obtain ⟨z, hz⟩ : ∃ z, isB s m 124 = z := ⟨_, rfl⟩
        rw [hz] at HAN2 J1
        go_wp2_with fail
        refine (K1.out w3).mono ?_
        rintro e w4 ⟨rfl, hww⟩
        subst hww
        clear K1
        go_wp2_with fail
        refine (J1.out _).mono ?_
        rintro e w4 ⟨rfl, hww⟩
        subst hww
        clear J1
        cases z with
        | false =>
          have HX := Lib.hid (show A = .ok (jnL 3 P f, m) by rw [← HJ.out, HAN2.out, if_neg (by decide)]; exact jnF_ok 3 f m P)
          clear HAN2 HJ HI
          go_wp2_with fail
          go_meet
          exact ⟨m, P, f, Ls, L, _, _, rfl, rfl, by omega, hm2, HX, HP.out, HF2.out, HROW4.out, HPT4.out, HU3.out, HGB3.out, by simp; omega⟩
        | true =>
          have hlm := isB_lt hz
          obtain ⟨k1, rfl⟩ : ∃ k1, k0 = k1 + 1 := ⟨k0 - 1, by omega⟩
          have HJ2 := Lib.hid (show jnF 3 (P ++ [f]) (orF s (k1 + 1) (m + 1)) = A by rw [jnF_snoc]; exact (congrArg (jnF 3 P) (HAN2.out.trans (if_pos rfl)).symm).trans HJ.out)
          clear HAN2 HJ HI hz
          go_wp2_with fail
          go_roundw
          case rel => exact ⟨m + 1, k1, P ++ [f], Ls ++ [L], _, _, rfl, by go_num, by omega, by omega, by omega, by omega, HJ2, ItP.snoc HF2.out P Ls HP.out, HROW4.out, HPT4.out, HU3.out, HGB3.out, by simp; omega⟩
          case measure => simp [intOf]; omega
  case rest =>
    obtain ⟨i1, hi1, kz0, kz1, kz2⟩ := info_parts Tryz.infoIt
    obtain ⟨m, P, f, Ls, L, us, vv, rfl, rfl, hnm, hms, HX, hP, hf, hrow, hpt, hu, hgb, hlen⟩ := hcut
    obtain ⟨Q, hQ⟩ : ∃ Q, Ls ++ [L] = Q := ⟨_, rfl⟩
    obtain ⟨hd, hhd⟩ : ∃ hd : Itm, hd = ⟨ndK 3, [], 0⟩ := ⟨_, rfl⟩
    have HHD := Lib.hid hhd
    have hQ0 : 0 < Q.length := by rw [← hQ]; simp
    have hJL : (jnI hd Q).length ≤ m - n := by rw [← hQ, jnI_len2]; exact hlen
    have HIT := Lib.hid (show ItF (jnL 3 P f) (jnI hd Q) from by rw [← hQ, hhd]; exact ItP.join hf P Ls hP)
    have hQl : Q.length ≤ 401 := by rw [← hQ]; simp; omega
    rw [hQ] at hrow hpt
    have hw1s := HR1.out.lt
    have HRW := Lib.hid (HR1.out.upd hu (by simp))
    have HWU := Lib.hid (show Upd [] w wc from HU1.out.fresh hu (fun b hb => Or.inl (by rw [List.mem_singleton.1 hb, ← hB]; exact Nat.le_refl _)))
    obtain ⟨fpr, ⟨av, cv, rfl, -, -, -, h4⟩, -⟩ := Flat.ofOwns hrow
    rcases h4 with ⟨h0, -⟩ | ⟨b, off, rfl, -, hbl, hcell⟩
    · omega
    have HC := Lib.hid (fun (k : Nat) (hk : k < Q.length) => show ∃ (v : Value) (fp : List Nat) (vs : List Value), wc.cell? ⟨b, off + k, none⟩ = some v ∧ Flat fp wc v 6 Q[k].length vs ∧ ItC (fun b => w1.heap.size ≤ b) wc Q[k] vs from by
      obtain ⟨v, fp, vs, e1, e2, -, e4⟩ := PtC.get Q us hpt k hk
      exact ⟨v, fp, vs, hcell k v e1, e2, ItC.mono (fun b hb h => h.1) _ _ e4⟩)
    obtain ⟨C, hC⟩ : ∃ C, wc.heap.size = C := ⟨_, rfl⟩
    have HCC := Lib.hid hC
    have hwC : w.heap.size ≤ C := by rw [← hC]; exact HWU.out.size
    have HWC := Lib.hid hwC
    have hw1w : w.heap.size ≤ w1.heap.size := HU1.out.size
    have HW1 := Lib.hid hw1w
    have hown0 : (wc.alloc (.cells #[] 82)).ownsRow C 82 6 (.slice (some ⟨C, 0, none⟩) 0 0) 0 [] := by
      rw [← hC]
      simpa using World.ownsRow_lit (base := wc.heap.size) (e := 82) (size := 6) wc #[] 0 (Nat.le_refl _) (by simp [maxLen]) (by simp)
    have hupd0 : Upd [] wc (wc.alloc (.cells #[] 82)) := (Upd.refl _ _).alloc _
    clear hrow hpt hu hgb hlen hP hf HO1 HR1 HU1 hQ hhd HA HI HSK HIS hcell hwC hw1w hw1s
    go_wp2_with fail
    clear hC
    go_loopw [15, 16] (fun ov iv wr => ∃ (k : Nat) (O : List Itm) (uo : List Value) (vo : Value), vo = ov ∧ k ≤ Q.length ∧ iv = .int .i64 k ∧ Upd [] wc wr ∧ wr.ownsRow C 82 6 vo O.length uo ∧ ItC (fun b => w1.heap.size ≤ b) wc O uo ∧ Hid (O ++ jnI hd (Q.drop k) = jnI hd Q)) (fun _ iv _ => Q.length - (intOf iv).toNat)
    case atStart => exact ⟨0, [], [], _, rfl, Nat.zero_le _, rfl, hupd0, by simpa using hown0, rfl, Lib.hid rfl⟩
    case round =>
      clear hown0 hupd0
      obtain ⟨k, O, uo, vo, rfl, hk, rfl, hur, hown, hic, HJ⟩ := hrel
      obtain ⟨ao, co, rfl⟩ := ownsRow_form hown
      have hol : O.length ≤ 400 := by have := congrArg List.length HJ.out; rw [List.length_append] at this; omega
      have hCr : C ≤ wr.heap.size := by rw [← HCC.out]; exact hur.size
      have HCR := Lib.hid hCr
      by_cases hlt : k < Q.length
      · obtain ⟨v, fp, vs, hcl, hfl, hci⟩ := HC.out k hlt
        have hcl' : wr.cell? ⟨b, off + k, none⟩ = some v := hur.keep hcl
        have hfl' := hfl.upd hur (by simp)
        have hkl : (k : Int) < (Q.length : Int) := by omega
        have hcd := jnI_drop hd Q k hlt
        have hlen := congrArg List.length HJ.out
        rw [hcd, List.length_append, List.length_append, List.length_append] at hlen
        obtain ⟨ap, cp, rfl⟩ : ∃ ap cp, v = .slice ap Q[k].length cp := by obtain ⟨ap, cp, rfl, -⟩ := hfl'; exact ⟨_, _, rfl⟩
        generalize hPk : Q[k] = pk at *
        have HCI := Lib.hid hci
        have HIC := Lib.hid hic
        have HUR := Lib.hid hur
        by_cases hk1 : k + 1 < Q.length
        · rw [if_pos hk1] at hcd hlen
          simp only [List.length_cons, List.length_nil] at hlen
          have hki : (k : Int) + 1 < (Q.length : Int) := by omega
          have HJ2 := Lib.hid (show ((O ++ [hd]) ++ pk) ++ jnI hd (Q.drop (k + 1)) = jnI hd Q by rw [← HJ.out, hcd]; simp)
          have r5 := HRW.out.upd hur (by simp)
          have d0 := r5.cell 0 _ rfl
          have d1 := r5.cell 1 _ rfl
          have d2 := r5.cell 2 _ rfl
          have d3 := r5.cell 3 _ rfl
          have d4 := r5.cell 4 _ rfl
          have d5 := r5.cell 5 _ rfl
          have hlit : (wr.alloc (.cells #[ei 3, ei 0, es [], .bool false, .slice none 0 0, ei 0] 82)).ownsRow wr.heap.size 82 6 (.slice (some ⟨wr.heap.size, 0, none⟩) 1 1) 1 [ei 3, ei 0, es [], .bool false, .slice none 0 0, ei 0] :=
            World.ownsRow_lit (base := wr.heap.size) (e := 82) (size := 6) wr #[ei 3, ei 0, es [], .bool false, .slice none 0 0, ei 0] 1 (Nat.le_refl _) (by simp [maxLen]) (by simp)
          obtain ⟨fv, hfv, -⟩ := Flat.ofOwns hlit
          have HFV := Lib.hid hfv
          have hal := (Upd.refl [] wr).alloc (.cells #[ei 3, ei 0, es [], .bool false, .slice none 0 0, ei 0] 82)
          have HOW := Lib.hid (ownsRow_upd hown hal)
          have HFL := Lib.hid hfl
          have HCL := Lib.hid hcl
          have hCa : C ≤ (wr.alloc (.cells #[ei 3, ei 0, es [], .bool false, .slice none 0 0, ei 0] 82)).heap.size := Nat.le_trans hCr hal.size
          clear r5 hlit hfv hal hown hcd HJ hcl hfl hfl' hci hic hur hCr hcl'
          go_wp2_with (first
            | (at_builtin; refine wpList_append_flat rfl _ _ 70 rfl C 82 i1 (.agg #[.int .i64 0, .int .i64 0, .string ⟨#[]⟩, .bool false, .slice none 0 0, .int .i64 0]) 6 72 Tryz.underlying70 hi1 kz0 kz1 kz2 rfl (by decide) _ _ _ rfl HOW.out _ 1 _ rfl _ HFV.out (fun u hu => by simp at hu; rcases hu with rfl | rfl | rfl | rfl | rfl | rfl <;> rfl) (by unfold maxLen; omega) (by omega) hCa ?_)
            | fail)
          intro v2 w2 hown2 hg2 ht2
          have hur2 : Upd [] wc w2 := (HUR.out.alloc _).grown hg2 (fun k hk => Or.inl (by rw [HCC.out]; exact (HOW.out.lt k hk).1))
          have hown3 : w2.ownsRow C 82 6 v2 (O ++ [hd]).length (uo ++ [ei 3, ei 0, es [], .bool false, .slice none 0 0, ei 0]) := by simpa using hown2
          obtain ⟨a2, c2, rfl⟩ := ownsRow_form hown3
          have hcl2 := hur2.keep HCL.out
          have HF2 := Lib.hid (HFL.out.upd hur2 (by simp))
          have hol2 : (O ++ [hd]).length ≤ 401 := by simp; omega
          have hpl2 : pk.length ≤ 400 := by omega
          have hC2 : C ≤ w2.heap.size := by rw [← HCC.out]; exact hur2.size
          have HIC2 := Lib.hid (ItC.append (show ItC (fun b => w1.heap.size ≤ b) wc [hd] [ei 3, ei 0, es [], .bool false, .slice none 0 0, ei 0] from by rw [HHD.out]; exact ⟨.slice none 0 0, [], rfl, nilG _ _, rfl⟩) _ _ HIC.out)
          have HUR2 := Lib.hid hur2
          have HOW3 := Lib.hid hown3
          clear hown2 hg2 ht2 hur2 hown3 HOW HFV HFL HCL HIC HUR hCa d0 d1 d2 d3 d4 d5
          generalize hO : O ++ [hd] = O2 at *
          generalize uo ++ [ei 3, ei 0, es [], .bool false, .slice none 0 0, ei 0] = uo2 at *
          go_wp2_with (first
            | (at_builtin; refine wpList_append_flat rfl _ _ 70 rfl C 82 i1 (.agg #[.int .i64 0, .int .i64 0, .string ⟨#[]⟩, .bool false, .slice none 0 0, .int .i64 0]) 6 72 Tryz.underlying70 hi1 kz0 kz1 kz2 rfl (by decide) _ _ _ rfl HOW3.out _ pk.length vs rfl _ HF2.out (ItC.one _ _ HCI.out) (by unfold maxLen; omega) (by omega) hC2 ?_)
            | fail)
          intro v3 w3 hown4 hg3 ht3
          have HUR3 := Lib.hid (show Upd [] wc w3 from HUR2.out.grown hg3 (fun k hk => Or.inl (by rw [HCC.out]; exact (HOW3.out.lt k hk).1)))
          have HOW4 := Lib.hid (show w3.ownsRow C 82 6 v3 (O2 ++ pk).length (uo2 ++ vs) from by simpa using hown4)
          have HIC3 := Lib.hid (ItC.append HCI.out _ _ HIC2.out)
          clear hown4 hg3 ht3 hcl2 HF2 hC2
          go_wp2_with fail
          go_roundw
          case rel => exact ⟨k + 1, O2 ++ pk, uo2 ++ vs, _, rfl, by omega, by go_num, HUR3.out, HOW4.out, HIC3.out, HJ2⟩
          case measure => simp [intOf]; omega
        · rw [if_neg hk1] at hcd hlen
          simp only [List.length_nil] at hlen
          have hki : ¬ ((k : Int) + 1 < (Q.length : Int)) := by omega
          have HJ2 := Lib.hid (show (O ++ pk) ++ jnI hd (Q.drop (k + 1)) = jnI hd Q by rw [← HJ.out, hcd]; simp)
          have HF2 := Lib.hid hfl'
          have HOW := Lib.hid hown
          have hpl2 : pk.length ≤ 400 := by omega
          clear hown hcd HJ hcl hfl hfl' hci hic hur
          go_wp2_with (first
            | (at_builtin; refine wpList_append_flat rfl _ _ 70 rfl C 82 i1 (.agg #[.int .i64 0, .int .i64 0, .string ⟨#[]⟩, .bool false, .slice none 0 0, .int .i64 0]) 6 72 Tryz.underlying70 hi1 kz0 kz1 kz2 rfl (by decide) _ _ _ rfl HOW.out _ pk.length vs rfl _ HF2.out (ItC.one _ _ HCI.out) (by unfold maxLen; omega) (by omega) hCr ?_)
            | fail)
          intro v3 w3 hown4 hg3 ht3
          have HUR3 := Lib.hid (show Upd [] wc w3 from HUR.out.grown hg3 (fun k hk => Or.inl (by rw [HCC.out]; exact (HOW.out.lt k hk).1)))
          have HOW4 := Lib.hid (show w3.ownsRow C 82 6 v3 (O ++ pk).length (uo ++ vs) from by simpa using hown4)
          have HIC3 := Lib.hid (ItC.append HCI.out _ _ HIC.out)
          clear hown4 hg3 ht3 hcl' HF2
          go_wp2_with fail
          go_roundw
          case rel => exact ⟨k + 1, O ++ pk, uo ++ vs, _, rfl, by omega, by go_num, HUR3.out, HOW4.out, HIC3.out, HJ2⟩
          case measure => simp [intOf]; omega
      · obtain rfl : k = Q.length := by omega
        have hX : O = jnI hd Q := by have := HJ.out; rw [List.drop_of_length_le (Nat.le_refl _)] at this; simpa [jnI] using this
        have HE := Lib.hid (show NwI w wr (.slice ao O.length co) (jnI hd Q) from by
          rw [← hX]
          exact ⟨uo, row_base hown HWC.out, ItC.mono (fun b _ h => Nat.le_trans HW1.out h) _ _ (ItC.upd hur _ _ hic)⟩)
        have HUF := Lib.hid (HWU.out.trans hur)
        clear HJ HC hur hown hic hX
        go_wp2_with fail
        go_ret3
        rw [HX.out]
        exact ⟨⟨_, _, rfl, HE.out, HIT.out, hJL⟩, HUF.out⟩

end Go.Proofs.YtaahjpmndkcijaaGreatDoor

/-
  Formulas parsed: the reference's readers together.
-/
namespace Go.Proofs.YtaahjpmndkcijaaGreatDoor
open Go.RowKit

theorem wholeS (k : Nat) (w : World) (s : List UInt8) (n : Nat) (hB : Calls Tryz.prog 43 #[es s, .int .i64 n, .bool true] w (FmS n (orF s k n) w)) :
    Calls Tryz.prog 33 #[es s, .int .i64 n] w (FmS n (orF s k n) w) := by
  have HB := Lib.hid hB
  clear hB
  cases he : orF s k n with
  | error a =>
    rw [he] at HB
    go_enter Tryz.func33, Tryz.ntmps33
    go_wp2_with fail
    refine HB.out.mono ?_
    rintro e w1 ⟨rfl, hu⟩
    have HU := Lib.hid hu
    clear HB hu
    go_wp2_with fail
    go_ret3
    exact ⟨rfl, HU.out⟩
  | ok r =>
    obtain ⟨fm, q⟩ := r
    rw [he] at HB
    go_enter Tryz.func33, Tryz.ntmps33
    go_wp2_with fail
    refine HB.out.mono ?_
    rintro e w1 ⟨⟨v, L, rfl, h1⟩, hu⟩
    have HU := Lib.hid hu
    have H1 := Lib.hid h1
    clear HB hu h1
    go_wp2_with fail
    go_ret3
    exact ⟨⟨v, L, rfl, H1.out⟩, HU.out⟩
theorem readS (s : List UInt8) (hs : s.length ≤ 400) : ∀ (K k : Nat), k ≤ K → ∀ (w : World) (n : Nat), n ≤ s.length →
    (3 * (s.length - n) + 1 ≤ k → Calls Tryz.prog 52 #[es s, .int .i64 n] w (FmS n (simF s k n) w)) ∧
    (3 * (s.length - n) + 2 ≤ k → Calls Tryz.prog 43 #[es s, .int .i64 n, .bool false] w (FmS n (andF s k n) w)) ∧
    (3 * (s.length - n) + 3 ≤ k → Calls Tryz.prog 33 #[es s, .int .i64 n] w (FmS n (orF s k n) w))
  | 0, k, hk, w, n, hn => ⟨fun h => by omega, fun h => by omega, fun h => by omega⟩
  | K + 1, 0, hk, w, n, hn => ⟨fun h => by omega, fun h => by omega, fun h => by omega⟩
  | K + 1, k + 1, hk, w, n, hn =>
    ⟨fun h => oneFmS k w s n hs hn (fun W n' h1 h2 => (readS s hs K k (by omega) W n' h2).1 (by omega)) (fun W n' h1 h2 => (readS s hs K k (by omega) W n' h2).2.2 (by omega)),
     fun h => bothAndS k w s n hs hn (by omega) (fun W n' k' h1 h2 h3 h4 => (readS s hs K k' (by omega) W n' h2).1 h4),
     fun h => wholeS (k + 1) w s n (bothOrS k w s n hs hn (by omega) (fun W n' k' h1 h2 h3 h4 => (readS s hs K k' (by omega) W n' h2).2.1 h4))⟩

end Go.Proofs.YtaahjpmndkcijaaGreatDoor

/-
  Formulas parsed: the reference's ParseFormula returns what is read.
-/
namespace Go.Proofs.YtaahjpmndkcijaaGreatDoor
open Go.RowKit

/-- what both sides return. -/
def PfS' (s : List UInt8) (w : World) (e : Ending) (w' : World) : Prop := (∃ v, e = .returned (.tuple #[v, .int .i64 (parsF s).2.1, .int .i64 (parsF s).2.2]) ∧ New R_F1 w w' v (parsF s).1) ∧ Upd [] w w'
theorem PfS'.mk {s : List UInt8} {w w' : World} {v : Value} {o : List Nd} {a b : Int} (h : parsF s = (o, a, b)) (hn : New R_F1 w w' v o) (hu : Upd [] w w') : PfS' s w (.returned (.tuple #[v, .int .i64 a, .int .i64 b])) w' := by
  unfold PfS'
  rw [h]
  exact ⟨⟨v, rfl, hn⟩, hu⟩

set_option maxRecDepth 20000 in
set_option maxHeartbeats 2000000 in
theorem l20ReadS (s : List UInt8) (w : World) (hs : s.length ≤ 400) : Calls Tryz.prog 22 #[es s] w (PfS' s w) := by
  have HW := Lib.hid (show Calls Tryz.prog 33 #[es s, .int .i64 0] w (FmS 0 (frmP s) w) from (readS s hs (3 * s.length + 3) (3 * s.length + 3) (Nat.le_refl _) w 0 (Nat.zero_le _)).2.2 (by omega))
  have HX := Lib.hid (show parsF s = _ from by unfold parsF; rw [if_neg (by omega)])
  cases he : frmP s with
  | error a =>
    rw [he] at HW HX
    have HY := Lib.hid (show parsF s = ([], (a : Int), 8) from HX.out)
    clear HX he
    go_enter Tryz.func22, Tryz.ntmps22
    go_wp2_with fail
    (with_reducible refine HW.out.mono ?_)
    rintro e w1 ⟨rfl, hu⟩
    have HU := Lib.hid hu
    clear HW hu
    go_wp2_with fail
    go_ret3
    exact PfS'.mk HY.out (New.nilF 4 _ _ _) HU.out
  | ok r =>
    obtain ⟨fm, p⟩ := r
    rw [he] at HW HX
    have hpos := orF_pos _ 0 fm p (Nat.zero_le _) he
    have hpl := hpos.2.1
    have hok := orF_okF _ 0 fm p he
    have HOK := Lib.hid hok
    clear hpos hok he
    go_enter Tryz.func22, Tryz.ntmps22
    go_wp2_with fail
    (with_reducible refine HW.out.mono ?_)
    rintro e w1 ⟨⟨v, L, rfl, hn, hF, hl⟩, hu⟩
    obtain ⟨a1, c1, rfl⟩ := hn.form
    have HU := Lib.hid hu
    have hl2 : L.length ≤ 400 := by omega
    have HH := Lib.hid hn.has
    have HF := Lib.hid hF
    clear HW hu hn hF hl
    by_cases hp : p < s.length
    · have hpi : (p : Int) < (s.length : Int) := by omega
      have HY := Lib.hid (show parsF s = ([], (p : Int), 8) from by rw [HX.out]; simp only [if_pos hp])
      clear HX
      go_wp2_with fail
      go_ret3
      exact PfS'.mk HY.out (New.nilF 4 _ _ _) HU.out
    · have hpi : ¬ (p : Int) < (s.length : Int) := by omega
      have S1 := Lib.hid (freeS _ fm L w1 HH.out (by omega) HF.out HOK.out)
      cases hfr : freF fm [] with
      | some o =>
        have HY := Lib.hid (show parsF s = ([], (o : Int), 3) from by rw [HX.out]; simp only [if_neg hp, hfr])
        rw [hfr] at S1
        clear HX hfr
        go_wp2_with fail
        (with_reducible refine S1.out.mono ?_)
        rintro e w2 ⟨rfl, hu2⟩
        have HU2 := Lib.hid (HU.out.trans hu2)
        have ho : (0 : Int) ≤ (o : Int) := by omega
        clear S1 hu2
        rw [show frI (some o) = (o : Int) from rfl]
        go_wp2_with fail
        go_ret3
        exact PfS'.mk HY.out (New.nilF 4 _ _ _) HU2.out
      | none =>
        rw [hfr] at S1
        have HY := Lib.hid (show parsF s = (match bldF fm [] with | none => ([], 0, 5) | some o => (o, 0, 0)) from by
          rw [HX.out]; simp only [if_neg hp, hfr]
          cases bldF fm [] <;> rfl)
        clear HX hfr
        go_wp2_with fail
        (with_reducible refine S1.out.mono ?_)
        rintro e w2 ⟨rfl, hu2⟩
        have HU2 := Lib.hid (HU.out.trans hu2)
        have S2 := Lib.hid (buildS fm L w2 _ (.slice none 0 0) [] [] HF.out HOK.out hl2 (by simp; omega) (by simp) (HH.out.upd hu2) ⟨_, rfl, none, 0, rfl, Nat.le_refl _, by simp [maxLen], rfl, Or.inl ⟨rfl, rfl⟩⟩)
        clear S1 hu2
        rw [show frI none = -1 from rfl]
        go_wp2_with fail
        (with_reducible refine S2.out.mono ?_)
        rintro e w3 h3
        obtain ⟨a3, c3, o3, rfl, hn3, hl3, hx3, hu3⟩ := h3.form
        have HU3 := Lib.hid (HU2.out.trans hu3)
        have HN3 := Lib.hid (hn3.mono HU2.out.size)
        clear h3 hn3 hu3 S2
        cases hb : bldF fm [] with
        | none =>
          have HZ := Lib.hid (show parsF s = ([], 0, 5) from by rw [HY.out, hb])
          clear HY hb hx3
          go_wp2_with fail
          go_ret3
          exact PfS'.mk HZ.out (New.nilF 4 _ _ _) HU3.out
        | some z =>
          obtain rfl := hx3 z hb
          have HZ := Lib.hid (show parsF s = (o3, 0, 0) from by rw [HY.out, hb])
          clear HY hb hx3
          go_wp2_with fail
          go_ret3
          exact PfS'.mk HZ.out HN3.out HU3.out

set_option maxRecDepth 20000 in
set_option maxHeartbeats 1000000 in
theorem parseFS (s : List UInt8) (w : World) (hs : s.length ≤ 2000000) : Calls Tryz.prog 10 #[es s] w (PfS' s w) := by
  by_cases h4 : 400 < s.length
  · have h4i : (400 : Int) < (s.length : Int) := by omega
    have HY := Lib.hid (show parsF s = ([], 0, 2) from by unfold parsF; rw [if_pos h4])
    go_enter Tryz.func10, Tryz.ntmps10
    go_wp2_with fail
    go_ret3
    exact PfS'.mk HY.out (New.nilF 4 _ _ _) (Upd.refl _ _)
  · have h4i : ¬ (400 : Int) < (s.length : Int) := by omega
    have S1 := Lib.hid (l20ReadS s w (by omega))
    go_enter Tryz.func10, Tryz.ntmps10
    go_wp2_with fail
    (with_reducible refine S1.out.mono ?_)
    rintro e w1 ⟨⟨v, rfl, hn⟩, hu⟩
    have HE := Lib.hid (And.intro hn hu)
    clear S1 hn hu
    go_wp2_with fail
    go_ret3
    exact ⟨⟨v, rfl, HE.out.1⟩, HE.out.2⟩

end Go.Proofs.YtaahjpmndkcijaaGreatDoor

/-
  Nodes marked and found marked by the laws' helper functions.
-/
namespace Go.Proofs.YtaahjpmndkcijaaGreatDoor
open Go.RowKit Go.ChangeShapes

/-- the node that marks the number k. -/
def mkNd (k : Int) : Nd := ⟨k, k + 1, mtx (k + 1 + 1), (k + 1 + 1 + 1) % 3 == 0⟩
def upN (k : Int) : Nat → List Nd
  | 0 => []
  | n + 1 => mkNd k :: upN (k + 4) n
@[simp] theorem upN_length (k : Int) (n : Nat) : (upN k n).length = n := by
  induction n generalizing k with
  | zero => rfl
  | succ n ih => simp [upN, ih]
theorem upN_snoc (k : Int) (n : Nat) : upN k (n + 1) = upN k n ++ [mkNd (k + 4 * n)] := by
  induction n generalizing k with
  | zero => simp [upN]
  | succ n ih =>
    rw [upN, ih (k + 4)]
    simp only [upN, List.cons_append, List.cons.injEq, List.append_cancel_left_eq, true_and, and_true]
    congr 1; omega
theorem upN_get (k : Int) (n i : Nat) (h : i < n) : (upN k n)[i]'(by simpa using h) = mkNd (k + 4 * i) := by
  induction n generalizing k i with
  | zero => omega
  | succ n ih =>
    cases i with
    | zero => simp [upN]
    | succ i => simp only [upN, List.getElem_cons_succ]; rw [ih _ _ (by omega)]; congr 1; omega
theorem upN_set (xs : List Nd) (k0 : Int) (k : Nat) (hk : k < xs.length) :
    (upN k0 k ++ xs.drop k).set k (mkNd (k0 + 4 * k)) = upN k0 (k + 1) ++ xs.drop (k + 1) := by
  rw [List.set_append_right _ _ (by simp), upN_length, Nat.sub_self, List.drop_eq_getElem_cons hk, List.set_cons_zero, upN_snoc]
  simp

set_option maxRecDepth 20000 in
set_option maxHeartbeats 2000000 in
theorem mark_F1 (v : Value) (xs : List Nd) (k0 : Int) (w : World) (fp : List Nat) (hk0 : 0 ≤ k0) (hk1 : k0 + mkF_F1 xs ≤ 4611686018427387904) (hR : R_F1 fp w [v] xs) (hO : Own fp w) :
    Calls Tryz.prog 13 #[v, .int .i64 k0] w fun e w' => e = .returned (.int .i64 (k0 + mkF_F1 xs)) ∧ R_F1 fp w' [v] (upN k0 xs.length) ∧ Own fp w' ∧ Upd fp w w' := by
  obtain ⟨a, cap, rfl, h1, h2, -⟩ := slF4_open hR
  unfold maxLen at h2
  unfold mkF_F1 at hk1 ⊢
  go_enter Tryz.func13, Tryz.ntmps13
  go_wp2
  go_loopw [1, 5] (fun kk i wr => ∃ k : Nat, k ≤ xs.length ∧ i = .int .i64 k ∧ kk = .int .i64 (k0 + 4 * k) ∧ Upd fp w wr ∧ Own fp wr ∧
      R_F1 fp wr [.slice a xs.length cap] (upN k0 k ++ xs.drop k))
    (fun _ i _ => xs.length - (intOf i).toNat)
  case atStart => exact ⟨0, Nat.zero_le _, rfl, by simp, Upd.refl _ _, hO, by simpa [upN] using hR⟩
  case round =>
    clear hR hO
    obtain ⟨wo, rfl⟩ : ∃ wo : World, wo = wr := ⟨_, rfl⟩
    obtain ⟨k, hk, rfl, rfl, hU, hO, hT⟩ := hrel
    have hlen : (upN k0 k ++ xs.drop k).length = xs.length := by simp; omega
    by_cases hlt : k < xs.length
    · obtain ⟨a', cap', hv, -, -, hcell⟩ := slF4_open hT
      obtain ⟨b, off, rfl, hfo, hb', r1, r2, r3, r4⟩ := hcell k (by omega)
      simp only [Value.slice.injEq] at hv
      obtain ⟨rfl, -, rfl⟩ := hv
      have hin : b ∈ fp := by rw [hfo]; simp
      have hfr1 : wo.frozen? ⟨b, off + k * 4, none⟩ = false := hO.frozen hin _
      have hfr2 : wo.frozen? ⟨b, off + k * 4 + 1, none⟩ = false := hO.frozen hin _
      obtain ⟨v', hv', hF⟩ := hT
      cases hv'
      rw [hlen] at hF
      have g1 := hF.set (j := k * 4) (by omega) (ei (k0 + 4 * k))
      have g2 := g1.set (j := k * 4 + 1) (by omega) (ei (k0 + 4 * k + 1))
      have HSET := Lib.hid (upN_set xs k0 k hlt)
      obtain ⟨wa, hwa⟩ : ∃ wa, wa = (wo.setCell ⟨b, off + k * 4, none⟩ (ei (k0 + 4 * k))).setCell ⟨b, off + k * 4 + 1, none⟩ (ei (k0 + 4 * k + 1)) := ⟨_, rfl⟩
      have S1 := Lib.hid (markText (k0 + 4 * k + 1 + 1) wa (by omega) (by omega))
      have HUa := Lib.hid (show Upd fp w wa by rw [hwa]; exact (hU.setCell (Or.inr hin) _).setCell (Or.inr hin) _)
      have HOa := Lib.hid (show Own fp wa by rw [hwa]; exact (hO.setCell _ _).setCell _ _)
      rw [← Nat.add_assoc, ← hwa] at g2
      have HF2 := Lib.hid g2
      have k3 : wa.cell? ⟨b, off + k * 4 + 2, none⟩ = some (es ((upN k0 k ++ xs.drop k)[k]'(by omega)).lb) := by
        rw [hwa, World.cell?_setCell_other _ _ _ _ (by simp), World.cell?_setCell_other _ _ _ _ (by simp)]; exact r3
      have k4 : wa.cell? ⟨b, off + k * 4 + 3, none⟩ = some (.bool ((upN k0 k ++ xs.drop k)[k]'(by omega)).nt) := by
        rw [hwa, World.cell?_setCell_other _ _ _ _ (by simp), World.cell?_setCell_other _ _ _ _ (by simp)]; exact r4
      have HLEN := Lib.hid hlen
      generalize ((upN k0 k ++ xs.drop k)[k]'_) = el at r1 r2 r3 r4 k3 k4
      clear hF g1 g2 hcell hO hU hlen
      go_wp2_with fail
      have hwb : (wo.setCell ⟨b, off + k * 4, none⟩ (.int .i64 (k0 + 4 * k))).setCell ⟨b, off + k * 4 + 1, none⟩ (.int .i64 (k0 + 4 * k + 1)) = wa := hwa.symm
      rw [hwb]
      clear hwa hwb r1 r2 r3 r4 hfr1 hfr2
      refine S1.out.mono ?_
      rintro e w1 ⟨rfl, hu1⟩
      have m3 := hu1.keep k3
      have m4 := hu1.keep k4
      have hO1 := HOa.out.upd hu1 (by simp)
      have hfr3 : w1.frozen? ⟨b, off + k * 4 + 2, none⟩ = false := hO1.frozen hin _
      have hfr4 : w1.frozen? ⟨b, off + k * 4 + 3, none⟩ = false := hO1.frozen hin _
      have g2 := Flat.upd HF2.out hu1 (by simp)
      have g3 := g2.set (j := k * 4 + 2) (by omega) (es (mtx (k0 + 4 * k + 1 + 1)))
      have g4 := g3.set (j := k * 4 + 3) (by omega) (.bool ((k0 + 4 * (k : Int) + 1 + 1 + 1) % 3 == 0))
      have hfs := flatMap_four_set (fun t : Nd => ei t.kd) (fun t => ei t.vr) (fun t => es t.lb) (fun t => Value.bool t.nt) (upN k0 k ++ xs.drop k) k (by rw [HLEN.out]; exact hlt) (mkNd (k0 + 4 * k))
      have hfin : (((((upN k0 k ++ xs.drop k).flatMap fun t => [ei t.kd, ei t.vr, es t.lb, .bool t.nt]).set (k * 4) (ei (k0 + 4 * k))).set (k * 4 + 1) (ei (k0 + 4 * k + 1))).set (k * 4 + 2) (es (mtx (k0 + 4 * k + 1 + 1)))).set (k * 4 + 3) (.bool ((k0 + 4 * (k : Int) + 1 + 1 + 1) % 3 == 0)) = (upN k0 (k + 1) ++ xs.drop (k + 1)).flatMap fun t => [ei t.kd, ei t.vr, es t.lb, .bool t.nt] := by
        rw [← HSET.out]; exact hfs
      rw [hfin] at g4
      have HT2 := Lib.hid (show R_F1 fp ((w1.setCell ⟨b, off + k * 4 + 2, none⟩ (es (mtx (k0 + 4 * k + 1 + 1)))).setCell ⟨b, off + k * 4 + 3, none⟩ (.bool ((k0 + 4 * (k : Int) + 1 + 1 + 1) % 3 == 0))) [.slice (some ⟨b, off, none⟩) xs.length cap] (upN k0 (k + 1) ++ xs.drop (k + 1)) from by
        refine ⟨_, rfl, ?_⟩
        have e : (upN k0 (k + 1) ++ xs.drop (k + 1)).length = xs.length := by simp; omega
        rw [e]
        simpa only [Nat.add_assoc] using g4)
      have HO2 := Lib.hid ((hO1.setCell ⟨b, off + k * 4 + 2, none⟩ (es (mtx (k0 + 4 * k + 1 + 1)))).setCell ⟨b, off + k * 4 + 3, none⟩ (.bool ((k0 + 4 * (k : Int) + 1 + 1 + 1) % 3 == 0)))
      have HU2 := Lib.hid (((HUa.out.trans (hu1.mono (by simp))).setCell (p := ⟨b, off + k * 4 + 2, none⟩) (Or.inr hin) (es (mtx (k0 + 4 * k + 1 + 1)))).setCell (p := ⟨b, off + k * 4 + 3, none⟩) (Or.inr hin) (.bool ((k0 + 4 * (k : Int) + 1 + 1 + 1) % 3 == 0)))
      generalize mtx (k0 + 4 * k + 1 + 1) = T at *
      clear S1 HUa HOa HF2 k3 k4 hu1 hO1 g2 g3 g4 hfs hfin HSET
      go_wp2_with fail
      go_roundw
      case rel => exact ⟨k + 1, by omega, by go_num, by go_num, HU2.out, HO2.out, HT2.out⟩
      case measure => simp [intOf]; omega
    · obtain rfl : k = xs.length := by omega
      go_wp2_with fail
      go_ret
      refine ⟨rfl, by simpa using hT, hO, hU⟩

set_option maxRecDepth 20000 in
set_option maxHeartbeats 2000000 in
theorem held_F1 (v : Value) (xs : List Nd) (k0 : Int) (w : World) (fp : List Nat) (hk0 : 0 ≤ k0) (hk1 : k0 + mkF_F1 xs ≤ 4611686018427387904) (hR : R_F1 fp w [v] (upN k0 xs.length)) :
    Calls Tryz.prog 14 #[v, .int .i64 k0] w fun e w' => e = .returned (.int .i64 (k0 + mkF_F1 xs)) ∧ Upd [] w w' := by
  obtain ⟨a, cap, rfl, h1, h2, hc⟩ := slF4_open hR
  simp only [upN_length] at *
  unfold maxLen at h2
  unfold mkF_F1 at hk1 ⊢
  have HC := Lib.hid hc
  clear hR hc
  generalize xs.length = n at *
  go_enter Tryz.func14, Tryz.ntmps14
  go_wp2
  go_loopw [1, 5] (fun kk i wr => ∃ k : Nat, k ≤ n ∧ i = .int .i64 k ∧ kk = .int .i64 (k0 + 4 * k) ∧ Hid (Upd [] w wr)) (fun _ i _ => n - (intOf i).toNat)
  case atStart => exact ⟨0, Nat.zero_le _, rfl, by simp, Lib.hid (Upd.refl _ _)⟩
  case round =>
    obtain ⟨wo, rfl⟩ : ∃ wo : World, wo = wr := ⟨_, rfl⟩
    obtain ⟨k, hk, rfl, rfl, HU⟩ := hrel
    by_cases hlt : k < n
    · obtain ⟨b, off, rfl, -, hb, p1, p2, p3, p4⟩ := HC.out k hlt
      rw [upN_get k0 n k hlt] at p1 p2 p3 p4
      unfold mkNd at p1 p2 p3 p4
      simp only at p1 p2 p3 p4
      have q1 := HU.out.keep p1
      have q2 := HU.out.keep p2
      have q3 := HU.out.keep p3
      have q4 := HU.out.keep p4
      have S1 := Lib.hid (fun W : World => markText (k0 + 4 * k + 1 + 1) W (by omega) (by omega))
      have hne : ((k0 + 4 * (k : Int)) != (k0 + 4 * (k : Int))) = false := by simp
      have hne2 : ((k0 + 4 * (k : Int) + 1) != (k0 + 4 * (k : Int) + 1)) = false := by simp
      generalize mtx (k0 + 4 * k + 1 + 1) = T at *
      have hne3 : (T != T) = false := by simp
      have hne3' : (T == T) = true := by simp
      obtain ⟨z, hz⟩ : ∃ z, k0 + 4 * (k : Int) + 1 + 1 + 1 = z := ⟨_, rfl⟩
      have hne4 : ((z % 3 == 0) != (z % 3 == 0)) = false := by simp
      rw [hz] at q4
      have HZ := Lib.hid hz
      clear p1 p2 p3 p4
      go_upto_region 10 with (fail)
      go_region_held3 (fun w' => w'.cell? ⟨b, off + k * 4 + 2, none⟩ = some (es T)) (go_keep) (((with_reducible refine (S1.out _).mono ?_); rintro e w1 ⟨rfl, hu1⟩; have t3 := hu1.keep q3))
      have HU1 := Lib.hid (HU.out.drew.trans hu1)
      have t4 := (HU.out.drew.trans hu1)
      have u4 := hu1.keep (show wo.drew.cell? ⟨b, off + k * 4 + 3, none⟩ = some (.bool (z % 3 == 0)) from q4)
      clear hu1 HU S1 q1 q2 q3 q4 t3 t4
      go_wp2_with fail
      go_roundw
      case rel => exact ⟨k + 1, by omega, by go_num, by go_num, HU1⟩
      case measure => simp [intOf]; omega
    · obtain rfl : k = n := by omega
      go_wp2_with fail
      go_ret
      exact ⟨rfl, HU.out⟩

end Go.Proofs.YtaahjpmndkcijaaGreatDoor

/-
  Formulas parsed: both sides, as the law wants them.
-/
namespace Go.Proofs.YtaahjpmndkcijaaGreatDoor
open Go.RowKit

theorem pfor_i (s : List UInt8) (w : World) (hl : s.length ≤ 1048576) (hE : Env w) :
    Calls Tryz.prog 11 #[es s] w fun e w' => (∃ v', e = .returned (.tuple #[v', .int .i64 (parsF s).2.1, .int .i64 (parsF s).2.2]) ∧ New R_F1 w w' v' (parsF s).1) ∧ Upd [] w w' := parseFI s w hl hE
theorem pfor_s (s : List UInt8) (w : World) (hl : s.length ≤ 1048576) :
    Calls Tryz.prog 10 #[es s] w fun e w' => (∃ v', e = .returned (.tuple #[v', .int .i64 (parsF s).2.1, .int .i64 (parsF s).2.2]) ∧ New R_F1 w w' v' (parsF s).1) ∧ Upd [] w w' := parseFS s w (by omega)
theorem pfor_b (s : List UInt8) (_h : s.length ≤ 1048576) : mkF_F1 (parsF s).1 ≤ 1000000000 := by
  unfold parsF
  split
  · simp [mkF_F1]
  · split
    · simp [mkF_F1]
    · split
      · simp [mkF_F1]
      · split
        · simp [mkF_F1]
        · split
          · simp [mkF_F1]
          · rename_i o h
            rw [bld_imp] at h
            cases hq : impF _ [] with
            | none => rw [hq] at h; cases h
            | some y =>
              rw [hq, fitF_some] at h
              split at h
              · cases h
                unfold mkF_F1
                simp only
                omega
              · cases h

end Go.Proofs.YtaahjpmndkcijaaGreatDoor

/-
  The law FnExactParseFormula: the call returns true for every input, and writes nothing that was there.
-/
namespace Go.Proofs.YtaahjpmndkcijaaGreatDoor
open Go.RowKit

set_option maxHeartbeats 2000000 in
theorem lawParseFor (s : List UInt8)  (w : World)  (bs_s : s.length ≤ 9223372036854775807) (hE : Env w) :
    Calls Tryz.prog 4 #[es s] w fun e w' => e = .returned (.bool true) ∧ Upd [] w w' := by
  have HE := Lib.hid hE
  by_cases lb_s : 1048576 < (s.length : Int)
  · go_enter Tryz.func4, Tryz.ntmps4
    go_wp2_with fail
    go_ret
    exact ⟨rfl, Upd.refl _ _⟩
  · have lx_s : s.length ≤ 1048576 := by omega
    have hT := pfor_b s lx_s
    go_enter Tryz.func4, Tryz.ntmps4
    generalize hG : parsF s = G at *
    have HG := Lib.hid hG
    clear hG
    have u0 : Upd [] w w := Upd.refl _ _
    have hc1 : (G.2.1 != G.2.1) = false := by simp
    have hc2 : (G.2.2 != G.2.2) = false := by simp
    have S2 := pfor_s s w lx_s 
    rw [HG.out] at S2
    go_wp2_with fail
    refine S2.mono ?_
    clear S2
    rintro e w1 ⟨⟨v_w0, rfl, ⟨fp_w0, r1_w0, o1_w0, ge_w0⟩⟩, uu1⟩
    have u1 : Upd [] w w1 := u0.trans (uu1)
    have HL_w0 := Lib.hid (show ∀ b ∈ fp_w0, w.heap.size ≤ b from fun b hb => by have := ge_w0 b hb; have := u0.size; omega)
    have lt_w0 := R_F1k.lt r1_w0
    clear u0 ge_w0 uu1 lt_w0
    have S2 := pfor_i s w1 lx_s (HE.out.upd u1) 
    rw [HG.out] at S2
    go_wp2_with fail
    refine S2.mono ?_
    clear S2
    rintro e w2 ⟨⟨v_g0, rfl, ⟨fp_g0, r2_g0, o2_g0, ge_g0⟩⟩, uu2⟩
    have lt_w0 := R_F1k.lt r1_w0
    have u2 : Upd [] w w2 := u1.trans (uu2)
    have r2_w0 := R_F1k.upd r1_w0 (uu2) (by simp)
    have o2_w0 := o1_w0.upd (uu2) (by simp)
    have HL_g0 := Lib.hid (show ∀ b ∈ fp_g0, w.heap.size ≤ b from fun b hb => by have := ge_g0 b hb; have := u1.size; omega)
    have HD_w0_g0 := Lib.hid (show ∀ b ∈ fp_w0, b ∉ fp_g0 from fun b hb hm => by have := lt_w0 b hb; have := ge_g0 b hm; omega)
    have lt_g0 := R_F1k.lt r2_g0
    clear u1 r1_w0 o1_w0 ge_g0 uu2 lt_w0 lt_g0
    go_wp2_with fail
    refine (eq_F1 v_g0 v_w0 _ _ fp_g0 fp_w0 r2_g0 r2_w0).mono ?_
    rintro e w3 ⟨rfl, uu3⟩
    have u3 : Upd [] w w3 := u2.trans (uu3)
    have r3_w0 := R_F1k.upd r2_w0 (uu3) (by simp)
    have o3_w0 := o2_w0.upd (uu3) (by simp)
    have r3_g0 := R_F1k.upd r2_g0 (uu3) (by simp)
    have o3_g0 := o2_g0.upd (uu3) (by simp)
    clear u2 r2_w0 o2_w0 r2_g0 o2_g0 uu3
    have tg0 := mkF_F1_nonneg G.1
    go_wp2_with fail
    refine (mark_F1 v_g0 G.1 _ _ fp_g0 (by omega) (by omega) r3_g0 o3_g0).mono ?_
    rintro e w4 ⟨rfl, r4_g0, o4_g0, uu4⟩
    have u4 : Upd [] w w4 := u3.fresh (uu4) (fun b hb => Or.inl (HL_g0.out b hb))
    have r4_w0 := R_F1k.upd r3_w0 (uu4) HD_w0_g0.out
    have o4_w0 := o3_w0.upd (uu4) HD_w0_g0.out
    clear u3 r3_w0 o3_w0 r3_g0 o3_g0 uu4
    have hk0 : 0 ≤ 1 + mkF_F1 G.1 := by omega
    have hne : ((1 + mkF_F1 G.1) != (1 + mkF_F1 G.1)) = false := by simp
    go_wp2_with fail
    refine (held_F1 v_g0 G.1 _ _ fp_g0 (by omega) (by omega) r4_g0).mono ?_
    rintro e w5 ⟨rfl, uu5⟩
    have u5 : Upd [] w w5 := u4.trans (uu5)
    have r5_w0 := R_F1k.upd r4_w0 (uu5) (by simp)
    have o5_w0 := o4_w0.upd (uu5) (by simp)
    have r5_g0 := R_F1k.upd r4_g0 (uu5) (by simp)
    have o5_g0 := o4_g0.upd (uu5) (by simp)
    clear u4 r4_w0 o4_w0 r4_g0 o4_g0 uu5
    have S2 := pfor_i s w5 lx_s (HE.out.upd u5) 
    rw [HG.out] at S2
    go_wp2_with fail
    refine S2.mono ?_
    clear S2
    rintro e w6 ⟨⟨v_h0, rfl, ⟨fp_h0, r6_h0, o6_h0, ge_h0⟩⟩, uu6⟩
    have lt_w0 := R_F1k.lt r5_w0
    have lt_g0 := R_F1k.lt r5_g0
    have u6 : Upd [] w w6 := u5.trans (uu6)
    have r6_w0 := R_F1k.upd r5_w0 (uu6) (by simp)
    have o6_w0 := o5_w0.upd (uu6) (by simp)
    have r6_g0 := R_F1k.upd r5_g0 (uu6) (by simp)
    have o6_g0 := o5_g0.upd (uu6) (by simp)
    have HL_h0 := Lib.hid (show ∀ b ∈ fp_h0, w.heap.size ≤ b from fun b hb => by have := ge_h0 b hb; have := u5.size; omega)
    have HD_w0_h0 := Lib.hid (show ∀ b ∈ fp_w0, b ∉ fp_h0 from fun b hb hm => by have := lt_w0 b hb; have := ge_h0 b hm; omega)
    have HD_g0_h0 := Lib.hid (show ∀ b ∈ fp_g0, b ∉ fp_h0 from fun b hb hm => by have := lt_g0 b hb; have := ge_h0 b hm; omega)
    have lt_h0 := R_F1k.lt r6_h0
    clear u5 r5_w0 o5_w0 r5_g0 o5_g0 ge_h0 uu6 lt_w0 lt_g0 lt_h0
    go_wp2_with fail
    refine (eq_F1 v_h0 v_w0 _ _ fp_h0 fp_w0 r6_h0 r6_w0).mono ?_
    rintro e w7 ⟨rfl, uu7⟩
    have u7 : Upd [] w w7 := u6.trans (uu7)
    have r7_w0 := R_F1k.upd r6_w0 (uu7) (by simp)
    have o7_w0 := o6_w0.upd (uu7) (by simp)
    have r7_g0 := R_F1k.upd r6_g0 (uu7) (by simp)
    have o7_g0 := o6_g0.upd (uu7) (by simp)
    have r7_h0 := R_F1k.upd r6_h0 (uu7) (by simp)
    have o7_h0 := o6_h0.upd (uu7) (by simp)
    clear u6 r6_w0 o6_w0 r6_g0 o6_g0 r6_h0 o6_h0 uu7
    go_wp2_with fail
    refine (held_F1 v_g0 G.1 _ _ fp_g0 (by omega) (by omega) r7_g0).mono ?_
    rintro e w8 ⟨rfl, uu8⟩
    have u8 : Upd [] w w8 := u7.trans (uu8)
    have r8_w0 := R_F1k.upd r7_w0 (uu8) (by simp)
    have o8_w0 := o7_w0.upd (uu8) (by simp)
    have r8_g0 := R_F1k.upd r7_g0 (uu8) (by simp)
    have o8_g0 := o7_g0.upd (uu8) (by simp)
    have r8_h0 := R_F1k.upd r7_h0 (uu8) (by simp)
    have o8_h0 := o7_h0.upd (uu8) (by simp)
    clear u7 r7_w0 o7_w0 r7_g0 o7_g0 r7_h0 o7_h0 uu8
    go_wp2_with fail
    go_ret
    exact ⟨rfl, u8⟩

end Go.Proofs.YtaahjpmndkcijaaGreatDoor

/-
  What the listed variables and the world's shape give the walks of labels.
-/
namespace Go.Proofs.YtaahjpmndkcijaaGreatDoor
open Go.RowKit Go.ChangeShapes

theorem errStar : "*" ++ "errors.errorString" = "*errors.errorString" := by decide
theorem errRow (u : TypeId) (h : Tryz.prog.typeName? 3 u = some "*errors.errorString") : u = 181 :=
  typeName_ptr_named (nm := "errors.errorString") (by rw [errStar]; kernel_rfl) (by kernel_rfl) (by decide) u (by rw [errStar]; exact h)

theorem env_of {W : World} {r1 r2 r3 : List (String × DataW Unit)} {d : DataW Unit} {x1 x2 : List UInt8} (hd : d = Lib.tabData .u64 Lib.pow10Tab)
    (h1 : laidMet Tryz.prog (("internal/strconv.uint64pow10", d) :: r1) W)
    (h2 : laidMet Tryz.prog (("strconv.ErrRange", .iface "*errors.errorString" (.ptr (.agg [.lit (.string x1)]))) :: r2) W)
    (h3 : laidMet Tryz.prog (("strconv.ErrSyntax", .iface "*errors.errorString" (.ptr (.agg [.lit (.string x2)]))) :: r3) W)
    (hs : W.ShapedOpen Tryz.prog) : Env W := by
  subst hd
  refine ⟨?_, ?_, ?_, ?_⟩
  · exact cell_of_shapedOpen_int (g := 0) (zero := #[.int .i64 0]) (t := 3) hs (of_decide_eq_true (by kernel_rfl)) (by kernel_rfl) rfl (by kernel_rfl) (by kernel_rfl) Tryz.underlying3
  · exact Lib.tabIs_of_head (g := 5) (t := 185) (e := 157) (n := 20) (by kernel_rfl) (by kernel_rfl) Tryz.underlying185 Tryz.underlying157 (by kernel_rfl) (by kernel_rfl) h1
  · obtain ⟨a, s, hv, -⟩ := laid_sentinel (g := 1) (ti := 132) (tp := 181) (te := 183) (ts := 9) h3 (by kernel_rfl) (by kernel_rfl) Tryz.underlying132 errRow Tryz.underlying181 Tryz.underlying183 rfl rfl Tryz.underlying9 (by kernel_rfl) (by kernel_rfl)
    exact ⟨_, _, hv⟩
  · obtain ⟨a, s, hv, -⟩ := laid_sentinel (g := 2) (ti := 132) (tp := 181) (te := 183) (ts := 9) h2 (by kernel_rfl) (by kernel_rfl) Tryz.underlying132 errRow Tryz.underlying181 Tryz.underlying183 rfl rfl Tryz.underlying9 (by kernel_rfl) (by kernel_rfl)
    exact ⟨_, _, hv⟩

/-- the wrap with a condition on the world, the world's shape kept. -/
theorem handed_and_shaped {H : Type} {enc : TypeId × Value → H} {a : Assume} {C : Checked} {os : Os} {f : FuncId} {fn : Func} {s : ChangeSpec} {conds : List PathCond} {apart fresh handsOn twice : Bool} {X : World → Array Value → Prop}
    (hX : ∀ (w w' : World) (args : Array Value), w.heap = w'.heap → X w args → X w' args)
    (own : ownKnob C.prog.godebug = none) (started : os.Started) (noInit : C.prog.inits.idxOf? f = none) (hfn : C.prog.funcs[f]? = some fn)
    (witness : ∃ (w : World) (tape : Tape) (i : Input), w.os = os ∧ (w.forCall tape i).Shaped C.prog ∧ i.vars = [] ∧ Input.okWide C.prog (w.forCall tape i) .any w.heap.size f i ∧
      ((s.pre enc C.prog fn conds apart (w.forCall tape i).memory i.args ∧ X (w.forCall tape i).memory i.args) ∧ sizedMet enc C.prog fn (OpenSpec.ofChange s) apart (w.forCall tape i).memory i.args) ∧ a.holds C.prog (lone (Frame.enter C.prog f i.args CallKind.normal) [] (w.forCall tape i)))
    (contract : ∀ (W : World) (base : Nat) (args : Array Value) (ds gs : List (DataW H)) (before : List MemPlace),
      (∀ (j : Nat) t v, fn.params[j]? = some t → args[j]? = some v → Value.okWide C.prog W .any base t v) →
      DataW.Whole enc C.prog fn.params.toList s.vars apart W args.toList ds gs before →
      conds.all (PathCond.test C.prog ⟨fn.params.toList, ds, s.plain.varTypes C.prog, gs⟩) = true → X W args →
      W.ShapedOpen C.prog →
      Calls C.prog f args W fun e W' => ∃ v, e = .returned v ∧ s.post enc C.prog fn apart fresh handsOn twice W args v W') :
    ReturnsInHanded a C os f .any (fun w args => (s.pre enc C.prog fn conds apart w args ∧ X w args) ∧ sizedMet enc C.prog fn (OpenSpec.ofChange s) apart w args) (s.post enc C.prog fn apart fresh handsOn twice) := by
  refine returnsInHanded_of_calls own started noInit witness ?_
  intro w tape i _ hsh _ hok hpre _
  obtain ⟨_, _, _, fn', hfn', _, _, _, _, hval⟩ := hok
  have e : fn' = fn := Option.some.inj (hfn'.symm.trans hfn)
  subst e
  obtain ⟨⟨⟨ds, gs, before, hw, hc⟩, hx⟩, hz⟩ := hpre
  have hw' := DataW.Whole.of_heap (w' := w.forCall tape i) (by rfl) hw
  refine (contract (w.forCall tape i) w.heap.size i.args ds gs before hval hw' hc (hX _ _ _ (by rfl) hx) hsh).mono fun e W' ⟨v, he, hp⟩ => ?_
  subst he
  exact ChangeSpec.post_blind hp

end Go.Proofs.YtaahjpmndkcijaaGreatDoor
