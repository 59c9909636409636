/-
  Slices of summands, marked and found marked: readings, and what the laws' helper functions return and make.
-/
import Derived.Test.YtnfghgaadnobbaaHarnSm1
import Derived.Deep.DeepCutAuto
namespace Go.Proofs.Ytnfghgaadnobbaa
open Go.RowKit


set_option maxRecDepth 20000 in
set_option maxHeartbeats 4000000 in
theorem mark_Sm1 (v : Value) (xs : List Sm) (k0 : Int) (w : World) (fp : List Nat) (hk0 : 0 ≤ k0) (hk1 : k0 + mkF_Sm1 xs ≤ 4611686018427387904) (hR : R_Sm1 fp w [v] xs) (hO : Own fp w) :
    Calls Try.prog 51 #[v, .int .i64 k0] w fun e w' => e = .returned (.int .i64 (k0 + mkF_Sm1 xs)) ∧ R_Sm1 fp w' [v] (mkd_Sm1 k0 xs) ∧ Own fp w' ∧ Upd fp w w' := by
  obtain ⟨a, cap, rfl, h1, h2, -⟩ := slQ_open hR
  unfold maxLen at h2
  go_enter Try.func51, Try.ntmps51
  go_wp2_with fail
  go_loopw [1, 5] (fun kk i wr => ∃ (k : Nat) (q : Int), k ≤ xs.length ∧ i = .int .i64 k ∧ kk = .int .i64 q ∧ Hid (q = k0 + mkF_Sm1 (xs.take k)) ∧ Hid (Upd fp w wr) ∧ Hid (Own fp wr) ∧
      Hid (R_Sm1 fp wr [.slice a xs.length cap] (mkd_Sm1 k0 (xs.take k) ++ xs.drop k)))
    (fun _ i _ => xs.length - (intOf i).toNat)
  case atStart => exact ⟨0, k0, Nat.zero_le _, rfl, rfl, Lib.hid (by simp [mkF_Sm1]), Lib.hid (Upd.refl _ _), Lib.hid hO, Lib.hid (by simpa [mkd_Sm1] using hR)⟩
  case round =>
    clear hO hR
    obtain ⟨wo, rfl⟩ : ∃ wo : World, wo = wr := ⟨_, rfl⟩
    obtain ⟨k, q, hk, rfl, rfl, HQ, HU, HO, HF⟩ := hrel
    by_cases hlt : k < xs.length
    · obtain ⟨a', cap', b, off, u, f, hv, -, -, rfl, hb, hbl, hul, hcell, hsub, hbf, hr, hof, hob, hput⟩ := slQ_set R_Smk HF.out HO.out k (by simp; omega)
      simp only [Value.slice.injEq] at hv
      obtain ⟨rfl, -, rfl⟩ := hv
      have e : (mkd_Sm1 k0 (xs.take k) ++ xs.drop k)[k]'(by simp; omega) = xs[k] := by
        rw [List.getElem_append_right (by simp; omega)]; simp [Nat.min_eq_left hk]
      rw [e] at hr
      have hq0 : 0 ≤ q := by have := mkF_Sm1_nonneg (xs.take k); have := HQ.out; omega
      have hq1 : q + mkF_Sm xs[k] ≤ 4611686018427387904 := by
        have ht2 := mkF_Sm1_snoc xs k hlt
        have ht3 := mkF_Sm1_take xs (k + 1)
        have := HQ.out
        omega
      have HT := Lib.hid (mkF_Sm1_snoc xs k hlt)
      have HP := Lib.hid hput
      have HST := Lib.hid (mkd_Sm1_set xs k0 k hlt)
      rw [← HQ.out] at HST
      clear hput e HO
      generalize xs[k] = x at *
      have HMX := Lib.hid (show mkF_Sm x = mkF_I1 x.sums + mkF_T1 x.guard + 1 + mkF_T2 x.args + mkF_T2 x.next from rfl)
      unfold mkF_Sm at hq1
      obtain ⟨v0, v1, v3, v4, f0, f1, f3, f4, rfl, h0, h1, h3, h4, rfl⟩ := hr
      have hn0 := mkF_I1_nonneg x.sums
      have hn1 := mkF_T1_nonneg x.guard
      have hn3 := mkF_T2_nonneg x.args
      have hn4 := mkF_T2_nonneg x.next
      obtain ⟨o0, hofr, dj0⟩ := own_split hof
      obtain ⟨o1, hofrr, dj1⟩ := own_split hofr
      obtain ⟨o3, hofrrr, dj3⟩ := own_split hofrr
      have o4 := hofrrr
      have p0 := hcell 0 _ rfl
      have p1 := hcell 1 _ rfl
      have p2 := hcell 2 _ rfl
      have p3 := hcell 3 _ rfl
      have p4 := hcell 4 _ rfl
      simp only [Nat.add_zero] at p0
      have nb0 : b ∉ f0 := fun h => hbf (by simp [h])
      have nb1 : b ∉ f1 := fun h => hbf (by simp [h])
      have nb3 : b ∉ f3 := fun h => hbf (by simp [h])
      have nb4 : b ∉ f4 := fun h => hbf (by simp [h])
      have HB := Lib.hid (And.intro hsub (And.intro hbf hob))
      have hB := hob
      have UA := Lib.hid (Upd.refl (b :: (f0 ++ (f1 ++ (f3 ++ (f4))))) wo)
      have FAR := Lib.hid (FarEq.refl wo b (off + k * 5) (off + k * 5 + 5))
      have hbz := hbl
      clear hcell hof hsub hob
      have M0 := Lib.hid (mark_I1 v0 x.sums (q) wo f0 (by omega) (by omega) h0 o0)
      clear h0 o0
      go_wp2_with fail
      refine M0.out.mono ?_
      rintro e w0 ⟨rfl, h0, o0, hu⟩
      clear M0
      have ds : ∀ c ∈ f1, c ∉ f0 := fun c h1 h2 => dj0 c h2 (by simp [h1])
      replace h1 := R_T1k.upd h1 hu ds
      replace o1 := o1.upd hu ds
      clear ds
      have ds : ∀ c ∈ f3, c ∉ f0 := fun c h1 h2 => dj0 c h2 (by simp [h1])
      replace h3 := R_T2k.upd h3 hu ds
      replace o3 := o3.upd hu ds
      clear ds
      have ds : ∀ c ∈ f4, c ∉ f0 := fun c h1 h2 => dj0 c h2 (by simp [h1])
      replace h4 := R_T2k.upd h4 hu ds
      replace o4 := o4.upd hu ds
      clear ds
      replace p0 := hu.keepF nb0 p0
      replace p1 := hu.keepF nb0 p1
      replace p2 := hu.keepF nb0 p2
      replace p3 := hu.keepF nb0 p3
      replace p4 := hu.keepF nb0 p4
      replace hB := hB.upd hu (by intro c hc h; simp at hc; subst hc; exact nb0 h)
      replace FAR := Lib.hid (FAR.out.upd hu nb0 hbz)
      replace hbz := Nat.lt_of_lt_of_le hbz hu.size
      replace UA := Lib.hid (UA.out.trans (hu.mono (by intro c hc; simp [hc])))
      clear hu
      have M1 := Lib.hid (mark_T1 v1 x.guard (q + mkF_I1 x.sums) w0 f1 (by omega) (by omega) h1 o1)
      clear h1 o1
      go_wp2_with fail
      refine M1.out.mono ?_
      rintro e w1 ⟨rfl, h1, o1, hu⟩
      clear M1
      have ds : ∀ c ∈ f0, c ∉ f1 := fun c h1 h2 => dj0 c h1 (by simp [h2])
      replace h0 := R_I1k.upd h0 hu ds
      replace o0 := o0.upd hu ds
      clear ds
      have ds : ∀ c ∈ f3, c ∉ f1 := fun c h1 h2 => dj1 c h2 (by simp [h1])
      replace h3 := R_T2k.upd h3 hu ds
      replace o3 := o3.upd hu ds
      clear ds
      have ds : ∀ c ∈ f4, c ∉ f1 := fun c h1 h2 => dj1 c h2 (by simp [h1])
      replace h4 := R_T2k.upd h4 hu ds
      replace o4 := o4.upd hu ds
      clear ds
      replace p0 := hu.keepF nb1 p0
      replace p1 := hu.keepF nb1 p1
      replace p2 := hu.keepF nb1 p2
      replace p3 := hu.keepF nb1 p3
      replace p4 := hu.keepF nb1 p4
      replace hB := hB.upd hu (by intro c hc h; simp at hc; subst hc; exact nb1 h)
      replace FAR := Lib.hid (FAR.out.upd hu nb1 hbz)
      replace hbz := Nat.lt_of_lt_of_le hbz hu.size
      replace UA := Lib.hid (UA.out.trans (hu.mono (by intro c hc; simp [hc])))
      clear hu
      have M2 := Lib.hid (markText (q + mkF_I1 x.sums + mkF_T1 x.guard) w1 (by omega) (by omega))
      have fz := hB.frozen (b := b) (by simp) (off + k * 5 + 2)
      go_wp2_with fail
      refine M2.out.mono ?_
      rintro e w2 ⟨rfl, hu⟩
      clear M2 fz
      replace h0 := R_I1k.upd h0 hu (by simp)
      replace o0 := o0.upd hu (by simp)
      replace h1 := R_T1k.upd h1 hu (by simp)
      replace o1 := o1.upd hu (by simp)
      replace h3 := R_T2k.upd h3 hu (by simp)
      replace o3 := o3.upd hu (by simp)
      replace h4 := R_T2k.upd h4 hu (by simp)
      replace o4 := o4.upd hu (by simp)
      replace p0 := hu.keep p0
      replace p1 := hu.keep p1
      replace p2 := hu.keep p2
      replace p3 := hu.keep p3
      replace p4 := hu.keep p4
      replace hB := hB.upd hu (by simp)
      replace FAR := Lib.hid (FAR.out.upd hu (by simp) hbz)
      replace hbz := Nat.lt_of_lt_of_le hbz hu.size
      replace UA := Lib.hid (UA.out.trans (hu.mono (by simp)))
      have fz := hB.frozen (b := b) (by simp) (off + k * 5 + 2)
      obtain ⟨tx, htx⟩ : ∃ tx, tx = mtx (q + mkF_I1 x.sums + mkF_T1 x.guard) := ⟨_, rfl⟩
      rw [← htx]
      have HTX2 := Lib.hid htx
      obtain ⟨W2, hW2⟩ : ∃ W2, W2 = w2.setCell ⟨b, off + k * 5 + 2, none⟩ (es tx) := ⟨_, rfl⟩
      have hu2 : Upd [b] w2 W2 := by rw [hW2]; exact (Upd.refl _ _).setCell (Or.inr (by simp)) _
      have hc2 : W2.cell? ⟨b, off + k * 5 + 2, none⟩ = some (es tx) := by rw [hW2]; exact World.cell?_setCell_same _ _ _ p2
      have hc3 : ∀ o, o ≠ off + k * 5 + 2 → W2.cell? ⟨b, o, none⟩ = w2.cell? ⟨b, o, none⟩ := fun o ho => by rw [hW2]; exact World.cell?_setCell_other _ _ _ _ (by intro h; simp only [Addr.mk.injEq] at h; omega)
      have hB2 : Own [b] W2 := by rw [hW2]; exact hB.setCell _ _
      clear htx hu
      go_upto_region 7 with (fail)
      rw [← hW2]
      clear fz hB
      replace h0 := R_I1k.upd h0 hu2 (by intro c hc h; simp at h; subst h; exact nb0 hc)
      replace o0 := o0.upd hu2 (by intro c hc h; simp at h; subst h; exact nb0 hc)
      replace h1 := R_T1k.upd h1 hu2 (by intro c hc h; simp at h; subst h; exact nb1 hc)
      replace o1 := o1.upd hu2 (by intro c hc h; simp at h; subst h; exact nb1 hc)
      replace h3 := R_T2k.upd h3 hu2 (by intro c hc h; simp at h; subst h; exact nb3 hc)
      replace o3 := o3.upd hu2 (by intro c hc h; simp at h; subst h; exact nb3 hc)
      replace h4 := R_T2k.upd h4 hu2 (by intro c hc h; simp at h; subst h; exact nb4 hc)
      replace o4 := o4.upd hu2 (by intro c hc h; simp at h; subst h; exact nb4 hc)
      replace p0 := (hc3 _ (by omega)).trans p0
      replace p1 := (hc3 _ (by omega)).trans p1
      replace p3 := (hc3 _ (by omega)).trans p3
      replace p4 := (hc3 _ (by omega)).trans p4
      replace p2 := hc2
      have hB := hB2
      replace FAR := Lib.hid (FAR.out.put hc3 (by omega))
      replace hbz := Nat.lt_of_lt_of_le hbz hu2.size
      replace UA := Lib.hid (UA.out.trans (hu2.mono (by intro c hc; simp at hc; simp [hc])))
      clear hu2 hc2 hc3 hB2 hW2
      have M3 := Lib.hid (mark_T2 v3 x.args (q + mkF_I1 x.sums + mkF_T1 x.guard + 1) W2 f3 (by omega) (by omega) h3 o3)
      clear h3 o3
      go_wp2_with fail
      refine M3.out.mono ?_
      rintro e w3 ⟨rfl, h3, o3, hu⟩
      clear M3
      have ds : ∀ c ∈ f0, c ∉ f3 := fun c h1 h2 => dj0 c h1 (by simp [h2])
      replace h0 := R_I1k.upd h0 hu ds
      replace o0 := o0.upd hu ds
      clear ds
      have ds : ∀ c ∈ f1, c ∉ f3 := fun c h1 h2 => dj1 c h1 (by simp [h2])
      replace h1 := R_T1k.upd h1 hu ds
      replace o1 := o1.upd hu ds
      clear ds
      have ds : ∀ c ∈ f4, c ∉ f3 := fun c h1 h2 => dj3 c h2 (by simp [h1])
      replace h4 := R_T2k.upd h4 hu ds
      replace o4 := o4.upd hu ds
      clear ds
      replace p0 := hu.keepF nb3 p0
      replace p1 := hu.keepF nb3 p1
      replace p2 := hu.keepF nb3 p2
      replace p3 := hu.keepF nb3 p3
      replace p4 := hu.keepF nb3 p4
      replace hB := hB.upd hu (by intro c hc h; simp at hc; subst hc; exact nb3 h)
      replace FAR := Lib.hid (FAR.out.upd hu nb3 hbz)
      replace hbz := Nat.lt_of_lt_of_le hbz hu.size
      replace UA := Lib.hid (UA.out.trans (hu.mono (by intro c hc; simp [hc])))
      clear hu
      have M4 := Lib.hid (mark_T2 v4 x.next (q + mkF_I1 x.sums + mkF_T1 x.guard + 1 + mkF_T2 x.args) w3 f4 (by omega) (by omega) h4 o4)
      clear h4 o4
      go_wp2_with fail
      refine M4.out.mono ?_
      rintro e w4 ⟨rfl, h4, o4, hu⟩
      clear M4
      have ds : ∀ c ∈ f0, c ∉ f4 := fun c h1 h2 => dj0 c h1 (by simp [h2])
      replace h0 := R_I1k.upd h0 hu ds
      replace o0 := o0.upd hu ds
      clear ds
      have ds : ∀ c ∈ f1, c ∉ f4 := fun c h1 h2 => dj1 c h1 (by simp [h2])
      replace h1 := R_T1k.upd h1 hu ds
      replace o1 := o1.upd hu ds
      clear ds
      have ds : ∀ c ∈ f3, c ∉ f4 := fun c h1 h2 => dj3 c h1 (by simp [h2])
      replace h3 := R_T2k.upd h3 hu ds
      replace o3 := o3.upd hu ds
      clear ds
      replace p0 := hu.keepF nb4 p0
      replace p1 := hu.keepF nb4 p1
      replace p2 := hu.keepF nb4 p2
      replace p3 := hu.keepF nb4 p3
      replace p4 := hu.keepF nb4 p4
      replace hB := hB.upd hu (by intro c hc h; simp at hc; subst hc; exact nb4 h)
      replace FAR := Lib.hid (FAR.out.upd hu nb4 hbz)
      replace hbz := Nat.lt_of_lt_of_le hbz hu.size
      replace UA := Lib.hid (UA.out.trans (hu.mono (by intro c hc; simp [hc])))
      clear hu
      have hRN : R_Sm (f0 ++ (f1 ++ (f3 ++ (f4)))) w4 [v0, v1, es tx, v3, v4] (up_Sm q x) := by
        exact ⟨v0, v1, v3, v4, f0, f1, f3, f4, by rw [HTX2.out]; rfl, h0, h1, h3, h4, rfl⟩
      have hP := HP.out w4 (up_Sm q x) [v0, v1, es tx, v3, v4] UA.out (fun o ho => FAR.out o ho) rfl (fun j c hj => by
        match j, hj with
        | 0, hj => cases hj; exact p0
        | 1, hj => cases hj; exact p1
        | 2, hj => cases hj; exact p2
        | 3, hj => cases hj; exact p3
        | 4, hj => cases hj; exact p4
        ) hRN (own_join o0 (own_join o1 (own_join o3 (o4) dj3) dj1) dj0) hB
      rw [HST.out] at hP
      have hsub2 : ∀ c ∈ b :: (f0 ++ (f1 ++ (f3 ++ (f4)))), c ∈ fp := fun c hc => by
        rcases List.mem_cons.1 hc with rfl | h
        · exact hb
        · exact HB.out.1 c h
      have HE := Lib.hid (And.intro hP (HU.out.trans (UA.out.mono hsub2)))
      have hacc : q + mkF_I1 x.sums + mkF_T1 x.guard + 1 + mkF_T2 x.args + mkF_T2 x.next = q + mkF_Sm x := by rw [HMX.out]; omega
      have HACC := Lib.hid hacc
      clear hP hRN hsub2 hacc h0 o0 h1 o1 h3 o3 h4 o4 hB p0 p1 p2 p3 p4 UA FAR HP HB
      go_wp2_with fail
      go_roundw
      case rel => exact ⟨k + 1, _, by omega, by go_num, rfl, Lib.hid (by have := HACC.out; rw [HT.out]; have := HQ.out; omega), Lib.hid HE.out.2, Lib.hid HE.out.1.2, Lib.hid HE.out.1.1⟩
      case measure => simp [intOf]; omega
    · obtain rfl : k = xs.length := by omega
      have hq := HQ.out
      rw [List.take_length] at hq
      subst hq
      go_wp2_with fail
      go_ret
      exact ⟨rfl, by simpa using HF.out, HO.out, HU.out⟩

set_option maxRecDepth 20000 in
set_option maxHeartbeats 4000000 in
theorem held_Sm1 (v : Value) (xs : List Sm) (k0 : Int) (w : World) (fp : List Nat) (hk0 : 0 ≤ k0) (hk1 : k0 + mkF_Sm1 xs ≤ 4611686018427387904) (hR : R_Sm1 fp w [v] (mkd_Sm1 k0 xs)) :
    Calls Try.prog 53 #[v, .int .i64 k0] w fun e w' => e = .returned (.int .i64 (k0 + mkF_Sm1 xs)) ∧ Upd [] w w' := by
  obtain ⟨a, cap, rfl, h1, h2, hc⟩ := slQ_open hR
  simp only [mkd_Sm1_length] at *
  unfold maxLen at h2
  have HC := Lib.hid hc
  clear hR hc
  go_enter Try.func53, Try.ntmps53
  go_wp2_with fail
  go_loopw [1, 5] (fun kk i wr => ∃ (k : Nat) (q : Int), k ≤ xs.length ∧ i = .int .i64 k ∧ kk = .int .i64 q ∧ Hid (q = k0 + mkF_Sm1 (xs.take k)) ∧ Hid (Upd [] w wr)) (fun _ i _ => xs.length - (intOf i).toNat)
  case atStart => exact ⟨0, k0, Nat.zero_le _, rfl, rfl, Lib.hid (by simp [mkF_Sm1]), Lib.hid (Upd.refl _ _)⟩
  case round =>
    obtain ⟨wo, rfl⟩ : ∃ wo : World, wo = wr := ⟨_, rfl⟩
    obtain ⟨k, q, hk, rfl, rfl, HQ, HU⟩ := hrel
    by_cases hlt : k < xs.length
    · obtain ⟨b, off, u, f, rfl, -, -, -, hcell, -, hr⟩ := HC.out k (by simpa using hlt)
      rw [mkd_Sm1_get xs k0 k hlt, ← HQ.out] at hr
      have hq0 : 0 ≤ q := by have := mkF_Sm1_nonneg (xs.take k); have := HQ.out; omega
      have hq1 : q + mkF_Sm xs[k] ≤ 4611686018427387904 := by
        have ht2 := mkF_Sm1_snoc xs k hlt
        have ht3 := mkF_Sm1_take xs (k + 1)
        have := HQ.out
        omega
      have HT := Lib.hid (mkF_Sm1_snoc xs k hlt)
      generalize xs[k] = x at *
      have HMX := Lib.hid (show mkF_Sm x = mkF_I1 x.sums + mkF_T1 x.guard + 1 + mkF_T2 x.args + mkF_T2 x.next from rfl)
      unfold mkF_Sm at hq1
      have hr := R_Smk.upd hr HU.out (by simp)
      obtain ⟨v0, v1, v3, v4, f0, f1, f3, f4, rfl, h0, h1, h3, h4, rfl⟩ := hr
      have hn0 := mkF_I1_nonneg x.sums
      have hn1 := mkF_T1_nonneg x.guard
      have hn3 := mkF_T2_nonneg x.args
      have hn4 := mkF_T2_nonneg x.next
      have p0 := HU.out.keep (hcell 0 _ rfl)
      have p1 := HU.out.keep (hcell 1 _ rfl)
      have p2 := HU.out.keep (hcell 2 _ rfl)
      have p3 := HU.out.keep (hcell 3 _ rfl)
      have p4 := HU.out.keep (hcell 4 _ rfl)
      simp only [Nat.add_zero] at p0
      clear hcell
      have M0 := Lib.hid (held_I1 v0 x.sums (q) wo f0 (by omega) (by omega) h0)
      clear h0
      go_wp2_with fail
      refine M0.out.mono ?_
      rintro e w0 ⟨rfl, rfl⟩
      clear M0
      have M1 := Lib.hid (held_T1 v1 x.guard (q + mkF_I1 x.sums) wo f1 (by omega) (by omega) h1)
      clear h1
      go_wp2_with fail
      refine M1.out.mono ?_
      rintro e w1 ⟨rfl, rfl⟩
      clear M1
      have M2 := Lib.hid (fun W => markText (q + mkF_I1 x.sums + mkF_T1 x.guard) W (by omega) (by omega))
      replace p2 : wo.cell? ⟨b, off + k * 5 + 2, none⟩ = some (es (mtx (q + mkF_I1 x.sums + mkF_T1 x.guard))) := p2
      obtain ⟨tx, htx⟩ : ∃ tx, tx = mtx (q + mkF_I1 x.sums + mkF_T1 x.guard) := ⟨_, rfl⟩
      rw [← htx] at p2 M2
      have hbq : (tx != tx) = false := by simp
      clear htx
      go_wp2_with fail
      go_region_held3 (fun w' => w'.cell? ⟨b, off + k * 5 + 2, none⟩ = some (es tx)) (go_keep) (((with_reducible refine (M2.out _).mono ?_); rintro e w2 ⟨rfl, hu⟩; have t1 := hu.keep p2))
      replace hu := ((Upd.refl [] wo).drew).trans hu
      clear M2 t1 hbq
      replace h3 := R_T2k.upd h3 hu (by simp)
      replace h4 := R_T2k.upd h4 hu (by simp)
      replace p3 := hu.keep p3
      replace p4 := hu.keep p4
      replace HU := Lib.hid (HU.out.trans hu)
      clear hu
      have M3 := Lib.hid (held_T2 v3 x.args (q + mkF_I1 x.sums + mkF_T1 x.guard + 1) w2 f3 (by omega) (by omega) h3)
      clear h3
      go_wp2_with fail
      refine M3.out.mono ?_
      rintro e w3 ⟨rfl, rfl⟩
      clear M3
      have M4 := Lib.hid (held_T2 v4 x.next (q + mkF_I1 x.sums + mkF_T1 x.guard + 1 + mkF_T2 x.args) w2 f4 (by omega) (by omega) h4)
      clear h4
      go_wp2_with fail
      refine M4.out.mono ?_
      rintro e w4 ⟨rfl, rfl⟩
      clear M4
      have hacc : q + mkF_I1 x.sums + mkF_T1 x.guard + 1 + mkF_T2 x.args + mkF_T2 x.next = q + mkF_Sm x := by rw [HMX.out]; omega
      have HACC := Lib.hid hacc
      clear hacc
      go_wp2_with fail
      go_roundw
      case rel => exact ⟨k + 1, _, by omega, by go_num, rfl, Lib.hid (by have := HACC.out; rw [HT.out]; have := HQ.out; omega), HU⟩
      case measure => simp [intOf]; omega
    · obtain rfl : k = xs.length := by omega
      have hq := HQ.out
      rw [List.take_length] at hq
      subst hq
      go_wp2_with fail
      go_ret
      exact ⟨rfl, HU.out⟩

end Go.Proofs.Ytnfghgaadnobbaa
